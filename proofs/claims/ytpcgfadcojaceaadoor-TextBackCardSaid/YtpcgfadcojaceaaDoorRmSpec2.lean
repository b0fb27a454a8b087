/- What this text holds: plain functions for the packages span, cube and filter: what the program computes, without the program. -/
import Derived.Test.YtpcgfadcojaceaaDoorRmSpec1
import Derived.Laws.BitsLemmas
import Derived.IntWalk
set_option linter.unusedVariables false
set_option linter.unusedSimpArgs false
set_option linter.unusedSectionVars false
namespace Go.Rm
open Go

/-! ### bits -/
theorem wraps_i64 (n : Int) (h0 : 0 ≤ n) (h1 : n < 2 ^ 63) : IntKind.i64.wrap n = n := wrap64_id (by omega)
theorem and_i64 {a b : Nat} (ha : a < 16) (hb : b < 16) : bits .and .i64 (a : Int) (b : Int) = ((a &&& b : Nat) : Int) := (bits_nat .i64 63 (by decide) wraps_i64 a b (by omega) (by omega)).1
theorem or_i64 {a b : Nat} (ha : a < 16) (hb : b < 16) : bits .or .i64 (a : Int) (b : Int) = ((a ||| b : Nat) : Int) := (bits_nat .i64 63 (by decide) wraps_i64 a b (by omega) (by omega)).2
theorem wrap_u32_toNat (x : BitVec 32) : IntKind.u32.wrap (x.toNat : Int) = (x.toNat : Int) := by
  have := x.isLt
  rw [IntKind.wrap_u32]; omega
theorem ofInt_toNat (x : BitVec 32) : BitVec.ofInt 32 (x.toNat : Int) = x := by rw [BitVec.ofInt_natCast, BitVec.ofNat_toNat, BitVec.setWidth_eq]
theorem or_u32 (a b : BitVec 32) : bits .or .u32 (a.toNat : Int) (b.toNat : Int) = ((a ||| b).toNat : Int) := by
  show IntKind.u32.wrap ((BitVec.ofInt 32 (a.toNat : Int) ||| BitVec.ofInt 32 (b.toNat : Int)).toNat : Int) = _
  rw [ofInt_toNat, ofInt_toNat, wrap_u32_toNat]
theorem and_u32 (a b : BitVec 32) : bits .and .u32 (a.toNat : Int) (b.toNat : Int) = ((a &&& b).toNat : Int) := by
  show IntKind.u32.wrap ((BitVec.ofInt 32 (a.toNat : Int) &&& BitVec.ofInt 32 (b.toNat : Int)).toNat : Int) = _
  rw [ofInt_toNat, ofInt_toNat, wrap_u32_toNat]
theorem xor_u32 (a b : BitVec 32) : bits .xor .u32 (a.toNat : Int) (b.toNat : Int) = ((a ^^^ b).toNat : Int) := by
  show IntKind.u32.wrap ((BitVec.ofInt 32 (a.toNat : Int) ^^^ BitVec.ofInt 32 (b.toNat : Int)).toNat : Int) = _
  rw [ofInt_toNat, ofInt_toNat, wrap_u32_toNat]
theorem andNot_u32 (a b : BitVec 32) : bits .andNot .u32 (a.toNat : Int) (b.toNat : Int) = ((a &&& ~~~b).toNat : Int) := by
  show IntKind.u32.wrap ((BitVec.ofInt 32 (a.toNat : Int) &&& ~~~BitVec.ofInt 32 (b.toNat : Int)).toNat : Int) = _
  rw [ofInt_toNat, ofInt_toNat, wrap_u32_toNat]

/-! ### cubes -/
def cubeCheck (c : Cube) : Int := if c.yes < 0 ∨ 15 < c.yes ∨ c.no < 0 ∨ 15 < c.no then 1 else if c.yes.toNat &&& c.no.toNat = 0 then 0 else 3
def cubeIn (c : Cube) (tags : Nat) : Bool := (tags &&& c.yes.toNat) == c.yes.toNat && (tags &&& c.no.toNat) == 0
structure CubeOk (c : Cube) : Prop where
  y0 : 0 ≤ c.yes
  y1 : c.yes ≤ 15
  n0 : 0 ≤ c.no
  n1 : c.no ≤ 15
theorem CubeOk.of {c : Cube} (h : cubeCheck c = 0) : CubeOk c := by
  unfold cubeCheck at h
  split at h
  · cases h
  · constructor <;> omega

/-! ### spans -/
def spanMask (s : Span) : BitVec 32 := BitVec.ofNat 32 (2 ^ s.hi.toNat - 2 ^ s.lo.toNat)
def maskOf (l : List Span) : BitVec 32 := l.foldl (fun a s => a ||| spanMask s) 0
structure SpanOk (s : Span) : Prop where
  lo : 0 ≤ s.lo
  lt : s.lo < s.hi
  hi : s.hi ≤ 32
theorem spanGo_ok : ∀ {p : Option Int} {l : List Span}, spanGo p l = 0 → ∀ s ∈ l, SpanOk s
  | _, [], _, s, hs => by simp at hs
  | p, x :: r, h, s, hs => by
    rw [spanGo] at h
    split at h
    · cases h
    · split at h
      · cases h
      · rcases List.mem_cons.1 hs with rfl | hs
        · constructor <;> omega
        · exact spanGo_ok h s hs
theorem SpanOk.of {l : List Span} (h : spanCheck l = 0) : ∀ s ∈ l, SpanOk s := by
  unfold spanCheck at h
  split at h
  · cases h
  · exact spanGo_ok h
theorem spanCheck_len {l : List Span} (h : spanCheck l = 0) : l.length ≤ 16 := by
  unfold spanCheck at h
  split at h
  · cases h
  · omega
theorem shifts_u32 : ∀ f t : Fin 33, f.val < t.val → IntKind.u32.wrap (IntKind.u32.wrap (1 * 2 ^ t.val) - IntKind.u32.wrap (1 * 2 ^ f.val)) = ((BitVec.ofNat 32 (2 ^ t.val - 2 ^ f.val)).toNat : Int) := by decide +kernel
theorem spanMask_u32 {s : Span} (h : SpanOk s) : IntKind.u32.wrap (IntKind.u32.wrap (1 * 2 ^ s.hi.toNat) - IntKind.u32.wrap (1 * 2 ^ s.lo.toNat)) = ((spanMask s).toNat : Int) :=
  shifts_u32 ⟨s.lo.toNat, by have := h.lt; have := h.hi; omega⟩ ⟨s.hi.toNat, by have := h.hi; omega⟩ (by have := h.lo; have := h.lt; show s.lo.toNat < s.hi.toNat; omega)
theorem maskOf_snoc (l : List Span) (s : Span) : maskOf (l ++ [s]) = maskOf l ||| spanMask s := by simp [maskOf]
theorem take_snoc {α : Type} {l : List α} {k : Nat} {x : α} (h : l[k]? = some x) : l.take (k + 1) = l.take k ++ [x] := by
  simp [List.take_add_one, h]

/-! ### tables -/
def tabV (t : Nat → BitVec 32) : List Value := (List.range 16).map fun i => .int .u32 ((t i).toNat : Int)
theorem tabV_len (t : Nat → BitVec 32) : (tabV t).length = 16 := by simp [tabV]
theorem tabV_get (t : Nat → BitVec 32) {i : Nat} (h : i < 16) : (tabV t)[i]? = some (.int .u32 ((t i).toNat : Int)) := by simp [tabV, h]
def upd {α : Type} (t : Nat → α) (i : Nat) (x : α) : Nat → α := fun j => if j = i then x else t j
theorem tabV_set (t : Nat → BitVec 32) (i : Nat) (x : BitVec 32) : (tabV t).set i (.int .u32 (x.toNat : Int)) = tabV (upd t i x) := by
  apply List.ext_getElem?
  intro j
  rw [List.getElem?_set]
  by_cases hj : j < 16
  · rw [tabV_get _ hj, tabV_get _ hj, tabV_len]
    by_cases e : i = j
    · subst e; simp [upd, hj]
    · rw [if_neg e]; simp [upd, Ne.symm e]
  · have h1 : (tabV (upd t i x))[j]? = none := List.getElem?_eq_none (by rw [tabV_len]; omega)
    have h2 : (tabV t)[j]? = none := List.getElem?_eq_none (by rw [tabV_len]; omega)
    rw [h1, h2, tabV_len]
    split
    · rw [if_neg (by omega)]
    · rfl
theorem tabV_congr {t u : Nat → BitVec 32} (h : ∀ i, i < 16 → t i = u i) : tabV t = tabV u := by
  simp only [tabV]
  apply List.map_congr_left
  intro i hi
  rw [h i (by simpa using hi)]
theorem tabV_zero : tabV (fun _ => 0) = List.replicate 16 (.int .u32 0) := by rfl
theorem tabV_one (t : Nat → BitVec 32) : ((tabV t).all fun v => v.oneCell') = true := by simp [tabV, Value.oneCell']
def mixT (a b : Nat → BitVec 32) (i : Nat) : Nat → BitVec 32 := fun j => if j < i then a j else b j
theorem mixT_at (a b : Nat → BitVec 32) (i : Nat) : mixT a b i i = b i := by simp [mixT]
theorem mixT_get (a b : Nat → BitVec 32) {i : Nat} (h : i < 16) : (tabV (mixT a b i))[0 + i * 1]? = some (.int .u32 ((b i).toNat : Int)) := by
  rw [Nat.zero_add, Nat.mul_one, tabV_get _ h, mixT_at]
theorem mixT_set (a b : Nat → BitVec 32) (i : Nat) : (tabV (mixT a b i)).set (0 + i * 1) (.int .u32 ((a i).toNat : Int)) = tabV (mixT a b (i + 1)) := by
  rw [Nat.zero_add, Nat.mul_one, tabV_set]
  apply tabV_congr
  intro j _
  simp only [upd, mixT]
  by_cases e : j = i
  · subst e; simp
  · rw [if_neg e]; by_cases h : j < i
    · rw [if_pos h, if_pos (by omega)]
    · rw [if_neg h, if_neg (by omega)]
theorem mixT_same {a b : Nat → BitVec 32} {i : Nat} (h : a i = b i) : tabV (mixT a b i) = tabV (mixT a b (i + 1)) := by
  apply tabV_congr
  intro j _
  simp only [mixT]
  by_cases e : j = i
  · subst e; simp [h]
  · by_cases h : j < i
    · rw [if_pos h, if_pos (by omega)]
    · rw [if_neg h, if_neg (by omega)]
theorem mixT_all {a b : Nat → BitVec 32} {i : Nat} (h : 16 ≤ i) : tabV (mixT a b i) = tabV a := by
  apply tabV_congr
  intro j hj
  simp [mixT, show j < i by omega]
theorem mixT_none (a b : Nat → BitVec 32) : tabV (mixT a b 0) = tabV b := by
  apply tabV_congr
  intro j hj
  simp [mixT]
def boxAdd (b : Box) (tags : Nat) (a : BitVec 32) : BitVec 32 := if cubeIn b.cube tags = true then a ||| maskOf b.spans else a
def tabOf (f : List Box) : Nat → BitVec 32 := fun tags => f.foldl (fun a b => boxAdd b tags a) 0
theorem tabOf_snoc (f : List Box) (b : Box) (tags : Nat) : tabOf (f ++ [b]) tags = boxAdd b tags (tabOf f tags) := by simp [tabOf]

/-! ### filters -/
def boxCheck (b : Box) : Int := if cubeCheck b.cube = 0 then spanCheck b.spans else cubeCheck b.cube
def boxesGo : List Box → Int
  | [] => 0
  | b :: r => if boxCheck b = 0 then boxesGo r else boxCheck b
def filterCheck (f : List Box) : Int := if 40 < f.length then 2 else boxesGo f
theorem boxesGo_at {l : List Box} {k : Nat} {x : Box} (h : l[k]? = some x) (hgo : boxesGo l = boxesGo (l.drop k)) : boxesGo l = if boxCheck x = 0 then boxesGo (l.drop (k + 1)) else boxCheck x := by
  rw [hgo, drop_at h, boxesGo]
theorem filterCheck_le {f : List Box} (h : f.length ≤ 40) : filterCheck f = boxesGo f := by rw [filterCheck, if_neg (by omega)]
theorem boxesGo_ok : ∀ {f : List Box}, boxesGo f = 0 → ∀ b ∈ f, cubeCheck b.cube = 0 ∧ spanCheck b.spans = 0
  | [], _, b, hb => by simp at hb
  | x :: r, h, b, hb => by
    rw [boxesGo] at h
    split at h
    · rename_i hx
      rcases List.mem_cons.1 hb with rfl | hb
      · unfold boxCheck at hx
        split at hx
        · rename_i h1; exact ⟨h1, hx⟩
        · rename_i h1; exact absurd hx h1
      · exact boxesGo_ok h b hb
    · rename_i hx; exact absurd h hx
structure FilterOk (f : List Box) : Prop where
  len : f.length ≤ 40
  cube : ∀ b ∈ f, cubeCheck b.cube = 0
  spans : ∀ b ∈ f, spanCheck b.spans = 0
theorem FilterOk.of {f : List Box} (h : filterCheck f = 0) : FilterOk f := by
  unfold filterCheck at h
  split at h
  · cases h
  · exact ⟨by omega, fun b hb => (boxesGo_ok h b hb).1, fun b hb => (boxesGo_ok h b hb).2⟩
end Go.Rm
