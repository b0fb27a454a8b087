/- What this text holds: plain functions for filter.boxes: what the program computes, without the program. -/
import Derived.Test.YtpcgfadcojaceaaDoorRmSpec3
set_option linter.unusedVariables false
set_option linter.unusedSimpArgs false
set_option linter.unusedSectionVars false
namespace Go.Rm
open Go

theorem shl_i64 {k : Nat} (h : k < 4) : IntKind.i64.wrap (1 * 2 ^ ((k : Nat) : Int).toNat) = ((2 ^ k : Nat) : Int) := by
  match k, h with
  | 0, _ => decide
  | 1, _ => decide
  | 2, _ => decide
  | 3, _ => decide
def dropBit (y k : Nat) : Nat := y &&& (15 ^^^ 2 ^ k)
theorem andNot_fin : ∀ (y : Fin 16) (k : Fin 4), bits .andNot .i64 (y.val : Int) ((2 ^ k.val : Nat) : Int) = ((dropBit y.val k.val : Nat) : Int) := by decide +kernel
theorem andNot_i64 {y k : Nat} (hy : y < 16) (hk : k < 4) : bits .andNot .i64 (y : Int) ((2 ^ k : Nat) : Int) = ((dropBit y k : Nat) : Int) := andNot_fin ⟨y, hy⟩ ⟨k, hk⟩
theorem dropBit_lt {y k : Nat} (hy : y < 16) : dropBit y k < 16 := Nat.lt_of_le_of_lt Nat.and_le_left hy

abbrev Pair := Nat × Nat
def pIn (c : Pair) (o : Nat) : Bool := (o &&& c.1) == c.1 && (o &&& c.2) == 0
def cubeOf (c : Pair) : Cube := ⟨(c.1 : Int), (c.2 : Int)⟩
theorem cubeIn_of (c : Pair) (o : Nat) : cubeIn (cubeOf c) o = pIn c o := rfl
theorem cubeOf_ok {c : Pair} (h1 : c.1 < 16) (h2 : c.2 < 16) : CubeOk (cubeOf c) := by constructor <;> (simp only [cubeOf]; omega)
def cubeDrop (c : Pair) (k : Nat) : Pair := (dropBit c.1 k, dropBit c.2 k)
def sameIn (t : Nat → BitVec 32) (c : Pair) (g i : Nat) : Bool := (List.range i).all fun o => !pIn c o || t o == t g
theorem sameIn_succ (t : Nat → BitVec 32) (c : Pair) (g i : Nat) : sameIn t c g (i + 1) = (sameIn t c g i && (!pIn c i || t i == t g)) := by simp [sameIn, List.range_succ, List.all_append]
def widenUpto (t : Nat → BitVec 32) (g : Nat) : Nat → Pair
  | 0 => (g, 15 - g)
  | k + 1 => if sameIn t (cubeDrop (widenUpto t g k) k) g 16 = true then cubeDrop (widenUpto t g k) k else widenUpto t g k
def widen (t : Nat → BitVec 32) (g : Nat) : Pair := widenUpto t g 4
theorem widenUpto_lt (t : Nat → BitVec 32) {g : Nat} (hg : g < 16) : ∀ k, (widenUpto t g k).1 < 16 ∧ (widenUpto t g k).2 < 16
  | 0 => ⟨hg, by show 15 - g < 16; omega⟩
  | k + 1 => by
    obtain ⟨h1, h2⟩ := widenUpto_lt t hg k
    rw [widenUpto]
    split
    · exact ⟨dropBit_lt h1, dropBit_lt h2⟩
    · exact ⟨h1, h2⟩
theorem widenUpto_yes {t : Nat → BitVec 32} {g k : Nat} (h : sameIn t (cubeDrop (widenUpto t g k) k) g 16 = true) : widenUpto t g (k + 1) = cubeDrop (widenUpto t g k) k := by rw [widenUpto, if_pos h]
theorem widenUpto_no {t : Nat → BitVec 32} {g k : Nat} (h : sameIn t (cubeDrop (widenUpto t g k) k) g 16 = false) : widenUpto t g (k + 1) = widenUpto t g k := by rw [widenUpto, if_neg (by rw [h]; simp)]

def boxAt (t : Nat → BitVec 32) (g : Nat) : Box := ⟨cubeOf (widen t g), spansMake fun n => (t g).getLsbD n⟩
def bxUpto (t : Nat → BitVec 32) : Nat → List Box × (Nat → Bool)
  | 0 => ([], fun _ => false)
  | g + 1 => if (bxUpto t g).2 g = true ∨ t g = 0 then bxUpto t g else ((bxUpto t g).1 ++ [boxAt t g], fun o => (bxUpto t g).2 o || pIn (widen t g) o)
def boxesOf (t : Nat → BitVec 32) : List Box := (bxUpto t 16).1
theorem bxUpto_skip {t : Nat → BitVec 32} {g : Nat} (h : (bxUpto t g).2 g = true ∨ t g = 0) : bxUpto t (g + 1) = bxUpto t g := by rw [bxUpto, if_pos h]
theorem bxUpto_more {t : Nat → BitVec 32} {g : Nat} (h1 : (bxUpto t g).2 g = false) (h2 : t g ≠ 0) : bxUpto t (g + 1) = ((bxUpto t g).1 ++ [boxAt t g], fun o => (bxUpto t g).2 o || pIn (widen t g) o) := by
  rw [bxUpto, if_neg (fun h => h.elim (fun e => by rw [h1] at e; cases e) h2)]
theorem bxUpto_len (t : Nat → BitVec 32) : ∀ g, (bxUpto t g).1.length ≤ g
  | 0 => by simp [bxUpto]
  | g + 1 => by
    have := bxUpto_len t g
    rw [bxUpto]
    split
    · omega
    · simp only [List.length_append, List.length_cons, List.length_nil]; omega

/-! ### rows of sixteen truth values -/
def boolV (d : Nat → Bool) : List Value := (List.range 16).map fun i => .bool (d i)
theorem boolV_len (d : Nat → Bool) : (boolV d).length = 16 := by simp [boolV]
theorem boolV_get (d : Nat → Bool) {i : Nat} (h : i < 16) : (boolV d)[0 + i * 1]? = some (.bool (d i)) := by simp [boolV, h]
theorem boolV_congr {t u : Nat → Bool} (h : ∀ i, i < 16 → t i = u i) : boolV t = boolV u := by
  simp only [boolV]
  apply List.map_congr_left
  intro i hi
  rw [h i (by simpa using hi)]
def mixB (a b : Nat → Bool) (i : Nat) : Nat → Bool := fun j => if j < i then a j else b j
theorem mixB_get (a b : Nat → Bool) {i : Nat} (h : i < 16) : (boolV (mixB a b i))[0 + i * 1]? = some (.bool (b i)) := by
  rw [boolV_get _ h]; simp [mixB]
theorem mixB_set (a b : Nat → Bool) {i : Nat} {z : Bool} (hz : z = a i) : (boolV (mixB a b i)).set (0 + i * 1) (.bool z) = boolV (mixB a b (i + 1)) := by
  subst hz
  apply List.ext_getElem?
  intro j
  rw [List.getElem?_set, Nat.zero_add, Nat.mul_one, boolV_len]
  by_cases hj : j < 16
  · have e1 := boolV_get (mixB a b i) hj
    have e2 := boolV_get (mixB a b (i + 1)) hj
    rw [Nat.zero_add, Nat.mul_one] at e1 e2
    rw [e1, e2]
    by_cases e : i = j
    · subst e; simp [mixB, hj]
    · rw [if_neg e]; simp only [mixB]
      by_cases h : j < i
      · rw [if_pos h, if_pos (by omega)]
      · rw [if_neg h, if_neg (by omega)]
  · have h1 : (boolV (mixB a b (i + 1)))[j]? = none := List.getElem?_eq_none (by rw [boolV_len]; omega)
    have h2 : (boolV (mixB a b i))[j]? = none := List.getElem?_eq_none (by rw [boolV_len]; omega)
    rw [h1, h2]
    split
    · rw [if_neg (by omega)]
    · rfl
theorem mixB_all {a b : Nat → Bool} {i : Nat} (h : 16 ≤ i) : boolV (mixB a b i) = boolV a := by
  apply boolV_congr
  intro j hj
  simp [mixB, show j < i by omega]
theorem mixB_none (a b : Nat → Bool) : boolV (mixB a b 0) = boolV b := by
  apply boolV_congr
  intro j hj
  simp [mixB]
theorem toNat_beq (a b : BitVec 32) : ((a.toNat : Int) == (b.toNat : Int)) = (a == b) := by
  rw [Bool.eq_iff_iff, beq_iff_eq, beq_iff_eq]
  constructor
  · intro h; exact BitVec.eq_of_toNat_eq (by omega)
  · intro h; rw [h]
/-- Bits of a row. -/
theorem shr_u32 (x : BitVec 32) (n : Nat) : (x.toNat : Int) / 2 ^ ((n : Nat) : Int).toNat = ((x >>> n).toNat : Int) := by
  rw [BitVec.toNat_ushiftRight, Nat.shiftRight_eq_div_pow]
  simp
theorem bit_of (x : BitVec 32) (n : Nat) : (((x >>> n &&& 1#32).toNat : Int) == 1) = x.getLsbD n := by
  rw [Bool.eq_iff_iff, beq_iff_eq]
  have h1 : (x >>> n &&& 1#32).toNat = (x.toNat >>> n) % 2 := by
    rw [BitVec.toNat_and, BitVec.toNat_ushiftRight]
    exact Nat.and_one_is_mod _
  rw [h1, BitVec.getLsbD, Nat.testBit]
  have : (x.toNat >>> n) % 2 = 0 ∨ (x.toNat >>> n) % 2 = 1 := by omega
  have h2 : 1 &&& x.toNat >>> n = (x.toNat >>> n) % 2 := by rw [Nat.and_comm]; exact Nat.and_one_is_mod _
  rw [h2]
  rcases this with h | h <;> rw [h] <;> simp
end Go.Rm
