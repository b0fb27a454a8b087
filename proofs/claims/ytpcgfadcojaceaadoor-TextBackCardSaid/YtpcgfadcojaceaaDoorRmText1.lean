/- What this text holds: plain functions for package text: how a text is parsed, without the program. -/
import Derived.Test.YtpcgfadcojaceaaDoorRmData
import Derived.Test.YtpcgfadcojaceaaDoorRmSpec1
import Derived.Lib.AtoiAll
import Derived.Lib.ItoaNum
set_option linter.unusedVariables false
set_option linter.unusedSimpArgs false
set_option linter.unusedSectionVars false
namespace Go.Rm

/-- At place p of s stands rest. -/
structure Pos (s : ByteArray) (p : Nat) (rest : List UInt8) : Prop where
  le : p ≤ s.size
  eq : s.data.toList.drop p = rest
theorem Pos.len {s : ByteArray} {p : Nat} {rest : List UInt8} (h : Pos s p rest) : p + rest.length = s.size := by
  have := h.le
  rw [← h.eq, List.length_drop]
  have e : s.data.toList.length = s.size := rfl
  omega
theorem Pos.start (s : ByteArray) : Pos s 0 s.data.toList := ⟨by omega, rfl⟩
theorem Pos.cons {s : ByteArray} {p : Nat} {x : UInt8} {r : List UInt8} (h : Pos s p (x :: r)) : ∃ hp : p < s.size, s[p]'hp = x ∧ Pos s (p + 1) r := by
  have hl := h.len
  simp only [List.length_cons] at hl
  have hp : p < s.size := by omega
  have h1 := h.eq
  rw [List.drop_eq_getElem_cons (by exact hp)] at h1
  simp only [List.cons.injEq] at h1
  exact ⟨hp, h1.1, ⟨by omega, h1.2⟩⟩
theorem Pos.nil {s : ByteArray} {p : Nat} (h : Pos s p []) : p = s.size := by have := h.len; simpa using this
theorem Pos.ge {s : ByteArray} {p : Nat} {rest : List UInt8} (h : Pos s p rest) (hp : s.size ≤ p) : rest = [] := by
  have := h.len; exact List.eq_nil_of_length_eq_zero (by omega)
theorem Pos.get {s : ByteArray} {p : Nat} {rest : List UInt8} (h : Pos s p rest) (hp : p < s.size) : ∃ r, rest = s[p]'hp :: r ∧ Pos s (p + 1) r := by
  cases rest with
  | nil => have := h.nil; omega
  | cons x r => obtain ⟨_, h1, h2⟩ := h.cons; exact ⟨r, by rw [h1], h2⟩

/-- Is the next byte c? -/
def takes (rest : List UInt8) (c : Nat) : Bool := match rest with
  | x :: _ => x.toNat == c
  | [] => false
theorem takes_true {rest : List UInt8} {c : Nat} (h : takes rest c = true) : ∃ x r, rest = x :: r ∧ x.toNat = c := by
  cases rest with
  | nil => cases h
  | cons x r => exact ⟨x, r, rfl, by simpa [takes] using h⟩
def isDig (x : UInt8) : Bool := decide (48 ≤ x.toNat) && decide (x.toNat ≤ 57)
def numeral : List UInt8 → Option Nat
  | [a] => some (a.toNat - 48)
  | [a, b] => if a.toNat = 48 then none else some ((a.toNat - 48) * 10 + (b.toNat - 48))
  | _ => none
def number (l : List UInt8) : Option (Nat × List UInt8) := (numeral (l.takeWhile isDig)).map fun n => (n, l.dropWhile isDig)

theorem parse_dig {c : UInt8} (h : isDig c = true) (acc : Nat) (r : List UInt8) (ha : acc < 1000) : Lib.parseUint10 acc (c :: r) = Lib.parseUint10 (acc * 10 + (c.toNat - 48)) r := by
  simp only [isDig, Bool.and_eq_true, decide_eq_true_eq] at h
  simp only [Lib.parseUint10]
  rw [if_pos h, if_neg (by omega), if_neg (by omega)]
theorem not_sign {c : UInt8} (h : isDig c = true) : ¬ (c.toNat = 43 ∨ c.toNat = 45) := by
  simp only [isDig, Bool.and_eq_true, decide_eq_true_eq] at h; omega
theorem atoi_one {a : UInt8} (h : isDig a = true) : Lib.atoiAll [a] = .ok ((a.toNat - 48 : Nat) : Int) := by
  have hs := not_sign h
  simp only [Lib.atoiAll]
  rw [if_neg hs]
  simp only [Lib.parseMag]
  rw [if_neg (by simp), parse_dig h 0 [] (by omega)]
  simp only [Lib.parseUint10, Nat.zero_mul, Nat.zero_add]
  simp only [isDig, Bool.and_eq_true, decide_eq_true_eq] at h
  rw [if_neg (by omega), if_neg (by omega), if_neg (by omega)]
theorem atoi_two {a b : UInt8} (h : isDig a = true) (h' : isDig b = true) : Lib.atoiAll [a, b] = .ok (((a.toNat - 48) * 10 + (b.toNat - 48) : Nat) : Int) := by
  have hs := not_sign h
  simp only [Lib.atoiAll]
  rw [if_neg hs]
  simp only [Lib.parseMag]
  have ha : a.toNat - 48 < 10 := by simp only [isDig, Bool.and_eq_true, decide_eq_true_eq] at h; omega
  rw [if_neg (by simp), parse_dig h 0 [b] (by omega), parse_dig h' _ [] (by omega)]
  simp only [Lib.parseUint10, Nat.zero_mul, Nat.zero_add]
  simp only [isDig, Bool.and_eq_true, decide_eq_true_eq] at h h'
  rw [if_neg (by omega), if_neg (by omega), if_neg (by omega)]
theorem dec_one {n : Nat} (h : n < 10) : Lib.decDigits n = [UInt8.ofNat (48 + n)] := by rw [Lib.decDigits, dif_pos h]
theorem dec_two {n : Nat} (h : 10 ≤ n) (h' : n < 100) : Lib.decDigits n = [UInt8.ofNat (48 + n / 10), UInt8.ofNat (48 + n % 10)] := by
  rw [Lib.decDigits, dif_neg (by omega), dec_one (by omega)]; rfl
theorem byte_back {a : UInt8} (h : isDig a = true) : UInt8.ofNat (48 + (a.toNat - 48)) = a := by
  simp only [isDig, Bool.and_eq_true, decide_eq_true_eq] at h
  have : 48 + (a.toNat - 48) = a.toNat := by omega
  rw [this]; exact UInt8.ofNat_toNat
/-- Itoa gives back just the numerals without a needless 0. -/
theorem itoa_one {a : UInt8} (h : isDig a = true) : Lib.decDigits (a.toNat - 48) = [a] := by
  have : a.toNat - 48 < 10 := by simp only [isDig, Bool.and_eq_true, decide_eq_true_eq] at h; omega
  rw [dec_one this, byte_back h]
theorem itoa_two {a b : UInt8} (h : isDig a = true) (h' : isDig b = true) (hne : a.toNat ≠ 48) : Lib.decDigits ((a.toNat - 48) * 10 + (b.toNat - 48)) = [a, b] := by
  have h1 := h; have h2 := h'
  simp only [isDig, Bool.and_eq_true, decide_eq_true_eq] at h1 h2
  rw [dec_two (by omega) (by omega)]
  rw [show ((a.toNat - 48) * 10 + (b.toNat - 48)) / 10 = a.toNat - 48 by omega, show ((a.toNat - 48) * 10 + (b.toNat - 48)) % 10 = b.toNat - 48 by omega, byte_back h, byte_back h']
theorem itoa_zero {a b : UInt8} (h' : isDig b = true) (he : a.toNat = 48) : Lib.decDigits ((a.toNat - 48) * 10 + (b.toNat - 48)) ≠ [a, b] := by
  have h2 := h'
  simp only [isDig, Bool.and_eq_true, decide_eq_true_eq] at h2
  rw [dec_one (by omega)]; simp

theorem numeral_ok {ds : List UInt8} {n : Int} (hd : ∀ x ∈ ds, isDig x = true) (hok : Lib.atoiAll ds = .ok n) (hl : ds.length ≤ 2) :
    ∃ k : Nat, k < 100 ∧ n = k ∧ ((Lib.decDigits k = ds ∧ numeral ds = some k) ∨ (Lib.decDigits k ≠ ds ∧ numeral ds = none)) := by
  match ds, hl with
  | [], _ => cases hok
  | [a], _ =>
    have ha := hd a (by simp)
    rw [atoi_one ha] at hok
    simp only [Lib.NumEnd.ok.injEq] at hok
    have h1 := ha
    simp only [isDig, Bool.and_eq_true, decide_eq_true_eq] at h1
    exact ⟨a.toNat - 48, by omega, hok.symm, .inl ⟨itoa_one ha, rfl⟩⟩
  | [a, b], _ =>
    have ha := hd a (by simp)
    have hb := hd b (by simp)
    rw [atoi_two ha hb] at hok
    simp only [Lib.NumEnd.ok.injEq] at hok
    have h1 := ha; have h2 := hb
    simp only [isDig, Bool.and_eq_true, decide_eq_true_eq] at h1 h2
    refine ⟨(a.toNat - 48) * 10 + (b.toNat - 48), by omega, hok.symm, ?_⟩
    by_cases h : a.toNat = 48
    · exact .inr ⟨itoa_zero hb h, by simp [numeral, h]⟩
    · exact .inl ⟨itoa_two ha hb h, by simp [numeral, h]⟩
theorem numeral_no {ds : List UInt8} (hd : ∀ x ∈ ds, isDig x = true) (hno : ∀ m, Lib.atoiAll ds ≠ .ok m) : numeral ds = none := by
  match ds with
  | [] => rfl
  | [a] => exact absurd (atoi_one (hd a (by simp))) (hno _)
  | [a, b] => exact absurd (atoi_two (hd a (by simp)) (hd b (by simp))) (hno _)
  | _ :: _ :: _ :: _ => rfl
theorem mk_eq {l : List UInt8} {x : ByteArray} : (⟨l.toArray⟩ : ByteArray) = x ↔ l = x.data.toList := by
  constructor
  · rintro rfl; rfl
  · rintro rfl; exact ByteArray.ext (by simp)
theorem numeral_long {ds : List UInt8} (h : 2 < ds.length) : numeral ds = none := by
  match ds, h with
  | _ :: _ :: _ :: _, _ => rfl
theorem Pos.extract {s : ByteArray} {p : Nat} {ds rq : List UInt8} (h : Pos s p (ds ++ rq)) : (s.extract p (p + ds.length)).data.toList = ds := by
  have h1 : (s.extract p (p + ds.length)).data.toList = (s.data.toList.drop p).take ds.length := by
    rw [ByteArray.data_extract]
    simp [Array.toList_extract, List.extract_eq_take_drop]
  rw [h1, h.eq]; simp
theorem Pos.skip {s : ByteArray} {p : Nat} {ds rq : List UInt8} (h : Pos s p (ds ++ rq)) : Pos s (p + ds.length) rq := by
  have hl := h.len
  simp only [List.length_append] at hl
  refine ⟨by omega, ?_⟩
  rw [← List.drop_drop, h.eq]; simp
theorem takeWhile_stop {ds rq : List UInt8} (hd : ∀ x ∈ ds, isDig x = true) (hs : ∀ x r, rq = x :: r → isDig x = false) : (ds ++ rq).takeWhile isDig = ds ∧ (ds ++ rq).dropWhile isDig = rq := by
  induction ds with
  | nil =>
    cases rq with
    | nil => exact ⟨rfl, rfl⟩
    | cons x r => simp [List.takeWhile, List.dropWhile, hs x r rfl]
  | cons d ds ih =>
    obtain ⟨h1, h2⟩ := ih (fun x hx => hd x (by simp [hx]))
    have h0 := hd d (by simp)
    simp [List.takeWhile, List.dropWhile, h0, h1, h2]

def one : Nat → Nat → List UInt8 → Option (List Node × List UInt8)
  | 0, _, _ => none
  | _ + 1, _, [] => none
  | k + 1, base, c :: r =>
    if c.toNat = 42 then some ([⟨1, 0, 0⟩], r)
    else if c.toNat = 35 then match number r with
      | some (n, r1) => some ([⟨2, n, 0⟩], r1)
      | none => none
    else if c.toNat = 91 then match number r with
      | some (a, x :: r1) => if x.toNat = 44 then match number r1 with
          | some (b, y :: r2) => if y.toNat = 41 then some ([⟨3, a, b⟩], r2) else none
          | _ => none
        else none
      | _ => none
    else if c.toNat = 33 then match one k base r with
      | some (ns, r1) => some (ns ++ [⟨4, (base + ns.length : Nat) - 1, 0⟩], r1)
      | none => none
    else if c.toNat = 40 then match one k base r with
      | some (ns, x :: r1) => if x.toNat = 124 ∨ x.toNat = 38 then match one k (base + ns.length) r1 with
          | some (ms, y :: r2) => if y.toNat = 41 then some (ns ++ ms ++ [⟨if x.toNat = 124 then 6 else 5, (base + ns.length : Nat) - 1, (base + ns.length + ms.length : Nat) - 1⟩], r2) else none
          | _ => none
        else none
      | _ => none
    else none

theorem one_star {k base : Nat} {x : UInt8} {r : List UInt8} (h : x.toNat = 42) : one (k + 1) base (x :: r) = some ([⟨1, 0, 0⟩], r) := by simp [one, h]
theorem one_tag {k base : Nat} {x : UInt8} {r : List UInt8} (h : x.toNat = 35) : one (k + 1) base (x :: r) = (match number r with
      | some (n, r1) => some ([⟨2, n, 0⟩], r1)
      | none => none) := by simp [one, h]
theorem one_in {k base : Nat} {x : UInt8} {r : List UInt8} (h : x.toNat = 91) : one (k + 1) base (x :: r) = (match number r with
      | some (a, x :: r1) => if x.toNat = 44 then match number r1 with
          | some (b, y :: r2) => if y.toNat = 41 then some ([⟨3, a, b⟩], r2) else none
          | _ => none
        else none
      | _ => none) := by simp [one, h]
theorem one_not {k base : Nat} {x : UInt8} {r : List UInt8} (h : x.toNat = 33) : one (k + 1) base (x :: r) = (match one k base r with
      | some (ns, r1) => some (ns ++ [⟨4, (base + ns.length : Nat) - 1, 0⟩], r1)
      | none => none) := by simp [one, h]
theorem one_two {k base : Nat} {x : UInt8} {r : List UInt8} (h : x.toNat = 40) : one (k + 1) base (x :: r) = (match one k base r with
      | some (ns, x :: r1) => if x.toNat = 124 ∨ x.toNat = 38 then match one k (base + ns.length) r1 with
          | some (ms, y :: r2) => if y.toNat = 41 then some (ns ++ ms ++ [⟨if x.toNat = 124 then 6 else 5, (base + ns.length : Nat) - 1, (base + ns.length + ms.length : Nat) - 1⟩], r2) else none
          | _ => none
        else none
      | _ => none) := by simp [one, h]
theorem takes_false {x : UInt8} {r : List UInt8} {c : Nat} (h : takes (x :: r) c = false) : x.toNat ≠ c := by simpa [takes] using h
theorem one_bad {k base : Nat} {rest : List UInt8} (h1 : takes rest 42 = false) (h2 : takes rest 35 = false) (h3 : takes rest 91 = false) (h4 : takes rest 33 = false) (h5 : takes rest 40 = false) : one (k + 1) base rest = none := by
  cases rest with
  | nil => rfl
  | cons x r => simp [one, takes_false h1, takes_false h2, takes_false h3, takes_false h4, takes_false h5]
/-- The next byte is not c, or there is none. -/
theorem in_comma {k base : Nat} {x : UInt8} {r r1 : List UInt8} {a : Nat} (h : x.toNat = 91) (hn : number r = some (a, r1)) (ht : takes r1 44 = false) : one (k + 1) base (x :: r) = none := by
  rw [one_in h, hn]
  cases r1 with
  | nil => rfl
  | cons y r2 => simp [takes_false ht]
theorem in_second {k base : Nat} {x y : UInt8} {r r1 : List UInt8} {a : Nat} (h : x.toNat = 91) (hn : number r = some (a, y :: r1)) (hy : y.toNat = 44) (hn2 : number r1 = none) : one (k + 1) base (x :: r) = none := by
  rw [one_in h, hn]; simp [hy, hn2]
theorem in_close {k base : Nat} {x y : UInt8} {r r1 r2 : List UInt8} {a b : Nat} (h : x.toNat = 91) (hn : number r = some (a, y :: r1)) (hy : y.toNat = 44) (hn2 : number r1 = some (b, r2)) (ht : takes r2 41 = false) : one (k + 1) base (x :: r) = none := by
  rw [one_in h, hn]
  simp only [hy, if_true, hn2]
  cases r2 with
  | nil => rfl
  | cons z r3 => simp [takes_false ht]
theorem in_ok {k base : Nat} {x y z : UInt8} {r r1 r2 : List UInt8} {a b : Nat} (h : x.toNat = 91) (hn : number r = some (a, y :: r1)) (hy : y.toNat = 44) (hn2 : number r1 = some (b, z :: r2)) (hz : z.toNat = 41) : one (k + 1) base (x :: r) = some ([⟨3, a, b⟩], r2) := by
  rw [one_in h, hn]; simp [hy, hn2, hz]
theorem two_first {k base : Nat} {x : UInt8} {r : List UInt8} (h : x.toNat = 40) (hn : one k base r = none) : one (k + 1) base (x :: r) = none := by rw [one_two h, hn]
theorem two_sign {k base : Nat} {x : UInt8} {r r1 : List UInt8} {ns : List Node} (h : x.toNat = 40) (hn : one k base r = some (ns, r1)) (h1 : takes r1 124 = false) (h2 : takes r1 38 = false) : one (k + 1) base (x :: r) = none := by
  rw [one_two h, hn]
  cases r1 with
  | nil => rfl
  | cons y r2 => simp [takes_false h1, takes_false h2]
theorem two_second {k base : Nat} {x y : UInt8} {r r1 : List UInt8} {ns : List Node} (h : x.toNat = 40) (hn : one k base r = some (ns, y :: r1)) (hy : y.toNat = 124 ∨ y.toNat = 38) (hn2 : one k (base + ns.length) r1 = none) : one (k + 1) base (x :: r) = none := by
  rw [one_two h, hn]; simp [hy, hn2]
theorem two_close {k base : Nat} {x y : UInt8} {r r1 r2 : List UInt8} {ns ms : List Node} (h : x.toNat = 40) (hn : one k base r = some (ns, y :: r1)) (hy : y.toNat = 124 ∨ y.toNat = 38) (hn2 : one k (base + ns.length) r1 = some (ms, r2)) (ht : takes r2 41 = false) : one (k + 1) base (x :: r) = none := by
  rw [one_two h, hn]
  simp only [hy, if_true, hn2]
  cases r2 with
  | nil => rfl
  | cons z r3 => simp [takes_false ht]
theorem two_ok {k base : Nat} {x y z : UInt8} {r r1 r2 : List UInt8} {ns ms : List Node} (h : x.toNat = 40) (hn : one k base r = some (ns, y :: r1)) (hy : y.toNat = 124 ∨ y.toNat = 38) (hn2 : one k (base + ns.length) r1 = some (ms, z :: r2)) (hz : z.toNat = 41) :
    one (k + 1) base (x :: r) = some (ns ++ ms ++ [⟨if y.toNat = 124 then 6 else 5, (base + ns.length : Nat) - 1, (base + ns.length + ms.length : Nat) - 1⟩], r2) := by
  rw [one_two h, hn]; simp [hy, hn2, hz]

def flat (ns : List Node) : List Value := ns.flatMap fun n => [.int .i64 n.kind, .int .i64 n.a, .int .i64 n.b]
theorem flat_Flat (I : PHeap) (ns : List Node) : Flat I ns (flat ns) := by
  induction ns with
  | nil => exact .nil
  | cons n ns ih => exact .cons rfl ih
theorem flat_len (ns : List Node) : (flat ns).length = ns.length * 3 := by
  induction ns with
  | nil => rfl
  | cons n ns ih => simp only [flat, List.flatMap_cons, List.length_append, List.length_cons, List.length_nil] at ih ⊢; rw [ih]; omega
theorem flat_snoc (ns : List Node) (n : Node) : flat (ns ++ [n]) = flat ns ++ [.int .i64 n.kind, .int .i64 n.a, .int .i64 n.b] := by simp [flat]

/-- What text.Read answers. -/
def readText (s : ByteArray) : Int × List Node :=
  if 400 < s.size then (2, []) else match one (s.size + 1) 0 s.data.toList with
    | some (ns, []) => if nodesCheck ns = 0 then (0, ns) else (nodesCheck ns, [])
    | _ => (9, [])
theorem readText_long {s : ByteArray} (h : 400 < s.size) : readText s = (2, []) := by rw [readText, if_pos h]
theorem readText_none {s : ByteArray} (h : s.size ≤ 400) (h1 : one (s.size + 1) 0 s.data.toList = none) : readText s = (9, []) := by rw [readText, if_neg (by omega), h1]
theorem readText_more {s : ByteArray} {ns : List Node} {r : List UInt8} (h : s.size ≤ 400) (h1 : one (s.size + 1) 0 s.data.toList = some (ns, r)) (hr : r ≠ []) : readText s = (9, []) := by
  rw [readText, if_neg (by omega), h1]
  cases r with
  | nil => exact absurd rfl hr
  | cons _ _ => rfl
theorem readText_ok {s : ByteArray} {ns : List Node} (h : s.size ≤ 400) (h1 : one (s.size + 1) 0 s.data.toList = some (ns, [])) : readText s = if nodesCheck ns = 0 then (0, ns) else (nodesCheck ns, []) := by rw [readText, if_neg (by omega), h1]
end Go.Rm
