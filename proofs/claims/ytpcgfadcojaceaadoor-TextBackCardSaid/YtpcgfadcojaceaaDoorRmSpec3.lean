/- What this text holds: plain functions for span.Make and filter.boxes: what the program computes, without the program. -/
import Derived.Test.YtpcgfadcojaceaaDoorRmSpec2
import Derived.Test.YtpcgfadcojaceaaDoorRmRow
set_option linter.unusedVariables false
set_option linter.unusedSimpArgs false
set_option linter.unusedSectionVars false
namespace Go.Rm
open Go

def flatS (l : List Span) : List Value := l.flatMap fun s => [.int .i64 s.lo, .int .i64 s.hi]
theorem flatS_Flat (I : PHeap) (l : List Span) : Flat I l (flatS l) := by
  induction l with
  | nil => exact .nil
  | cons s l ih => exact .cons rfl ih
theorem flatS_snoc (l : List Span) (s : Span) : flatS (l ++ [s]) = flatS l ++ [.int .i64 s.lo, .int .i64 s.hi] := by simp [flatS]
theorem flatS_len (l : List Span) : (flatS l).length = l.length * 2 := (flatS_Flat (fun _ => none) l).len
theorem flatS_setlast (l : List Span) (s : Span) (n : Int) : (flatS (l ++ [s])).set (0 + l.length * 2 + 1) (.int .i64 n) = flatS (l ++ [⟨s.lo, n⟩]) := by
  rw [flatS_snoc, flatS_snoc, List.set_append_right _ _ (by rw [flatS_len]; omega), flatS_len, show 0 + l.length * 2 + 1 - l.length * 2 = 1 by omega]
  rfl

def makeStep (p : Nat → Bool) (out : List Span) (n : Nat) : List Span :=
  if p n = true then match out.getLast? with
    | some s => if s.hi = (n : Int) then out.dropLast ++ [⟨s.lo, (n : Int) + 1⟩] else out ++ [⟨n, (n : Int) + 1⟩]
    | none => [⟨n, (n : Int) + 1⟩]
  else out
def makeUpto (p : Nat → Bool) (k : Nat) : List Span := (List.range k).foldl (makeStep p) []
def spansMake (p : Nat → Bool) : List Span := makeUpto p 32
theorem makeUpto_succ (p : Nat → Bool) (k : Nat) : makeUpto p (k + 1) = makeStep p (makeUpto p k) k := by simp [makeUpto, List.range_succ]
theorem makeUpto_no {p : Nat → Bool} {k : Nat} (h : p k = false) : makeUpto p (k + 1) = makeUpto p k := by rw [makeUpto_succ, makeStep, if_neg (by rw [h]; simp)]
theorem makeUpto_grow {p : Nat → Bool} {k : Nat} {l : List Span} {s : Span} (h : p k = true) (hl : makeUpto p k = l ++ [s]) (hs : s.hi = (k : Int)) : makeUpto p (k + 1) = l ++ [⟨s.lo, (k : Int) + 1⟩] := by
  rw [makeUpto_succ, makeStep, if_pos h, hl]; simp [hs]
theorem makeUpto_more {p : Nat → Bool} {k : Nat} {l : List Span} {s : Span} (h : p k = true) (hl : makeUpto p k = l ++ [s]) (hs : s.hi ≠ (k : Int)) : makeUpto p (k + 1) = makeUpto p k ++ [⟨k, (k : Int) + 1⟩] := by
  rw [makeUpto_succ, makeStep, if_pos h, hl]; simp [hs]
theorem makeUpto_first {p : Nat → Bool} {k : Nat} (h : p k = true) (hl : makeUpto p k = []) : makeUpto p (k + 1) = makeUpto p k ++ [⟨k, (k : Int) + 1⟩] := by
  rw [makeUpto_succ, makeStep, if_pos h, hl]; rfl
theorem makeUpto_len (p : Nat → Bool) : ∀ k, (makeUpto p k).length ≤ k
  | 0 => by simp [makeUpto]
  | k + 1 => by
    have := makeUpto_len p k
    rw [makeUpto_succ, makeStep]
    split
    · split
      · rename_i s hs
        split
        · simp only [List.length_append, List.length_dropLast, List.length_cons, List.length_nil]; omega
        · simp only [List.length_append, List.length_cons, List.length_nil]; omega
      · simp
    · omega
theorem snoc_of {α : Type} {l : List α} (h : 0 < l.length) : ∃ i x, l = i ++ [x] := by
  rcases List.eq_nil_or_concat l with rfl | ⟨i, x, e⟩
  · simp at h
  · exact ⟨i, x, by simpa using e⟩
/-- A cell of a slice of the call's own. -/
theorem own_cell {cur xs : List Value} {m : Nat} (h : cur.take m = xs) {i : Nat} {u : Value} (hx : xs[i]? = some u) : cur[i]? = some u := by
  rw [← h, List.getElem?_take] at hx
  split at hx
  · exact hx
  · cases hx
end Go.Rm
