/- What this text holds: plain functions for formula.Filter: what the program computes, without the program. -/
import Derived.Test.YtpcgfadcojaceaaDoorRmFilterB
import Derived.Test.YtpcgfadcojaceaaDoorRmBoole2
set_option linter.unusedVariables false
set_option linter.unusedSimpArgs false
set_option linter.unusedSectionVars false
namespace Go.Rm
open Go

def every : List Box := [⟨⟨0, 0⟩, [⟨0, 32⟩]⟩]
def tagBox (a : Nat) : Box := ⟨⟨((2 ^ a : Nat) : Int), 0⟩, [⟨0, 32⟩]⟩
def inBox (a b : Int) : Box := ⟨⟨0, 0⟩, [⟨a, b⟩]⟩
def nodeFilter (fs : List (List Box)) (n : Node) : List Box :=
  if n.kind = 1 then every
  else if n.kind = 2 then [tagBox n.a.toNat]
  else if n.kind = 3 then [inBox n.a n.b]
  else if n.kind = 4 then (lessOf every (fs.getD n.a.toNat [])).2
  else if n.kind = 5 then (meetOf (fs.getD n.a.toNat []) (fs.getD n.b.toNat [])).2
  else (joinOf (fs.getD n.a.toNat []) (fs.getD n.b.toNat [])).2
def filtersFrom : List (List Box) → List Node → List (List Box)
  | fs, [] => fs
  | fs, n :: r => filtersFrom (fs ++ [nodeFilter fs n]) r
def filtersOf (l : List Node) : List (List Box) := filtersFrom [] l
theorem filtersFrom_snoc : ∀ (l : List Node) (fs : List (List Box)) (n : Node), filtersFrom fs (l ++ [n]) = filtersFrom fs l ++ [nodeFilter (filtersFrom fs l) n]
  | [], fs, n => rfl
  | x :: l, fs, n => by rw [List.cons_append, filtersFrom, filtersFrom, filtersFrom_snoc l]
theorem filtersOf_snoc (l : List Node) (n : Node) : filtersOf (l ++ [n]) = filtersOf l ++ [nodeFilter (filtersOf l) n] := filtersFrom_snoc l [] n
theorem filtersFrom_len : ∀ (l : List Node) (fs : List (List Box)), (filtersFrom fs l).length = fs.length + l.length
  | [], fs => rfl
  | x :: l, fs => by rw [filtersFrom, filtersFrom_len l]; simp; omega
theorem filtersOf_len (l : List Node) : (filtersOf l).length = l.length := by rw [filtersOf, filtersFrom_len]; simp
def filterOf (l : List Node) : Int × List Box := if nodesCheck l ≠ 0 then (nodesCheck l, []) else (0, (filtersOf l).getD (l.length - 1) [])

theorem nodesCheck_len {l : List Node} (h : nodesCheck l = 0) : 0 < l.length ∧ l.length ≤ 30 := by
  unfold nodesCheck at h
  split at h
  · cases h
  · omega
theorem nodesCheck_go {l : List Node} (h : nodesCheck l = 0) : nodesGo 0 l = 0 := by
  have := nodesCheck_len h
  rwa [nodesCheck_le this.1 this.2] at h
theorem nodesGo_from : ∀ {l : List Node} {k i : Nat} {x : Node}, nodesGo k l = 0 → l[i]? = some x → nodeBad (k + i) x = 0
  | [], _, _, _, _, hx => by simp at hx
  | n :: r, k, i, x, h, hx => by
    rw [nodesGo] at h
    split at h
    · rename_i hb
      cases i with
      | zero => simp only [List.getElem?_cons_zero, Option.some.injEq] at hx; subst hx; exact hb
      | succ i =>
        rw [List.getElem?_cons_succ] at hx
        have := nodesGo_from h hx
        rwa [show k + (i + 1) = k + 1 + i by omega]
    · rename_i hb; exact absurd h hb
theorem nodesGo_each {l : List Node} {i : Nat} {x : Node} (h : nodesGo 0 l = 0) (hx : l[i]? = some x) : nodeBad i x = 0 := by
  have := nodesGo_from h hx; rwa [Nat.zero_add] at this
/-- The filters of the nodes, each one by those ahead. -/
theorem filtersOf_take {l : List Node} {i : Nat} {x : Node} (hx : l[i]? = some x) : filtersOf (l.take (i + 1)) = filtersOf (l.take i) ++ [nodeFilter (filtersOf (l.take i)) x] := by
  rw [take_snoc hx, filtersOf_snoc]
theorem FilterOk.to {f : List Box} (h : FilterOk f) : filterCheck f = 0 := by
  rw [filterCheck_le h.len]
  exact boxesGo_of fun b hb => by rw [boxCheck, if_pos (h.cube b hb)]; exact h.spans b hb
theorem bothOf_ok (op : BitVec 32 → BitVec 32 → BitVec 32) (f g : List Box) : FilterOk (bothOf op f g).2 := by
  rw [bothOf]
  split
  · exact FilterOk.of (by rfl)
  · split
    · exact FilterOk.of (by rfl)
    · exact FilterOk.of (boxesOf_check _)
theorem every_ok : FilterOk every := FilterOk.of (by decide)
theorem tag_ok {a : Nat} (h : a < 4) : FilterOk [tagBox a] := FilterOk.of (by
  match a, h with
  | 0, _ => decide
  | 1, _ => decide
  | 2, _ => decide
  | 3, _ => decide)
theorem in_okF {a b : Int} (h0 : 0 ≤ a) (h1 : a < b) (h2 : b ≤ 32) : FilterOk [inBox a b] := by
  refine FilterOk.of ?_
  have hs : spanCheck [⟨a, b⟩] = 0 := by rw [spanCheck, if_neg (by simp), spanGo, if_neg (by simp only; omega)]; simp [spanGo]
  have hb : boxCheck (inBox a b) = 0 := by rw [boxCheck, if_pos (show cubeCheck (inBox a b).cube = 0 from (by decide : cubeCheck ⟨0, 0⟩ = 0))]; exact hs
  rw [filterCheck, if_neg (by simp), boxesGo, if_pos hb]; rfl
theorem nodeFilter_ok {i : Nat} {n : Node} (fs : List (List Box)) (h : nodeBad i n = 0) : FilterOk (nodeFilter fs n) := by
  unfold nodeFilter
  unfold nodeBad at h
  split
  · exact every_ok
  · rename_i h1
    rw [if_neg h1] at h
    split
    · rename_i h2
      rw [if_pos h2] at h
      split at h
      · cases h
      · exact tag_ok (by omega)
    · rename_i h2
      rw [if_neg h2] at h
      split
      · rename_i h3
        rw [if_pos h3] at h
        split at h
        · cases h
        · exact in_okF (by omega) (by omega) (by omega)
      · split
        · exact bothOf_ok _ _ _
        · split
          · exact bothOf_ok _ _ _
          · exact bothOf_ok _ _ _
theorem filtersOf_ok {l : List Node} (h : nodesGo 0 l = 0) : ∀ i, i ≤ l.length → ∀ f ∈ filtersOf (l.take i), FilterOk f
  | 0, _, f, hf => by simp [filtersOf, filtersFrom] at hf
  | i + 1, hi, f, hf => by
    obtain ⟨x, hx⟩ : ∃ x, l[i]? = some x := ⟨l[i]'(by omega), List.getElem?_eq_getElem _⟩
    rw [filtersOf_take hx] at hf
    rcases List.mem_append.1 hf with hf | hf
    · exact filtersOf_ok h i (by omega) f hf
    · rw [List.mem_singleton] at hf; subst hf
      exact nodeFilter_ok _ (nodesGo_each h hx)
end Go.Rm
