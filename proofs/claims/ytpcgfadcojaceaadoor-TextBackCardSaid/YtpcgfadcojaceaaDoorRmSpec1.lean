/- What this text holds: plain functions for the packages span, cube, filter: what the program computes, without the program. -/
import Derived.Test.YtpcgfadcojaceaaDoorRmData
set_option linter.unusedVariables false
set_option linter.unusedSimpArgs false
set_option linter.unusedSectionVars false
namespace Go.Rm

def spanGo : Option Int → List Span → Int
  | _, [] => 0
  | p, s :: r => if s.lo < 0 ∨ 32 < s.hi ∨ s.hi ≤ s.lo then 1 else if (p.any fun q => decide (s.lo ≤ q)) = true then 3 else spanGo (some s.hi) r
def spanCheck (l : List Span) : Int := if 16 < l.length then 2 else spanGo none l

def prevHi (l : List Span) (k : Nat) : Option Int := (l.take k).getLast?.map (·.hi)
theorem prevHi_zero (l : List Span) : prevHi l 0 = none := by simp [prevHi]
theorem prevHi_succ (l : List Span) {k : Nat} {s : Span} (h : l[k]? = some s) : prevHi l (k + 1) = some s.hi := by
  simp [prevHi, List.take_add_one, h]
theorem drop_at {α : Type} {l : List α} {k : Nat} {x : α} (h : l[k]? = some x) : l.drop k = x :: l.drop (k + 1) := by
  obtain ⟨hk, rfl⟩ := List.getElem?_eq_some_iff.1 h
  exact List.drop_eq_getElem_cons hk
theorem spanGo_at {l : List Span} {k : Nat} {x : Span} {p : Option Int} (h : l[k]? = some x) (hgo : spanGo none l = spanGo p (l.drop k)) :
    spanGo none l = if x.lo < 0 ∨ 32 < x.hi ∨ x.hi ≤ x.lo then 1 else if (p.any fun q => decide (x.lo ≤ q)) = true then 3 else spanGo (some x.hi) (l.drop (k + 1)) := by
  rw [hgo, drop_at h, spanGo]
theorem spanCheck_le {l : List Span} (h : l.length ≤ 16) : spanCheck l = spanGo none l := by rw [spanCheck, if_neg (by omega)]

/-- What is wrong with a node at place i; 0: nothing. -/
def nodeBad (i : Nat) (n : Node) : Int :=
  if n.kind = 1 then 0
  else if n.kind = 2 then (if n.a < 0 ∨ 4 ≤ n.a then 1 else 0)
  else if n.kind = 3 then (if n.a < 0 ∨ 32 < n.b ∨ n.b ≤ n.a then 1 else 0)
  else if n.kind = 4 then (if n.a < 0 ∨ (i : Int) ≤ n.a then 1 else 0)
  else if n.kind = 5 ∨ n.kind = 6 then (if n.a < 0 ∨ (i : Int) ≤ n.a ∨ n.b < 0 ∨ (i : Int) ≤ n.b then 1 else 0)
  else 3
def nodesGo : Nat → List Node → Int
  | _, [] => 0
  | i, n :: r => if nodeBad i n = 0 then nodesGo (i + 1) r else nodeBad i n
def nodesCheck (l : List Node) : Int := if l.length = 0 ∨ 30 < l.length then 2 else nodesGo 0 l
theorem nodesGo_at {l : List Node} {k : Nat} {x : Node} (h : l[k]? = some x) (hgo : nodesGo 0 l = nodesGo k (l.drop k)) :
    nodesGo 0 l = if nodeBad k x = 0 then nodesGo (k + 1) (l.drop (k + 1)) else nodeBad k x := by
  rw [hgo, drop_at h, nodesGo]
theorem nodesCheck_le {l : List Node} (h : 0 < l.length) (h' : l.length ≤ 30) : nodesCheck l = nodesGo 0 l := by rw [nodesCheck, if_neg (by omega)]
end Go.Rm
