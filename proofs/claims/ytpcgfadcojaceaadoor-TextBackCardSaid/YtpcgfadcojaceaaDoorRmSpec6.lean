/- What this text holds: rules and lemmas for the walk of formula.Filter. -/
import Derived.Test.YtpcgfadcojaceaaDoorRmSpec5
set_option linter.unusedVariables false
set_option linter.unusedSimpArgs false
set_option linter.unusedSectionVars false
namespace Go.Rm
open Go

theorem row_set {vs : List Value} {n i : Nat} {u z : Value} (h : vs.length = i) (hi : i < n) : (vs ++ List.replicate (n - i) z).set (0 + i * 1) u = (vs ++ [u]) ++ List.replicate (n - (i + 1)) z := by
  rw [Nat.zero_add, Nat.mul_one, List.set_append_right _ _ (by omega), h, Nat.sub_self, show n - i = (n - (i + 1)) + 1 by omega, List.replicate_succ, List.set_cons_zero, List.append_assoc, List.singleton_append]
theorem row_get {vs : List Value} {n i j : Nat} {u z : Value} (h : vs.length = i) (hj : j < i) (hu : vs[j]? = some u) : (vs ++ List.replicate (n - i) z)[0 + j * 1]? = some u := by
  rw [Nat.zero_add, Nat.mul_one, List.getElem?_append_left (by omega)]; exact hu
theorem row_last {vs : List Value} {n i : Nat} {u z : Value} (h : vs.length = i) : ((vs ++ [u]) ++ List.replicate n z)[0 + i * 1]? = some u := by
  rw [Nat.zero_add, Nat.mul_one, List.getElem?_append_left (by simp; omega), List.getElem?_append_right (by omega), h]; simp
theorem bad_tag {i : Nat} {n : Node} (h : nodeBad i n = 0) (hk : n.kind = 2) : 0 ≤ n.a ∧ n.a < 4 := by
  rw [nodeBad, if_neg (by omega), if_pos hk] at h
  split at h
  · cases h
  · omega
theorem bad_not {i : Nat} {n : Node} (h : nodeBad i n = 0) (hk : n.kind = 4) : 0 ≤ n.a ∧ n.a < i := by
  rw [nodeBad, if_neg (by omega), if_neg (by omega), if_neg (by omega), if_pos hk] at h
  split at h
  · cases h
  · omega
theorem bad_two {i : Nat} {n : Node} (h : nodeBad i n = 0) (hk : n.kind = 5 ∨ n.kind = 6) : 0 ≤ n.a ∧ n.a < i ∧ 0 ≤ n.b ∧ n.b < i := by
  rw [nodeBad, if_neg (by omega), if_neg (by omega), if_neg (by omega), if_neg (by omega), if_pos hk] at h
  split at h
  · cases h
  · omega
theorem bad_kind {i : Nat} {n : Node} (h : nodeBad i n = 0) : n.kind = 1 ∨ n.kind = 2 ∨ n.kind = 3 ∨ n.kind = 4 ∨ n.kind = 5 ∨ n.kind = 6 := by
  by_cases h1 : n.kind = 1
  · exact .inl h1
  · unfold nodeBad at h
    split at h
    · omega
    · split at h
      · omega
      · split at h
        · omega
        · split at h
          · omega
          · split at h
            · omega
            · cases h
theorem shl_a {a : Int} (h0 : 0 ≤ a) (h1 : a < 4) : IntKind.i64.wrap (1 * 2 ^ a.toNat) = ((2 ^ a.toNat : Nat) : Int) := by
  obtain ⟨k, rfl⟩ := Int.eq_ofNat_of_zero_le h0
  exact shl_i64 (k := k) (by omega)
/-- What the row of filters holds so far. -/
def RowOk (J : PHeap) (l : List Node) (i : Nat) (vs : List Value) : Prop := vs.length = i ∧ ∀ j, j < i → ∃ ad cap, vs[j]? = some (.slice ad ((filtersOf (l.take i)).getD j []).length cap) ∧ Val J (.slice ad ((filtersOf (l.take i)).getD j []).length cap) ((filtersOf (l.take i)).getD j [])
theorem RowOk.start (J : PHeap) (l : List Node) : RowOk J l 0 [] := ⟨rfl, fun j hj => by omega⟩
theorem RowOk.next {J J' : PHeap} {l : List Node} {i : Nat} {vs : List Value} {x : Node} {u : Value} (h : RowOk J l i vs) (hx : l[i]? = some x) (hi : i < l.length) (hJ : PLe J J') (hu : Val J' u (nodeFilter (filtersOf (l.take i)) x)) : RowOk J' l (i + 1) (vs ++ [u]) := by
  have hl : (filtersOf (l.take i)).length = i := by rw [filtersOf_len, List.length_take]; omega
  refine ⟨by rw [List.length_append, h.1]; rfl, fun j hj => ?_⟩
  rw [filtersOf_take hx]
  rcases Nat.lt_or_ge j i with hji | hji
  · obtain ⟨ad, cap, h1, h2⟩ := h.2 j hji
    have e : (filtersOf (l.take i) ++ [nodeFilter (filtersOf (l.take i)) x]).getD j [] = (filtersOf (l.take i)).getD j [] := by
      rw [List.getD_eq_getElem?_getD, List.getD_eq_getElem?_getD, List.getElem?_append_left (by omega)]
    rw [e]
    exact ⟨ad, cap, by rw [List.getElem?_append_left (by rw [h.1]; exact hji)]; exact h1, h2.le hJ⟩
  · have hj2 : j = i := by omega
    subst hj2
    have e : (filtersOf (l.take j) ++ [nodeFilter (filtersOf (l.take j)) x]).getD j [] = nodeFilter (filtersOf (l.take j)) x := by
      rw [List.getD_eq_getElem?_getD, List.getElem?_append_right (by omega), hl]; simp
    rw [e]
    obtain ⟨ad, cap, rfl, _⟩ := hu.slice
    exact ⟨ad, cap, by rw [List.getElem?_append_right (by rw [h.1]; omega), h.1]; simp, hu⟩

section
variable {P : Program} {ops : Array Oper} {Q : Exit → Act → World → Prop} {n : Nat} {ds : List Deferred} {E : Env} {W : World} {Lr : Own} {I : PHeap} {rest : List Oper}
/-- A filter of one box of one span, of the call's own, is not written any more. -/
theorem HL.freezeBox {b1 b2 : Nat} {y m lo hi : Int} {X S : TypeId} (h : ∀ I', PLe I I' → Val I' (.slice (some ⟨b1, 0, none⟩) 1 1) [(⟨⟨y, m⟩, [⟨lo, hi⟩]⟩ : Box)] → HL P ops Q rest n ds E W Lr I') :
    HL P ops Q rest n ds E W ((b1, blk [.int .i64 y, .int .i64 m, .slice (some ⟨b2, 0, none⟩) 1 1] X) :: (b2, blk [.int .i64 lo, .int .i64 hi] S) :: Lr) I := by
  refine HL.freeze (fun h1 => HL.freeze (fun h2 => ?_))
  have l1 := PLe.set (blk [.int .i64 y, .int .i64 m, .slice (some ⟨b2, 0, none⟩) 1 1] X) h1
  have l2 := PLe.set (blk [.int .i64 lo, .int .i64 hi] S) h2
  refine h _ (l1.trans l2) (Val.mk (xs := [(⟨⟨y, m⟩, [⟨lo, hi⟩]⟩ : Box)]) (Nat.le_refl _) fun _ => ⟨b1, 0, rfl, fun i x hx => ?_⟩)
  have c1 : CellsI (I.set b1 (blk [.int .i64 y, .int .i64 m, .slice (some ⟨b2, 0, none⟩) 1 1] X)) b1 0 [.int .i64 y, .int .i64 m, .slice (some ⟨b2, 0, none⟩) 1 1] := ⟨_, X, (0, 0), PHeap.set_same _ _ _, fun i v hv => by simpa using hv⟩
  have c2 : CellsI ((I.set b1 (blk [.int .i64 y, .int .i64 m, .slice (some ⟨b2, 0, none⟩) 1 1] X)).set b2 (blk [.int .i64 lo, .int .i64 hi] S)) b2 0 [.int .i64 lo, .int .i64 hi] := ⟨_, S, (0, 0), PHeap.set_same _ _ _, fun i v hv => by simpa using hv⟩
  cases i with
  | succ i => simp at hx
  | zero =>
    simp only [List.getElem?_cons_zero, Option.some.injEq] at hx
    subst hx
    refine ⟨_, ⟨_, rfl, Val.mk (xs := [(⟨lo, hi⟩ : Span)]) (Nat.le_refl _) fun _ => ⟨b2, 0, rfl, fun i x hx => ?_⟩⟩, by simpa using c1.le l2⟩
    cases i with
    | succ i => simp at hx
    | zero =>
      simp only [List.getElem?_cons_zero, Option.some.injEq] at hx
      subst hx
      exact ⟨_, rfl, by simpa using c2⟩
end
end Go.Rm
