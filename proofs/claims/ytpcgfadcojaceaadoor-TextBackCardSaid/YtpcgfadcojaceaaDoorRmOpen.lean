/- What this text holds: from an argument that is read as data to how it lies in memory, in the words of my separation logic, whatever the program. -/
import Derived.Test.YtpcgfadcojaceaaDoorRmLaw
import Derived.Deep.Slices
import Derived.ChangeArms
import Derived.Carry
set_option linter.unusedVariables false
set_option linter.unusedSimpArgs false
set_option linter.unusedSectionVars false
namespace Go.Rm
open Go Go.ChangeShapes Go.WideShapes Go.RowKit

theorem cells_open {W : World} {base : Nat} {a : Addr} {n : Nat} {cs : List Value} (h : W.cells? base a n = some cs) (hn : 0 < n) : ∃ b off, a = ⟨b, off, none⟩ ∧ CellsI (blocksOf W) b off cs := by
  obtain ⟨_, hlen, hcell⟩ := World.cells?_some h
  obtain ⟨b, off, spot⟩ := a
  have h0 := hcell 0 hn
  obtain ⟨v0, hv0⟩ : ∃ v, cs[0]? = some v := ⟨cs[0]'(by omega), List.getElem?_eq_getElem _⟩
  rw [hv0] at h0
  have e0 : (⟨b, off, spot⟩ : Addr).add 0 = ⟨b, off, spot⟩ := by simp [Addr.add]
  rw [e0] at h0
  unfold World.cell? at h0
  cases hb : W.heap[b]? with
  | none => simp [hb] at h0
  | some o =>
    cases o with
    | cells c T fr =>
      simp only [hb] at h0
      cases spot with
      | some s => simp at h0
      | none =>
        refine ⟨b, off, rfl, c, T, fr, hb, fun i v hv => ?_⟩
        have hi : i < n := by rw [← hlen]; rcases Nat.lt_or_ge i cs.length with h' | h'; exact h'; rw [List.getElem?_eq_none h'] at hv; cases hv
        have h1 := hcell i hi
        rw [hv, Addr.add_lit] at h1
        unfold World.cell? at h1
        simp only [hb] at h1
        simpa using h1
    | _ => simp [hb] at h0

theorem list_of_each {α : Type} {p : Nat → α → Prop} : ∀ (len : Nat), (∀ i, i < len → ∃ y, p i y) → ∃ l : List α, l.length = len ∧ ∀ i y, l[i]? = some y → p i y
  | 0, _ => ⟨[], rfl, by simp⟩
  | k + 1, h => by
    obtain ⟨l, h1, h2⟩ := list_of_each k fun i hi => h i (by omega)
    obtain ⟨y, h3⟩ := h k (by omega)
    refine ⟨l ++ [y], by simp [h1], fun i z hz => ?_⟩
    rcases Nat.lt_or_ge i k with h | h
    · rw [List.getElem?_append_left (by omega)] at hz; exact h2 i z hz
    · rw [List.getElem?_append_right (by omega)] at hz
      have hik : i - l.length = 0 := by
        rcases Nat.eq_zero_or_pos (i - l.length) with h5 | h5
        · exact h5
        · rw [List.getElem?_eq_none (by simp only [List.length_singleton]; omega)] at hz; cases hz
      rw [hik, List.getElem?_cons_zero, Option.some.injEq] at hz
      subst hz
      rw [show i = k by omega]; exact h3
/-- Whatever is read at this type lies in memory as an α. -/
def Opens (P : Program) (t : TypeId) (α : Type) [RepC α] (ok : α → Prop) : Prop := ∀ {H : Type} (enc : TypeId × Value → H) (W : World) (base : Nat) (sp : Nat → Bool) (hd : Bool) (fuel : Nat) (cs : List Value) (x : DataW H × List MemPlace),
  DataW.trod enc P W base sp hd fuel t cs = some x → ∃ y : α, RepC.cells (blocksOf W) y cs ∧ ok y
section
variable {P : Program}
def IntOk (n : Int) : Prop := -9223372036854775808 ≤ n ∧ n ≤ 9223372036854775807
theorem Opens.int {t : TypeId} (ht : P.underlying t = some (.int .i64)) : Opens P t Int IntOk := fun enc W base sp hd fuel cs x h => by
  obtain ⟨n, rfl, _, hw⟩ := DataW.trod_int ht h
  refine ⟨n, rfl, ?_⟩
  simp only [Lit.wf, Bool.and_eq_true, decide_eq_true_eq] at hw
  have e1 : IntKind.i64.min = -9223372036854775808 := by decide
  have e2 : IntKind.i64.max = 9223372036854775807 := by decide
  unfold IntOk; omega
theorem Opens.string {t : TypeId} (ht : P.underlying t = some .string) : Opens P t ByteArray (fun s => s.size ≤ maxLen) := fun enc W base sp hd fuel cs x h => by
  obtain ⟨s, rfl, _, hw⟩ := DataW.trod_string ht h
  exact ⟨s, rfl, hw⟩
def ListOk {α : Type} (ok : α → Prop) (l : List α) : Prop := l.length ≤ maxLen ∧ ∀ x ∈ l, ok x
theorem Opens.slice {t e : TypeId} {α : Type} [RepC α] {ok : α → Prop} (ht : P.underlying t = some (.slice e)) (hk : P.cellsOf e = RepC.k α) (h0 : 0 < RepC.k α) (he : Opens P e α ok) : Opens P t (List α) (ListOk ok) := fun enc W base sp hd fuel cs x h => by
  rcases Deep.open_slice ht h with ⟨rfl, _⟩ | ⟨a, len, cap, m, n, D, Pl, rfl, _, hl, hm, hmm, _, hx⟩
  · exact ⟨[], Val.nil, by simp, by simp⟩
  · have hlm : len ≤ m := by rw [hmm]; split <;> omega
    have each : ∀ i, i < len → ∃ y : α, ∃ b off, a = ⟨b, off, none⟩ ∧ At (blocksOf W) b (off + i * RepC.k α) y ∧ ok y := by
      intro i hi
      obtain ⟨cs', h1, h2⟩ := hx i (by omega)
      obtain ⟨y, h3, h4⟩ := he enc W base sp hd n cs' _ h2
      rw [hk] at h1
      obtain ⟨b, off, h5, h6⟩ := cells_open h1 h0
      obtain ⟨b0, off0, spot⟩ := a
      -- the slice's own place bears no mark
      obtain ⟨cs0, g1, _⟩ := hx 0 (by omega)
      rw [hk] at g1
      obtain ⟨b1, off1, g5, _⟩ := cells_open g1 h0
      have e0 : (⟨b0, off0, spot⟩ : Addr).add (0 * RepC.k α) = ⟨b0, off0, spot⟩ := by simp [Addr.add]
      rw [e0] at g5
      simp only [Addr.mk.injEq] at g5
      obtain ⟨rfl, rfl, rfl⟩ := g5
      rw [Addr.add_lit] at h5
      simp only [Addr.mk.injEq, and_true] at h5
      obtain ⟨rfl, rfl⟩ := h5
      exact ⟨y, b0, off0, rfl, ⟨cs', h3, h6⟩, h4⟩
    by_cases hz : len = 0
    · subst hz
      exact ⟨[], ⟨_, cap, rfl, hl, Elems.nil _ _⟩, by simp, by simp⟩
    · obtain ⟨_, b, off, rfl, _⟩ := each 0 (by omega)
      have each2 : ∀ i, i < len → ∃ y : α, At (blocksOf W) b (off + i * RepC.k α) y ∧ ok y := by
        intro i hi
        obtain ⟨y, b', off', e, h1, h2⟩ := each i hi
        simp only [Addr.mk.injEq, and_true] at e
        obtain ⟨rfl, rfl⟩ := e
        exact ⟨y, h1, h2⟩
      obtain ⟨l, hll, hli⟩ := list_of_each (p := fun i y => At (blocksOf W) b (off + i * RepC.k α) y ∧ ok y) len each2
      subst hll
      exact ⟨l, ⟨_, cap, rfl, hl, fun _ => ⟨b, off, rfl, fun i y hy => (hli i y hy).1⟩⟩, by omega, fun y hy => by
        obtain ⟨i, hi⟩ := List.mem_iff_getElem?.1 hy
        exact (hli i y hi).2⟩
/-- Two structs of integers. -/
theorem trod_fields {H : Type} {enc : TypeId × Value → H} {W : World} {base : Nat} {sp : Nat → Bool} {hd : Bool} {fuel : Nat} {t : TypeId} {cs : List Value} {x : DataW H × List MemPlace} {fs : Array Field} (ht : P.underlying t = some (.struct fs)) (h : DataW.trod enc P W base sp hd fuel t cs = some x) :
    cs.length = P.cellsOf t ∧ ∃ n, ∀ (i o u k : Nat), (fs[i]?).map (fun f => (f.offset, f.type)) = some (o, u) → P.cellsOf u = k → ∃ y, DataW.trod enc P W base sp hd n u ((cs.drop o).take k) = some y := by
  obtain ⟨xs, n, _, _, hlen, hxl, hf⟩ := DataW.trod_struct ht h
  refine ⟨hlen, n, fun i o u k hi hk => ?_⟩
  obtain ⟨f, hf1, hf2⟩ := Option.map_eq_some_iff.1 hi
  simp only [Prod.mk.injEq] at hf2
  obtain ⟨rfl, rfl⟩ := hf2
  subst hk
  have := hf i f hf1
  have hlt : i < fs.size := by
    rcases Nat.lt_or_ge i fs.size with h' | h'
    · exact h'
    · rw [Array.getElem?_eq_none h'] at hf1; cases hf1
  obtain ⟨y, hy⟩ : ∃ y, xs[i]? = some y := ⟨xs[i]'(by omega), List.getElem?_eq_getElem _⟩
  exact ⟨y, this.trans hy⟩
theorem Opens.node {t : TypeId} {fs : Array Field} {u : Nat} (ht : P.underlying t = some (.struct fs)) (hc : P.cellsOf t = 3) (h0 : (fs[0]?).map (fun f => (f.offset, f.type)) = some (0, u)) (h1 : (fs[1]?).map (fun f => (f.offset, f.type)) = some (1, u)) (h2 : (fs[2]?).map (fun f => (f.offset, f.type)) = some (2, u))
    (hu : P.underlying u = some (.int .i64)) (hk : P.cellsOf u = 1) : Opens P t Node (fun n => IntOk n.kind ∧ IntOk n.a ∧ IntOk n.b) := fun enc W base sp hd fuel cs x h => by
  obtain ⟨hlen, n, hf⟩ := trod_fields ht h
  rw [hc] at hlen
  match cs, hlen with
  | [c0, c1, c2], _ =>
    obtain ⟨_, g0⟩ := hf 0 0 u 1 h0 hk
    obtain ⟨_, g1⟩ := hf 1 1 u 1 h1 hk
    obtain ⟨_, g2⟩ := hf 2 2 u 1 h2 hk
    obtain ⟨a, ha, ha2⟩ := Opens.int hu enc W base sp hd n _ _ g0
    obtain ⟨b, hb, hb2⟩ := Opens.int hu enc W base sp hd n _ _ g1
    obtain ⟨c, hc, hc2⟩ := Opens.int hu enc W base sp hd n _ _ g2
    have ha : [c0] = [.int .i64 a] := ha
    have hb : [c1] = [.int .i64 b] := hb
    have hc : [c2] = [.int .i64 c] := hc
    cases ha; cases hb; cases hc
    exact ⟨⟨a, b, c⟩, rfl, ha2, hb2, hc2⟩
theorem Opens.span {t : TypeId} {fs : Array Field} {u : Nat} (ht : P.underlying t = some (.struct fs)) (hc : P.cellsOf t = 2) (h0 : (fs[0]?).map (fun f => (f.offset, f.type)) = some (0, u)) (h1 : (fs[1]?).map (fun f => (f.offset, f.type)) = some (1, u))
    (hu : P.underlying u = some (.int .i64)) (hk : P.cellsOf u = 1) : Opens P t Span (fun n => IntOk n.lo ∧ IntOk n.hi) := fun enc W base sp hd fuel cs x h => by
  obtain ⟨hlen, n, hf⟩ := trod_fields ht h
  rw [hc] at hlen
  match cs, hlen with
  | [c0, c1], _ =>
    obtain ⟨_, g0⟩ := hf 0 0 u 1 h0 hk
    obtain ⟨_, g1⟩ := hf 1 1 u 1 h1 hk
    obtain ⟨a, ha, ha2⟩ := Opens.int hu enc W base sp hd n _ _ g0
    obtain ⟨b, hb, hb2⟩ := Opens.int hu enc W base sp hd n _ _ g1
    have ha : [c0] = [.int .i64 a] := ha
    have hb : [c1] = [.int .i64 b] := hb
    cases ha; cases hb
    exact ⟨⟨a, b⟩, rfl, ha2, hb2⟩
theorem Opens.point {t : TypeId} {fs : Array Field} {u : Nat} (ht : P.underlying t = some (.struct fs)) (hc : P.cellsOf t = 2) (h0 : (fs[0]?).map (fun f => (f.offset, f.type)) = some (0, u)) (h1 : (fs[1]?).map (fun f => (f.offset, f.type)) = some (1, u))
    (hu : P.underlying u = some (.int .i64)) (hk : P.cellsOf u = 1) : Opens P t Point (fun n => IntOk n.tags ∧ IntOk n.num) := fun enc W base sp hd fuel cs x h => by
  obtain ⟨⟨a, b⟩, h1, h2⟩ := Opens.span ht hc h0 h1 hu hk enc W base sp hd fuel cs x h
  exact ⟨⟨a, b⟩, h1, h2⟩
theorem Opens.cube {t : TypeId} {fs : Array Field} {u : Nat} (ht : P.underlying t = some (.struct fs)) (hc : P.cellsOf t = 2) (h0 : (fs[0]?).map (fun f => (f.offset, f.type)) = some (0, u)) (h1 : (fs[1]?).map (fun f => (f.offset, f.type)) = some (1, u))
    (hu : P.underlying u = some (.int .i64)) (hk : P.cellsOf u = 1) : Opens P t Cube (fun n => IntOk n.yes ∧ IntOk n.no) := fun enc W base sp hd fuel cs x h => by
  obtain ⟨⟨a, b⟩, h1, h2⟩ := Opens.span ht hc h0 h1 hu hk enc W base sp hd fuel cs x h
  exact ⟨⟨a, b⟩, h1, h2⟩
def SpanWf (s : Span) : Prop := IntOk s.lo ∧ IntOk s.hi
def BoxWf (b : Box) : Prop := (IntOk b.cube.yes ∧ IntOk b.cube.no) ∧ ListOk SpanWf b.spans
theorem Opens.box {t tc tS : TypeId} {fs : Array Field} (ht : P.underlying t = some (.struct fs)) (hc : P.cellsOf t = 3) (h0 : (fs[0]?).map (fun f => (f.offset, f.type)) = some (0, tc)) (h1 : (fs[1]?).map (fun f => (f.offset, f.type)) = some (2, tS))
    (hkc : P.cellsOf tc = 2) (hks : P.cellsOf tS = 1) (hcube : Opens P tc Cube (fun n => IntOk n.yes ∧ IntOk n.no)) (hsp : Opens P tS (List Span) (ListOk SpanWf)) : Opens P t Box BoxWf := fun enc W base sp hd fuel cs x h => by
  obtain ⟨hlen, n, hf⟩ := trod_fields ht h
  rw [hc] at hlen
  match cs, hlen with
  | [c0, c1, c2], _ =>
    obtain ⟨_, g0⟩ := hf 0 0 tc 2 h0 hkc
    obtain ⟨_, g1⟩ := hf 1 2 tS 1 h1 hks
    obtain ⟨a, ha, ha2⟩ := hcube enc W base sp hd n _ _ g0
    obtain ⟨b, hb, hb2⟩ := hsp enc W base sp hd n _ _ g1
    have ha : [c0, c1] = [.int .i64 a.yes, .int .i64 a.no] := ha
    cases ha
    exact ⟨⟨a, b⟩, ⟨c2, rfl, hb⟩, ha2, hb2⟩
/-- A value read at a type of one cell. -/
theorem Opens.val {H : Type} {enc : TypeId × Value → H} {W : World} {base : Nat} {sp : Nat → Bool} {hd : Bool} {t : TypeId} {v : Value} {d : DataW H} {ps : List MemPlace} {α : Type} [RepC α] {ok : α → Prop} (ho : Opens P t α ok) (hv : v.oneCell' = true) (h : DataW.Trod enc P W base sp hd t v d ps) : ∃ y : α, Val (blocksOf W) v y ∧ ok y := by
  obtain ⟨fuel, h⟩ := h
  have hc : v.cells.toList = [v] := by cases v <;> simp [Value.oneCell'] at hv <;> rfl
  rw [hc] at h
  exact ho enc W base sp hd fuel _ _ h
/-- A slice that came in is no struct. -/
theorem one_of_slice {W : World} {base : Nat} {t e : TypeId} {v : Value} (ht : P.underlying t = some (.slice e)) (h : Value.okWide P W .any base t v) : v.oneCell' = true := by
  unfold Value.okWide at h
  rw [ht] at h
  unfold Cell.okWide at h
  rw [ht] at h
  cases v <;> first
    | rfl
    | (exfalso; simp [Cell.ok, ht] at h)
/-- What came in reads as before. -/
theorem trod_stays {H : Type} {enc : TypeId × Value → H} {t : TypeId} (hl : laidOutB P = true) (hr : P.readableRec t = true) (hrow : t < P.types.size) {W W' : World} {v : Value} {d : DataW H} {ps : List MemPlace} {sp : Nat → Bool}
    (h : DataW.Trod enc P W 0 (fun _ => true) true t v d ps) (hb : Below W.heap.size W W') (hlt : ∀ x ∈ ps, x.block < W.heap.size) (hsp : ∀ x ∈ ps, sp x.block = true) : DataW.Trod enc P W' 0 sp true t v d ps :=
  WideElems.Trod_stays hl hr hrow h (fun x hx => hb.same (hlt x hx)) hsp
end
end Go.Rm
