/- What this text holds: the rules of my separation logic for the operations that make or write memory, and for calls, whatever the program. -/
import Derived.Test.YtpcgfadcojaceaaDoorRmOps
import Derived.Laws.CopyRow
import Derived.Laws.MakeOwn
import Derived.Laws.AppendOwn
set_option linter.unusedVariables false
set_option linter.unusedSimpArgs false
set_option linter.unusedSectionVars false
namespace Go.Rm
open Go

section
variable {P : Program} {ops : Array Oper} {Q : Exit → Act → World → Prop} {n : Nat} {ds : List Deferred} {E : Env} {W : World} {L : Own} {I : PHeap} {rest : List Oper} {o : Oper} {v u z : Value} {d : Nat}
  {dst : Option Tmp} {ty : TypeId} {pos : String} {aft : Array Edge} {T S : TypeId} {x y : Operand}

theorem HL.of_value {op : Op} (h : ∀ a w, Has n ds E a → Holds W L I w → ∃ v w', (execOp a.eval ⟨some d, op, ty, pos, aft, none⟩).run P w = .ok (.value v) w' ∧ wpList P ops Q rest (a.put (some d) v) w') : HL P ops Q (⟨some d, op, ty, pos, aft, none⟩ :: rest) n ds E W L I := by
  intro a w ha hw
  obtain ⟨v, w', hr, hq⟩ := h a w ha hw
  refine wpList_plain rfl fun K hK => ?_
  unfold Oper.wp
  rw [hr, Oper.upon_value]
  exact hK _ _ hq
theorem HL.of_skip {op : Op} (h : ∀ a w, Has n ds E a → Holds W L I w → ∃ w', (execOp a.eval ⟨none, op, ty, pos, aft, none⟩).run P w = .ok .skip w' ∧ wpList P ops Q rest a w') : HL P ops Q (⟨none, op, ty, pos, aft, none⟩ :: rest) n ds E W L I := by
  intro a w ha hw
  obtain ⟨w', hr, hq⟩ := h a w ha hw
  refine wpList_plain rfl fun K hK => ?_
  unfold Oper.wp
  rw [hr, Oper.upon_skip]
  exact hK _ _ hq

theorem HL.alloc_agg {c : List Value} (hz : ∀ w, (zeroValue T).run P w = .ok (.agg c.toArray) w) (hd : Nat.blt d n = true) (h : ∀ b, I b = none → HL P ops Q rest n ds ((d, .pointer (some ⟨b, 0, none⟩)) :: E) W ((b, blk c T) :: L) I) :
    HL P ops Q (⟨some d, .alloc T, ty, pos, aft, none⟩ :: rest) n ds E W L I := HL.of_value fun a w ha hw => by
  have hh := hw.alloc (blk c T)
  refine ⟨.pointer (some ⟨w.heap.size, 0, none⟩), { w with heap := w.heap.push (blk c T) }, ?_, h _ hh.free _ _ (ha.put (by simpa using hd)) hh⟩
  simp only [execOp, Instr.alloc]
  simp [hz, newVar, newRow, Value.cells]
theorem HL.alloc1 (hz : ∀ w, (zeroValue T).run P w = .ok z w) (h1 : z.oneCell' = true) (hd : Nat.blt d n = true) (h : ∀ b, I b = none → HL P ops Q rest n ds ((d, .pointer (some ⟨b, 0, none⟩)) :: E) W ((b, blk [z] T) :: L) I) :
    HL P ops Q (⟨some d, .alloc T, ty, pos, aft, none⟩ :: rest) n ds E W L I := HL.of_value fun a w ha hw => by
  have hh := hw.alloc (blk [z] T)
  refine ⟨.pointer (some ⟨w.heap.size, 0, none⟩), { w with heap := w.heap.push (blk [z] T) }, ?_, h _ hh.free _ _ (ha.put (by simpa using hd)) hh⟩
  have e : z.cells = #[z] := by cases z <;> simp [Value.oneCell'] at h1 <;> rfl
  simp only [execOp, Instr.alloc]
  simp [hz, newVar, newRow, e]
theorem HL.box_agg {c : List Value} (hx : evalO E x = some (.agg c.toArray)) (hd : Nat.blt d n = true) (h : ∀ b, I b = none → HL P ops Q rest n ds ((d, .pointer (some ⟨b, 0, none⟩)) :: E) W ((b, blk c T) :: L) I) :
    HL P ops Q (⟨some d, .box T x, ty, pos, aft, none⟩ :: rest) n ds E W L I := HL.of_value fun a w ha hw => by
  have hh := hw.alloc (blk c T)
  refine ⟨.pointer (some ⟨w.heap.size, 0, none⟩), { w with heap := w.heap.push (blk c T) }, ?_, h _ hh.free _ _ (ha.put (by simpa using hd)) hh⟩
  simp only [execOp, ha.eval hx, Instr.box]
  simp [newVar, newRow, Value.cells]
theorem HL.box1 (hx : evalO E x = some v) (h1 : v.oneCell' = true) (hd : Nat.blt d n = true) (h : ∀ b, I b = none → HL P ops Q rest n ds ((d, .pointer (some ⟨b, 0, none⟩)) :: E) W ((b, blk [v] T) :: L) I) :
    HL P ops Q (⟨some d, .box T x, ty, pos, aft, none⟩ :: rest) n ds E W L I := HL.of_value fun a w ha hw => by
  have hh := hw.alloc (blk [v] T)
  refine ⟨.pointer (some ⟨w.heap.size, 0, none⟩), { w with heap := w.heap.push (blk [v] T) }, ?_, h _ hh.free _ _ (ha.put (by simpa using hd)) hh⟩
  have e : v.cells = #[v] := by cases v <;> simp [Value.oneCell'] at h1 <;> rfl
  simp only [execOp, ha.eval hx, Instr.box]
  simp [newVar, newRow, e]

theorem Holds.row {w : World} {k b : Nat} {c c' : List Value} {T' : TypeId} (hw : Holds W L I w) (hk : L[k]? = some (b, blk c T')) : Holds W (L.set k (b, blk c' T')) I (w.setRow b c'.toArray) := by
  have hb := hw.own (b, blk c T') (List.mem_of_getElem? hk)
  exact hw.setAt hk rfl rfl rfl (setRow_heap w b c.toArray c'.toArray T' (0, 0) hb) (fun x hx => setRow_other w b x _ hx)

theorem run_storeVar_at {w : World} {b off k m : Nat} {c vs : List Value} {T' : TypeId} (hw : Holds W L I w) (hk : L[k]? = some (b, blk c T')) (hs : ∀ w, (sizeOf T).run P w = .ok m w) (hv : v.cells.toList = vs) (hm : vs.length = m) (hl : off + m ≤ c.length) (h1 : (vs.all fun v => v.oneCell') = true) :
    (storeVar T ⟨b, off, none⟩ v).run P w = .ok () (w.setRow b (c.take off ++ vs ++ c.drop (off + m)).toArray) := by
  have hb := hw.own (b, blk c T') (List.mem_of_getElem? hk)
  have hsz : v.cells.size = m := by rw [← hm, ← hv]; simp
  have := run_storeCells_at (P := P) b off T' vs 0 c.toArray w hb (by simpa [hm] using hl) (by simpa [List.all_eq_true] using h1)
  simp only [Nat.add_zero, hm] at this
  simp [storeVar, hs, hsz, hv, this]

/-- A store of one cell into a block of the call's own. -/
theorem HL.store1 {b off k : Nat} {c : List Value} {T' : TypeId} (hs : ∀ w, (sizeOf T).run P w = .ok 1 w) (hx : evalO E x = some (.pointer (some ⟨b, off, none⟩))) (hy : evalO E y = some v) (hk : L[k]? = some (b, blk c T')) (hl : off < c.length) (h1 : v.oneCell' = true)
    (h : HL P ops Q rest n ds E W (L.set k (b, blk (c.set off v) T')) I) : HL P ops Q (⟨none, .store T x y, ty, pos, aft, none⟩ :: rest) n ds E W L I := HL.of_skip fun a w ha hw => by
  have hcells : v.cells.toList = [v] := by cases v <;> simp [Value.oneCell'] at h1 <;> rfl
  have hr := run_storeVar_at (P := P) (T := T) (v := v) (off := off) hw hk hs hcells rfl (by omega) (by simp [h1])
  have e : c.take off ++ [v] ++ c.drop (off + 1) = c.set off v := by
    rw [List.set_eq_take_append_cons_drop, if_pos hl]; simp
  rw [e] at hr
  exact ⟨_, by simp only [execOp, ha.eval hx, ha.eval hy]; simp [Instr.storeAt, Instr.sureAddr, hr], h a _ ha (hw.row hk)⟩
/-- A store of several cells. -/
theorem HL.storek {b off k m : Nat} {c c' vs : List Value} {T' : TypeId} (hs : ∀ w, (sizeOf T).run P w = .ok m w) (hx : evalO E x = some (.pointer (some ⟨b, off, none⟩))) (hy : evalO E y = some v) (hk : L[k]? = some (b, blk c T')) (hv : v.cells.toList = vs) (hm : vs.length = m) (hl : off + m ≤ c.length) (h1 : (vs.all fun v => v.oneCell') = true)
    (hc' : c.take off ++ vs ++ c.drop (off + m) = c') (h : HL P ops Q rest n ds E W (L.set k (b, blk c' T')) I) : HL P ops Q (⟨none, .store T x y, ty, pos, aft, none⟩ :: rest) n ds E W L I := HL.of_skip fun a w ha hw => by
  have hr := run_storeVar_at (P := P) (T := T) (v := v) (off := off) hw hk hs hv hm hl h1
  rw [hc'] at hr
  exact ⟨_, by simp only [execOp, ha.eval hx, ha.eval hy]; simp [Instr.storeAt, Instr.sureAddr, hr], h a _ ha (hw.row hk)⟩


theorem HL.store1_0 {L1 : Own} {b off : Nat} {c c' : List Value} {T' : TypeId} (hs : ∀ w, (sizeOf T).run P w = .ok 1 w) (hx : evalO E x = some (.pointer (some ⟨b, off, none⟩))) (hy : evalO E y = some v) (hl : Nat.blt off c.length = true) (h1 : v.oneCell' = true) (hc : c.set off v = c')
    (h : HL P ops Q rest n ds E W ((b, blk c' T') :: L1) I) : HL P ops Q (⟨none, .store T x y, ty, pos, aft, none⟩ :: rest) n ds E W ((b, blk c T') :: L1) I := HL.store1 (k := 0) hs hx hy rfl (by simpa using hl) h1 (by rw [hc]; exact h)
theorem HL.store1s_0 {L1 : Own} {b off : Nat} {c c' : List Value} {T' : TypeId} (hs : ∀ w, (sizeOf T).run P w = .ok 1 w) (hx : evalO E x = some (.pointer (some ⟨b, off, none⟩))) (hy : evalO E y = some v) (hl : off < c.length) (h1 : v.oneCell' = true) (hc : c.set off v = c')
    (h : HL P ops Q rest n ds E W ((b, blk c' T') :: L1) I) : HL P ops Q (⟨none, .store T x y, ty, pos, aft, none⟩ :: rest) n ds E W ((b, blk c T') :: L1) I := HL.store1 (k := 0) hs hx hy rfl hl h1 (by rw [hc]; exact h)
theorem HL.store_all_0 {L1 : Own} {b m : Nat} {c vs : List Value} {T' : TypeId} (hs : ∀ w, (sizeOf T).run P w = .ok m w) (hx : evalO E x = some (.pointer (some ⟨b, 0, none⟩))) (hy : evalO E y = some (.agg vs.toArray)) (hm : vs.length = m) (hl : c.length = m) (h1 : (vs.all fun v => v.oneCell') = true)
    (h : HL P ops Q rest n ds E W ((b, blk vs T') :: L1) I) : HL P ops Q (⟨none, .store T x y, ty, pos, aft, none⟩ :: rest) n ds E W ((b, blk c T') :: L1) I :=
  HL.storek (k := 0) (vs := vs) (c' := vs) hs hx hy rfl (by simp [Value.cells]) hm (by omega) h1 (by simp [hl]) h
theorem HL.store_part_0 {L1 : Own} {b off m : Nat} {c c' vs : List Value} {T' : TypeId} (hs : ∀ w, (sizeOf T).run P w = .ok m w) (hx : evalO E x = some (.pointer (some ⟨b, off, none⟩))) (hy : evalO E y = some (.agg vs.toArray)) (hl : Nat.ble (off + m) c.length = true) (h1 : (vs.all fun v => v.oneCell') = true) (hm : vs.length = m)
    (hc : c.take off ++ vs ++ c.drop (off + m) = c') (h : HL P ops Q rest n ds E W ((b, blk c' T') :: L1) I) : HL P ops Q (⟨none, .store T x y, ty, pos, aft, none⟩ :: rest) n ds E W ((b, blk c T') :: L1) I :=
  HL.storek (k := 0) (vs := vs) (c' := c') hs hx hy rfl (by simp [Value.cells]) hm (by simpa using hl) h1 hc h
theorem HL.store1_1 {x0 : Nat × Obj} {L1 : Own} {b off : Nat} {c c' : List Value} {T' : TypeId} (hs : ∀ w, (sizeOf T).run P w = .ok 1 w) (hx : evalO E x = some (.pointer (some ⟨b, off, none⟩))) (hy : evalO E y = some v) (hl : Nat.blt off c.length = true) (h1 : v.oneCell' = true) (hc : c.set off v = c')
    (h : HL P ops Q rest n ds E W (x0 :: (b, blk c' T') :: L1) I) : HL P ops Q (⟨none, .store T x y, ty, pos, aft, none⟩ :: rest) n ds E W (x0 :: (b, blk c T') :: L1) I := HL.store1 (k := 1) hs hx hy rfl (by simpa using hl) h1 (by rw [hc]; exact h)
theorem HL.store1s_1 {x0 : Nat × Obj} {L1 : Own} {b off : Nat} {c c' : List Value} {T' : TypeId} (hs : ∀ w, (sizeOf T).run P w = .ok 1 w) (hx : evalO E x = some (.pointer (some ⟨b, off, none⟩))) (hy : evalO E y = some v) (hl : off < c.length) (h1 : v.oneCell' = true) (hc : c.set off v = c')
    (h : HL P ops Q rest n ds E W (x0 :: (b, blk c' T') :: L1) I) : HL P ops Q (⟨none, .store T x y, ty, pos, aft, none⟩ :: rest) n ds E W (x0 :: (b, blk c T') :: L1) I := HL.store1 (k := 1) hs hx hy rfl hl h1 (by rw [hc]; exact h)
theorem HL.store_all_1 {x0 : Nat × Obj} {L1 : Own} {b m : Nat} {c vs : List Value} {T' : TypeId} (hs : ∀ w, (sizeOf T).run P w = .ok m w) (hx : evalO E x = some (.pointer (some ⟨b, 0, none⟩))) (hy : evalO E y = some (.agg vs.toArray)) (hm : vs.length = m) (hl : c.length = m) (h1 : (vs.all fun v => v.oneCell') = true)
    (h : HL P ops Q rest n ds E W (x0 :: (b, blk vs T') :: L1) I) : HL P ops Q (⟨none, .store T x y, ty, pos, aft, none⟩ :: rest) n ds E W (x0 :: (b, blk c T') :: L1) I :=
  HL.storek (k := 1) (vs := vs) (c' := vs) hs hx hy rfl (by simp [Value.cells]) hm (by omega) h1 (by simp [hl]) h
theorem HL.store_part_1 {x0 : Nat × Obj} {L1 : Own} {b off m : Nat} {c c' vs : List Value} {T' : TypeId} (hs : ∀ w, (sizeOf T).run P w = .ok m w) (hx : evalO E x = some (.pointer (some ⟨b, off, none⟩))) (hy : evalO E y = some (.agg vs.toArray)) (hl : Nat.ble (off + m) c.length = true) (h1 : (vs.all fun v => v.oneCell') = true) (hm : vs.length = m)
    (hc : c.take off ++ vs ++ c.drop (off + m) = c') (h : HL P ops Q rest n ds E W (x0 :: (b, blk c' T') :: L1) I) : HL P ops Q (⟨none, .store T x y, ty, pos, aft, none⟩ :: rest) n ds E W (x0 :: (b, blk c T') :: L1) I :=
  HL.storek (k := 1) (vs := vs) (c' := c') hs hx hy rfl (by simp [Value.cells]) hm (by simpa using hl) h1 hc h
theorem HL.store1_2 {x0 x1 : Nat × Obj} {L1 : Own} {b off : Nat} {c c' : List Value} {T' : TypeId} (hs : ∀ w, (sizeOf T).run P w = .ok 1 w) (hx : evalO E x = some (.pointer (some ⟨b, off, none⟩))) (hy : evalO E y = some v) (hl : Nat.blt off c.length = true) (h1 : v.oneCell' = true) (hc : c.set off v = c')
    (h : HL P ops Q rest n ds E W (x0 :: x1 :: (b, blk c' T') :: L1) I) : HL P ops Q (⟨none, .store T x y, ty, pos, aft, none⟩ :: rest) n ds E W (x0 :: x1 :: (b, blk c T') :: L1) I := HL.store1 (k := 2) hs hx hy rfl (by simpa using hl) h1 (by rw [hc]; exact h)
theorem HL.store1s_2 {x0 x1 : Nat × Obj} {L1 : Own} {b off : Nat} {c c' : List Value} {T' : TypeId} (hs : ∀ w, (sizeOf T).run P w = .ok 1 w) (hx : evalO E x = some (.pointer (some ⟨b, off, none⟩))) (hy : evalO E y = some v) (hl : off < c.length) (h1 : v.oneCell' = true) (hc : c.set off v = c')
    (h : HL P ops Q rest n ds E W (x0 :: x1 :: (b, blk c' T') :: L1) I) : HL P ops Q (⟨none, .store T x y, ty, pos, aft, none⟩ :: rest) n ds E W (x0 :: x1 :: (b, blk c T') :: L1) I := HL.store1 (k := 2) hs hx hy rfl hl h1 (by rw [hc]; exact h)
theorem HL.store_all_2 {x0 x1 : Nat × Obj} {L1 : Own} {b m : Nat} {c vs : List Value} {T' : TypeId} (hs : ∀ w, (sizeOf T).run P w = .ok m w) (hx : evalO E x = some (.pointer (some ⟨b, 0, none⟩))) (hy : evalO E y = some (.agg vs.toArray)) (hm : vs.length = m) (hl : c.length = m) (h1 : (vs.all fun v => v.oneCell') = true)
    (h : HL P ops Q rest n ds E W (x0 :: x1 :: (b, blk vs T') :: L1) I) : HL P ops Q (⟨none, .store T x y, ty, pos, aft, none⟩ :: rest) n ds E W (x0 :: x1 :: (b, blk c T') :: L1) I :=
  HL.storek (k := 2) (vs := vs) (c' := vs) hs hx hy rfl (by simp [Value.cells]) hm (by omega) h1 (by simp [hl]) h
theorem HL.store_part_2 {x0 x1 : Nat × Obj} {L1 : Own} {b off m : Nat} {c c' vs : List Value} {T' : TypeId} (hs : ∀ w, (sizeOf T).run P w = .ok m w) (hx : evalO E x = some (.pointer (some ⟨b, off, none⟩))) (hy : evalO E y = some (.agg vs.toArray)) (hl : Nat.ble (off + m) c.length = true) (h1 : (vs.all fun v => v.oneCell') = true) (hm : vs.length = m)
    (hc : c.take off ++ vs ++ c.drop (off + m) = c') (h : HL P ops Q rest n ds E W (x0 :: x1 :: (b, blk c' T') :: L1) I) : HL P ops Q (⟨none, .store T x y, ty, pos, aft, none⟩ :: rest) n ds E W (x0 :: x1 :: (b, blk c T') :: L1) I :=
  HL.storek (k := 2) (vs := vs) (c' := c') hs hx hy rfl (by simp [Value.cells]) hm (by simpa using hl) h1 hc h
theorem HL.store1_3 {x0 x1 x2 : Nat × Obj} {L1 : Own} {b off : Nat} {c c' : List Value} {T' : TypeId} (hs : ∀ w, (sizeOf T).run P w = .ok 1 w) (hx : evalO E x = some (.pointer (some ⟨b, off, none⟩))) (hy : evalO E y = some v) (hl : Nat.blt off c.length = true) (h1 : v.oneCell' = true) (hc : c.set off v = c')
    (h : HL P ops Q rest n ds E W (x0 :: x1 :: x2 :: (b, blk c' T') :: L1) I) : HL P ops Q (⟨none, .store T x y, ty, pos, aft, none⟩ :: rest) n ds E W (x0 :: x1 :: x2 :: (b, blk c T') :: L1) I := HL.store1 (k := 3) hs hx hy rfl (by simpa using hl) h1 (by rw [hc]; exact h)
theorem HL.store1s_3 {x0 x1 x2 : Nat × Obj} {L1 : Own} {b off : Nat} {c c' : List Value} {T' : TypeId} (hs : ∀ w, (sizeOf T).run P w = .ok 1 w) (hx : evalO E x = some (.pointer (some ⟨b, off, none⟩))) (hy : evalO E y = some v) (hl : off < c.length) (h1 : v.oneCell' = true) (hc : c.set off v = c')
    (h : HL P ops Q rest n ds E W (x0 :: x1 :: x2 :: (b, blk c' T') :: L1) I) : HL P ops Q (⟨none, .store T x y, ty, pos, aft, none⟩ :: rest) n ds E W (x0 :: x1 :: x2 :: (b, blk c T') :: L1) I := HL.store1 (k := 3) hs hx hy rfl hl h1 (by rw [hc]; exact h)
theorem HL.store_all_3 {x0 x1 x2 : Nat × Obj} {L1 : Own} {b m : Nat} {c vs : List Value} {T' : TypeId} (hs : ∀ w, (sizeOf T).run P w = .ok m w) (hx : evalO E x = some (.pointer (some ⟨b, 0, none⟩))) (hy : evalO E y = some (.agg vs.toArray)) (hm : vs.length = m) (hl : c.length = m) (h1 : (vs.all fun v => v.oneCell') = true)
    (h : HL P ops Q rest n ds E W (x0 :: x1 :: x2 :: (b, blk vs T') :: L1) I) : HL P ops Q (⟨none, .store T x y, ty, pos, aft, none⟩ :: rest) n ds E W (x0 :: x1 :: x2 :: (b, blk c T') :: L1) I :=
  HL.storek (k := 3) (vs := vs) (c' := vs) hs hx hy rfl (by simp [Value.cells]) hm (by omega) h1 (by simp [hl]) h
theorem HL.store_part_3 {x0 x1 x2 : Nat × Obj} {L1 : Own} {b off m : Nat} {c c' vs : List Value} {T' : TypeId} (hs : ∀ w, (sizeOf T).run P w = .ok m w) (hx : evalO E x = some (.pointer (some ⟨b, off, none⟩))) (hy : evalO E y = some (.agg vs.toArray)) (hl : Nat.ble (off + m) c.length = true) (h1 : (vs.all fun v => v.oneCell') = true) (hm : vs.length = m)
    (hc : c.take off ++ vs ++ c.drop (off + m) = c') (h : HL P ops Q rest n ds E W (x0 :: x1 :: x2 :: (b, blk c' T') :: L1) I) : HL P ops Q (⟨none, .store T x y, ty, pos, aft, none⟩ :: rest) n ds E W (x0 :: x1 :: x2 :: (b, blk c T') :: L1) I :=
  HL.storek (k := 3) (vs := vs) (c' := c') hs hx hy rfl (by simp [Value.cells]) hm (by simpa using hl) h1 hc h
theorem HL.store1_4 {x0 x1 x2 x3 : Nat × Obj} {L1 : Own} {b off : Nat} {c c' : List Value} {T' : TypeId} (hs : ∀ w, (sizeOf T).run P w = .ok 1 w) (hx : evalO E x = some (.pointer (some ⟨b, off, none⟩))) (hy : evalO E y = some v) (hl : Nat.blt off c.length = true) (h1 : v.oneCell' = true) (hc : c.set off v = c')
    (h : HL P ops Q rest n ds E W (x0 :: x1 :: x2 :: x3 :: (b, blk c' T') :: L1) I) : HL P ops Q (⟨none, .store T x y, ty, pos, aft, none⟩ :: rest) n ds E W (x0 :: x1 :: x2 :: x3 :: (b, blk c T') :: L1) I := HL.store1 (k := 4) hs hx hy rfl (by simpa using hl) h1 (by rw [hc]; exact h)
theorem HL.store1s_4 {x0 x1 x2 x3 : Nat × Obj} {L1 : Own} {b off : Nat} {c c' : List Value} {T' : TypeId} (hs : ∀ w, (sizeOf T).run P w = .ok 1 w) (hx : evalO E x = some (.pointer (some ⟨b, off, none⟩))) (hy : evalO E y = some v) (hl : off < c.length) (h1 : v.oneCell' = true) (hc : c.set off v = c')
    (h : HL P ops Q rest n ds E W (x0 :: x1 :: x2 :: x3 :: (b, blk c' T') :: L1) I) : HL P ops Q (⟨none, .store T x y, ty, pos, aft, none⟩ :: rest) n ds E W (x0 :: x1 :: x2 :: x3 :: (b, blk c T') :: L1) I := HL.store1 (k := 4) hs hx hy rfl hl h1 (by rw [hc]; exact h)
theorem HL.store_all_4 {x0 x1 x2 x3 : Nat × Obj} {L1 : Own} {b m : Nat} {c vs : List Value} {T' : TypeId} (hs : ∀ w, (sizeOf T).run P w = .ok m w) (hx : evalO E x = some (.pointer (some ⟨b, 0, none⟩))) (hy : evalO E y = some (.agg vs.toArray)) (hm : vs.length = m) (hl : c.length = m) (h1 : (vs.all fun v => v.oneCell') = true)
    (h : HL P ops Q rest n ds E W (x0 :: x1 :: x2 :: x3 :: (b, blk vs T') :: L1) I) : HL P ops Q (⟨none, .store T x y, ty, pos, aft, none⟩ :: rest) n ds E W (x0 :: x1 :: x2 :: x3 :: (b, blk c T') :: L1) I :=
  HL.storek (k := 4) (vs := vs) (c' := vs) hs hx hy rfl (by simp [Value.cells]) hm (by omega) h1 (by simp [hl]) h
theorem HL.store_part_4 {x0 x1 x2 x3 : Nat × Obj} {L1 : Own} {b off m : Nat} {c c' vs : List Value} {T' : TypeId} (hs : ∀ w, (sizeOf T).run P w = .ok m w) (hx : evalO E x = some (.pointer (some ⟨b, off, none⟩))) (hy : evalO E y = some (.agg vs.toArray)) (hl : Nat.ble (off + m) c.length = true) (h1 : (vs.all fun v => v.oneCell') = true) (hm : vs.length = m)
    (hc : c.take off ++ vs ++ c.drop (off + m) = c') (h : HL P ops Q rest n ds E W (x0 :: x1 :: x2 :: x3 :: (b, blk c' T') :: L1) I) : HL P ops Q (⟨none, .store T x y, ty, pos, aft, none⟩ :: rest) n ds E W (x0 :: x1 :: x2 :: x3 :: (b, blk c T') :: L1) I :=
  HL.storek (k := 4) (vs := vs) (c' := c') hs hx hy rfl (by simp [Value.cells]) hm (by simpa using hl) h1 hc h
theorem HL.store1_5 {x0 x1 x2 x3 x4 : Nat × Obj} {L1 : Own} {b off : Nat} {c c' : List Value} {T' : TypeId} (hs : ∀ w, (sizeOf T).run P w = .ok 1 w) (hx : evalO E x = some (.pointer (some ⟨b, off, none⟩))) (hy : evalO E y = some v) (hl : Nat.blt off c.length = true) (h1 : v.oneCell' = true) (hc : c.set off v = c')
    (h : HL P ops Q rest n ds E W (x0 :: x1 :: x2 :: x3 :: x4 :: (b, blk c' T') :: L1) I) : HL P ops Q (⟨none, .store T x y, ty, pos, aft, none⟩ :: rest) n ds E W (x0 :: x1 :: x2 :: x3 :: x4 :: (b, blk c T') :: L1) I := HL.store1 (k := 5) hs hx hy rfl (by simpa using hl) h1 (by rw [hc]; exact h)
theorem HL.store1s_5 {x0 x1 x2 x3 x4 : Nat × Obj} {L1 : Own} {b off : Nat} {c c' : List Value} {T' : TypeId} (hs : ∀ w, (sizeOf T).run P w = .ok 1 w) (hx : evalO E x = some (.pointer (some ⟨b, off, none⟩))) (hy : evalO E y = some v) (hl : off < c.length) (h1 : v.oneCell' = true) (hc : c.set off v = c')
    (h : HL P ops Q rest n ds E W (x0 :: x1 :: x2 :: x3 :: x4 :: (b, blk c' T') :: L1) I) : HL P ops Q (⟨none, .store T x y, ty, pos, aft, none⟩ :: rest) n ds E W (x0 :: x1 :: x2 :: x3 :: x4 :: (b, blk c T') :: L1) I := HL.store1 (k := 5) hs hx hy rfl hl h1 (by rw [hc]; exact h)
theorem HL.store_all_5 {x0 x1 x2 x3 x4 : Nat × Obj} {L1 : Own} {b m : Nat} {c vs : List Value} {T' : TypeId} (hs : ∀ w, (sizeOf T).run P w = .ok m w) (hx : evalO E x = some (.pointer (some ⟨b, 0, none⟩))) (hy : evalO E y = some (.agg vs.toArray)) (hm : vs.length = m) (hl : c.length = m) (h1 : (vs.all fun v => v.oneCell') = true)
    (h : HL P ops Q rest n ds E W (x0 :: x1 :: x2 :: x3 :: x4 :: (b, blk vs T') :: L1) I) : HL P ops Q (⟨none, .store T x y, ty, pos, aft, none⟩ :: rest) n ds E W (x0 :: x1 :: x2 :: x3 :: x4 :: (b, blk c T') :: L1) I :=
  HL.storek (k := 5) (vs := vs) (c' := vs) hs hx hy rfl (by simp [Value.cells]) hm (by omega) h1 (by simp [hl]) h
theorem HL.store_part_5 {x0 x1 x2 x3 x4 : Nat × Obj} {L1 : Own} {b off m : Nat} {c c' vs : List Value} {T' : TypeId} (hs : ∀ w, (sizeOf T).run P w = .ok m w) (hx : evalO E x = some (.pointer (some ⟨b, off, none⟩))) (hy : evalO E y = some (.agg vs.toArray)) (hl : Nat.ble (off + m) c.length = true) (h1 : (vs.all fun v => v.oneCell') = true) (hm : vs.length = m)
    (hc : c.take off ++ vs ++ c.drop (off + m) = c') (h : HL P ops Q rest n ds E W (x0 :: x1 :: x2 :: x3 :: x4 :: (b, blk c' T') :: L1) I) : HL P ops Q (⟨none, .store T x y, ty, pos, aft, none⟩ :: rest) n ds E W (x0 :: x1 :: x2 :: x3 :: x4 :: (b, blk c T') :: L1) I :=
  HL.storek (k := 5) (vs := vs) (c' := c') hs hx hy rfl (by simp [Value.cells]) hm (by simpa using hl) h1 hc h

/-! ### calls -/
inductive evalL (E : Env) : List Operand → List Value → Prop
  | nil : evalL E [] []
  | cons {x : Operand} {v : Value} {xs : List Operand} {vs : List Value} (h : evalO E x = some v) (t : evalL E xs vs) : evalL E (x :: xs) (v :: vs)
theorem evalL_map {a : Act} (ha : Has n ds E a) : ∀ {xs : List Operand} {vs : List Value}, evalL E xs vs → xs.map a.eval = vs
  | _, _, .nil => rfl
  | _, _, .cons h t => by rw [List.map_cons, ha.eval h, evalL_map ha t]

theorem y_makeFunc2 {gu : Option (Nat × Bool)} {fn : Fn} {xs ys : List Operand} {fv cv : List Value} (hf : evalL E xs fv) (hc : evalL E ys cv) : Yields P ⟨dst, .makeFunc fn xs.toArray ys.toArray, ty, pos, aft, gu⟩ E W L I (.func fn fv.toArray cv.toArray) := fun a w _ _ ha _ => by
  simp [execOp, Instr.makeFunc, evalL_map ha hf, evalL_map ha hc]
/-- What a call does: from a world that holds L (and whatever else) and I, to one that holds L' (and the rest as it was) and more than I. -/
def SpecX (P : Program) (f : FuncId) (args : List Value) (L : Own) (I : PHeap) (post : Ending → Own → PHeap → Prop) : Prop :=
  ∀ W Lf w, Holds W (L ++ Lf) I w → Calls P f args.toArray w fun e w' => ∃ L' I', PLe I I' ∧ Holds W (L' ++ Lf) I' w' ∧ post e L' I'
/-- The ending is a return. -/
def Ret (post : Value → Own → PHeap → Prop) : Ending → Own → PHeap → Prop := fun e L I => ∃ v, e = .returned v ∧ post v L I
def Spec (P : Program) (f : FuncId) (args : List Value) (L : Own) (I : PHeap) (post : Value → Own → PHeap → Prop) : Prop := SpecX P f args L I (Ret post)
/-- A call that owns nothing before and behind. -/
def Pure (P : Program) (f : FuncId) (args : List Value) (I : PHeap) (post : Value → PHeap → Prop) : Prop := Spec P f args [] I (fun v L' I' => L' = [] ∧ post v I')

theorem SpecX.mono {f : FuncId} {args : List Value} {post post' : Ending → Own → PHeap → Prop} (h : SpecX P f args L I post) (hp : ∀ e L' I', PLe I I' → post e L' I' → post' e L' I') : SpecX P f args L I post' :=
  fun W Lf w hw => (h W Lf w hw).mono fun _ _ ⟨L', I', hi, hh, hq⟩ => ⟨L', I', hi, hh, hp _ _ _ hi hq⟩
theorem Spec.mono {f : FuncId} {args : List Value} {post post' : Value → Own → PHeap → Prop} (h : Spec P f args L I post) (hp : ∀ v L' I', PLe I I' → post v L' I' → post' v L' I') : Spec P f args L I post' :=
  SpecX.mono h fun _ _ _ hi ⟨v, he, hq⟩ => ⟨v, he, hp _ _ _ hi hq⟩
theorem Pure.mono {f : FuncId} {args : List Value} {post post' : Value → PHeap → Prop} (h : Pure P f args I post) (hp : ∀ v I', PLe I I' → post v I' → post' v I') : Pure P f args I post' :=
  Spec.mono h fun _ _ _ hi ⟨h1, h2⟩ => ⟨h1, hp _ _ hi h2⟩
/-- A call that owns L goes through with more. -/
theorem SpecX.frame {f : FuncId} {args : List Value} {post : Ending → Own → PHeap → Prop} (Lx : Own) (h : SpecX P f args L I post) : SpecX P f args (L ++ Lx) I (fun e L' I' => ∃ L1, L' = L1 ++ Lx ∧ post e L1 I') :=
  fun W Lf w hw => (h W (Lx ++ Lf) w (by rw [← List.append_assoc]; exact hw)).mono fun _ _ ⟨L', I', hi, hh, hq⟩ => ⟨L' ++ Lx, I', hi, by rw [List.append_assoc]; exact hh, L', rfl, hq⟩

theorem run_call_func {ρ : Operand → Value} {f : FuncId} {xs : List Operand} {as fv cv : List Value} {pf : Operand} {tys : Array TypeId} (hf : ρ pf = .func (.func f) fv.toArray cv.toArray) (ha : xs.map ρ = as)
    (hc : ∀ args w, (callFunc f args).run P w = .ok (.enter f args) w) {g : Option (Nat × Bool)} {aft : Array Edge} (w : World) :
    (execOp ρ ⟨dst, .call ⟨.value pf, xs.toArray, tys⟩, ty, pos, aft, g⟩).run P w = .ok (.enter f (fv ++ as ++ cv).toArray) w := by
  simp only [execOp, resolve, List.map_toArray, ha, hf, Deferred.ofValue]
  simp [invoke, hc]

/-- A call, whatever its ending, of a function value. -/
theorem HL.callX {f : FuncId} {xs : List Operand} {as fv cv : List Value} {pf : Operand} {tys : Array TypeId} {Lp Lf : Own} {post : Ending → Own → PHeap → Prop} (hc : ∀ args w, (callFunc f args).run P w = .ok (.enter f args) w)
    (hf : evalO E pf = some (.func (.func f) fv.toArray cv.toArray)) (ha : evalL E xs as) (hp : L.Perm (Lp ++ Lf)) (hd : Nat.blt d n = true) (hs : SpecX P f (fv ++ as ++ cv) Lp I post)
    (hret : ∀ v L' I', PLe I I' → post (.returned v) L' I' → HL P ops Q rest n ds ((d, v) :: E) W (L' ++ Lf) I')
    (hpan : ∀ ch L' I', PLe I I' → post (.panicked ch) L' I' → HQ Q (.panic ch) n ds E W (L' ++ Lf) I')
    (hout : ∀ L' I', PLe I I' → ¬ post .outgrown L' I') :
    HL P ops Q (⟨some d, .call ⟨.value pf, xs.toArray, tys⟩, ty, pos, aft, none⟩ :: rest) n ds E W L I := by
  intro a w ha' hw
  refine wpList_plain rfl fun K hK => ?_
  unfold Oper.wp
  rw [run_call_func (ha'.eval hf) (evalL_map ha' ha) hc, Oper.upon_enter]
  refine (hs W Lf w (hw.perm hp)).mono fun e w' ⟨L', I', hi, hh, hq⟩ => ?_
  cases e with
  | returned v => exact hK _ _ (hret v L' I' hi hq _ _ (ha'.put (by simpa using hd)) hh)
  | panicked ch => exact hpan ch L' I' hi hq _ _ ha' hh
  | outgrown => exact absurd hq (hout L' I' hi)
/-- A call of a function by its name, whatever its ending. -/
theorem HL.callX0 {f : FuncId} {xs : List Operand} {as : List Value} {tys : Array TypeId} {Lp Lf : Own} {post : Ending → Own → PHeap → Prop} (hc : ∀ args w, (callFunc f args).run P w = .ok (.enter f args) w)
    (ha : evalL E xs as) (hp : L.Perm (Lp ++ Lf)) (hd : Nat.blt d n = true) (hs : SpecX P f as Lp I post)
    (hret : ∀ v L' I', PLe I I' → post (.returned v) L' I' → HL P ops Q rest n ds ((d, v) :: E) W (L' ++ Lf) I')
    (hpan : ∀ ch L' I', PLe I I' → post (.panicked ch) L' I' → HQ Q (.panic ch) n ds E W (L' ++ Lf) I')
    (hout : ∀ L' I', PLe I I' → ¬ post .outgrown L' I') :
    HL P ops Q (⟨some d, .call ⟨.value (.func f), xs.toArray, tys⟩, ty, pos, aft, none⟩ :: rest) n ds E W L I :=
  HL.callX (fv := []) (cv := []) hc rfl ha hp hd (by simpa using hs) hret hpan hout
/-- A call that returns. -/
theorem HL.call {f : FuncId} {xs : List Operand} {as : List Value} {tys : Array TypeId} {Lp Lf : Own} {post : Value → Own → PHeap → Prop} (hc : ∀ args w, (callFunc f args).run P w = .ok (.enter f args) w)
    (ha : evalL E xs as) (hp : L.Perm (Lp ++ Lf)) (hd : Nat.blt d n = true) (hs : Spec P f as Lp I post)
    (hret : ∀ v L' I', PLe I I' → post v L' I' → HL P ops Q rest n ds ((d, v) :: E) W (L' ++ Lf) I') :
    HL P ops Q (⟨some d, .call ⟨.value (.func f), xs.toArray, tys⟩, ty, pos, aft, none⟩ :: rest) n ds E W L I :=
  HL.callX0 hc ha hp hd hs (fun v L' I' hi ⟨_, e, hq⟩ => by cases e; exact hret v L' I' hi hq) (fun _ _ _ _ ⟨_, e, _⟩ => by cases e) (fun _ _ _ ⟨_, e, _⟩ => by cases e)
/-- A call that returns and leaves what is owned as it is. -/
theorem HL.callP {f : FuncId} {xs : List Operand} {as : List Value} {tys : Array TypeId} {post : Value → PHeap → Prop} (hc : ∀ args w, (callFunc f args).run P w = .ok (.enter f args) w)
    (ha : evalL E xs as) (hd : Nat.blt d n = true) (hs : Pure P f as I post)
    (hret : ∀ v I', PLe I I' → post v I' → HL P ops Q rest n ds ((d, v) :: E) W L I') :
    HL P ops Q (⟨some d, .call ⟨.value (.func f), xs.toArray, tys⟩, ty, pos, aft, none⟩ :: rest) n ds E W L I :=
  HL.call (Lp := []) (Lf := L) hc ha (List.Perm.refl _) hd hs fun v L' I' hi ⟨h1, h2⟩ => by subst h1; exact hret v I' hi h2
/-- A call of a function value. -/
theorem HL.callC {f : FuncId} {xs : List Operand} {as fv cv all : List Value} {pf : Operand} {tys : Array TypeId} {Lp Lf : Own} {post : Value → Own → PHeap → Prop} (hc : ∀ args w, (callFunc f args).run P w = .ok (.enter f args) w)
    (hf : evalO E pf = some (.func (.func f) fv.toArray cv.toArray)) (ha : evalL E xs as) (hall : fv ++ as ++ cv = all) (hp : L.Perm (Lp ++ Lf)) (hd : Nat.blt d n = true) (hs : Spec P f all Lp I post)
    (hret : ∀ v L' I', PLe I I' → post v L' I' → HL P ops Q rest n ds ((d, v) :: E) W (L' ++ Lf) I') :
    HL P ops Q (⟨some d, .call ⟨.value pf, xs.toArray, tys⟩, ty, pos, aft, none⟩ :: rest) n ds E W L I :=
  HL.callX (post := Ret post) hc hf ha hp hd (by rw [hall]; exact hs) (fun v L' I' hi ⟨_, e, hq⟩ => by cases e; exact hret v L' I' hi hq) (fun _ _ _ _ ⟨_, e, _⟩ => by cases e) (fun _ _ _ ⟨_, e, _⟩ => by cases e)
theorem HL.callCP {f : FuncId} {xs : List Operand} {as fv cv all : List Value} {pf : Operand} {tys : Array TypeId} {post : Value → PHeap → Prop} (hc : ∀ args w, (callFunc f args).run P w = .ok (.enter f args) w)
    (hf : evalO E pf = some (.func (.func f) fv.toArray cv.toArray)) (ha : evalL E xs as) (hall : fv ++ as ++ cv = all) (hd : Nat.blt d n = true) (hs : Pure P f all I post)
    (hret : ∀ v I', PLe I I' → post v I' → HL P ops Q rest n ds ((d, v) :: E) W L I') :
    HL P ops Q (⟨some d, .call ⟨.value pf, xs.toArray, tys⟩, ty, pos, aft, none⟩ :: rest) n ds E W L I :=
  HL.callC (Lp := []) (Lf := L) hc hf ha hall (List.Perm.refl _) hd hs fun v L' I' hi ⟨h1, h2⟩ => by subst h1; exact hret v I' hi h2

/-! ### a function's body -/
def envAt (k : Nat) : List Value → Env
  | [] => []
  | v :: vs => (k, v) :: envAt (k + 1) vs
theorem look_envAt : ∀ (vs : List Value) (k t : Nat) (v : Value), look (envAt k vs) t = some v → k ≤ t ∧ vs[t - k]? = some v
  | [], _, _, _, h => by cases h
  | u :: vs, k, t, v, h => by
    rcases look_cons h with ⟨rfl, rfl⟩ | ⟨hne, hl⟩
    · exact ⟨Nat.le_refl _, by simp⟩
    · obtain ⟨h1, h2⟩ := look_envAt vs (k + 1) t v hl
      refine ⟨by omega, ?_⟩
      have : t - k = (t - (k + 1)) + 1 := by omega
      rw [this]; simpa using h2
abbrev envOf (args : List Value) : Env := envAt 0 args
def bodyQ (P : Program) (fn : Func) (W : World) (Lf : Own) (I : PHeap) (post : Ending → Own → PHeap → Prop) : Exit → Act → World → Prop :=
  bodyPost P fn fun e w' => ∃ L' I', PLe I I' ∧ Holds W (L' ++ Lf) I' w' ∧ post e L' I'
theorem SpecX.of_body {f : FuncId} {fn : Func} {c : Code} {m : Nat} {args : List Value} {post : Ending → Own → PHeap → Prop} (hf : P.funcs[f]? = some fn) (hb : fn.body = some c) (hn : fn.ntmps = m) (hm : Nat.ble args.length m = true)
    (h : ∀ W Lf, HC P (bodyQ P fn W Lf I post) c m [] (envOf args) W (L ++ Lf) I) : SpecX P f args L I post := by
  intro W Lf w hw
  refine calls_of_wp hf hb (h W Lf _ w ⟨rfl, ?_, fun t v hv => ?_⟩ hw)
  · have : args.length ≤ m := by simpa using hm
    simp [hn]; omega
  · obtain ⟨_, h2⟩ := look_envAt args 0 t v hv
    simp only [Nat.sub_zero] at h2
    have hlt : t < args.length := by rcases Nat.lt_or_ge t args.length with h' | h'; exact h'; rw [List.getElem?_eq_none h'] at h2; cases h2
    rw [Array.getElem?_append_left (by simpa using hlt)]; simpa using h2
theorem Spec.of_body {f : FuncId} {fn : Func} {c : Code} {m : Nat} {args : List Value} {post : Value → Own → PHeap → Prop} (hf : P.funcs[f]? = some fn) (hb : fn.body = some c) (hn : fn.ntmps = m) (hm : Nat.ble args.length m = true)
    (h : ∀ W Lf, HC P (bodyQ P fn W Lf I (Ret post)) c m [] (envOf args) W (L ++ Lf) I) : Spec P f args L I post := SpecX.of_body hf hb hn hm h
theorem Pure.of_body {f : FuncId} {fn : Func} {c : Code} {m : Nat} {args : List Value} {post : Value → PHeap → Prop} (hf : P.funcs[f]? = some fn) (hb : fn.body = some c) (hn : fn.ntmps = m) (hm : Nat.ble args.length m = true)
    (h : ∀ W Lf, HC P (bodyQ P fn W Lf I (Ret fun v L' I' => L' = [] ∧ post v I')) c m [] (envOf args) W Lf I) : Pure P f args I post := SpecX.of_body (L := []) hf hb hn hm h

/-- The results are read. -/
def Res (P : Program) (fn : Func) (E : Env) (W : World) (L : Own) (I : PHeap) (v : Value) : Prop := ∀ a w n ds, Has n ds E a → Holds W L I w → (results fn a.tmps).run P w = .ok v w
theorem Res.zero {fn : Func} (h : fn.results = #[]) : Res P fn E W L I (.tuple #[]) := fun _ _ _ _ _ _ => results_none h _ _ _
theorem Has.getD {a : Act} (ha : Has n ds E a) {t : Tmp} (h : look E t = some v) : a.tmps.getD t undef = v := by
  simp only [Array.getD_eq_getD_getElem?, ha.at_ t v h, Option.getD_some]
theorem Res.one {fn : Func} {t : Tmp} (h : fn.results = #[.tmp t]) (hv : look E t = some v) : Res P fn E W L I v := fun a w _ _ ha _ => by
  rw [results_tmp h, ha.getD hv]
theorem Res.two {fn : Func} {t s : Tmp} (h : fn.results = #[.tmp t, .tmp s]) (hv : look E t = some v) (hu : look E s = some u) : Res P fn E W L I (.tuple #[v, u]) := fun a w _ _ ha _ => by
  rw [results_tmp2 h, ha.getD hv, ha.getD hu]
theorem Res.three {fn : Func} {t s r : Tmp} (h : fn.results = #[.tmp t, .tmp s, .tmp r]) (hv : look E t = some v) (hu : look E s = some u) (hz : look E r = some z) : Res P fn E W L I (.tuple #[v, u, z]) := fun a w _ _ ha _ => by
  simp [results, h, ha.at_ _ _ hv, ha.at_ _ _ hu, ha.at_ _ _ hz]
/-- A result that lies in a variable of the call's own. -/
theorem Res.cell {fn : Func} {t k b m : Nat} {c : List Value} (h : fn.results = #[.cell t T]) (hag : ∀ w, (isAgg T).run P w = .ok true w) (hs : ∀ w, (sizeOf T).run P w = .ok m w) (hv : look E t = some (.pointer (some ⟨b, 0, none⟩))) (hk : L[k]? = some (b, blk c S)) (hm : c.length = m) :
    Res P fn E W L I (.agg c.toArray) := fun a w _ _ ha hw => by
  have hl := run_loadVark (P := P) (w := w) (b := b) (off := 0) hag hs hm (fun j v hv => by rw [Nat.zero_add]; exact cellL hw hk hv)
  simp [results, h, ha.at_ _ _ hv, asAddr, hl]
theorem Res.cell_tmp {fn : Func} {t k b m s : Nat} {c : List Value} (h : fn.results = #[.cell t T, .tmp s]) (hag : ∀ w, (isAgg T).run P w = .ok true w) (hs : ∀ w, (sizeOf T).run P w = .ok m w) (hv : look E t = some (.pointer (some ⟨b, 0, none⟩))) (hk : L[k]? = some (b, blk c S)) (hm : c.length = m) (hu : look E s = some u) :
    Res P fn E W L I (.tuple #[.agg c.toArray, u]) := fun a w _ _ ha hw => by
  have hl := run_loadVark (P := P) (w := w) (b := b) (off := 0) hag hs hm (fun j v hv => by rw [Nat.zero_add]; exact cellL hw hk hv)
  simp [results, h, ha.at_ _ _ hv, ha.at_ _ _ hu, asAddr, hl]

theorem HQ.done {fn : Func} {Lf L' : Own} {I' : PHeap} {post : Ending → Own → PHeap → Prop} (hr : Res P fn E W (L' ++ Lf) I' v) (hi : PLe I I') (hp : post (.returned v) L' I') : HQ (bodyQ P fn W Lf I post) .ret n [] E W (L' ++ Lf) I' :=
  fun a w ha hw => ⟨ha.defers, v, hr a w n [] ha hw, L', I', hi, hw, hp⟩
theorem HQ.done_end {fn : Func} {Lf L' : Own} {I' : PHeap} {post : Ending → Own → PHeap → Prop} (hr : Res P fn E W (L' ++ Lf) I' v) (hi : PLe I I') (hp : post (.returned v) L' I') : HQ (bodyQ P fn W Lf I post) .normal n [] E W (L' ++ Lf) I' :=
  fun a w ha hw => ⟨ha.defers, v, hr a w n [] ha hw, L', I', hi, hw, hp⟩
theorem HQ.done_panic {fn : Func} {Lf L' : Own} {I' : PHeap} {post : Ending → Own → PHeap → Prop} {ch : List PanicEntry} (hi : PLe I I') (hp : post (.panicked ch) L' I') : HQ (bodyQ P fn W Lf I post) (.panic ch) n [] E W (L' ++ Lf) I' :=
  fun _ _ ha hw => ⟨ha.defers, L', I', hi, hw, hp⟩
/-- What is read is kept while blocks are dropped. -/
theorem HQ.doneP {fn : Func} {Lf Lx : Own} {I' : PHeap} {post : Value → PHeap → Prop} (hr : Res P fn E W Lx I' v) (hL : Lf.Sublist Lx) (hi : PLe I I') (hp : post v I') : HQ (bodyQ P fn W Lf I (Ret fun v L' I' => L' = [] ∧ post v I')) .ret n [] E W Lx I' :=
  fun a w ha hw => ⟨ha.defers, v, hr a w n [] ha hw, [], I', hi, hw.sublist hL, v, rfl, rfl, hp⟩
theorem HQ.doneP_end {fn : Func} {Lf Lx : Own} {I' : PHeap} {post : Value → PHeap → Prop} (hr : Res P fn E W Lx I' v) (hL : Lf.Sublist Lx) (hi : PLe I I') (hp : post v I') : HQ (bodyQ P fn W Lf I (Ret fun v L' I' => L' = [] ∧ post v I')) .normal n [] E W Lx I' :=
  fun a w ha hw => ⟨ha.defers, v, hr a w n [] ha hw, [], I', hi, hw.sublist hL, v, rfl, rfl, hp⟩

theorem HQ.doneS {fn : Func} {Lf L' Lx : Own} {I' : PHeap} {post : Value → Own → PHeap → Prop} (hr : Res P fn E W Lx I' v) (hL : (L' ++ Lf).Sublist Lx) (hi : PLe I I') (hp : post v L' I') : HQ (bodyQ P fn W Lf I (Ret post)) .ret n [] E W Lx I' :=
  fun a w ha hw => ⟨ha.defers, v, hr a w n [] ha hw, L', I', hi, hw.sublist hL, v, rfl, hp⟩
theorem HQ.doneS_end {fn : Func} {Lf L' Lx : Own} {I' : PHeap} {post : Value → Own → PHeap → Prop} (hr : Res P fn E W Lx I' v) (hL : (L' ++ Lf).Sublist Lx) (hi : PLe I I') (hp : post v L' I') : HQ (bodyQ P fn W Lf I (Ret post)) .normal n [] E W Lx I' :=
  fun a w ha hw => ⟨ha.defers, v, hr a w n [] ha hw, L', I', hi, hw.sublist hL, v, rfl, hp⟩
theorem HQ.doneX {fn : Func} {Lf L' Lx : Own} {I' : PHeap} {post : Ending → Own → PHeap → Prop} (hr : Res P fn E W Lx I' v) (hL : (L' ++ Lf).Sublist Lx) (hi : PLe I I') (hp : post (.returned v) L' I') : HQ (bodyQ P fn W Lf I post) .ret n [] E W Lx I' :=
  fun a w ha hw => ⟨ha.defers, v, hr a w n [] ha hw, L', I', hi, hw.sublist hL, hp⟩
theorem HQ.doneX_end {fn : Func} {Lf L' Lx : Own} {I' : PHeap} {post : Ending → Own → PHeap → Prop} (hr : Res P fn E W Lx I' v) (hL : (L' ++ Lf).Sublist Lx) (hi : PLe I I') (hp : post (.returned v) L' I') : HQ (bodyQ P fn W Lf I post) .normal n [] E W Lx I' :=
  fun a w ha hw => ⟨ha.defers, v, hr a w n [] ha hw, L', I', hi, hw.sublist hL, hp⟩
theorem HQ.doneX_panic {fn : Func} {Lf L' Lx : Own} {I' : PHeap} {post : Ending → Own → PHeap → Prop} {ch : List PanicEntry} (hL : (L' ++ Lf).Sublist Lx) (hi : PLe I I') (hp : post (.panicked ch) L' I') : HQ (bodyQ P fn W Lf I post) (.panic ch) n [] E W Lx I' :=
  fun _ _ ha hw => ⟨ha.defers, L', I', hi, hw.sublist hL, hp⟩

end
end Go.Rm
