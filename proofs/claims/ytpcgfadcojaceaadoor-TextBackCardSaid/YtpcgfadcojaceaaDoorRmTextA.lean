/- What this text holds: contracts of the small methods of text.reader (take, must, add, bad), printed by a program of mine (wip/tools/walk.py) from plans of mine. -/
import Derived.Test.YtpcgfadcojaceaaDoorRmStrconv
set_option linter.unusedVariables false
set_option linter.unusedSimpArgs false
set_option linter.unusedSectionVars false
namespace Go.Rm
open Go Go.Proofs
set_option maxRecDepth 100000

/-- The reader at place p of s. -/
abbrev rdr (s : ByteArray) (p : Nat) (v : Value) : Obj := blk [.string s, .int .i64 (p : Int), v] 44
/-- The panic of package text. -/
abbrev faultOf (e : Int) : List PanicEntry := [{ v := .iface 40 (.agg #[.int .i64 e]), recovered := false }]


theorem text_take (I : PHeap) (s : ByteArray) (hs : s.size ≤ 400) (p : Nat) (rest : List UInt8) (hp : Pos s p rest) (r : Nat) (v : Value) (c : Nat) : Spec Tryd.prog 24 [.pointer (some ⟨r, 0, none⟩), .int .u8 (c : Int)] [(r, rdr s p v)] I
    (fun u L' I' => u = .bool (takes rest c) ∧ L' = [(r, rdr s (p + (takes rest c).toNat) v)] ∧ I = I') := by
  refine Spec.of_body Tryd.func24 rfl Tryd.ntmps24 rfl (fun W Lf => ?_)
  refine HC.seq ?_
  refine HC.region ?_
  refine HL.quiet (y_assign rfl) rfl ?_
  refine HL.nil ?_
  refine HQ.next ?_
  refine HC.sub (E' := [(0, _), (1, _)]) ⟨rfl, rfl, trivial⟩ ?_
  refine HC.seq ?_
  refine HC.seq ?_
  refine HC.region_still Tryd.mixed (by kernel_rfl) ?_
  refine HS.quiet (y_move rfl) rfl ?_
  refine HS.quiet (y_nilCheck rfl) rfl ?_
  refine HS.quiet (y_fieldAddr (o := 1) (t := 3) Tryd.underlying44 rfl Tryd.sizeOf3 (by decide) rfl) rfl ?_
  refine HS.quiet (y_loadL (k := 0) Tryd.isAgg3 rfl rfl rfl) rfl ?_
  refine HS.quiet (y_move rfl) rfl ?_
  refine HS.quiet (y_nilCheck rfl) rfl ?_
  refine HS.quiet (y_fieldAddr (o := 0) (t := 9) Tryd.underlying44 rfl Tryd.sizeOf9 (by decide) rfl) rfl ?_
  refine HS.quiet (y_loadL (k := 0) Tryd.isAgg9 rfl rfl rfl) rfl ?_
  refine HS.quiet (y_len_str Tryd.underlying9 rfl) rfl ?_
  refine HS.quiet (y_lss rfl rfl) rfl ?_
  refine HS.quiet (y_move rfl) rfl ?_
  refine HS.split (t := 15) rfl (fun hg1 => ?_) (fun hg1 => ?_)
  · try simp only [Bool.and_eq_true, Bool.and_eq_false_iff, Bool.or_eq_true, Bool.or_eq_false_iff, decide_eq_true_eq, decide_eq_false_iff_not, Int.not_lt, Int.not_le, beq_iff_eq, bne_iff_ne, ne_eq, Decidable.not_not, beq_eq_false_iff_ne, bne_eq_false_iff_eq, Bool.not_eq_true', Bool.not_eq_false'] at hg1
    refine HS.quiet_guard (t := 15) rfl rfl (y_move rfl) rfl ?_
    refine HS.quiet_guard (t := 15) rfl rfl (y_nilCheck rfl) rfl ?_
    refine HS.quiet_guard (t := 15) rfl rfl (y_fieldAddr (o := 0) (t := 9) Tryd.underlying44 rfl Tryd.sizeOf9 (by decide) rfl) rfl ?_
    refine HS.quiet_guard (t := 15) rfl rfl (y_loadL (k := 0) Tryd.isAgg9 rfl rfl rfl) rfl ?_
    refine HS.quiet_guard (t := 15) rfl rfl (y_move rfl) rfl ?_
    refine HS.quiet_guard (t := 15) rfl rfl (y_nilCheck rfl) rfl ?_
    refine HS.quiet_guard (t := 15) rfl rfl (y_fieldAddr (o := 1) (t := 3) Tryd.underlying44 rfl Tryd.sizeOf3 (by decide) rfl) rfl ?_
    refine HS.quiet_guard (t := 15) rfl rfl (y_loadL (k := 0) Tryd.isAgg3 rfl rfl rfl) rfl ?_
    have h : p < s.size := by omega
    refine HS.quiet_guard (t := 15) rfl rfl (y_index_str (j := p) Tryd.underlying9 rfl rfl (by first | rfl | omega) h) rfl ?_
    refine HS.quiet_guard (t := 15) rfl rfl (y_move rfl) rfl ?_
    refine HS.quiet_guard (t := 15) rfl rfl (y_eql rfl rfl) rfl ?_
    refine HS.quiet (y_pick_true rfl rfl) rfl ?_
    refine HS.nil ?_
    refine HQ.next ?_
    refine HC.sub (E' := [(0, _), (27, _)]) ⟨rfl, rfl, trivial⟩ ?_
    refine HC.cond rfl (fun hc0 => ?_) (fun hc0 => ?_)
    · try simp only [Bool.and_eq_true, Bool.and_eq_false_iff, Bool.or_eq_true, Bool.or_eq_false_iff, decide_eq_true_eq, decide_eq_false_iff_not, Int.not_lt, Int.not_le, beq_iff_eq, bne_iff_ne, ne_eq, Decidable.not_not, beq_eq_false_iff_ne, bne_eq_false_iff_eq, Bool.not_eq_true', Bool.not_eq_false'] at hc0
      refine HC.seq ?_
      refine HC.region ?_
      refine HL.quiet (y_move rfl) rfl ?_
      refine HL.quiet (y_nilCheck rfl) rfl ?_
      refine HL.quiet (y_fieldAddr (o := 1) (t := 3) Tryd.underlying44 rfl Tryd.sizeOf3 (by decide) rfl) rfl ?_
      refine HL.quiet (y_loadL (k := 0) Tryd.isAgg3 rfl rfl rfl) rfl ?_
      have hlt := hp.le
      refine HL.quiet (y_add rfl rfl (by omega)) rfl ?_
      refine HL.quiet (y_nilCheck rfl) rfl ?_
      refine HL.quiet (y_fieldAddr (o := 1) (t := 3) Tryd.underlying44 rfl Tryd.sizeOf3 (by decide) rfl) rfl ?_
      refine HL.store1_0 (c' := [.string s, .int .i64 ((p : Int) + 1), v]) Tryd.sizeOf3 rfl rfl rfl rfl rfl ?_
      refine HL.nil ?_
      refine HQ.next ?_
      refine HC.sub (E' := []) trivial ?_
      refine HC.seq ?_
      refine HC.region ?_
      refine HL.quiet (y_assign rfl) rfl ?_
      refine HL.nil ?_
      refine HQ.next ?_
      refine HC.ret ?_
      refine HQ.then_ret ?_
      refine HQ.doneS (L' := (r, blk [.string s, .int .i64 ((p : Int) + 1), v] 44) :: []) (Res.one Tryd.results24 rfl) (List.Sublist.cons_cons _ (List.Sublist.refl _)) (PLe.refl _) ?_
      obtain ⟨r2, rfl, hp2⟩ := hp.get h
      have ht : takes (s[p]'h :: r2) c = true := by simp only [takes, beq_iff_eq]; omega
      rw [ht]
      exact ⟨rfl, rfl, rfl⟩
    · try simp only [Bool.and_eq_true, Bool.and_eq_false_iff, Bool.or_eq_true, Bool.or_eq_false_iff, decide_eq_true_eq, decide_eq_false_iff_not, Int.not_lt, Int.not_le, beq_iff_eq, bne_iff_ne, ne_eq, Decidable.not_not, beq_eq_false_iff_ne, bne_eq_false_iff_eq, Bool.not_eq_true', Bool.not_eq_false'] at hc0
      refine HC.skip ?_
      refine HQ.next ?_
      refine HC.sub (E' := []) trivial ?_
      refine HC.seq ?_
      refine HC.region ?_
      refine HL.quiet (y_assign rfl) rfl ?_
      refine HL.nil ?_
      refine HQ.next ?_
      refine HC.ret ?_
      refine HQ.doneS (L' := (r, blk [.string s, .int .i64 (p : Int), v] 44) :: []) (Res.one Tryd.results24 rfl) (List.Sublist.cons_cons _ (List.Sublist.refl _)) (PLe.refl _) ?_
      obtain ⟨r2, rfl, hp2⟩ := hp.get h
      have ht : takes (s[p]'h :: r2) c = false := by simp only [takes, beq_eq_false_iff_ne, ne_eq]; omega
      rw [ht]
      exact ⟨rfl, rfl, rfl⟩
  · try simp only [Bool.and_eq_true, Bool.and_eq_false_iff, Bool.or_eq_true, Bool.or_eq_false_iff, decide_eq_true_eq, decide_eq_false_iff_not, Int.not_lt, Int.not_le, beq_iff_eq, bne_iff_ne, ne_eq, Decidable.not_not, beq_eq_false_iff_ne, bne_eq_false_iff_eq, Bool.not_eq_true', Bool.not_eq_false'] at hg1
    refine HS.pass (t := 15) rfl rfl rfl rfl ?_
    refine HS.pass (t := 15) rfl rfl rfl rfl ?_
    refine HS.pass (t := 15) rfl rfl rfl rfl ?_
    refine HS.pass (t := 15) rfl rfl rfl rfl ?_
    refine HS.pass (t := 15) rfl rfl rfl rfl ?_
    refine HS.pass (t := 15) rfl rfl rfl rfl ?_
    refine HS.pass (t := 15) rfl rfl rfl rfl ?_
    refine HS.pass (t := 15) rfl rfl rfl rfl ?_
    refine HS.pass (t := 15) rfl rfl rfl rfl ?_
    refine HS.pass (t := 15) rfl rfl rfl rfl ?_
    refine HS.pass (t := 15) rfl rfl rfl rfl ?_
    refine HS.quiet (y_pick_false rfl rfl) rfl ?_
    refine HS.nil ?_
    refine HQ.next ?_
    refine HC.sub (E' := [(0, _), (27, _)]) ⟨rfl, rfl, trivial⟩ ?_
    refine HC.cond_false rfl ?_
    refine HC.skip ?_
    refine HQ.next ?_
    refine HC.sub (E' := []) trivial ?_
    refine HC.seq ?_
    refine HC.region ?_
    refine HL.quiet (y_assign rfl) rfl ?_
    refine HL.nil ?_
    refine HQ.next ?_
    refine HC.ret ?_
    refine HQ.doneS (L' := (r, blk [.string s, .int .i64 (p : Int), v] 44) :: []) (Res.one Tryd.results24 rfl) (List.Sublist.cons_cons _ (List.Sublist.refl _)) (PLe.refl _) ?_
    have hr := hp.ge (by omega)
    subst hr
    exact ⟨rfl, rfl, rfl⟩

theorem text_bad (I : PHeap) (e : Int) : SpecX Tryd.prog 35 [.int .i64 e] [] I (fun en L' I' => en = .panicked (faultOf e) ∧ L' = [] ∧ I = I') := by
  refine SpecX.of_body Tryd.func35 rfl Tryd.ntmps35 rfl (fun W Lf => ?_)
  refine HC.region ?_
  refine HL.quiet (y_move rfl) rfl ?_
  refine HL.quiet (y_build (vs := [(0, .int .i64 e)]) (v := .agg #[.int .i64 e]) (.cons rfl (.nil)) (fun w => by kernel_rfl)) rfl ?_
  refine HL.quiet (y_makeIface Tryd.underlying40 rfl rfl) rfl ?_
  refine HL.panic rfl ?_
  exact HQ.doneX_panic (L' := []) (List.Sublist.refl _) (PLe.refl _) ⟨rfl, rfl, rfl⟩

theorem text_must (I : PHeap) (s : ByteArray) (hs : s.size ≤ 400) (p : Nat) (rest : List UInt8) (hp : Pos s p rest) (r : Nat) (v : Value) (c : Nat) : SpecX Tryd.prog 27 [.pointer (some ⟨r, 0, none⟩), .int .u8 (c : Int)] [(r, rdr s p v)] I
    (fun e L' I' => (e = .returned (.tuple #[]) ∧ takes rest c = true ∧ L' = [(r, rdr s (p + 1) v)] ∧ I = I') ∨ (e = .panicked (faultOf 9) ∧ takes rest c = false ∧ (∃ q, L' = [(r, rdr s q v)]) ∧ I = I')) := by
  refine SpecX.of_body Tryd.func27 rfl Tryd.ntmps27 rfl (fun W Lf => ?_)
  refine HC.seq ?_
  refine HC.region ?_
  refine HL.quiet (y_move rfl) rfl ?_
  refine HL.quiet (y_move rfl) rfl ?_
  refine HL.call (Lp := [(r, rdr s _ _)]) Tryd.call24 (.cons rfl (.cons rfl (.nil))) (List.Perm.refl _) rfl (text_take _ s hs _ rest hp r _ c) ?_
  rintro _ _ _ _ ⟨rfl, rfl, rfl⟩
  refine HL.quiet (y_not rfl) rfl ?_
  refine HL.nil ?_
  refine HQ.next ?_
  refine HC.sub (E' := [(7, _)]) ⟨rfl, trivial⟩ ?_
  refine HC.cond rfl (fun hc0 => ?_) (fun hc0 => ?_)
  · try simp only [Bool.and_eq_true, Bool.and_eq_false_iff, Bool.or_eq_true, Bool.or_eq_false_iff, decide_eq_true_eq, decide_eq_false_iff_not, Int.not_lt, Int.not_le, beq_iff_eq, bne_iff_ne, ne_eq, Decidable.not_not, beq_eq_false_iff_ne, bne_eq_false_iff_eq, Bool.not_eq_true', Bool.not_eq_false'] at hc0
    refine HC.region ?_
    refine HL.callX0 (Lp := []) Tryd.call35 (.cons rfl (.nil)) (List.Perm.refl _) rfl (text_bad _ 9) ?_ ?_ ?_
    rotate_left
    · rintro _ _ _ _ ⟨h, rfl, rfl⟩; cases h
      exact HQ.doneX_panic (L' := [(r, rdr s _ v)]) (List.Sublist.refl _) (PLe.refl _) (.inr ⟨rfl, by simpa using hc0, ⟨_, rfl⟩, rfl⟩)
    · rintro _ _ _ ⟨h, _⟩; cases h
    rintro _ _ _ _ ⟨h, _⟩; cases h
  · try simp only [Bool.and_eq_true, Bool.and_eq_false_iff, Bool.or_eq_true, Bool.or_eq_false_iff, decide_eq_true_eq, decide_eq_false_iff_not, Int.not_lt, Int.not_le, beq_iff_eq, bne_iff_ne, ne_eq, Decidable.not_not, beq_eq_false_iff_ne, bne_eq_false_iff_eq, Bool.not_eq_true', Bool.not_eq_false'] at hc0
    refine HC.skip ?_
    refine HQ.doneX_end (L' := (r, blk [.string s, .int .i64 (((p + (takes rest c).toNat : Nat) : Int)), v] 44) :: []) (Res.zero Tryd.results27) (List.Sublist.cons_cons _ (List.Sublist.refl _)) (PLe.refl _) ?_
    refine .inl ⟨rfl, by simpa using hc0, ?_, rfl⟩
    rw [show takes rest c = true by simpa using hc0]; rfl

theorem text_add (I : PHeap) (s : ByteArray) (p : Nat) (r : Nat) (v : Value) (ns : List Node) (hns : ns.length ≤ 400) (Lx : Own) (ho : OwnS 37 3 v ns.length (flat ns) Lx) (n : Node) : Spec Tryd.prog 25 [.pointer (some ⟨r, 0, none⟩), .agg #[.int .i64 n.kind, .int .i64 n.a, .int .i64 n.b]] ((r, rdr s p v) :: Lx) I
    (fun u L' I' => u = .int .i64 (ns.length : Int) ∧ I = I' ∧ ∃ v' Lx', OwnS 37 3 v' (ns.length + 1) (flat (ns ++ [n])) Lx' ∧ L' = (r, rdr s p v') :: Lx') := by
  obtain ⟨ad, cap, rfl, _⟩ := ho.shape
  refine Spec.of_body Tryd.func25 rfl Tryd.ntmps25 rfl (fun W Lf => ?_)
  refine HC.seq ?_
  refine HC.region ?_
  refine HL.box_agg rfl rfl (fun b1 _ => ?_)
  refine HL.quiet (y_assign rfl) rfl ?_
  refine HL.nil ?_
  refine HQ.next ?_
  refine HC.sub (E' := [(0, _), (3, _)]) ⟨rfl, rfl, trivial⟩ ?_
  refine HC.seq ?_
  refine HC.drawn ([]) 7 Tryd.mixed ?_
  refine HG.take (i := 0) ([]) rfl (by kernel_rfl) (by kernel_rfl) (by kernel_rfl) (PanicOk.then (PanicOk.bodyQ)) rfl (.inl ⟨List.nil_sublist _, List.nil_sublist _⟩) (fun I' hI' => (y_move rfl)) rfl ?_
  refine HG.take (i := 1) ([]) rfl (by kernel_rfl) (by kernel_rfl) (by kernel_rfl) (PanicOk.then (PanicOk.bodyQ)) rfl (.inl ⟨List.nil_sublist _, List.nil_sublist _⟩) (fun I' hI' => (y_move rfl)) rfl ?_
  refine HG.take (i := 2) ([]) rfl (by kernel_rfl) (by kernel_rfl) (by kernel_rfl) (PanicOk.then (PanicOk.bodyQ)) rfl (.inl ⟨List.nil_sublist _, List.nil_sublist _⟩) (fun I' hI' => (y_nilCheck rfl)) rfl ?_
  refine HG.take (i := 3) ([]) rfl (by kernel_rfl) (by kernel_rfl) (by kernel_rfl) (PanicOk.then (PanicOk.bodyQ)) rfl (.inl ⟨List.nil_sublist _, List.nil_sublist _⟩) (fun I' hI' => (y_fieldAddr (o := 2) (t := 22) Tryd.underlying44 rfl Tryd.sizeOf22 (by decide) rfl)) rfl ?_
  refine HG.take (i := 4) ((b1, blk [.int .i64 n.kind, .int .i64 n.a, .int .i64 n.b] 37) :: (r, blk [.string s, .int .i64 (p : Int), .slice ad ns.length cap] 44) :: (Lx ++ Lf)) rfl (by kernel_rfl) (by kernel_rfl) (by kernel_rfl) (PanicOk.then (PanicOk.bodyQ)) rfl (.inr ⟨by kernel_rfl, List.Sublist.refl _⟩) (fun I' hI' => (y_loadL (k := 1) Tryd.isAgg22 rfl rfl rfl)) rfl ?_
  refine HG.take (i := 5) ((b1, blk [.int .i64 n.kind, .int .i64 n.a, .int .i64 n.b] 37) :: (r, blk [.string s, .int .i64 (p : Int), .slice ad ns.length cap] 44) :: (Lx ++ Lf)) rfl (by kernel_rfl) (by kernel_rfl) (by kernel_rfl) (PanicOk.then (PanicOk.bodyQ)) rfl (.inr ⟨by kernel_rfl, List.Sublist.refl _⟩) (fun I' hI' => (y_loadL_agg (k := 0) (cs := [.int .i64 n.kind, .int .i64 n.a, .int .i64 n.b]) Tryd.isAgg37 Tryd.sizeOf37 rfl rfl rfl rfl)) rfl ?_
  refine HG.one (i := 6) (by kernel_rfl) rfl (fun hcl hsz => ?_)
  refine HL.buildSlice (vs := [(0, .agg #[.int .i64 n.kind, .int .i64 n.a, .int .i64 n.b])]) (cs := [.int .i64 n.kind, .int .i64 n.a, .int .i64 n.b]) (.cons rfl (.nil)) Tryd.underlying22 Tryd.sizeOf37 Tryd.zeroValue37 rfl rfl (by kernel_rfl) rfl (fun b2 _ => ?_)
  refine HL.nil ?_
  refine HQ.goOn hcl hsz (by kernel_rfl) (List.Sublist.cons _ (List.Sublist.refl _)) (PLe.refl _) ?_
  clear hcl hsz
  refine HG.one (i := 7) (by kernel_rfl) rfl (fun hcl hsz => ?_)
  refine HL.append (e := 37) (m := ns.length) (xs := (flat ns)) (k := 1) (news := ([.int .i64 n.kind, .int .i64 n.a, .int .i64 n.b])) Tryd.underlying22 (z := .agg #[.int .i64 0, .int .i64 0, .int .i64 0]) (bytes := 24) (by kernel_rfl) rfl rfl rfl rfl ho (rfl) permF_3 (Src.own (k := 0) rfl (fun _ _ h => h)) (by simp [Value.oneCell']) (by unfold maxLen; omega) (by omega) rfl ?_
  rintro v' Lx' ho'
  obtain ⟨ad', cap', rfl, _⟩ := ho'.shape
  refine HL.perm permF_3.symm ?_
  refine HL.nil ?_
  refine HQ.goOn_tail hcl hsz (by kernel_rfl) (List.nil_sublist _) (PLe.refl _) ?_
  clear hcl hsz
  refine HG.take (i := 8) ([]) rfl (by kernel_rfl) (by kernel_rfl) (by kernel_rfl) (PanicOk.then (PanicOk.bodyQ)) rfl (.inl ⟨List.nil_sublist _, List.nil_sublist _⟩) (fun I' hI' => (y_nilCheck rfl)) rfl ?_
  refine HG.take (i := 9) ([]) rfl (by kernel_rfl) (by kernel_rfl) (by kernel_rfl) (PanicOk.then (PanicOk.bodyQ)) rfl (.inl ⟨List.nil_sublist _, List.nil_sublist _⟩) (fun I' hI' => (y_fieldAddr (o := 2) (t := 22) Tryd.underlying44 rfl Tryd.sizeOf22 (by decide) rfl)) rfl ?_
  refine HG.one (i := 10) (by kernel_rfl) rfl (fun hcl hsz => ?_)
  refine HL.store1_2 (c' := [.string s, .int .i64 (p : Int), .slice ad' (ns.length + 1) cap']) Tryd.sizeOf22 rfl rfl rfl rfl rfl ?_
  refine HL.nil ?_
  refine HQ.goOn_tail hcl hsz (by kernel_rfl) (List.nil_sublist _) (PLe.refl _) ?_
  clear hcl hsz
  refine HG.done (by kernel_rfl) ?_
  refine HQ.next ?_
  refine HC.sub (E' := [(0, _)]) ⟨rfl, trivial⟩ ?_
  refine HC.seq ?_
  refine HC.region ?_
  refine HL.quiet (y_move rfl) rfl ?_
  refine HL.quiet (y_nilCheck rfl) rfl ?_
  refine HL.quiet (y_fieldAddr (o := 2) (t := 22) Tryd.underlying44 rfl Tryd.sizeOf22 (by decide) rfl) rfl ?_
  refine HL.quiet (y_loadL (k := 2) Tryd.isAgg22 rfl rfl rfl) rfl ?_
  refine HL.quiet (y_len_slice Tryd.underlying22 rfl) rfl ?_
  refine HL.quiet (y_sub rfl rfl (by omega)) rfl ?_
  refine HL.quiet (y_assign rfl) rfl ?_
  refine HL.nil ?_
  refine HQ.next ?_
  refine HC.sub (E' := [(4, _)]) ⟨rfl, trivial⟩ ?_
  refine HC.ret ?_
  refine HQ.doneS (L' := (r, rdr s p (.slice ad' (ns.length + 1) cap')) :: Lx') (Res.one Tryd.results25 rfl) (List.Sublist.cons _ (List.Sublist.cons _ (List.Sublist.refl _))) (PLe.refl _) ?_
  refine ⟨?_, rfl, _, Lx', ?_, rfl⟩
  · rw [show ((ns.length + 1 : Nat) : Int) - 1 = ns.length by omega]
  · rw [flat_snoc]; exact ho'

end Go.Rm
