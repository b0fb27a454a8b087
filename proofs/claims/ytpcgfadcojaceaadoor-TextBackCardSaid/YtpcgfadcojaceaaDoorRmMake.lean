/- What this text holds: the contract of span.Make, printed by a program of mine (wip/tools/walk.py) from plans of mine. -/
import Derived.Test.YtpcgfadcojaceaaDoorRmSpan
import Derived.Test.YtpcgfadcojaceaaDoorRmSpec3
set_option linter.unusedVariables false
set_option linter.unusedSimpArgs false
set_option linter.unusedSectionVars false
namespace Go.Rm
open Go Go.Proofs
set_option maxRecDepth 100000

theorem permM {Lx Lc Lf : Own} : (Lx ++ (Lc ++ Lf)).Perm (Lc ++ (Lx ++ Lf)) := by
  rw [← List.append_assoc, ← List.append_assoc]; exact List.Perm.append_right _ List.perm_append_comm
theorem flatS_snoc_cells (l : List Span) (a b : Int) : flatS (l ++ [⟨a, b⟩]) = flatS l ++ [.int .i64 a, .int .i64 b] := flatS_snoc l ⟨a, b⟩
theorem span_Make (I : PHeap) (g : FuncId) (cv : List Value) (hg : ∀ args w, (callFunc g args).run Tryd.prog w = .ok (.enter g args) w) (p : Nat → Bool) (Lc : Own)
    (his : ∀ n : Nat, n < 32 → ∀ I', PLe I I' → Spec Tryd.prog g (.int .i64 (n : Int) :: cv) Lc I' (fun r L' J => r = .bool (p n) ∧ Lc = L' ∧ I' = J)) : Spec Tryd.prog 39 [.func (.func g) #[] cv.toArray] Lc I (fun r L' I' => L' = Lc ∧ Val I' r (spansMake p)) := by
  refine Spec.of_body Tryd.func39 rfl Tryd.ntmps39 rfl (fun W Lf => ?_)
  refine HC.seq ?_
  refine HC.region ?_
  refine HL.quiet (y_assign rfl) rfl ?_
  refine HL.nil ?_
  refine HQ.next ?_
  refine HC.sub (E' := [(0, _)]) ⟨rfl, trivial⟩ ?_
  refine HC.seq ?_
  refine HC.region ?_
  refine HL.quiet (y_assign rfl) rfl ?_
  refine HL.nil ?_
  refine HQ.next ?_
  refine HC.seq ?_
  refine HC.seq ?_
  refine HC.region ?_
  refine HL.quiet (y_assign rfl) rfl ?_
  refine HL.nil ?_
  refine HQ.next ?_
  refine HC.block ?_
  refine HC.sub (E' := (fun (n : Nat) (v : Value) (Lx : Own) => [(0, .func (.func g) #[] cv.toArray), (3, v), (4, .int .i64 (n : Int))]) 0 (.slice none 0 0) ([])) ⟨rfl, rfl, rfl, trivial⟩ ?_
  refine HC.loop3 (fun (n : Nat) (v : Value) (Lx : Own) => 32 - n) (fun (n : Nat) (v : Value) (Lx : Own) => n ≤ 32 ∧ OwnS 54 2 v (makeUpto p n).length (flatS (makeUpto p n)) Lx) (fun (n : Nat) (v : Value) (Lx : Own) => [(0, .func (.func g) #[] cv.toArray), (3, v), (4, .int .i64 (n : Int))]) (fun (n : Nat) (v : Value) (Lx : Own) => (Lx ++ (Lc ++ Lf))) (fun (n : Nat) (v : Value) (Lx : Own) => I) 0 (.slice none 0 0) ([]) (⟨by omega, OwnS.nil _ _⟩) (fun n v Lx hC => ?_)
  obtain ⟨hn, ho⟩ := hC
  have hml := makeUpto_len p n
  obtain ⟨ad, cap, rfl, _⟩ := ho.shape
  refine HC.seq ?_
  refine HC.seq ?_
  refine HC.region ?_
  refine HL.quiet (y_move rfl) rfl ?_
  refine HL.quiet (y_lss rfl rfl) rfl ?_
  refine HL.nil ?_
  refine HQ.next ?_
  refine HC.sub (E' := [(0, _), (3, _), (4, _), (7, _)]) ⟨rfl, rfl, rfl, rfl, trivial⟩ ?_
  refine HC.cond rfl (fun hc0 => ?_) (fun hc0 => ?_)
  · try simp only [Bool.and_eq_true, Bool.and_eq_false_iff, Bool.or_eq_true, Bool.or_eq_false_iff, decide_eq_true_eq, decide_eq_false_iff_not, Int.not_lt, Int.not_le, beq_iff_eq, bne_iff_ne, ne_eq, Decidable.not_not, beq_eq_false_iff_ne, bne_eq_false_iff_eq, Bool.not_eq_true', Bool.not_eq_false'] at hc0
    refine HC.skip ?_
    refine HQ.next ?_
    refine HC.sub (E' := [(0, _), (3, _), (4, _)]) ⟨rfl, rfl, rfl, trivial⟩ ?_
    refine HC.seq ?_
    refine HC.block ?_
    refine HC.seq ?_
    refine HC.seq ?_
    refine HC.region ?_
    refine HL.quiet (y_move rfl) rfl ?_
    refine HL.quiet (y_move rfl) rfl ?_
    refine HL.callC (Lp := Lc) (Lf := Lx ++ Lf) (fv := []) (cv := cv) hg rfl (.cons rfl (.nil)) rfl (permM) rfl (his n (by omega) _ (PLe.refl _)) ?_
    rintro _ _ _ _ ⟨rfl, rfl, rfl⟩
    refine HL.perm permM.symm ?_
    refine HL.quiet (y_not rfl) rfl ?_
    refine HL.nil ?_
    refine HQ.next ?_
    refine HC.sub (E' := [(0, _), (3, _), (4, _), (13, _)]) ⟨rfl, rfl, rfl, rfl, trivial⟩ ?_
    refine HC.cond rfl (fun hc1 => ?_) (fun hc1 => ?_)
    · try simp only [Bool.and_eq_true, Bool.and_eq_false_iff, Bool.or_eq_true, Bool.or_eq_false_iff, decide_eq_true_eq, decide_eq_false_iff_not, Int.not_lt, Int.not_le, beq_iff_eq, bne_iff_ne, ne_eq, Decidable.not_not, beq_eq_false_iff_ne, bne_eq_false_iff_eq, Bool.not_eq_true', Bool.not_eq_false'] at hc1
      refine HC.exit ?_
      refine HQ.then_exit ?_
      refine HQ.inb_exit ?_
      refine HQ.next ?_
      refine HC.sub (E' := [(0, _), (3, _), (4, _)]) ⟨rfl, rfl, rfl, trivial⟩ ?_
      refine HC.region ?_
      refine HL.quiet (y_move rfl) rfl ?_
      refine HL.quiet (y_add rfl rfl (by omega)) rfl ?_
      refine HL.quiet (y_assign rfl) rfl ?_
      refine HL.nil ?_
      exact HQ.again (n + 1, _, Lx) (show (fun (n : Nat) (v : Value) (Lx : Own) => n ≤ 32 ∧ OwnS 54 2 v (makeUpto p n).length (flatS (makeUpto p n)) Lx) (n + 1) (_) Lx from ⟨by omega, by rw [makeUpto_no (by simpa using hc1)]; exact ho⟩) (show 32 - (n + 1) < 32 - n from by omega) ⟨rfl, rfl, rfl, trivial⟩ (List.Sublist.refl _) (PLe.refl _)
    · try simp only [Bool.and_eq_true, Bool.and_eq_false_iff, Bool.or_eq_true, Bool.or_eq_false_iff, decide_eq_true_eq, decide_eq_false_iff_not, Int.not_lt, Int.not_le, beq_iff_eq, bne_iff_ne, ne_eq, Decidable.not_not, beq_eq_false_iff_ne, bne_eq_false_iff_eq, Bool.not_eq_true', Bool.not_eq_false'] at hc1
      refine HC.skip ?_
      refine HQ.next ?_
      refine HC.sub (E' := [(0, _), (3, _), (4, _)]) ⟨rfl, rfl, rfl, trivial⟩ ?_
      refine HC.seq ?_
      refine HC.region ?_
      refine HL.quiet (y_move rfl) rfl ?_
      refine HL.quiet (y_len_slice Tryd.underlying50 rfl) rfl ?_
      refine HL.quiet (y_sub rfl rfl (by omega)) rfl ?_
      refine HL.quiet (y_assign rfl) rfl ?_
      refine HL.nil ?_
      refine HQ.next ?_
      refine HC.sub (E' := [(0, _), (3, _), (4, _), (5, _)]) ⟨rfl, rfl, rfl, rfl, trivial⟩ ?_
      refine HC.seq ?_
      refine HC.region ?_
      refine HL.quiet (y_move rfl) rfl ?_
      refine HL.quiet (y_geq rfl rfl) rfl ?_
      refine HL.quiet (y_move rfl) rfl ?_
      refine HL.split (t := 19) rfl (fun hg1 => ?_) (fun hg1 => ?_)
      · try simp only [Bool.and_eq_true, Bool.and_eq_false_iff, Bool.or_eq_true, Bool.or_eq_false_iff, decide_eq_true_eq, decide_eq_false_iff_not, Int.not_lt, Int.not_le, beq_iff_eq, bne_iff_ne, ne_eq, Decidable.not_not, beq_eq_false_iff_ne, bne_eq_false_iff_eq, Bool.not_eq_true', Bool.not_eq_false'] at hg1
        obtain ⟨l, z, hlz⟩ := snoc_of (show 0 < (makeUpto p n).length by omega)
        have hlen : (makeUpto p n).length = l.length + 1 := by rw [hlz]; simp
        rcases ho.2 with ⟨_, h0, _⟩ | ⟨b, cap2, cur, hv, rfl, hmc, hcm, hcl, htk⟩
        · omega
        cases hv
        have hz : (flatS (makeUpto p n))[l.length * 2 + 1]? = some (.int .i64 z.hi) := by obtain ⟨_, hcs, hcell⟩ := (flatS_Flat (fun _ => none) (makeUpto p n)).at_ l.length z (by rw [hlz]; simp); subst hcs; exact hcell 1 _ rfl
        refine HL.quiet_guard (t := 19) rfl rfl (y_move rfl) rfl ?_
        refine HL.quiet_guard (t := 19) rfl rfl (y_move rfl) rfl ?_
        refine HL.quiet_guard (t := 19) rfl rfl (y_indexAddr (j := l.length) Tryd.underlying50 Tryd.sizeOf54 rfl rfl (by omega) (by omega)) rfl ?_
        refine HL.quiet_guard (t := 19) rfl rfl (y_fieldAddr (o := 1) (t := 3) Tryd.underlying54 rfl Tryd.sizeOf3 (by decide) rfl) rfl ?_
        refine HL.quiet_guard (t := 19) rfl rfl (y_loadL (k := 0) (v := .int .i64 z.hi) Tryd.isAgg3 rfl rfl (own_cell htk (by rw [Nat.zero_add]; exact hz))) rfl ?_
        refine HL.quiet_guard (t := 19) rfl rfl (y_move rfl) rfl ?_
        refine HL.quiet_guard (t := 19) rfl rfl (y_eql rfl rfl) rfl ?_
        refine HL.quiet (y_pick_true rfl rfl) rfl ?_
        refine HL.nil ?_
        refine HQ.next ?_
        refine HC.sub (E' := [(0, _), (3, _), (4, _), (5, _), (20, _), (21, _), (22, _), (23, _), (24, _), (25, _), (26, _), (27, _)]) ⟨rfl, rfl, rfl, rfl, rfl, rfl, rfl, rfl, rfl, rfl, rfl, rfl, trivial⟩ ?_
        refine HC.cond rfl (fun hc2 => ?_) (fun hc2 => ?_)
        · try simp only [Bool.and_eq_true, Bool.and_eq_false_iff, Bool.or_eq_true, Bool.or_eq_false_iff, decide_eq_true_eq, decide_eq_false_iff_not, Int.not_lt, Int.not_le, beq_iff_eq, bne_iff_ne, ne_eq, Decidable.not_not, beq_eq_false_iff_ne, bne_eq_false_iff_eq, Bool.not_eq_true', Bool.not_eq_false'] at hc2
          refine HC.region ?_
          refine HL.quiet (y_move rfl) rfl ?_
          refine HL.quiet (y_move rfl) rfl ?_
          refine HL.quiet (y_indexAddr (j := l.length) Tryd.underlying50 Tryd.sizeOf54 rfl rfl (by omega) (by omega)) rfl ?_
          refine HL.quiet (y_fieldAddr (o := 1) (t := 3) Tryd.underlying54 rfl Tryd.sizeOf3 (by decide) rfl) rfl ?_
          refine HL.quiet (y_loadL (k := 0) (v := .int .i64 z.hi) Tryd.isAgg3 rfl rfl (own_cell htk (by rw [Nat.zero_add]; exact hz))) rfl ?_
          refine HL.quiet (y_add rfl rfl (by omega)) rfl ?_
          refine HL.quiet (y_indexAddr (j := l.length) Tryd.underlying50 Tryd.sizeOf54 rfl rfl (by omega) (by omega)) rfl ?_
          refine HL.quiet (y_fieldAddr (o := 1) (t := 3) Tryd.underlying54 rfl Tryd.sizeOf3 (by decide) rfl) rfl ?_
          refine HL.store1s_0 (c' := (cur.set (0 + l.length * 2 + 1) (.int .i64 (z.hi + 1)))) Tryd.sizeOf3 rfl rfl (by omega) rfl (rfl) ?_
          refine HL.nil ?_
          refine HQ.inb_normal ?_
          refine HQ.next ?_
          refine HC.sub (E' := [(0, _), (3, _), (4, _), (20, _), (21, _), (22, _), (23, _), (24, _), (25, _), (26, _)]) ⟨rfl, rfl, rfl, rfl, rfl, rfl, rfl, rfl, rfl, rfl, trivial⟩ ?_
          refine HC.region ?_
          have hup : makeUpto p (n + 1) = l ++ [⟨z.lo, (n : Int) + 1⟩] := makeUpto_grow (by simpa using hc1) hlz (by omega)
          have hown : OwnS 54 2 (.slice (some ⟨b, 0, none⟩) (makeUpto p n).length cap) (makeUpto p (n + 1)).length (flatS (makeUpto p (n + 1))) [(b, blk (cur.set (0 + l.length * 2 + 1) (.int .i64 (z.hi + 1))) 54)] := by
            have e1 : (makeUpto p (n + 1)).length = (makeUpto p n).length := by rw [hup, hlen]; simp
            rw [e1]
            refine OwnS.of (by rw [flatS_len, e1]) hmc hcm (by rw [List.length_set]; exact hcl) ?_
            rw [List.take_set, htk, hlz, flatS_setlast, hup, show z.hi = (n : Int) by omega]
          refine HL.quiet (y_move rfl) rfl ?_
          refine HL.quiet (y_add rfl rfl (by omega)) rfl ?_
          refine HL.quiet (y_assign rfl) rfl ?_
          refine HL.nil ?_
          exact HQ.again (n + 1, _, [(b, blk (cur.set (0 + l.length * 2 + 1) (.int .i64 (z.hi + 1))) 54)]) (show (fun (n : Nat) (v : Value) (Lx : Own) => n ≤ 32 ∧ OwnS 54 2 v (makeUpto p n).length (flatS (makeUpto p n)) Lx) (n + 1) (_) ([(b, blk (cur.set (0 + l.length * 2 + 1) (.int .i64 (z.hi + 1))) 54)]) from ⟨by omega, hown⟩) (show 32 - (n + 1) < 32 - n from by omega) ⟨rfl, rfl, rfl, trivial⟩ (List.Sublist.refl _) (PLe.refl _)
        · try simp only [Bool.and_eq_true, Bool.and_eq_false_iff, Bool.or_eq_true, Bool.or_eq_false_iff, decide_eq_true_eq, decide_eq_false_iff_not, Int.not_lt, Int.not_le, beq_iff_eq, bne_iff_ne, ne_eq, Decidable.not_not, beq_eq_false_iff_ne, bne_eq_false_iff_eq, Bool.not_eq_true', Bool.not_eq_false'] at hc2
          refine HC.region ?_
          refine HL.quiet (y_move rfl) rfl ?_
          refine HL.quiet (y_move rfl) rfl ?_
          refine HL.quiet (y_move rfl) rfl ?_
          refine HL.quiet (y_add rfl rfl (by omega)) rfl ?_
          refine HL.quiet (y_build (vs := [(0, .int .i64 (n : Int)), (1, .int .i64 ((n : Int) + 1))]) (v := .agg #[.int .i64 (n : Int), .int .i64 ((n : Int) + 1)]) (.cons rfl (.cons rfl (.nil))) (fun w => by kernel_rfl)) rfl ?_
          refine HL.buildSlice (vs := [(0, .agg #[.int .i64 (n : Int), .int .i64 ((n : Int) + 1)])]) (cs := [.int .i64 (n : Int), .int .i64 ((n : Int) + 1)]) (.cons rfl (.nil)) Tryd.underlying50 Tryd.sizeOf54 Tryd.zeroValue54 rfl rfl (by kernel_rfl) rfl (fun b3 _ => ?_)
          refine HL.append (e := 54) (m := ((makeUpto p n).length)) (xs := (flatS (makeUpto p n))) (k := 1) (news := ([.int .i64 (n : Int), .int .i64 ((n : Int) + 1)])) Tryd.underlying50 (z := .agg #[.int .i64 0, .int .i64 0]) (bytes := 16) (by kernel_rfl) rfl rfl rfl rfl ho (rfl) permF_1 (Src.own (k := 0) rfl (fun _ _ h => h)) (by simp [Value.oneCell']) (by have := makeUpto_len p n; unfold maxLen; omega) (by have := makeUpto_len p n; omega) rfl ?_
          rintro v' Lx' ho'
          obtain ⟨ad', cap', rfl, _⟩ := ho'.shape
          refine HL.perm permF_1.symm ?_
          have hup : makeUpto p (n + 1) = makeUpto p n ++ [⟨n, (n : Int) + 1⟩] := makeUpto_more (by simpa using hc1) hlz (by omega)
          have hown : OwnS 54 2 (.slice ad' ((makeUpto p n).length + 1) cap') (makeUpto p (n + 1)).length (flatS (makeUpto p (n + 1))) Lx' := by rw [hup, flatS_snoc_cells, List.length_append]; exact ho'
          refine HL.quiet (y_assign rfl) rfl ?_
          refine HL.nil ?_
          refine HQ.inb_normal ?_
          refine HQ.next ?_
          refine HC.sub (E' := [(0, _), (3, _), (4, _), (20, _), (21, _), (22, _), (23, _), (24, _), (25, _), (26, _)]) ⟨rfl, rfl, rfl, rfl, rfl, rfl, rfl, rfl, rfl, rfl, trivial⟩ ?_
          refine HC.region ?_
          refine HL.quiet (y_move rfl) rfl ?_
          refine HL.quiet (y_add rfl rfl (by omega)) rfl ?_
          refine HL.quiet (y_assign rfl) rfl ?_
          refine HL.nil ?_
          exact HQ.again (n + 1, _, Lx') (show (fun (n : Nat) (v : Value) (Lx : Own) => n ≤ 32 ∧ OwnS 54 2 v (makeUpto p n).length (flatS (makeUpto p n)) Lx) (n + 1) (_) Lx' from ⟨by omega, hown⟩) (show 32 - (n + 1) < 32 - n from by omega) ⟨rfl, rfl, rfl, trivial⟩ (List.Sublist.cons _ (List.Sublist.refl _)) (PLe.refl _)
      · try simp only [Bool.and_eq_true, Bool.and_eq_false_iff, Bool.or_eq_true, Bool.or_eq_false_iff, decide_eq_true_eq, decide_eq_false_iff_not, Int.not_lt, Int.not_le, beq_iff_eq, bne_iff_ne, ne_eq, Decidable.not_not, beq_eq_false_iff_ne, bne_eq_false_iff_eq, Bool.not_eq_true', Bool.not_eq_false'] at hg1
        refine HL.pass (t := 19) rfl rfl rfl rfl ?_
        refine HL.pass (t := 19) rfl rfl rfl rfl ?_
        refine HL.pass (t := 19) rfl rfl rfl rfl ?_
        refine HL.pass (t := 19) rfl rfl rfl rfl ?_
        refine HL.pass (t := 19) rfl rfl rfl rfl ?_
        refine HL.pass (t := 19) rfl rfl rfl rfl ?_
        refine HL.pass (t := 19) rfl rfl rfl rfl ?_
        refine HL.quiet (y_pick_false rfl rfl) rfl ?_
        refine HL.nil ?_
        refine HQ.next ?_
        refine HC.sub (E' := [(0, _), (3, _), (4, _), (5, _), (20, _), (21, _), (22, _), (23, _), (24, _), (25, _), (26, _), (27, _)]) ⟨rfl, rfl, rfl, rfl, rfl, rfl, rfl, rfl, rfl, rfl, rfl, rfl, trivial⟩ ?_
        refine HC.cond_false rfl ?_
        refine HC.region ?_
        refine HL.quiet (y_move rfl) rfl ?_
        refine HL.quiet (y_move rfl) rfl ?_
        refine HL.quiet (y_move rfl) rfl ?_
        refine HL.quiet (y_add rfl rfl (by omega)) rfl ?_
        refine HL.quiet (y_build (vs := [(0, .int .i64 (n : Int)), (1, .int .i64 ((n : Int) + 1))]) (v := .agg #[.int .i64 (n : Int), .int .i64 ((n : Int) + 1)]) (.cons rfl (.cons rfl (.nil))) (fun w => by kernel_rfl)) rfl ?_
        refine HL.buildSlice (vs := [(0, .agg #[.int .i64 (n : Int), .int .i64 ((n : Int) + 1)])]) (cs := [.int .i64 (n : Int), .int .i64 ((n : Int) + 1)]) (.cons rfl (.nil)) Tryd.underlying50 Tryd.sizeOf54 Tryd.zeroValue54 rfl rfl (by kernel_rfl) rfl (fun b4 _ => ?_)
        refine HL.append (e := 54) (m := ((makeUpto p n).length)) (xs := (flatS (makeUpto p n))) (k := 1) (news := ([.int .i64 (n : Int), .int .i64 ((n : Int) + 1)])) Tryd.underlying50 (z := .agg #[.int .i64 0, .int .i64 0]) (bytes := 16) (by kernel_rfl) rfl rfl rfl rfl ho (rfl) permF_1 (Src.own (k := 0) rfl (fun _ _ h => h)) (by simp [Value.oneCell']) (by have := makeUpto_len p n; unfold maxLen; omega) (by have := makeUpto_len p n; omega) rfl ?_
        rintro v' Lx' ho'
        obtain ⟨ad', cap', rfl, _⟩ := ho'.shape
        refine HL.perm permF_1.symm ?_
        have hup : makeUpto p (n + 1) = makeUpto p n ++ [⟨n, (n : Int) + 1⟩] := makeUpto_first (by simpa using hc1) (List.eq_nil_of_length_eq_zero (by omega))
        have hown : OwnS 54 2 (.slice ad' ((makeUpto p n).length + 1) cap') (makeUpto p (n + 1)).length (flatS (makeUpto p (n + 1))) Lx' := by rw [hup, flatS_snoc_cells, List.length_append]; exact ho'
        refine HL.quiet (y_assign rfl) rfl ?_
        refine HL.nil ?_
        refine HQ.inb_normal ?_
        refine HQ.next ?_
        refine HC.sub (E' := [(0, _), (3, _), (4, _), (20, _), (21, _), (22, _), (23, _), (24, _), (25, _), (26, _)]) ⟨rfl, rfl, rfl, rfl, rfl, rfl, rfl, rfl, rfl, rfl, trivial⟩ ?_
        refine HC.region ?_
        refine HL.quiet (y_move rfl) rfl ?_
        refine HL.quiet (y_add rfl rfl (by omega)) rfl ?_
        refine HL.quiet (y_assign rfl) rfl ?_
        refine HL.nil ?_
        exact HQ.again (n + 1, _, Lx') (show (fun (n : Nat) (v : Value) (Lx : Own) => n ≤ 32 ∧ OwnS 54 2 v (makeUpto p n).length (flatS (makeUpto p n)) Lx) (n + 1) (_) Lx' from ⟨by omega, hown⟩) (show 32 - (n + 1) < 32 - n from by omega) ⟨rfl, rfl, rfl, trivial⟩ (List.Sublist.cons _ (List.Sublist.refl _)) (PLe.refl _)
  · try simp only [Bool.and_eq_true, Bool.and_eq_false_iff, Bool.or_eq_true, Bool.or_eq_false_iff, decide_eq_true_eq, decide_eq_false_iff_not, Int.not_lt, Int.not_le, beq_iff_eq, bne_iff_ne, ne_eq, Decidable.not_not, beq_eq_false_iff_ne, bne_eq_false_iff_eq, Bool.not_eq_true', Bool.not_eq_false'] at hc0
    refine HC.exit ?_
    refine HQ.then_exit ?_
    refine HQ.then_exit ?_
    refine HQ.inb_exit ?_
    refine HQ.next ?_
    refine HC.sub (E' := [(3, _)]) ⟨rfl, trivial⟩ ?_
    refine HC.seq ?_
    refine HC.region ?_
    have hn : n = 32 := by omega
    subst hn
    refine HL.freezeV ho (flatS_Flat _ _) permF_0 (fun I9 hI9 hV => ?_)
    refine HL.quiet (y_move rfl) rfl ?_
    refine HL.quiet (y_assign rfl) rfl ?_
    refine HL.nil ?_
    refine HQ.next ?_
    refine HC.sub (E' := [(2, _)]) ⟨rfl, trivial⟩ ?_
    refine HC.ret ?_
    refine HQ.doneS (L' := Lc) (Res.one Tryd.results39 rfl) (List.Sublist.refl _) (hI9) ?_
    exact ⟨rfl, hV⟩

end Go.Rm
