/- What this text holds: the contract of formula.Check, printed by a program of mine (wip/tools/walk.py) from plans of mine. -/
import Derived.Test.YtpcgfadcojaceaaDoorRmStrconv
set_option linter.unusedVariables false
set_option linter.unusedSimpArgs false
set_option linter.unusedSectionVars false
namespace Go.Rm
open Go Go.Proofs
set_option maxRecDepth 100000

theorem nodes_Check (I : PHeap) (v : Value) (l : List Node) (h : Val I v l) : Pure Tryd.prog 16 [v] I (fun r _ => r = .int .i64 (nodesCheck l)) := by
  obtain ⟨ad, cap, rfl, hcap, hE⟩ := h.slice
  refine Pure.of_body Tryd.func16 rfl Tryd.ntmps16 rfl (fun W Lf => ?_)
  refine HC.seq ?_
  refine HC.region ?_
  refine HL.quiet (y_assign rfl) rfl ?_
  refine HL.nil ?_
  refine HQ.next ?_
  refine HC.sub (E' := [(0, _)]) ⟨rfl, trivial⟩ ?_
  refine HC.seq ?_
  refine HC.seq ?_
  refine HC.region ?_
  refine HL.quiet (y_move rfl) rfl ?_
  refine HL.quiet (y_len_slice Tryd.underlying22 rfl) rfl ?_
  refine HL.quiet (y_eql rfl rfl) rfl ?_
  refine HL.quiet (y_move rfl) rfl ?_
  refine HL.split (t := 8) rfl (fun hg1 => ?_) (fun hg1 => ?_)
  · try simp only [Bool.and_eq_true, Bool.and_eq_false_iff, Bool.or_eq_true, Bool.or_eq_false_iff, decide_eq_true_eq, decide_eq_false_iff_not, Int.not_lt, Int.not_le, beq_iff_eq, bne_iff_ne, ne_eq, Decidable.not_not, beq_eq_false_iff_ne, bne_eq_false_iff_eq, Bool.not_eq_true', Bool.not_eq_false'] at hg1
    refine HL.pass (t := 8) rfl rfl rfl rfl ?_
    refine HL.pass (t := 8) rfl rfl rfl rfl ?_
    refine HL.pass (t := 8) rfl rfl rfl rfl ?_
    refine HL.quiet (y_pick_true rfl rfl) rfl ?_
    refine HL.nil ?_
    refine HQ.next ?_
    refine HC.sub (E' := [(0, _), (12, _)]) ⟨rfl, rfl, trivial⟩ ?_
    refine HC.cond_true rfl ?_
    refine HC.seq ?_
    refine HC.region ?_
    refine HL.quiet (y_assign rfl) rfl ?_
    refine HL.nil ?_
    refine HQ.next ?_
    refine HC.sub (E' := [(2, _)]) ⟨rfl, trivial⟩ ?_
    refine HC.ret ?_
    refine HQ.then_ret ?_
    refine HQ.doneP (Res.one Tryd.results16 rfl) (List.Sublist.refl _) (PLe.refl _) ?_
    show Value.int .i64 2 = _
    rw [nodesCheck, if_pos (by omega)]
  · try simp only [Bool.and_eq_true, Bool.and_eq_false_iff, Bool.or_eq_true, Bool.or_eq_false_iff, decide_eq_true_eq, decide_eq_false_iff_not, Int.not_lt, Int.not_le, beq_iff_eq, bne_iff_ne, ne_eq, Decidable.not_not, beq_eq_false_iff_ne, bne_eq_false_iff_eq, Bool.not_eq_true', Bool.not_eq_false'] at hg1
    refine HL.quiet_guard (t := 8) rfl rfl (y_move rfl) rfl ?_
    refine HL.quiet_guard (t := 8) rfl rfl (y_len_slice Tryd.underlying22 rfl) rfl ?_
    refine HL.quiet_guard (t := 8) rfl rfl (y_gtr rfl rfl) rfl ?_
    refine HL.quiet (y_pick_false rfl rfl) rfl ?_
    refine HL.nil ?_
    refine HQ.next ?_
    refine HC.sub (E' := [(0, _), (12, _)]) ⟨rfl, rfl, trivial⟩ ?_
    refine HC.cond rfl (fun hc1 => ?_) (fun hc1 => ?_)
    · try simp only [Bool.and_eq_true, Bool.and_eq_false_iff, Bool.or_eq_true, Bool.or_eq_false_iff, decide_eq_true_eq, decide_eq_false_iff_not, Int.not_lt, Int.not_le, beq_iff_eq, bne_iff_ne, ne_eq, Decidable.not_not, beq_eq_false_iff_ne, bne_eq_false_iff_eq, Bool.not_eq_true', Bool.not_eq_false'] at hc1
      refine HC.seq ?_
      refine HC.region ?_
      refine HL.quiet (y_assign rfl) rfl ?_
      refine HL.nil ?_
      refine HQ.next ?_
      refine HC.sub (E' := [(2, _)]) ⟨rfl, trivial⟩ ?_
      refine HC.ret ?_
      refine HQ.then_ret ?_
      refine HQ.doneP (Res.one Tryd.results16 rfl) (List.Sublist.refl _) (PLe.refl _) ?_
      show Value.int .i64 2 = _
      rw [nodesCheck, if_pos (by omega)]
    · try simp only [Bool.and_eq_true, Bool.and_eq_false_iff, Bool.or_eq_true, Bool.or_eq_false_iff, decide_eq_true_eq, decide_eq_false_iff_not, Int.not_lt, Int.not_le, beq_iff_eq, bne_iff_ne, ne_eq, Decidable.not_not, beq_eq_false_iff_ne, bne_eq_false_iff_eq, Bool.not_eq_true', Bool.not_eq_false'] at hc1
      refine HC.skip ?_
      refine HQ.next ?_
      refine HC.sub (E' := [(0, _)]) ⟨rfl, trivial⟩ ?_
      refine HC.seq ?_
      refine HC.seq ?_
      refine HC.region ?_
      refine HL.quiet (y_move rfl) rfl ?_
      refine HL.quiet (y_len_slice Tryd.underlying22 rfl) rfl ?_
      refine HL.quiet (y_move rfl) rfl ?_
      refine HL.nil ?_
      refine HQ.next ?_
      refine HC.sub (E' := [(13, _), (14, _), (15, _)]) ⟨rfl, rfl, rfl, trivial⟩ ?_
      refine HC.block ?_
      refine HC.sub (E' := (fun (k : Nat) => [(13, .slice ad l.length cap), (14, .int .i64 (l.length : Int)), (15, .int .i64 (k : Int))]) 0) ⟨rfl, rfl, rfl, trivial⟩ ?_
      refine HC.loop (fun (k : Nat) => l.length - k) (fun (k : Nat) => k ≤ l.length ∧ nodesGo 0 l = nodesGo k (l.drop k)) (fun (k : Nat) => [(13, .slice ad l.length cap), (14, .int .i64 (l.length : Int)), (15, .int .i64 (k : Int))]) (fun (k : Nat) => Lf) (fun (k : Nat) => I) 0 (⟨by omega, rfl⟩) (fun k hC => ?_)
      obtain ⟨hk, hgo⟩ := hC
      refine HC.seq ?_
      refine HC.region ?_
      refine HL.quiet (y_lss rfl rfl) rfl ?_
      refine HL.nil ?_
      refine HQ.next ?_
      refine HC.seq ?_
      refine HC.cond rfl (fun hc2 => ?_) (fun hc2 => ?_)
      · try simp only [Bool.and_eq_true, Bool.and_eq_false_iff, Bool.or_eq_true, Bool.or_eq_false_iff, decide_eq_true_eq, decide_eq_false_iff_not, Int.not_lt, Int.not_le, beq_iff_eq, bne_iff_ne, ne_eq, Decidable.not_not, beq_eq_false_iff_ne, bne_eq_false_iff_eq, Bool.not_eq_true', Bool.not_eq_false'] at hc2
        refine HC.skip ?_
        refine HQ.next ?_
        refine HC.sub (E' := [(13, _), (14, _), (15, _)]) ⟨rfl, rfl, rfl, trivial⟩ ?_
        refine HC.seq ?_
        refine HC.block ?_
        refine HC.seq ?_
        refine HC.region ?_
        refine HL.quiet (y_move rfl) rfl ?_
        obtain ⟨b, off, rfl, hel⟩ := hE.at_ (show k < l.length by omega)
        obtain ⟨x, hx⟩ : ∃ x, l[k]? = some x := ⟨l[k]'(by omega), List.getElem?_eq_getElem _⟩
        have hc := (hel k x hx).node
        have hgo2 := nodesGo_at hx hgo
        refine HL.quiet (y_indexAddr (j := k) Tryd.underlying22 Tryd.sizeOf37 rfl rfl (by first | rfl | omega) (by omega)) rfl ?_
        refine HL.quiet (y_loadI_agg (cs := [.int .i64 x.kind, .int .i64 x.a, .int .i64 x.b]) Tryd.isAgg37 Tryd.sizeOf37 rfl rfl hc) rfl ?_
        refine HL.alloc_agg Tryd.zeroValue37 rfl (fun b3 _ => ?_)
        refine HL.quiet (y_assign rfl) rfl ?_
        refine HL.store_all_0 Tryd.sizeOf37 rfl rfl rfl rfl rfl ?_
        refine HL.nil ?_
        refine HQ.next ?_
        refine HC.sub (E' := [(13, _), (14, _), (15, _), (4, _), (3, _)]) ⟨rfl, rfl, rfl, rfl, rfl, trivial⟩ ?_
        refine HC.seq ?_
        refine HC.region ?_
        refine HL.quiet (y_fieldAddr (o := 0) (t := 3) Tryd.underlying37 rfl Tryd.sizeOf3 (by decide) rfl) rfl ?_
        refine HL.quiet (y_loadL (k := 0) Tryd.isAgg3 rfl rfl rfl) rfl ?_
        refine HL.nil ?_
        refine HQ.next ?_
        refine HC.sub (E' := [(13, _), (14, _), (15, _), (4, _), (3, _), (21, _)]) ⟨rfl, rfl, rfl, rfl, rfl, rfl, trivial⟩ ?_
        refine HC.block ?_
        refine HC.seq ?_
        refine HC.region ?_
        refine HL.quiet (y_eql rfl rfl) rfl ?_
        refine HL.quiet (y_assign rfl) rfl ?_
        refine HL.nil ?_
        refine HQ.next ?_
        refine HC.sub (E' := [(13, _), (14, _), (15, _), (4, _), (3, _), (21, _), (22, _)]) ⟨rfl, rfl, rfl, rfl, rfl, rfl, rfl, trivial⟩ ?_
        refine HC.cond rfl (fun hc3 => ?_) (fun hc3 => ?_)
        · try simp only [Bool.and_eq_true, Bool.and_eq_false_iff, Bool.or_eq_true, Bool.or_eq_false_iff, decide_eq_true_eq, decide_eq_false_iff_not, Int.not_lt, Int.not_le, beq_iff_eq, bne_iff_ne, ne_eq, Decidable.not_not, beq_eq_false_iff_ne, bne_eq_false_iff_eq, Bool.not_eq_true', Bool.not_eq_false'] at hc3
          refine HC.skip ?_
          refine HQ.inb_normal ?_
          refine HQ.inb_normal ?_
          refine HQ.next ?_
          refine HC.sub (E' := [(13, _), (14, _), (15, _)]) ⟨rfl, rfl, rfl, trivial⟩ ?_
          refine HC.region ?_
          refine HL.quiet (y_add rfl rfl (by omega)) rfl ?_
          refine HL.quiet (y_move rfl) rfl ?_
          refine HL.nil ?_
          exact HQ.again (k + 1) (⟨by omega, by rw [hgo2, if_pos (by unfold nodeBad; repeat' split <;> omega)]⟩) (by omega) ⟨rfl, rfl, rfl, trivial⟩ (List.Sublist.cons _ (List.Sublist.refl _)) (PLe.refl _)
        · try simp only [Bool.and_eq_true, Bool.and_eq_false_iff, Bool.or_eq_true, Bool.or_eq_false_iff, decide_eq_true_eq, decide_eq_false_iff_not, Int.not_lt, Int.not_le, beq_iff_eq, bne_iff_ne, ne_eq, Decidable.not_not, beq_eq_false_iff_ne, bne_eq_false_iff_eq, Bool.not_eq_true', Bool.not_eq_false'] at hc3
          refine HC.seq ?_
          refine HC.region ?_
          refine HL.quiet (y_eql rfl rfl) rfl ?_
          refine HL.quiet (y_assign rfl) rfl ?_
          refine HL.nil ?_
          refine HQ.next ?_
          refine HC.sub (E' := [(13, _), (14, _), (15, _), (4, _), (3, _), (21, _), (24, _)]) ⟨rfl, rfl, rfl, rfl, rfl, rfl, rfl, trivial⟩ ?_
          refine HC.cond rfl (fun hc4 => ?_) (fun hc4 => ?_)
          · try simp only [Bool.and_eq_true, Bool.and_eq_false_iff, Bool.or_eq_true, Bool.or_eq_false_iff, decide_eq_true_eq, decide_eq_false_iff_not, Int.not_lt, Int.not_le, beq_iff_eq, bne_iff_ne, ne_eq, Decidable.not_not, beq_eq_false_iff_ne, bne_eq_false_iff_eq, Bool.not_eq_true', Bool.not_eq_false'] at hc4
            refine HC.seq ?_
            refine HC.region ?_
            refine HL.quiet (y_fieldAddr (o := 1) (t := 3) Tryd.underlying37 rfl Tryd.sizeOf3 (by decide) rfl) rfl ?_
            refine HL.quiet (y_loadL (k := 0) Tryd.isAgg3 rfl rfl rfl) rfl ?_
            refine HL.quiet (y_lss rfl rfl) rfl ?_
            refine HL.quiet (y_move rfl) rfl ?_
            refine HL.split (t := 29) rfl (fun hg4 => ?_) (fun hg4 => ?_)
            · try simp only [Bool.and_eq_true, Bool.and_eq_false_iff, Bool.or_eq_true, Bool.or_eq_false_iff, decide_eq_true_eq, decide_eq_false_iff_not, Int.not_lt, Int.not_le, beq_iff_eq, bne_iff_ne, ne_eq, Decidable.not_not, beq_eq_false_iff_ne, bne_eq_false_iff_eq, Bool.not_eq_true', Bool.not_eq_false'] at hg4
              refine HL.pass (t := 29) rfl rfl rfl rfl ?_
              refine HL.pass (t := 29) rfl rfl rfl rfl ?_
              refine HL.pass (t := 29) rfl rfl rfl rfl ?_
              refine HL.quiet (y_pick_true rfl rfl) rfl ?_
              refine HL.nil ?_
              refine HQ.next ?_
              refine HC.sub (E' := [(13, _), (14, _), (15, _), (30, _), (31, _), (32, _), (33, _)]) ⟨rfl, rfl, rfl, rfl, rfl, rfl, rfl, trivial⟩ ?_
              refine HC.cond_true rfl ?_
              refine HC.seq ?_
              refine HC.region ?_
              refine HL.quiet (y_assign rfl) rfl ?_
              refine HL.nil ?_
              refine HQ.next ?_
              refine HC.sub (E' := [(2, _)]) ⟨rfl, trivial⟩ ?_
              refine HC.ret ?_
              refine HQ.inb_ret ?_
              refine HQ.inb_ret ?_
              refine HQ.then_ret ?_
              refine HQ.then_ret ?_
              refine HQ.inb_ret ?_
              refine HQ.then_ret ?_
              refine HQ.doneP (Res.one Tryd.results16 rfl) (List.Sublist.cons _ (List.Sublist.refl _)) (PLe.refl _) ?_
              show Value.int .i64 1 = _
              have hnb : nodeBad k x = 1 := by unfold nodeBad; repeat' split <;> omega
              rw [nodesCheck_le (by omega) (by omega), hgo2, if_neg (by omega), hnb]
            · try simp only [Bool.and_eq_true, Bool.and_eq_false_iff, Bool.or_eq_true, Bool.or_eq_false_iff, decide_eq_true_eq, decide_eq_false_iff_not, Int.not_lt, Int.not_le, beq_iff_eq, bne_iff_ne, ne_eq, Decidable.not_not, beq_eq_false_iff_ne, bne_eq_false_iff_eq, Bool.not_eq_true', Bool.not_eq_false'] at hg4
              refine HL.quiet_guard (t := 29) rfl rfl (y_fieldAddr (o := 1) (t := 3) Tryd.underlying37 rfl Tryd.sizeOf3 (by decide) rfl) rfl ?_
              refine HL.quiet_guard (t := 29) rfl rfl (y_loadL (k := 0) Tryd.isAgg3 rfl rfl rfl) rfl ?_
              refine HL.quiet_guard (t := 29) rfl rfl (y_geq rfl rfl) rfl ?_
              refine HL.quiet (y_pick_false rfl rfl) rfl ?_
              refine HL.nil ?_
              refine HQ.next ?_
              refine HC.sub (E' := [(13, _), (14, _), (15, _), (30, _), (31, _), (32, _), (33, _)]) ⟨rfl, rfl, rfl, rfl, rfl, rfl, rfl, trivial⟩ ?_
              refine HC.cond rfl (fun hc6 => ?_) (fun hc6 => ?_)
              · try simp only [Bool.and_eq_true, Bool.and_eq_false_iff, Bool.or_eq_true, Bool.or_eq_false_iff, decide_eq_true_eq, decide_eq_false_iff_not, Int.not_lt, Int.not_le, beq_iff_eq, bne_iff_ne, ne_eq, Decidable.not_not, beq_eq_false_iff_ne, bne_eq_false_iff_eq, Bool.not_eq_true', Bool.not_eq_false'] at hc6
                refine HC.seq ?_
                refine HC.region ?_
                refine HL.quiet (y_assign rfl) rfl ?_
                refine HL.nil ?_
                refine HQ.next ?_
                refine HC.sub (E' := [(2, _)]) ⟨rfl, trivial⟩ ?_
                refine HC.ret ?_
                refine HQ.inb_ret ?_
                refine HQ.inb_ret ?_
                refine HQ.then_ret ?_
                refine HQ.then_ret ?_
                refine HQ.inb_ret ?_
                refine HQ.then_ret ?_
                refine HQ.doneP (Res.one Tryd.results16 rfl) (List.Sublist.cons _ (List.Sublist.refl _)) (PLe.refl _) ?_
                show Value.int .i64 1 = _
                have hnb : nodeBad k x = 1 := by unfold nodeBad; repeat' split <;> omega
                rw [nodesCheck_le (by omega) (by omega), hgo2, if_neg (by omega), hnb]
              · try simp only [Bool.and_eq_true, Bool.and_eq_false_iff, Bool.or_eq_true, Bool.or_eq_false_iff, decide_eq_true_eq, decide_eq_false_iff_not, Int.not_lt, Int.not_le, beq_iff_eq, bne_iff_ne, ne_eq, Decidable.not_not, beq_eq_false_iff_ne, bne_eq_false_iff_eq, Bool.not_eq_true', Bool.not_eq_false'] at hc6
                refine HC.skip ?_
                refine HQ.inb_normal ?_
                refine HQ.inb_normal ?_
                refine HQ.next ?_
                refine HC.sub (E' := [(13, _), (14, _), (15, _), (30, _), (31, _), (32, _)]) ⟨rfl, rfl, rfl, rfl, rfl, rfl, trivial⟩ ?_
                refine HC.region ?_
                refine HL.quiet (y_add rfl rfl (by omega)) rfl ?_
                refine HL.quiet (y_move rfl) rfl ?_
                refine HL.nil ?_
                exact HQ.again (k + 1) (⟨by omega, by rw [hgo2, if_pos (by unfold nodeBad; repeat' split <;> omega)]⟩) (by omega) ⟨rfl, rfl, rfl, trivial⟩ (List.Sublist.cons _ (List.Sublist.refl _)) (PLe.refl _)
          · try simp only [Bool.and_eq_true, Bool.and_eq_false_iff, Bool.or_eq_true, Bool.or_eq_false_iff, decide_eq_true_eq, decide_eq_false_iff_not, Int.not_lt, Int.not_le, beq_iff_eq, bne_iff_ne, ne_eq, Decidable.not_not, beq_eq_false_iff_ne, bne_eq_false_iff_eq, Bool.not_eq_true', Bool.not_eq_false'] at hc4
            refine HC.seq ?_
            refine HC.region ?_
            refine HL.quiet (y_eql rfl rfl) rfl ?_
            refine HL.quiet (y_assign rfl) rfl ?_
            refine HL.nil ?_
            refine HQ.next ?_
            refine HC.sub (E' := [(13, _), (14, _), (15, _), (4, _), (3, _), (21, _), (34, _)]) ⟨rfl, rfl, rfl, rfl, rfl, rfl, rfl, trivial⟩ ?_
            refine HC.cond rfl (fun hc7 => ?_) (fun hc7 => ?_)
            · try simp only [Bool.and_eq_true, Bool.and_eq_false_iff, Bool.or_eq_true, Bool.or_eq_false_iff, decide_eq_true_eq, decide_eq_false_iff_not, Int.not_lt, Int.not_le, beq_iff_eq, bne_iff_ne, ne_eq, Decidable.not_not, beq_eq_false_iff_ne, bne_eq_false_iff_eq, Bool.not_eq_true', Bool.not_eq_false'] at hc7
              refine HC.seq ?_
              refine HC.region ?_
              refine HL.quiet (y_fieldAddr (o := 1) (t := 3) Tryd.underlying37 rfl Tryd.sizeOf3 (by decide) rfl) rfl ?_
              refine HL.quiet (y_loadL (k := 0) Tryd.isAgg3 rfl rfl rfl) rfl ?_
              refine HL.quiet (y_lss rfl rfl) rfl ?_
              refine HL.quiet (y_move rfl) rfl ?_
              refine HL.split (t := 39) rfl (fun hg6 => ?_) (fun hg6 => ?_)
              · try simp only [Bool.and_eq_true, Bool.and_eq_false_iff, Bool.or_eq_true, Bool.or_eq_false_iff, decide_eq_true_eq, decide_eq_false_iff_not, Int.not_lt, Int.not_le, beq_iff_eq, bne_iff_ne, ne_eq, Decidable.not_not, beq_eq_false_iff_ne, bne_eq_false_iff_eq, Bool.not_eq_true', Bool.not_eq_false'] at hg6
                refine HL.pass (t := 39) rfl rfl rfl rfl ?_
                refine HL.pass (t := 39) rfl rfl rfl rfl ?_
                refine HL.pass (t := 39) rfl rfl rfl rfl ?_
                refine HL.quiet (y_pick_true rfl rfl) rfl ?_
                refine HL.quiet (y_move rfl) rfl ?_
                refine HL.pass (t := 44) rfl rfl rfl rfl ?_
                refine HL.pass (t := 44) rfl rfl rfl rfl ?_
                refine HL.pass (t := 44) rfl rfl rfl rfl ?_
                refine HL.pass (t := 44) rfl rfl rfl rfl ?_
                refine HL.pass (t := 44) rfl rfl rfl rfl ?_
                refine HL.quiet (y_pick_true rfl rfl) rfl ?_
                refine HL.nil ?_
                refine HQ.next ?_
                refine HC.sub (E' := [(13, _), (14, _), (15, _), (40, _), (41, _), (42, _), (45, _), (46, _), (47, _), (48, _), (49, _), (50, _)]) ⟨rfl, rfl, rfl, rfl, rfl, rfl, rfl, rfl, rfl, rfl, rfl, rfl, trivial⟩ ?_
                refine HC.cond_true rfl ?_
                refine HC.seq ?_
                refine HC.region ?_
                refine HL.quiet (y_assign rfl) rfl ?_
                refine HL.nil ?_
                refine HQ.next ?_
                refine HC.sub (E' := [(2, _)]) ⟨rfl, trivial⟩ ?_
                refine HC.ret ?_
                refine HQ.inb_ret ?_
                refine HQ.inb_ret ?_
                refine HQ.then_ret ?_
                refine HQ.then_ret ?_
                refine HQ.inb_ret ?_
                refine HQ.then_ret ?_
                refine HQ.doneP (Res.one Tryd.results16 rfl) (List.Sublist.cons _ (List.Sublist.refl _)) (PLe.refl _) ?_
                show Value.int .i64 1 = _
                have hnb : nodeBad k x = 1 := by unfold nodeBad; repeat' split <;> omega
                rw [nodesCheck_le (by omega) (by omega), hgo2, if_neg (by omega), hnb]
              · try simp only [Bool.and_eq_true, Bool.and_eq_false_iff, Bool.or_eq_true, Bool.or_eq_false_iff, decide_eq_true_eq, decide_eq_false_iff_not, Int.not_lt, Int.not_le, beq_iff_eq, bne_iff_ne, ne_eq, Decidable.not_not, beq_eq_false_iff_ne, bne_eq_false_iff_eq, Bool.not_eq_true', Bool.not_eq_false'] at hg6
                refine HL.quiet_guard (t := 39) rfl rfl (y_fieldAddr (o := 2) (t := 3) Tryd.underlying37 rfl Tryd.sizeOf3 (by decide) rfl) rfl ?_
                refine HL.quiet_guard (t := 39) rfl rfl (y_loadL (k := 0) Tryd.isAgg3 rfl rfl rfl) rfl ?_
                refine HL.quiet_guard (t := 39) rfl rfl (y_gtr rfl rfl) rfl ?_
                refine HL.quiet (y_pick_false rfl rfl) rfl ?_
                refine HL.quiet (y_move rfl) rfl ?_
                refine HL.split (t := 44) rfl (fun hg8 => ?_) (fun hg8 => ?_)
                · try simp only [Bool.and_eq_true, Bool.and_eq_false_iff, Bool.or_eq_true, Bool.or_eq_false_iff, decide_eq_true_eq, decide_eq_false_iff_not, Int.not_lt, Int.not_le, beq_iff_eq, bne_iff_ne, ne_eq, Decidable.not_not, beq_eq_false_iff_ne, bne_eq_false_iff_eq, Bool.not_eq_true', Bool.not_eq_false'] at hg8
                  refine HL.pass (t := 44) rfl rfl rfl rfl ?_
                  refine HL.pass (t := 44) rfl rfl rfl rfl ?_
                  refine HL.pass (t := 44) rfl rfl rfl rfl ?_
                  refine HL.pass (t := 44) rfl rfl rfl rfl ?_
                  refine HL.pass (t := 44) rfl rfl rfl rfl ?_
                  refine HL.quiet (y_pick_true rfl rfl) rfl ?_
                  refine HL.nil ?_
                  refine HQ.next ?_
                  refine HC.sub (E' := [(13, _), (14, _), (15, _), (40, _), (41, _), (42, _), (45, _), (46, _), (47, _), (48, _), (49, _), (50, _)]) ⟨rfl, rfl, rfl, rfl, rfl, rfl, rfl, rfl, rfl, rfl, rfl, rfl, trivial⟩ ?_
                  refine HC.cond_true rfl ?_
                  refine HC.seq ?_
                  refine HC.region ?_
                  refine HL.quiet (y_assign rfl) rfl ?_
                  refine HL.nil ?_
                  refine HQ.next ?_
                  refine HC.sub (E' := [(2, _)]) ⟨rfl, trivial⟩ ?_
                  refine HC.ret ?_
                  refine HQ.inb_ret ?_
                  refine HQ.inb_ret ?_
                  refine HQ.then_ret ?_
                  refine HQ.then_ret ?_
                  refine HQ.inb_ret ?_
                  refine HQ.then_ret ?_
                  refine HQ.doneP (Res.one Tryd.results16 rfl) (List.Sublist.cons _ (List.Sublist.refl _)) (PLe.refl _) ?_
                  show Value.int .i64 1 = _
                  have hnb : nodeBad k x = 1 := by unfold nodeBad; repeat' split <;> omega
                  rw [nodesCheck_le (by omega) (by omega), hgo2, if_neg (by omega), hnb]
                · try simp only [Bool.and_eq_true, Bool.and_eq_false_iff, Bool.or_eq_true, Bool.or_eq_false_iff, decide_eq_true_eq, decide_eq_false_iff_not, Int.not_lt, Int.not_le, beq_iff_eq, bne_iff_ne, ne_eq, Decidable.not_not, beq_eq_false_iff_ne, bne_eq_false_iff_eq, Bool.not_eq_true', Bool.not_eq_false'] at hg8
                  refine HL.quiet_guard (t := 44) rfl rfl (y_fieldAddr (o := 1) (t := 3) Tryd.underlying37 rfl Tryd.sizeOf3 (by decide) rfl) rfl ?_
                  refine HL.quiet_guard (t := 44) rfl rfl (y_loadL (k := 0) Tryd.isAgg3 rfl rfl rfl) rfl ?_
                  refine HL.quiet_guard (t := 44) rfl rfl (y_fieldAddr (o := 2) (t := 3) Tryd.underlying37 rfl Tryd.sizeOf3 (by decide) rfl) rfl ?_
                  refine HL.quiet_guard (t := 44) rfl rfl (y_loadL (k := 0) Tryd.isAgg3 rfl rfl rfl) rfl ?_
                  refine HL.quiet_guard (t := 44) rfl rfl (y_geq rfl rfl) rfl ?_
                  refine HL.quiet (y_pick_false rfl rfl) rfl ?_
                  refine HL.nil ?_
                  refine HQ.next ?_
                  refine HC.sub (E' := [(13, _), (14, _), (15, _), (40, _), (41, _), (42, _), (45, _), (46, _), (47, _), (48, _), (49, _), (50, _)]) ⟨rfl, rfl, rfl, rfl, rfl, rfl, rfl, rfl, rfl, rfl, rfl, rfl, trivial⟩ ?_
                  refine HC.cond rfl (fun hc10 => ?_) (fun hc10 => ?_)
                  · try simp only [Bool.and_eq_true, Bool.and_eq_false_iff, Bool.or_eq_true, Bool.or_eq_false_iff, decide_eq_true_eq, decide_eq_false_iff_not, Int.not_lt, Int.not_le, beq_iff_eq, bne_iff_ne, ne_eq, Decidable.not_not, beq_eq_false_iff_ne, bne_eq_false_iff_eq, Bool.not_eq_true', Bool.not_eq_false'] at hc10
                    refine HC.seq ?_
                    refine HC.region ?_
                    refine HL.quiet (y_assign rfl) rfl ?_
                    refine HL.nil ?_
                    refine HQ.next ?_
                    refine HC.sub (E' := [(2, _)]) ⟨rfl, trivial⟩ ?_
                    refine HC.ret ?_
                    refine HQ.inb_ret ?_
                    refine HQ.inb_ret ?_
                    refine HQ.then_ret ?_
                    refine HQ.then_ret ?_
                    refine HQ.inb_ret ?_
                    refine HQ.then_ret ?_
                    refine HQ.doneP (Res.one Tryd.results16 rfl) (List.Sublist.cons _ (List.Sublist.refl _)) (PLe.refl _) ?_
                    show Value.int .i64 1 = _
                    have hnb : nodeBad k x = 1 := by unfold nodeBad; repeat' split <;> omega
                    rw [nodesCheck_le (by omega) (by omega), hgo2, if_neg (by omega), hnb]
                  · try simp only [Bool.and_eq_true, Bool.and_eq_false_iff, Bool.or_eq_true, Bool.or_eq_false_iff, decide_eq_true_eq, decide_eq_false_iff_not, Int.not_lt, Int.not_le, beq_iff_eq, bne_iff_ne, ne_eq, Decidable.not_not, beq_eq_false_iff_ne, bne_eq_false_iff_eq, Bool.not_eq_true', Bool.not_eq_false'] at hc10
                    refine HC.skip ?_
                    refine HQ.inb_normal ?_
                    refine HQ.inb_normal ?_
                    refine HQ.next ?_
                    refine HC.sub (E' := [(13, _), (14, _), (15, _), (40, _), (41, _), (42, _), (45, _), (46, _), (47, _), (48, _), (49, _)]) ⟨rfl, rfl, rfl, rfl, rfl, rfl, rfl, rfl, rfl, rfl, rfl, trivial⟩ ?_
                    refine HC.region ?_
                    refine HL.quiet (y_add rfl rfl (by omega)) rfl ?_
                    refine HL.quiet (y_move rfl) rfl ?_
                    refine HL.nil ?_
                    exact HQ.again (k + 1) (⟨by omega, by rw [hgo2, if_pos (by unfold nodeBad; repeat' split <;> omega)]⟩) (by omega) ⟨rfl, rfl, rfl, trivial⟩ (List.Sublist.cons _ (List.Sublist.refl _)) (PLe.refl _)
            · try simp only [Bool.and_eq_true, Bool.and_eq_false_iff, Bool.or_eq_true, Bool.or_eq_false_iff, decide_eq_true_eq, decide_eq_false_iff_not, Int.not_lt, Int.not_le, beq_iff_eq, bne_iff_ne, ne_eq, Decidable.not_not, beq_eq_false_iff_ne, bne_eq_false_iff_eq, Bool.not_eq_true', Bool.not_eq_false'] at hc7
              refine HC.seq ?_
              refine HC.region ?_
              refine HL.quiet (y_eql rfl rfl) rfl ?_
              refine HL.quiet (y_assign rfl) rfl ?_
              refine HL.nil ?_
              refine HQ.next ?_
              refine HC.sub (E' := [(13, _), (14, _), (15, _), (4, _), (3, _), (21, _), (51, _)]) ⟨rfl, rfl, rfl, rfl, rfl, rfl, rfl, trivial⟩ ?_
              refine HC.cond rfl (fun hc11 => ?_) (fun hc11 => ?_)
              · try simp only [Bool.and_eq_true, Bool.and_eq_false_iff, Bool.or_eq_true, Bool.or_eq_false_iff, decide_eq_true_eq, decide_eq_false_iff_not, Int.not_lt, Int.not_le, beq_iff_eq, bne_iff_ne, ne_eq, Decidable.not_not, beq_eq_false_iff_ne, bne_eq_false_iff_eq, Bool.not_eq_true', Bool.not_eq_false'] at hc11
                refine HC.seq ?_
                refine HC.region ?_
                refine HL.quiet (y_fieldAddr (o := 1) (t := 3) Tryd.underlying37 rfl Tryd.sizeOf3 (by decide) rfl) rfl ?_
                refine HL.quiet (y_loadL (k := 0) Tryd.isAgg3 rfl rfl rfl) rfl ?_
                refine HL.quiet (y_lss rfl rfl) rfl ?_
                refine HL.quiet (y_move rfl) rfl ?_
                refine HL.split (t := 56) rfl (fun hg10 => ?_) (fun hg10 => ?_)
                · try simp only [Bool.and_eq_true, Bool.and_eq_false_iff, Bool.or_eq_true, Bool.or_eq_false_iff, decide_eq_true_eq, decide_eq_false_iff_not, Int.not_lt, Int.not_le, beq_iff_eq, bne_iff_ne, ne_eq, Decidable.not_not, beq_eq_false_iff_ne, bne_eq_false_iff_eq, Bool.not_eq_true', Bool.not_eq_false'] at hg10
                  refine HL.pass (t := 56) rfl rfl rfl rfl ?_
                  refine HL.pass (t := 56) rfl rfl rfl rfl ?_
                  refine HL.pass (t := 56) rfl rfl rfl rfl ?_
                  refine HL.pass (t := 56) rfl rfl rfl rfl ?_
                  refine HL.quiet (y_pick_true rfl rfl) rfl ?_
                  refine HL.nil ?_
                  refine HQ.next ?_
                  refine HC.sub (E' := [(13, _), (14, _), (15, _), (57, _), (58, _), (59, _), (60, _), (61, _)]) ⟨rfl, rfl, rfl, rfl, rfl, rfl, rfl, rfl, trivial⟩ ?_
                  refine HC.cond_true rfl ?_
                  refine HC.seq ?_
                  refine HC.region ?_
                  refine HL.quiet (y_assign rfl) rfl ?_
                  refine HL.nil ?_
                  refine HQ.next ?_
                  refine HC.sub (E' := [(2, _)]) ⟨rfl, trivial⟩ ?_
                  refine HC.ret ?_
                  refine HQ.inb_ret ?_
                  refine HQ.inb_ret ?_
                  refine HQ.then_ret ?_
                  refine HQ.then_ret ?_
                  refine HQ.inb_ret ?_
                  refine HQ.then_ret ?_
                  refine HQ.doneP (Res.one Tryd.results16 rfl) (List.Sublist.cons _ (List.Sublist.refl _)) (PLe.refl _) ?_
                  show Value.int .i64 1 = _
                  have hnb : nodeBad k x = 1 := by unfold nodeBad; repeat' split <;> omega
                  rw [nodesCheck_le (by omega) (by omega), hgo2, if_neg (by omega), hnb]
                · try simp only [Bool.and_eq_true, Bool.and_eq_false_iff, Bool.or_eq_true, Bool.or_eq_false_iff, decide_eq_true_eq, decide_eq_false_iff_not, Int.not_lt, Int.not_le, beq_iff_eq, bne_iff_ne, ne_eq, Decidable.not_not, beq_eq_false_iff_ne, bne_eq_false_iff_eq, Bool.not_eq_true', Bool.not_eq_false'] at hg10
                  refine HL.quiet_guard (t := 56) rfl rfl (y_fieldAddr (o := 1) (t := 3) Tryd.underlying37 rfl Tryd.sizeOf3 (by decide) rfl) rfl ?_
                  refine HL.quiet_guard (t := 56) rfl rfl (y_loadL (k := 0) Tryd.isAgg3 rfl rfl rfl) rfl ?_
                  refine HL.quiet_guard (t := 56) rfl rfl (y_move rfl) rfl ?_
                  refine HL.quiet_guard (t := 56) rfl rfl (y_geq rfl rfl) rfl ?_
                  refine HL.quiet (y_pick_false rfl rfl) rfl ?_
                  refine HL.nil ?_
                  refine HQ.next ?_
                  refine HC.sub (E' := [(13, _), (14, _), (15, _), (57, _), (58, _), (59, _), (60, _), (61, _)]) ⟨rfl, rfl, rfl, rfl, rfl, rfl, rfl, rfl, trivial⟩ ?_
                  refine HC.cond rfl (fun hc13 => ?_) (fun hc13 => ?_)
                  · try simp only [Bool.and_eq_true, Bool.and_eq_false_iff, Bool.or_eq_true, Bool.or_eq_false_iff, decide_eq_true_eq, decide_eq_false_iff_not, Int.not_lt, Int.not_le, beq_iff_eq, bne_iff_ne, ne_eq, Decidable.not_not, beq_eq_false_iff_ne, bne_eq_false_iff_eq, Bool.not_eq_true', Bool.not_eq_false'] at hc13
                    refine HC.seq ?_
                    refine HC.region ?_
                    refine HL.quiet (y_assign rfl) rfl ?_
                    refine HL.nil ?_
                    refine HQ.next ?_
                    refine HC.sub (E' := [(2, _)]) ⟨rfl, trivial⟩ ?_
                    refine HC.ret ?_
                    refine HQ.inb_ret ?_
                    refine HQ.inb_ret ?_
                    refine HQ.then_ret ?_
                    refine HQ.then_ret ?_
                    refine HQ.inb_ret ?_
                    refine HQ.then_ret ?_
                    refine HQ.doneP (Res.one Tryd.results16 rfl) (List.Sublist.cons _ (List.Sublist.refl _)) (PLe.refl _) ?_
                    show Value.int .i64 1 = _
                    have hnb : nodeBad k x = 1 := by unfold nodeBad; repeat' split <;> omega
                    rw [nodesCheck_le (by omega) (by omega), hgo2, if_neg (by omega), hnb]
                  · try simp only [Bool.and_eq_true, Bool.and_eq_false_iff, Bool.or_eq_true, Bool.or_eq_false_iff, decide_eq_true_eq, decide_eq_false_iff_not, Int.not_lt, Int.not_le, beq_iff_eq, bne_iff_ne, ne_eq, Decidable.not_not, beq_eq_false_iff_ne, bne_eq_false_iff_eq, Bool.not_eq_true', Bool.not_eq_false'] at hc13
                    refine HC.skip ?_
                    refine HQ.inb_normal ?_
                    refine HQ.inb_normal ?_
                    refine HQ.next ?_
                    refine HC.sub (E' := [(13, _), (14, _), (15, _), (57, _), (58, _), (59, _), (60, _)]) ⟨rfl, rfl, rfl, rfl, rfl, rfl, rfl, trivial⟩ ?_
                    refine HC.region ?_
                    refine HL.quiet (y_add rfl rfl (by omega)) rfl ?_
                    refine HL.quiet (y_move rfl) rfl ?_
                    refine HL.nil ?_
                    exact HQ.again (k + 1) (⟨by omega, by rw [hgo2, if_pos (by unfold nodeBad; repeat' split <;> omega)]⟩) (by omega) ⟨rfl, rfl, rfl, trivial⟩ (List.Sublist.cons _ (List.Sublist.refl _)) (PLe.refl _)
              · try simp only [Bool.and_eq_true, Bool.and_eq_false_iff, Bool.or_eq_true, Bool.or_eq_false_iff, decide_eq_true_eq, decide_eq_false_iff_not, Int.not_lt, Int.not_le, beq_iff_eq, bne_iff_ne, ne_eq, Decidable.not_not, beq_eq_false_iff_ne, bne_eq_false_iff_eq, Bool.not_eq_true', Bool.not_eq_false'] at hc11
                refine HC.seq ?_
                refine HC.seq ?_
                refine HC.region ?_
                refine HL.quiet (y_eql rfl rfl) rfl ?_
                refine HL.quiet (y_assign rfl) rfl ?_
                refine HL.nil ?_
                refine HQ.next ?_
                refine HC.sub (E' := [(13, _), (14, _), (15, _), (4, _), (3, _), (21, _), (62, _)]) ⟨rfl, rfl, rfl, rfl, rfl, rfl, rfl, trivial⟩ ?_
                refine HC.cond rfl (fun hc14 => ?_) (fun hc14 => ?_)
                · try simp only [Bool.and_eq_true, Bool.and_eq_false_iff, Bool.or_eq_true, Bool.or_eq_false_iff, decide_eq_true_eq, decide_eq_false_iff_not, Int.not_lt, Int.not_le, beq_iff_eq, bne_iff_ne, ne_eq, Decidable.not_not, beq_eq_false_iff_ne, bne_eq_false_iff_eq, Bool.not_eq_true', Bool.not_eq_false'] at hc14
                  refine HC.skip ?_
                  refine HQ.next ?_
                  refine HC.sub (E' := [(13, _), (14, _), (15, _), (4, _), (3, _), (62, _)]) ⟨rfl, rfl, rfl, rfl, rfl, rfl, trivial⟩ ?_
                  refine HC.cond rfl (fun hc15 => ?_) (fun hc15 => ?_)
                  · try simp only [Bool.and_eq_true, Bool.and_eq_false_iff, Bool.or_eq_true, Bool.or_eq_false_iff, decide_eq_true_eq, decide_eq_false_iff_not, Int.not_lt, Int.not_le, beq_iff_eq, bne_iff_ne, ne_eq, Decidable.not_not, beq_eq_false_iff_ne, bne_eq_false_iff_eq, Bool.not_eq_true', Bool.not_eq_false'] at hc15
                    refine HC.seq ?_
                    refine HC.region ?_
                    refine HL.quiet (y_fieldAddr (o := 1) (t := 3) Tryd.underlying37 rfl Tryd.sizeOf3 (by decide) rfl) rfl ?_
                    refine HL.quiet (y_loadL (k := 0) Tryd.isAgg3 rfl rfl rfl) rfl ?_
                    refine HL.quiet (y_lss rfl rfl) rfl ?_
                    refine HL.quiet (y_move rfl) rfl ?_
                    refine HL.split (t := 68) rfl (fun hg12 => ?_) (fun hg12 => ?_)
                    · try simp only [Bool.and_eq_true, Bool.and_eq_false_iff, Bool.or_eq_true, Bool.or_eq_false_iff, decide_eq_true_eq, decide_eq_false_iff_not, Int.not_lt, Int.not_le, beq_iff_eq, bne_iff_ne, ne_eq, Decidable.not_not, beq_eq_false_iff_ne, bne_eq_false_iff_eq, Bool.not_eq_true', Bool.not_eq_false'] at hg12
                      refine HL.pass (t := 68) rfl rfl rfl rfl ?_
                      refine HL.pass (t := 68) rfl rfl rfl rfl ?_
                      refine HL.pass (t := 68) rfl rfl rfl rfl ?_
                      refine HL.pass (t := 68) rfl rfl rfl rfl ?_
                      refine HL.quiet (y_pick_true rfl rfl) rfl ?_
                      refine HL.quiet (y_move rfl) rfl ?_
                      refine HL.pass (t := 74) rfl rfl rfl rfl ?_
                      refine HL.pass (t := 74) rfl rfl rfl rfl ?_
                      refine HL.pass (t := 74) rfl rfl rfl rfl ?_
                      refine HL.quiet (y_pick_true rfl rfl) rfl ?_
                      refine HL.quiet (y_move rfl) rfl ?_
                      refine HL.pass (t := 79) rfl rfl rfl rfl ?_
                      refine HL.pass (t := 79) rfl rfl rfl rfl ?_
                      refine HL.pass (t := 79) rfl rfl rfl rfl ?_
                      refine HL.pass (t := 79) rfl rfl rfl rfl ?_
                      refine HL.quiet (y_pick_true rfl rfl) rfl ?_
                      refine HL.nil ?_
                      refine HQ.next ?_
                      refine HC.sub (E' := [(13, _), (14, _), (15, _), (69, _), (70, _), (71, _), (72, _), (75, _), (76, _), (77, _), (80, _), (81, _), (82, _), (83, _), (84, _)]) ⟨rfl, rfl, rfl, rfl, rfl, rfl, rfl, rfl, rfl, rfl, rfl, rfl, rfl, rfl, rfl, trivial⟩ ?_
                      refine HC.cond_true rfl ?_
                      refine HC.seq ?_
                      refine HC.region ?_
                      refine HL.quiet (y_assign rfl) rfl ?_
                      refine HL.nil ?_
                      refine HQ.next ?_
                      refine HC.sub (E' := [(2, _)]) ⟨rfl, trivial⟩ ?_
                      refine HC.ret ?_
                      refine HQ.inb_ret ?_
                      refine HQ.inb_ret ?_
                      refine HQ.then_ret ?_
                      refine HQ.then_ret ?_
                      refine HQ.inb_ret ?_
                      refine HQ.then_ret ?_
                      refine HQ.doneP (Res.one Tryd.results16 rfl) (List.Sublist.cons _ (List.Sublist.refl _)) (PLe.refl _) ?_
                      show Value.int .i64 1 = _
                      have hnb : nodeBad k x = 1 := by unfold nodeBad; repeat' split <;> omega
                      rw [nodesCheck_le (by omega) (by omega), hgo2, if_neg (by omega), hnb]
                    · try simp only [Bool.and_eq_true, Bool.and_eq_false_iff, Bool.or_eq_true, Bool.or_eq_false_iff, decide_eq_true_eq, decide_eq_false_iff_not, Int.not_lt, Int.not_le, beq_iff_eq, bne_iff_ne, ne_eq, Decidable.not_not, beq_eq_false_iff_ne, bne_eq_false_iff_eq, Bool.not_eq_true', Bool.not_eq_false'] at hg12
                      refine HL.quiet_guard (t := 68) rfl rfl (y_fieldAddr (o := 1) (t := 3) Tryd.underlying37 rfl Tryd.sizeOf3 (by decide) rfl) rfl ?_
                      refine HL.quiet_guard (t := 68) rfl rfl (y_loadL (k := 0) Tryd.isAgg3 rfl rfl rfl) rfl ?_
                      refine HL.quiet_guard (t := 68) rfl rfl (y_move rfl) rfl ?_
                      refine HL.quiet_guard (t := 68) rfl rfl (y_geq rfl rfl) rfl ?_
                      refine HL.quiet (y_pick_false rfl rfl) rfl ?_
                      refine HL.quiet (y_move rfl) rfl ?_
                      refine HL.split (t := 74) rfl (fun hg14 => ?_) (fun hg14 => ?_)
                      · try simp only [Bool.and_eq_true, Bool.and_eq_false_iff, Bool.or_eq_true, Bool.or_eq_false_iff, decide_eq_true_eq, decide_eq_false_iff_not, Int.not_lt, Int.not_le, beq_iff_eq, bne_iff_ne, ne_eq, Decidable.not_not, beq_eq_false_iff_ne, bne_eq_false_iff_eq, Bool.not_eq_true', Bool.not_eq_false'] at hg14
                        refine HL.pass (t := 74) rfl rfl rfl rfl ?_
                        refine HL.pass (t := 74) rfl rfl rfl rfl ?_
                        refine HL.pass (t := 74) rfl rfl rfl rfl ?_
                        refine HL.quiet (y_pick_true rfl rfl) rfl ?_
                        refine HL.quiet (y_move rfl) rfl ?_
                        refine HL.pass (t := 79) rfl rfl rfl rfl ?_
                        refine HL.pass (t := 79) rfl rfl rfl rfl ?_
                        refine HL.pass (t := 79) rfl rfl rfl rfl ?_
                        refine HL.pass (t := 79) rfl rfl rfl rfl ?_
                        refine HL.quiet (y_pick_true rfl rfl) rfl ?_
                        refine HL.nil ?_
                        refine HQ.next ?_
                        refine HC.sub (E' := [(13, _), (14, _), (15, _), (69, _), (70, _), (71, _), (72, _), (75, _), (76, _), (77, _), (80, _), (81, _), (82, _), (83, _), (84, _)]) ⟨rfl, rfl, rfl, rfl, rfl, rfl, rfl, rfl, rfl, rfl, rfl, rfl, rfl, rfl, rfl, trivial⟩ ?_
                        refine HC.cond_true rfl ?_
                        refine HC.seq ?_
                        refine HC.region ?_
                        refine HL.quiet (y_assign rfl) rfl ?_
                        refine HL.nil ?_
                        refine HQ.next ?_
                        refine HC.sub (E' := [(2, _)]) ⟨rfl, trivial⟩ ?_
                        refine HC.ret ?_
                        refine HQ.inb_ret ?_
                        refine HQ.inb_ret ?_
                        refine HQ.then_ret ?_
                        refine HQ.then_ret ?_
                        refine HQ.inb_ret ?_
                        refine HQ.then_ret ?_
                        refine HQ.doneP (Res.one Tryd.results16 rfl) (List.Sublist.cons _ (List.Sublist.refl _)) (PLe.refl _) ?_
                        show Value.int .i64 1 = _
                        have hnb : nodeBad k x = 1 := by unfold nodeBad; repeat' split <;> omega
                        rw [nodesCheck_le (by omega) (by omega), hgo2, if_neg (by omega), hnb]
                      · try simp only [Bool.and_eq_true, Bool.and_eq_false_iff, Bool.or_eq_true, Bool.or_eq_false_iff, decide_eq_true_eq, decide_eq_false_iff_not, Int.not_lt, Int.not_le, beq_iff_eq, bne_iff_ne, ne_eq, Decidable.not_not, beq_eq_false_iff_ne, bne_eq_false_iff_eq, Bool.not_eq_true', Bool.not_eq_false'] at hg14
                        refine HL.quiet_guard (t := 74) rfl rfl (y_fieldAddr (o := 2) (t := 3) Tryd.underlying37 rfl Tryd.sizeOf3 (by decide) rfl) rfl ?_
                        refine HL.quiet_guard (t := 74) rfl rfl (y_loadL (k := 0) Tryd.isAgg3 rfl rfl rfl) rfl ?_
                        refine HL.quiet_guard (t := 74) rfl rfl (y_lss rfl rfl) rfl ?_
                        refine HL.quiet (y_pick_false rfl rfl) rfl ?_
                        refine HL.quiet (y_move rfl) rfl ?_
                        refine HL.split (t := 79) rfl (fun hg16 => ?_) (fun hg16 => ?_)
                        · try simp only [Bool.and_eq_true, Bool.and_eq_false_iff, Bool.or_eq_true, Bool.or_eq_false_iff, decide_eq_true_eq, decide_eq_false_iff_not, Int.not_lt, Int.not_le, beq_iff_eq, bne_iff_ne, ne_eq, Decidable.not_not, beq_eq_false_iff_ne, bne_eq_false_iff_eq, Bool.not_eq_true', Bool.not_eq_false'] at hg16
                          refine HL.pass (t := 79) rfl rfl rfl rfl ?_
                          refine HL.pass (t := 79) rfl rfl rfl rfl ?_
                          refine HL.pass (t := 79) rfl rfl rfl rfl ?_
                          refine HL.pass (t := 79) rfl rfl rfl rfl ?_
                          refine HL.quiet (y_pick_true rfl rfl) rfl ?_
                          refine HL.nil ?_
                          refine HQ.next ?_
                          refine HC.sub (E' := [(13, _), (14, _), (15, _), (69, _), (70, _), (71, _), (72, _), (75, _), (76, _), (77, _), (80, _), (81, _), (82, _), (83, _), (84, _)]) ⟨rfl, rfl, rfl, rfl, rfl, rfl, rfl, rfl, rfl, rfl, rfl, rfl, rfl, rfl, rfl, trivial⟩ ?_
                          refine HC.cond_true rfl ?_
                          refine HC.seq ?_
                          refine HC.region ?_
                          refine HL.quiet (y_assign rfl) rfl ?_
                          refine HL.nil ?_
                          refine HQ.next ?_
                          refine HC.sub (E' := [(2, _)]) ⟨rfl, trivial⟩ ?_
                          refine HC.ret ?_
                          refine HQ.inb_ret ?_
                          refine HQ.inb_ret ?_
                          refine HQ.then_ret ?_
                          refine HQ.then_ret ?_
                          refine HQ.inb_ret ?_
                          refine HQ.then_ret ?_
                          refine HQ.doneP (Res.one Tryd.results16 rfl) (List.Sublist.cons _ (List.Sublist.refl _)) (PLe.refl _) ?_
                          show Value.int .i64 1 = _
                          have hnb : nodeBad k x = 1 := by unfold nodeBad; repeat' split <;> omega
                          rw [nodesCheck_le (by omega) (by omega), hgo2, if_neg (by omega), hnb]
                        · try simp only [Bool.and_eq_true, Bool.and_eq_false_iff, Bool.or_eq_true, Bool.or_eq_false_iff, decide_eq_true_eq, decide_eq_false_iff_not, Int.not_lt, Int.not_le, beq_iff_eq, bne_iff_ne, ne_eq, Decidable.not_not, beq_eq_false_iff_ne, bne_eq_false_iff_eq, Bool.not_eq_true', Bool.not_eq_false'] at hg16
                          refine HL.quiet_guard (t := 79) rfl rfl (y_fieldAddr (o := 2) (t := 3) Tryd.underlying37 rfl Tryd.sizeOf3 (by decide) rfl) rfl ?_
                          refine HL.quiet_guard (t := 79) rfl rfl (y_loadL (k := 0) Tryd.isAgg3 rfl rfl rfl) rfl ?_
                          refine HL.quiet_guard (t := 79) rfl rfl (y_move rfl) rfl ?_
                          refine HL.quiet_guard (t := 79) rfl rfl (y_geq rfl rfl) rfl ?_
                          refine HL.quiet (y_pick_false rfl rfl) rfl ?_
                          refine HL.nil ?_
                          refine HQ.next ?_
                          refine HC.sub (E' := [(13, _), (14, _), (15, _), (69, _), (70, _), (71, _), (72, _), (75, _), (76, _), (77, _), (80, _), (81, _), (82, _), (83, _), (84, _)]) ⟨rfl, rfl, rfl, rfl, rfl, rfl, rfl, rfl, rfl, rfl, rfl, rfl, rfl, rfl, rfl, trivial⟩ ?_
                          refine HC.cond rfl (fun hc19 => ?_) (fun hc19 => ?_)
                          · try simp only [Bool.and_eq_true, Bool.and_eq_false_iff, Bool.or_eq_true, Bool.or_eq_false_iff, decide_eq_true_eq, decide_eq_false_iff_not, Int.not_lt, Int.not_le, beq_iff_eq, bne_iff_ne, ne_eq, Decidable.not_not, beq_eq_false_iff_ne, bne_eq_false_iff_eq, Bool.not_eq_true', Bool.not_eq_false'] at hc19
                            refine HC.seq ?_
                            refine HC.region ?_
                            refine HL.quiet (y_assign rfl) rfl ?_
                            refine HL.nil ?_
                            refine HQ.next ?_
                            refine HC.sub (E' := [(2, _)]) ⟨rfl, trivial⟩ ?_
                            refine HC.ret ?_
                            refine HQ.inb_ret ?_
                            refine HQ.inb_ret ?_
                            refine HQ.then_ret ?_
                            refine HQ.then_ret ?_
                            refine HQ.inb_ret ?_
                            refine HQ.then_ret ?_
                            refine HQ.doneP (Res.one Tryd.results16 rfl) (List.Sublist.cons _ (List.Sublist.refl _)) (PLe.refl _) ?_
                            show Value.int .i64 1 = _
                            have hnb : nodeBad k x = 1 := by unfold nodeBad; repeat' split <;> omega
                            rw [nodesCheck_le (by omega) (by omega), hgo2, if_neg (by omega), hnb]
                          · try simp only [Bool.and_eq_true, Bool.and_eq_false_iff, Bool.or_eq_true, Bool.or_eq_false_iff, decide_eq_true_eq, decide_eq_false_iff_not, Int.not_lt, Int.not_le, beq_iff_eq, bne_iff_ne, ne_eq, Decidable.not_not, beq_eq_false_iff_ne, bne_eq_false_iff_eq, Bool.not_eq_true', Bool.not_eq_false'] at hc19
                            refine HC.skip ?_
                            refine HQ.inb_normal ?_
                            refine HQ.inb_normal ?_
                            refine HQ.next ?_
                            refine HC.sub (E' := [(13, _), (14, _), (15, _), (69, _), (70, _), (71, _), (72, _), (75, _), (76, _), (77, _), (80, _), (81, _), (82, _), (83, _)]) ⟨rfl, rfl, rfl, rfl, rfl, rfl, rfl, rfl, rfl, rfl, rfl, rfl, rfl, rfl, trivial⟩ ?_
                            refine HC.region ?_
                            refine HL.quiet (y_add rfl rfl (by omega)) rfl ?_
                            refine HL.quiet (y_move rfl) rfl ?_
                            refine HL.nil ?_
                            exact HQ.again (k + 1) (⟨by omega, by rw [hgo2, if_pos (by unfold nodeBad; repeat' split <;> omega)]⟩) (by omega) ⟨rfl, rfl, rfl, trivial⟩ (List.Sublist.cons _ (List.Sublist.refl _)) (PLe.refl _)
                  · try simp only [Bool.and_eq_true, Bool.and_eq_false_iff, Bool.or_eq_true, Bool.or_eq_false_iff, decide_eq_true_eq, decide_eq_false_iff_not, Int.not_lt, Int.not_le, beq_iff_eq, bne_iff_ne, ne_eq, Decidable.not_not, beq_eq_false_iff_ne, bne_eq_false_iff_eq, Bool.not_eq_true', Bool.not_eq_false'] at hc15
                    refine HC.seq ?_
                    refine HC.region ?_
                    refine HL.quiet (y_assign rfl) rfl ?_
                    refine HL.nil ?_
                    refine HQ.next ?_
                    refine HC.sub (E' := [(2, _)]) ⟨rfl, trivial⟩ ?_
                    refine HC.ret ?_
                    refine HQ.inb_ret ?_
                    refine HQ.inb_ret ?_
                    refine HQ.then_ret ?_
                    refine HQ.then_ret ?_
                    refine HQ.inb_ret ?_
                    refine HQ.then_ret ?_
                    refine HQ.doneP (Res.one Tryd.results16 rfl) (List.Sublist.cons _ (List.Sublist.refl _)) (PLe.refl _) ?_
                    show Value.int .i64 3 = _
                    have hnb : nodeBad k x = 3 := by unfold nodeBad; repeat' split <;> omega
                    rw [nodesCheck_le (by omega) (by omega), hgo2, if_neg (by omega), hnb]
                · try simp only [Bool.and_eq_true, Bool.and_eq_false_iff, Bool.or_eq_true, Bool.or_eq_false_iff, decide_eq_true_eq, decide_eq_false_iff_not, Int.not_lt, Int.not_le, beq_iff_eq, bne_iff_ne, ne_eq, Decidable.not_not, beq_eq_false_iff_ne, bne_eq_false_iff_eq, Bool.not_eq_true', Bool.not_eq_false'] at hc14
                  refine HC.region ?_
                  refine HL.quiet (y_eql rfl rfl) rfl ?_
                  refine HL.quiet (y_assign rfl) rfl ?_
                  refine HL.nil ?_
                  refine HQ.next ?_
                  refine HC.sub (E' := [(13, _), (14, _), (15, _), (4, _), (3, _), (62, _)]) ⟨rfl, rfl, rfl, rfl, rfl, rfl, trivial⟩ ?_
                  refine HC.cond rfl (fun hc20 => ?_) (fun hc20 => ?_)
                  · try simp only [Bool.and_eq_true, Bool.and_eq_false_iff, Bool.or_eq_true, Bool.or_eq_false_iff, decide_eq_true_eq, decide_eq_false_iff_not, Int.not_lt, Int.not_le, beq_iff_eq, bne_iff_ne, ne_eq, Decidable.not_not, beq_eq_false_iff_ne, bne_eq_false_iff_eq, Bool.not_eq_true', Bool.not_eq_false'] at hc20
                    refine HC.seq ?_
                    refine HC.region ?_
                    refine HL.quiet (y_fieldAddr (o := 1) (t := 3) Tryd.underlying37 rfl Tryd.sizeOf3 (by decide) rfl) rfl ?_
                    refine HL.quiet (y_loadL (k := 0) Tryd.isAgg3 rfl rfl rfl) rfl ?_
                    refine HL.quiet (y_lss rfl rfl) rfl ?_
                    refine HL.quiet (y_move rfl) rfl ?_
                    refine HL.split (t := 68) rfl (fun hg18 => ?_) (fun hg18 => ?_)
                    · try simp only [Bool.and_eq_true, Bool.and_eq_false_iff, Bool.or_eq_true, Bool.or_eq_false_iff, decide_eq_true_eq, decide_eq_false_iff_not, Int.not_lt, Int.not_le, beq_iff_eq, bne_iff_ne, ne_eq, Decidable.not_not, beq_eq_false_iff_ne, bne_eq_false_iff_eq, Bool.not_eq_true', Bool.not_eq_false'] at hg18
                      refine HL.pass (t := 68) rfl rfl rfl rfl ?_
                      refine HL.pass (t := 68) rfl rfl rfl rfl ?_
                      refine HL.pass (t := 68) rfl rfl rfl rfl ?_
                      refine HL.pass (t := 68) rfl rfl rfl rfl ?_
                      refine HL.quiet (y_pick_true rfl rfl) rfl ?_
                      refine HL.quiet (y_move rfl) rfl ?_
                      refine HL.pass (t := 74) rfl rfl rfl rfl ?_
                      refine HL.pass (t := 74) rfl rfl rfl rfl ?_
                      refine HL.pass (t := 74) rfl rfl rfl rfl ?_
                      refine HL.quiet (y_pick_true rfl rfl) rfl ?_
                      refine HL.quiet (y_move rfl) rfl ?_
                      refine HL.pass (t := 79) rfl rfl rfl rfl ?_
                      refine HL.pass (t := 79) rfl rfl rfl rfl ?_
                      refine HL.pass (t := 79) rfl rfl rfl rfl ?_
                      refine HL.pass (t := 79) rfl rfl rfl rfl ?_
                      refine HL.quiet (y_pick_true rfl rfl) rfl ?_
                      refine HL.nil ?_
                      refine HQ.next ?_
                      refine HC.sub (E' := [(13, _), (14, _), (15, _), (69, _), (70, _), (71, _), (72, _), (75, _), (76, _), (77, _), (80, _), (81, _), (82, _), (83, _), (84, _)]) ⟨rfl, rfl, rfl, rfl, rfl, rfl, rfl, rfl, rfl, rfl, rfl, rfl, rfl, rfl, rfl, trivial⟩ ?_
                      refine HC.cond_true rfl ?_
                      refine HC.seq ?_
                      refine HC.region ?_
                      refine HL.quiet (y_assign rfl) rfl ?_
                      refine HL.nil ?_
                      refine HQ.next ?_
                      refine HC.sub (E' := [(2, _)]) ⟨rfl, trivial⟩ ?_
                      refine HC.ret ?_
                      refine HQ.inb_ret ?_
                      refine HQ.inb_ret ?_
                      refine HQ.then_ret ?_
                      refine HQ.then_ret ?_
                      refine HQ.inb_ret ?_
                      refine HQ.then_ret ?_
                      refine HQ.doneP (Res.one Tryd.results16 rfl) (List.Sublist.cons _ (List.Sublist.refl _)) (PLe.refl _) ?_
                      show Value.int .i64 1 = _
                      have hnb : nodeBad k x = 1 := by unfold nodeBad; repeat' split <;> omega
                      rw [nodesCheck_le (by omega) (by omega), hgo2, if_neg (by omega), hnb]
                    · try simp only [Bool.and_eq_true, Bool.and_eq_false_iff, Bool.or_eq_true, Bool.or_eq_false_iff, decide_eq_true_eq, decide_eq_false_iff_not, Int.not_lt, Int.not_le, beq_iff_eq, bne_iff_ne, ne_eq, Decidable.not_not, beq_eq_false_iff_ne, bne_eq_false_iff_eq, Bool.not_eq_true', Bool.not_eq_false'] at hg18
                      refine HL.quiet_guard (t := 68) rfl rfl (y_fieldAddr (o := 1) (t := 3) Tryd.underlying37 rfl Tryd.sizeOf3 (by decide) rfl) rfl ?_
                      refine HL.quiet_guard (t := 68) rfl rfl (y_loadL (k := 0) Tryd.isAgg3 rfl rfl rfl) rfl ?_
                      refine HL.quiet_guard (t := 68) rfl rfl (y_move rfl) rfl ?_
                      refine HL.quiet_guard (t := 68) rfl rfl (y_geq rfl rfl) rfl ?_
                      refine HL.quiet (y_pick_false rfl rfl) rfl ?_
                      refine HL.quiet (y_move rfl) rfl ?_
                      refine HL.split (t := 74) rfl (fun hg20 => ?_) (fun hg20 => ?_)
                      · try simp only [Bool.and_eq_true, Bool.and_eq_false_iff, Bool.or_eq_true, Bool.or_eq_false_iff, decide_eq_true_eq, decide_eq_false_iff_not, Int.not_lt, Int.not_le, beq_iff_eq, bne_iff_ne, ne_eq, Decidable.not_not, beq_eq_false_iff_ne, bne_eq_false_iff_eq, Bool.not_eq_true', Bool.not_eq_false'] at hg20
                        refine HL.pass (t := 74) rfl rfl rfl rfl ?_
                        refine HL.pass (t := 74) rfl rfl rfl rfl ?_
                        refine HL.pass (t := 74) rfl rfl rfl rfl ?_
                        refine HL.quiet (y_pick_true rfl rfl) rfl ?_
                        refine HL.quiet (y_move rfl) rfl ?_
                        refine HL.pass (t := 79) rfl rfl rfl rfl ?_
                        refine HL.pass (t := 79) rfl rfl rfl rfl ?_
                        refine HL.pass (t := 79) rfl rfl rfl rfl ?_
                        refine HL.pass (t := 79) rfl rfl rfl rfl ?_
                        refine HL.quiet (y_pick_true rfl rfl) rfl ?_
                        refine HL.nil ?_
                        refine HQ.next ?_
                        refine HC.sub (E' := [(13, _), (14, _), (15, _), (69, _), (70, _), (71, _), (72, _), (75, _), (76, _), (77, _), (80, _), (81, _), (82, _), (83, _), (84, _)]) ⟨rfl, rfl, rfl, rfl, rfl, rfl, rfl, rfl, rfl, rfl, rfl, rfl, rfl, rfl, rfl, trivial⟩ ?_
                        refine HC.cond_true rfl ?_
                        refine HC.seq ?_
                        refine HC.region ?_
                        refine HL.quiet (y_assign rfl) rfl ?_
                        refine HL.nil ?_
                        refine HQ.next ?_
                        refine HC.sub (E' := [(2, _)]) ⟨rfl, trivial⟩ ?_
                        refine HC.ret ?_
                        refine HQ.inb_ret ?_
                        refine HQ.inb_ret ?_
                        refine HQ.then_ret ?_
                        refine HQ.then_ret ?_
                        refine HQ.inb_ret ?_
                        refine HQ.then_ret ?_
                        refine HQ.doneP (Res.one Tryd.results16 rfl) (List.Sublist.cons _ (List.Sublist.refl _)) (PLe.refl _) ?_
                        show Value.int .i64 1 = _
                        have hnb : nodeBad k x = 1 := by unfold nodeBad; repeat' split <;> omega
                        rw [nodesCheck_le (by omega) (by omega), hgo2, if_neg (by omega), hnb]
                      · try simp only [Bool.and_eq_true, Bool.and_eq_false_iff, Bool.or_eq_true, Bool.or_eq_false_iff, decide_eq_true_eq, decide_eq_false_iff_not, Int.not_lt, Int.not_le, beq_iff_eq, bne_iff_ne, ne_eq, Decidable.not_not, beq_eq_false_iff_ne, bne_eq_false_iff_eq, Bool.not_eq_true', Bool.not_eq_false'] at hg20
                        refine HL.quiet_guard (t := 74) rfl rfl (y_fieldAddr (o := 2) (t := 3) Tryd.underlying37 rfl Tryd.sizeOf3 (by decide) rfl) rfl ?_
                        refine HL.quiet_guard (t := 74) rfl rfl (y_loadL (k := 0) Tryd.isAgg3 rfl rfl rfl) rfl ?_
                        refine HL.quiet_guard (t := 74) rfl rfl (y_lss rfl rfl) rfl ?_
                        refine HL.quiet (y_pick_false rfl rfl) rfl ?_
                        refine HL.quiet (y_move rfl) rfl ?_
                        refine HL.split (t := 79) rfl (fun hg22 => ?_) (fun hg22 => ?_)
                        · try simp only [Bool.and_eq_true, Bool.and_eq_false_iff, Bool.or_eq_true, Bool.or_eq_false_iff, decide_eq_true_eq, decide_eq_false_iff_not, Int.not_lt, Int.not_le, beq_iff_eq, bne_iff_ne, ne_eq, Decidable.not_not, beq_eq_false_iff_ne, bne_eq_false_iff_eq, Bool.not_eq_true', Bool.not_eq_false'] at hg22
                          refine HL.pass (t := 79) rfl rfl rfl rfl ?_
                          refine HL.pass (t := 79) rfl rfl rfl rfl ?_
                          refine HL.pass (t := 79) rfl rfl rfl rfl ?_
                          refine HL.pass (t := 79) rfl rfl rfl rfl ?_
                          refine HL.quiet (y_pick_true rfl rfl) rfl ?_
                          refine HL.nil ?_
                          refine HQ.next ?_
                          refine HC.sub (E' := [(13, _), (14, _), (15, _), (69, _), (70, _), (71, _), (72, _), (75, _), (76, _), (77, _), (80, _), (81, _), (82, _), (83, _), (84, _)]) ⟨rfl, rfl, rfl, rfl, rfl, rfl, rfl, rfl, rfl, rfl, rfl, rfl, rfl, rfl, rfl, trivial⟩ ?_
                          refine HC.cond_true rfl ?_
                          refine HC.seq ?_
                          refine HC.region ?_
                          refine HL.quiet (y_assign rfl) rfl ?_
                          refine HL.nil ?_
                          refine HQ.next ?_
                          refine HC.sub (E' := [(2, _)]) ⟨rfl, trivial⟩ ?_
                          refine HC.ret ?_
                          refine HQ.inb_ret ?_
                          refine HQ.inb_ret ?_
                          refine HQ.then_ret ?_
                          refine HQ.then_ret ?_
                          refine HQ.inb_ret ?_
                          refine HQ.then_ret ?_
                          refine HQ.doneP (Res.one Tryd.results16 rfl) (List.Sublist.cons _ (List.Sublist.refl _)) (PLe.refl _) ?_
                          show Value.int .i64 1 = _
                          have hnb : nodeBad k x = 1 := by unfold nodeBad; repeat' split <;> omega
                          rw [nodesCheck_le (by omega) (by omega), hgo2, if_neg (by omega), hnb]
                        · try simp only [Bool.and_eq_true, Bool.and_eq_false_iff, Bool.or_eq_true, Bool.or_eq_false_iff, decide_eq_true_eq, decide_eq_false_iff_not, Int.not_lt, Int.not_le, beq_iff_eq, bne_iff_ne, ne_eq, Decidable.not_not, beq_eq_false_iff_ne, bne_eq_false_iff_eq, Bool.not_eq_true', Bool.not_eq_false'] at hg22
                          refine HL.quiet_guard (t := 79) rfl rfl (y_fieldAddr (o := 2) (t := 3) Tryd.underlying37 rfl Tryd.sizeOf3 (by decide) rfl) rfl ?_
                          refine HL.quiet_guard (t := 79) rfl rfl (y_loadL (k := 0) Tryd.isAgg3 rfl rfl rfl) rfl ?_
                          refine HL.quiet_guard (t := 79) rfl rfl (y_move rfl) rfl ?_
                          refine HL.quiet_guard (t := 79) rfl rfl (y_geq rfl rfl) rfl ?_
                          refine HL.quiet (y_pick_false rfl rfl) rfl ?_
                          refine HL.nil ?_
                          refine HQ.next ?_
                          refine HC.sub (E' := [(13, _), (14, _), (15, _), (69, _), (70, _), (71, _), (72, _), (75, _), (76, _), (77, _), (80, _), (81, _), (82, _), (83, _), (84, _)]) ⟨rfl, rfl, rfl, rfl, rfl, rfl, rfl, rfl, rfl, rfl, rfl, rfl, rfl, rfl, rfl, trivial⟩ ?_
                          refine HC.cond rfl (fun hc24 => ?_) (fun hc24 => ?_)
                          · try simp only [Bool.and_eq_true, Bool.and_eq_false_iff, Bool.or_eq_true, Bool.or_eq_false_iff, decide_eq_true_eq, decide_eq_false_iff_not, Int.not_lt, Int.not_le, beq_iff_eq, bne_iff_ne, ne_eq, Decidable.not_not, beq_eq_false_iff_ne, bne_eq_false_iff_eq, Bool.not_eq_true', Bool.not_eq_false'] at hc24
                            refine HC.seq ?_
                            refine HC.region ?_
                            refine HL.quiet (y_assign rfl) rfl ?_
                            refine HL.nil ?_
                            refine HQ.next ?_
                            refine HC.sub (E' := [(2, _)]) ⟨rfl, trivial⟩ ?_
                            refine HC.ret ?_
                            refine HQ.inb_ret ?_
                            refine HQ.inb_ret ?_
                            refine HQ.then_ret ?_
                            refine HQ.then_ret ?_
                            refine HQ.inb_ret ?_
                            refine HQ.then_ret ?_
                            refine HQ.doneP (Res.one Tryd.results16 rfl) (List.Sublist.cons _ (List.Sublist.refl _)) (PLe.refl _) ?_
                            show Value.int .i64 1 = _
                            have hnb : nodeBad k x = 1 := by unfold nodeBad; repeat' split <;> omega
                            rw [nodesCheck_le (by omega) (by omega), hgo2, if_neg (by omega), hnb]
                          · try simp only [Bool.and_eq_true, Bool.and_eq_false_iff, Bool.or_eq_true, Bool.or_eq_false_iff, decide_eq_true_eq, decide_eq_false_iff_not, Int.not_lt, Int.not_le, beq_iff_eq, bne_iff_ne, ne_eq, Decidable.not_not, beq_eq_false_iff_ne, bne_eq_false_iff_eq, Bool.not_eq_true', Bool.not_eq_false'] at hc24
                            refine HC.skip ?_
                            refine HQ.inb_normal ?_
                            refine HQ.inb_normal ?_
                            refine HQ.next ?_
                            refine HC.sub (E' := [(13, _), (14, _), (15, _), (69, _), (70, _), (71, _), (72, _), (75, _), (76, _), (77, _), (80, _), (81, _), (82, _), (83, _)]) ⟨rfl, rfl, rfl, rfl, rfl, rfl, rfl, rfl, rfl, rfl, rfl, rfl, rfl, rfl, trivial⟩ ?_
                            refine HC.region ?_
                            refine HL.quiet (y_add rfl rfl (by omega)) rfl ?_
                            refine HL.quiet (y_move rfl) rfl ?_
                            refine HL.nil ?_
                            exact HQ.again (k + 1) (⟨by omega, by rw [hgo2, if_pos (by unfold nodeBad; repeat' split <;> omega)]⟩) (by omega) ⟨rfl, rfl, rfl, trivial⟩ (List.Sublist.cons _ (List.Sublist.refl _)) (PLe.refl _)
                  · try simp only [Bool.and_eq_true, Bool.and_eq_false_iff, Bool.or_eq_true, Bool.or_eq_false_iff, decide_eq_true_eq, decide_eq_false_iff_not, Int.not_lt, Int.not_le, beq_iff_eq, bne_iff_ne, ne_eq, Decidable.not_not, beq_eq_false_iff_ne, bne_eq_false_iff_eq, Bool.not_eq_true', Bool.not_eq_false'] at hc20
                    refine HC.seq ?_
                    refine HC.region ?_
                    refine HL.quiet (y_assign rfl) rfl ?_
                    refine HL.nil ?_
                    refine HQ.next ?_
                    refine HC.sub (E' := [(2, _)]) ⟨rfl, trivial⟩ ?_
                    refine HC.ret ?_
                    refine HQ.inb_ret ?_
                    refine HQ.inb_ret ?_
                    refine HQ.then_ret ?_
                    refine HQ.then_ret ?_
                    refine HQ.inb_ret ?_
                    refine HQ.then_ret ?_
                    refine HQ.doneP (Res.one Tryd.results16 rfl) (List.Sublist.cons _ (List.Sublist.refl _)) (PLe.refl _) ?_
                    show Value.int .i64 3 = _
                    have hnb : nodeBad k x = 3 := by unfold nodeBad; repeat' split <;> omega
                    rw [nodesCheck_le (by omega) (by omega), hgo2, if_neg (by omega), hnb]
      · try simp only [Bool.and_eq_true, Bool.and_eq_false_iff, Bool.or_eq_true, Bool.or_eq_false_iff, decide_eq_true_eq, decide_eq_false_iff_not, Int.not_lt, Int.not_le, beq_iff_eq, bne_iff_ne, ne_eq, Decidable.not_not, beq_eq_false_iff_ne, bne_eq_false_iff_eq, Bool.not_eq_true', Bool.not_eq_false'] at hc2
        refine HC.exit ?_
        refine HQ.then_exit ?_
        refine HQ.then_exit ?_
        refine HQ.inb_exit ?_
        refine HQ.next ?_
        refine HC.sub (E' := []) trivial ?_
        refine HC.seq ?_
        refine HC.region ?_
        refine HL.quiet (y_assign rfl) rfl ?_
        refine HL.nil ?_
        refine HQ.next ?_
        refine HC.ret ?_
        refine HQ.doneP (Res.one Tryd.results16 rfl) (List.Sublist.refl _) (PLe.refl _) ?_
        show Value.int .i64 0 = _
        rw [nodesCheck_le (by omega) (by omega), hgo, List.drop_eq_nil_of_le (by omega), nodesGo]

end Go.Rm
