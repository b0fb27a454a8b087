/- What this text holds: the walk of TextFront, printed by a program of mine (wip/tools/walk.py) from plans of mine. -/
import Derived.Test.YtpcgfadcojaceaaDoorRmTextD
import Derived.Test.YtpcgfadcojaceaaDoorRmText2
set_option linter.unusedVariables false
set_option linter.unusedSimpArgs false
set_option linter.unusedSectionVars false
namespace Go.Rm
open Go Go.Proofs
set_option maxRecDepth 100000

theorem front_known : readText (⟨#[40, 42, 38, 91, 51, 44, 57, 41, 41]⟩ : ByteArray) = (0, [⟨1, 0, 0⟩, ⟨3, 3, 9⟩, ⟨5, 0, 1⟩]) := by kernel_rfl
theorem empty_of {t : ByteArray} (h : t.size = 0) : t = ⟨#[]⟩ := ByteArray.ext (Array.eq_empty_of_size_eq_zero h)

theorem walk_TextFront (I : PHeap) (hG : Globs I) (s t : ByteArray) (hst : s.size + t.size ≤ 9223372036854775807) : Pure Tryd.prog 3 [.string s, .string t] I (fun r _ => r = .bool true) := by
  refine Pure.of_body Tryd.func3 rfl Tryd.ntmps3 rfl (fun W Lf => ?_)
  refine HC.seq ?_
  refine HC.region ?_
  refine HL.quiet (y_assign rfl) rfl ?_
  refine HL.nil ?_
  refine HQ.next ?_
  refine HC.sub (E' := [(0, _), (1, _)]) ⟨rfl, rfl, trivial⟩ ?_
  refine HC.seq ?_
  refine HC.seq ?_
  refine HC.region ?_
  refine HL.callP Tryd.call6 (.cons rfl (.nil)) rfl (text_Read _ (hG.le (PLe.refl _)) (⟨#[40, 42, 38, 91, 51, 44, 57, 41, 41]⟩ : ByteArray)) ?_
  rintro _ I1 hi0 ⟨v0, rfl, hv0⟩
  obtain ⟨ad0, cap0, rfl, _⟩ := hv0.slice
  rw [front_known]
  refine HL.quiet (y_move rfl) rfl ?_
  refine HL.quiet (y_extract rfl rfl) rfl ?_
  refine HL.quiet (y_extract rfl rfl) rfl ?_
  refine HL.quiet (y_assign rfl) rfl ?_
  refine HL.quiet (y_assign rfl) rfl ?_
  refine HL.nil ?_
  refine HQ.next ?_
  refine HC.sub (E' := [(0, _), (1, _), (5, _), (6, _)]) ⟨rfl, rfl, rfl, rfl, trivial⟩ ?_
  refine HC.seq ?_
  refine HC.region ?_
  refine HL.quiet (y_move rfl) rfl ?_
  refine HL.quiet (y_neq rfl rfl) rfl ?_
  refine HL.quiet (y_move rfl) rfl ?_
  refine HL.quiet_guard (t := 17) rfl rfl (y_move rfl) rfl ?_
  refine HL.quiet_guard (t := 17) rfl rfl (y_len_slice Tryd.underlying22 rfl) rfl ?_
  refine HL.quiet_guard (t := 17) rfl rfl (y_neq rfl rfl) rfl ?_
  refine HL.quiet (y_pick_false rfl rfl) rfl ?_
  refine HL.nil ?_
  refine HQ.next ?_
  refine HC.sub (E' := [(0, _), (1, _), (21, _)]) ⟨rfl, rfl, rfl, trivial⟩ ?_
  refine HC.cond rfl (fun hc0 => ?_) (fun hc0 => ?_)
  · try simp only [decide_eq_true_eq, decide_eq_false_iff_not, Int.not_lt, Int.not_le, beq_iff_eq, bne_iff_ne, ne_eq, Decidable.not_not, beq_eq_false_iff_ne, bne_eq_false_iff_eq, Bool.not_eq_true', Bool.not_eq_false'] at hc0
    refine HC.seq ?_
    refine HC.region ?_
    refine HL.quiet (y_assign rfl) rfl ?_
    refine HL.nil ?_
    refine HQ.next ?_
    refine HC.sub (E' := [(4, _)]) ⟨rfl, trivial⟩ ?_
    refine HC.ret ?_
    refine HQ.then_ret ?_
    refine HQ.doneP (Res.one Tryd.results3 rfl) (List.Sublist.refl _) ((PLe.refl _).trans hi0) ?_
    exact absurd rfl hc0
  · try simp only [decide_eq_true_eq, decide_eq_false_iff_not, Int.not_lt, Int.not_le, beq_iff_eq, bne_iff_ne, ne_eq, Decidable.not_not, beq_eq_false_iff_ne, bne_eq_false_iff_eq, Bool.not_eq_true', Bool.not_eq_false'] at hc0
    refine HC.skip ?_
    refine HQ.next ?_
    refine HC.sub (E' := [(0, _), (1, _)]) ⟨rfl, rfl, trivial⟩ ?_
    refine HC.seq ?_
    refine HC.region ?_
    refine HL.quiet (y_move rfl) rfl ?_
    refine HL.callP Tryd.call6 (.cons rfl (.nil)) rfl (text_Read _ (hG.le ((PLe.refl _).trans hi0)) s) ?_
    rintro _ I2 hi1 ⟨v1, rfl, hv1⟩
    obtain ⟨ad1, cap1, rfl, _⟩ := hv1.slice
    refine HL.quiet (y_move rfl) rfl ?_
    refine HL.quiet (y_extract rfl rfl) rfl ?_
    refine HL.quiet (y_extract rfl rfl) rfl ?_
    refine HL.quiet (y_assign rfl) rfl ?_
    refine HL.quiet (y_assign rfl) rfl ?_
    refine HL.nil ?_
    refine HQ.next ?_
    refine HC.sub (E' := [(0, _), (1, _), (7, _), (8, _)]) ⟨rfl, rfl, rfl, rfl, trivial⟩ ?_
    refine HC.seq ?_
    refine HC.region ?_
    refine HL.quiet (y_move rfl) rfl ?_
    refine HL.quiet (y_move rfl) rfl ?_
    refine HL.quiet (y_strcat rfl rfl (hst)) rfl ?_
    refine HL.callP Tryd.call6 (.cons rfl (.nil)) rfl (text_Read _ (hG.le (((PLe.refl _).trans hi0).trans hi1)) (s ++ t)) ?_
    rintro _ I3 hi2 ⟨v2, rfl, hv2⟩
    obtain ⟨ad2, cap2, rfl, _⟩ := hv2.slice
    refine HL.quiet (y_move rfl) rfl ?_
    refine HL.quiet (y_extract rfl rfl) rfl ?_
    refine HL.quiet (y_extract rfl rfl) rfl ?_
    refine HL.quiet (y_assign rfl) rfl ?_
    refine HL.quiet (y_assign rfl) rfl ?_
    refine HL.nil ?_
    refine HQ.next ?_
    refine HC.sub (E' := [(1, _), (7, _), (8, _), (9, _), (10, _)]) ⟨rfl, rfl, rfl, rfl, rfl, trivial⟩ ?_
    refine HC.seq ?_
    refine HC.seq ?_
    refine HC.region ?_
    refine HL.quiet (y_move rfl) rfl ?_
    refine HL.quiet (y_neq rfl rfl) rfl ?_
    refine HL.nil ?_
    refine HQ.next ?_
    refine HC.sub (E' := [(1, _), (7, _), (9, _), (10, _), (35, _)]) ⟨rfl, rfl, rfl, rfl, rfl, trivial⟩ ?_
    refine HC.cond rfl (fun hc1 => ?_) (fun hc1 => ?_)
    · try simp only [decide_eq_true_eq, decide_eq_false_iff_not, Int.not_lt, Int.not_le, beq_iff_eq, bne_iff_ne, ne_eq, Decidable.not_not, beq_eq_false_iff_ne, bne_eq_false_iff_eq, Bool.not_eq_true', Bool.not_eq_false'] at hc1
      refine HC.seq ?_
      refine HC.region ?_
      refine HL.quiet (y_move rfl) rfl ?_
      refine HL.quiet (y_len_slice Tryd.underlying22 rfl) rfl ?_
      refine HL.quiet (y_eql rfl rfl) rfl ?_
      refine HL.quiet (y_assign rfl) rfl ?_
      refine HL.nil ?_
      refine HQ.next ?_
      refine HC.sub (E' := [(4, _)]) ⟨rfl, trivial⟩ ?_
      refine HC.ret ?_
      refine HQ.then_ret ?_
      refine HQ.doneP (Res.one Tryd.results3 rfl) (List.Sublist.refl _) ((((PLe.refl _).trans hi0).trans hi1).trans hi2) ?_
      rw [readText_err hc1]; rfl
    · try simp only [decide_eq_true_eq, decide_eq_false_iff_not, Int.not_lt, Int.not_le, beq_iff_eq, bne_iff_ne, ne_eq, Decidable.not_not, beq_eq_false_iff_ne, bne_eq_false_iff_eq, Bool.not_eq_true', Bool.not_eq_false'] at hc1
      refine HC.skip ?_
      refine HQ.next ?_
      refine HC.sub (E' := [(1, _), (9, _), (10, _)]) ⟨rfl, rfl, rfl, trivial⟩ ?_
      refine HC.seq ?_
      refine HC.region ?_
      refine HL.quiet (y_move rfl) rfl ?_
      refine HL.quiet (y_streq rfl rfl) rfl ?_
      refine HL.quiet (y_move rfl) rfl ?_
      refine HL.split (t := 41) rfl (fun hg1 => ?_) (fun hg1 => ?_)
      · try simp only [decide_eq_true_eq, decide_eq_false_iff_not, Int.not_lt, Int.not_le, beq_iff_eq, bne_iff_ne, ne_eq, Decidable.not_not, beq_eq_false_iff_ne, bne_eq_false_iff_eq, Bool.not_eq_true', Bool.not_eq_false'] at hg1
        refine HL.pass (t := 41) rfl rfl rfl rfl ?_
        refine HL.pass (t := 41) rfl rfl rfl rfl ?_
        refine HL.pass (t := 41) rfl rfl rfl rfl ?_
        refine HL.pass (t := 44) rfl rfl rfl rfl ?_
        refine HL.pass (t := 44) rfl rfl rfl rfl ?_
        refine HL.pass (t := 44) rfl rfl rfl rfl ?_
        refine HL.pass (t := 41) rfl rfl rfl rfl ?_
        refine HL.quiet (y_pick_true rfl rfl) rfl ?_
        refine HL.quiet (y_assign rfl) rfl ?_
        refine HL.nil ?_
        refine HQ.next ?_
        refine HC.sub (E' := [(4, _)]) ⟨rfl, trivial⟩ ?_
        refine HC.ret ?_
        refine HQ.doneP (Res.one Tryd.results3 rfl) (List.Sublist.refl _) ((((PLe.refl _).trans hi0).trans hi1).trans hi2) ?_
        rfl
      · try simp only [decide_eq_true_eq, decide_eq_false_iff_not, Int.not_lt, Int.not_le, beq_iff_eq, bne_iff_ne, ne_eq, Decidable.not_not, beq_eq_false_iff_ne, bne_eq_false_iff_eq, Bool.not_eq_true', Bool.not_eq_false'] at hg1
        refine HL.quiet_guard (t := 41) rfl rfl (y_move rfl) rfl ?_
        refine HL.quiet_guard (t := 41) rfl rfl (y_neq rfl rfl) rfl ?_
        refine HL.quiet_guard (t := 41) rfl rfl (y_move rfl) rfl ?_
        refine HL.split (t := 44) rfl (fun hg3 => ?_) (fun hg3 => ?_)
        · try simp only [decide_eq_true_eq, decide_eq_false_iff_not, Int.not_lt, Int.not_le, beq_iff_eq, bne_iff_ne, ne_eq, Decidable.not_not, beq_eq_false_iff_ne, bne_eq_false_iff_eq, Bool.not_eq_true', Bool.not_eq_false'] at hg3
          refine HL.quiet_guard (t := 44) rfl rfl (y_move rfl) rfl ?_
          refine HL.quiet_guard (t := 44) rfl rfl (y_len_slice Tryd.underlying22 rfl) rfl ?_
          refine HL.quiet_guard (t := 44) rfl rfl (y_eql rfl rfl) rfl ?_
          refine HL.quiet_guard (t := 41) rfl rfl (y_pick_true rfl rfl) rfl ?_
          refine HL.quiet (y_pick_false rfl rfl) rfl ?_
          refine HL.quiet (y_assign rfl) rfl ?_
          refine HL.nil ?_
          refine HQ.next ?_
          refine HC.sub (E' := [(4, _)]) ⟨rfl, trivial⟩ ?_
          refine HC.ret ?_
          refine HQ.doneP (Res.one Tryd.results3 rfl) (List.Sublist.refl _) ((((PLe.refl _).trans hi0).trans hi1).trans hi2) ?_
          rw [readText_err hg3]; rfl
        · try simp only [decide_eq_true_eq, decide_eq_false_iff_not, Int.not_lt, Int.not_le, beq_iff_eq, bne_iff_ne, ne_eq, Decidable.not_not, beq_eq_false_iff_ne, bne_eq_false_iff_eq, Bool.not_eq_true', Bool.not_eq_false'] at hg3
          refine HL.pass (t := 44) rfl rfl rfl rfl ?_
          refine HL.pass (t := 44) rfl rfl rfl rfl ?_
          refine HL.pass (t := 44) rfl rfl rfl rfl ?_
          refine HL.quiet_guard (t := 41) rfl rfl (y_pick_false rfl rfl) rfl ?_
          refine HL.quiet (y_pick_false rfl rfl) rfl ?_
          refine HL.quiet (y_assign rfl) rfl ?_
          refine HL.nil ?_
          refine HQ.next ?_
          refine HC.sub (E' := [(4, _)]) ⟨rfl, trivial⟩ ?_
          refine HC.ret ?_
          refine HQ.doneP (Res.one Tryd.results3 rfl) (List.Sublist.refl _) ((((PLe.refl _).trans hi0).trans hi1).trans hi2) ?_
          exact absurd hg3 (readText_front hc1 fun e => hg1 (empty_of e))

end Go.Rm
