/- What this text holds: the walk of TextBoth, printed by a program of mine (wip/tools/walk.py) from plans of mine. -/
import Derived.Test.YtpcgfadcojaceaaDoorRmFFilter
import Derived.Test.YtpcgfadcojaceaaDoorRmTextD
import Derived.Test.YtpcgfadcojaceaaDoorRmBoth2
set_option linter.unusedVariables false
set_option linter.unusedSimpArgs false
set_option linter.unusedSectionVars false
namespace Go.Rm
open Go Go.Proofs
set_option maxRecDepth 100000

theorem both_known : readText (⟨#[33, 42]⟩ : ByteArray) = (0, [⟨1, 0, 0⟩, ⟨4, 0, 0⟩]) := by kernel_rfl
theorem sz1 (c : UInt8) : (⟨#[c]⟩ : ByteArray).size = 1 := rfl

theorem walk_TextBoth (I : PHeap) (hG : Globs I) (s t : ByteArray) (hst : s.size + t.size + 3 ≤ 9223372036854775807) : Pure Tryd.prog 4 [.string s, .string t] I (fun r _ => r = .bool true) := by
  refine Pure.of_body Tryd.func4 rfl Tryd.ntmps4 rfl (fun W Lf => ?_)
  refine HC.seq ?_
  refine HC.region ?_
  refine HL.quiet (y_assign rfl) rfl ?_
  refine HL.nil ?_
  refine HQ.next ?_
  refine HC.sub (E' := [(0, _), (1, _)]) ⟨rfl, rfl, trivial⟩ ?_
  refine HC.seq ?_
  refine HC.seq ?_
  refine HC.region ?_
  refine HL.callP Tryd.call6 (.cons rfl (.nil)) rfl (text_Read _ (hG.le (PLe.refl _)) (⟨#[33, 42]⟩ : ByteArray)) ?_
  rintro _ I1 hi1 ⟨v1, rfl, hv1⟩
  obtain ⟨ad1, cap1, rfl, _⟩ := hv1.slice
  rw [both_known]
  refine HL.quiet (y_move rfl) rfl ?_
  refine HL.quiet (y_extract rfl rfl) rfl ?_
  refine HL.quiet (y_extract rfl rfl) rfl ?_
  refine HL.quiet (y_assign rfl) rfl ?_
  refine HL.quiet (y_assign rfl) rfl ?_
  refine HL.nil ?_
  refine HQ.next ?_
  refine HC.sub (E' := [(0, _), (1, _), (5, _), (6, _)]) ⟨rfl, rfl, rfl, rfl, trivial⟩ ?_
  refine HC.seq ?_
  refine HC.region ?_
  refine HL.quiet (y_move rfl) rfl ?_
  refine HL.quiet (y_neq rfl rfl) rfl ?_
  refine HL.quiet (y_move rfl) rfl ?_
  refine HL.quiet_guard (t := 43) rfl rfl (y_move rfl) rfl ?_
  refine HL.quiet_guard (t := 43) rfl rfl (y_len_slice Tryd.underlying22 rfl) rfl ?_
  refine HL.quiet_guard (t := 43) rfl rfl (y_neq rfl rfl) rfl ?_
  refine HL.quiet (y_pick_false rfl rfl) rfl ?_
  refine HL.nil ?_
  refine HQ.next ?_
  refine HC.sub (E' := [(0, _), (1, _), (47, _)]) ⟨rfl, rfl, rfl, trivial⟩ ?_
  refine HC.cond rfl (fun hc0 => ?_) (fun hc0 => ?_)
  · try simp only [Bool.and_eq_true, Bool.and_eq_false_iff, Bool.or_eq_true, Bool.or_eq_false_iff, decide_eq_true_eq, decide_eq_false_iff_not, Int.not_lt, Int.not_le, beq_iff_eq, bne_iff_ne, ne_eq, Decidable.not_not, beq_eq_false_iff_ne, bne_eq_false_iff_eq, Bool.not_eq_true', Bool.not_eq_false'] at hc0
    refine HC.seq ?_
    refine HC.region ?_
    refine HL.quiet (y_assign rfl) rfl ?_
    refine HL.nil ?_
    refine HQ.next ?_
    refine HC.sub (E' := [(4, _)]) ⟨rfl, trivial⟩ ?_
    refine HC.ret ?_
    refine HQ.then_ret ?_
    refine HQ.doneP (Res.one Tryd.results4 rfl) (List.Sublist.refl _) (hi1) ?_
    exact absurd rfl hc0
  · try simp only [Bool.and_eq_true, Bool.and_eq_false_iff, Bool.or_eq_true, Bool.or_eq_false_iff, decide_eq_true_eq, decide_eq_false_iff_not, Int.not_lt, Int.not_le, beq_iff_eq, bne_iff_ne, ne_eq, Decidable.not_not, beq_eq_false_iff_ne, bne_eq_false_iff_eq, Bool.not_eq_true', Bool.not_eq_false'] at hc0
    refine HC.skip ?_
    refine HQ.next ?_
    refine HC.sub (E' := [(0, _), (1, _)]) ⟨rfl, rfl, trivial⟩ ?_
    refine HC.seq ?_
    refine HC.region ?_
    refine HL.quiet (y_move rfl) rfl ?_
    refine HL.callP Tryd.call6 (.cons rfl (.nil)) rfl (text_Read _ (hG.le (hi1)) s) ?_
    rintro _ I2 hi2 ⟨v2, rfl, hv2⟩
    obtain ⟨ad2, cap2, rfl, _⟩ := hv2.slice
    refine HL.quiet (y_move rfl) rfl ?_
    refine HL.quiet (y_extract rfl rfl) rfl ?_
    refine HL.quiet (y_extract rfl rfl) rfl ?_
    refine HL.quiet (y_assign rfl) rfl ?_
    refine HL.quiet (y_assign rfl) rfl ?_
    refine HL.nil ?_
    refine HQ.next ?_
    refine HC.sub (E' := [(0, _), (1, _), (7, _), (8, _)]) ⟨rfl, rfl, rfl, rfl, trivial⟩ ?_
    refine HC.seq ?_
    refine HC.region ?_
    refine HL.quiet (y_move rfl) rfl ?_
    refine HL.callP Tryd.call6 (.cons rfl (.nil)) rfl (text_Read _ (hG.le ((hi1).trans hi2)) t) ?_
    rintro _ I3 hi3 ⟨v3, rfl, hv3⟩
    obtain ⟨ad3, cap3, rfl, _⟩ := hv3.slice
    refine HL.quiet (y_move rfl) rfl ?_
    refine HL.quiet (y_extract rfl rfl) rfl ?_
    refine HL.quiet (y_extract rfl rfl) rfl ?_
    refine HL.quiet (y_assign rfl) rfl ?_
    refine HL.quiet (y_assign rfl) rfl ?_
    refine HL.nil ?_
    refine HQ.next ?_
    refine HC.sub (E' := [(0, _), (1, _), (7, _), (8, _), (9, _), (10, _)]) ⟨rfl, rfl, rfl, rfl, rfl, rfl, trivial⟩ ?_
    refine HC.seq ?_
    refine HC.region ?_
    refine HL.quiet (y_move rfl) rfl ?_
    refine HL.quiet (y_strcat rfl rfl (by (try simp only [ByteArray.size_append]); (try simp only [sz1]); omega)) rfl ?_
    refine HL.quiet (y_strcat rfl rfl (by (try simp only [ByteArray.size_append]); (try simp only [sz1]); omega)) rfl ?_
    refine HL.quiet (y_move rfl) rfl ?_
    refine HL.quiet (y_strcat rfl rfl (by (try simp only [ByteArray.size_append]); (try simp only [sz1]); omega)) rfl ?_
    refine HL.quiet (y_strcat rfl rfl (by (try simp only [ByteArray.size_append]); (try simp only [sz1]); omega)) rfl ?_
    have huc := joined_38 s t
    generalize ((((⟨#[40]⟩) ++ s) ++ (⟨#[38]⟩)) ++ t) ++ (⟨#[41]⟩) = uc at huc ⊢
    refine HL.callP Tryd.call6 (.cons rfl (.nil)) rfl (text_Read _ (hG.le (((hi1).trans hi2).trans hi3)) uc) ?_
    rintro _ I4 hi4 ⟨v4, rfl, hv4⟩
    obtain ⟨ad4, cap4, rfl, _⟩ := hv4.slice
    refine HL.quiet (y_move rfl) rfl ?_
    refine HL.quiet (y_extract rfl rfl) rfl ?_
    refine HL.quiet (y_extract rfl rfl) rfl ?_
    refine HL.quiet (y_assign rfl) rfl ?_
    refine HL.quiet (y_assign rfl) rfl ?_
    refine HL.nil ?_
    refine HQ.next ?_
    refine HC.sub (E' := [(0, _), (1, _), (7, _), (8, _), (9, _), (10, _), (11, _), (12, _)]) ⟨rfl, rfl, rfl, rfl, rfl, rfl, rfl, rfl, trivial⟩ ?_
    refine HC.seq ?_
    refine HC.region ?_
    refine HL.quiet (y_move rfl) rfl ?_
    refine HL.quiet (y_strcat rfl rfl (by (try simp only [ByteArray.size_append]); (try simp only [sz1]); omega)) rfl ?_
    refine HL.quiet (y_strcat rfl rfl (by (try simp only [ByteArray.size_append]); (try simp only [sz1]); omega)) rfl ?_
    refine HL.quiet (y_move rfl) rfl ?_
    refine HL.quiet (y_strcat rfl rfl (by (try simp only [ByteArray.size_append]); (try simp only [sz1]); omega)) rfl ?_
    refine HL.quiet (y_strcat rfl rfl (by (try simp only [ByteArray.size_append]); (try simp only [sz1]); omega)) rfl ?_
    have hud := joined_124 s t
    generalize ((((⟨#[40]⟩) ++ s) ++ (⟨#[124]⟩)) ++ t) ++ (⟨#[41]⟩) = ud at hud ⊢
    refine HL.callP Tryd.call6 (.cons rfl (.nil)) rfl (text_Read _ (hG.le ((((hi1).trans hi2).trans hi3).trans hi4)) ud) ?_
    rintro _ I5 hi5 ⟨v5, rfl, hv5⟩
    obtain ⟨ad5, cap5, rfl, _⟩ := hv5.slice
    refine HL.quiet (y_move rfl) rfl ?_
    refine HL.quiet (y_extract rfl rfl) rfl ?_
    refine HL.quiet (y_extract rfl rfl) rfl ?_
    refine HL.quiet (y_assign rfl) rfl ?_
    refine HL.quiet (y_assign rfl) rfl ?_
    refine HL.nil ?_
    refine HQ.next ?_
    refine HC.sub (E' := [(0, _), (1, _), (7, _), (8, _), (9, _), (10, _), (11, _), (12, _), (13, _), (14, _)]) ⟨rfl, rfl, rfl, rfl, rfl, rfl, rfl, rfl, rfl, rfl, trivial⟩ ?_
    refine HC.seq ?_
    refine HC.region ?_
    refine HL.quiet (y_move rfl) rfl ?_
    refine HL.quiet (y_strcat rfl rfl (by (try simp only [ByteArray.size_append]); (try simp only [sz1]); omega)) rfl ?_
    have hun := noted_33 s
    generalize (⟨#[33]⟩) ++ s = un at hun ⊢
    refine HL.callP Tryd.call6 (.cons rfl (.nil)) rfl (text_Read _ (hG.le (((((hi1).trans hi2).trans hi3).trans hi4).trans hi5)) un) ?_
    rintro _ I6 hi6 ⟨v6, rfl, hv6⟩
    obtain ⟨ad6, cap6, rfl, _⟩ := hv6.slice
    refine HL.quiet (y_move rfl) rfl ?_
    refine HL.quiet (y_extract rfl rfl) rfl ?_
    refine HL.quiet (y_extract rfl rfl) rfl ?_
    refine HL.quiet (y_assign rfl) rfl ?_
    refine HL.quiet (y_assign rfl) rfl ?_
    refine HL.nil ?_
    refine HQ.next ?_
    refine HC.sub (E' := [(0, _), (1, _), (7, _), (8, _), (9, _), (10, _), (11, _), (12, _), (13, _), (14, _), (15, _), (16, _)]) ⟨rfl, rfl, rfl, rfl, rfl, rfl, rfl, rfl, rfl, rfl, rfl, rfl, trivial⟩ ?_
    refine HC.seq ?_
    refine HC.seq ?_
    refine HC.region ?_
    refine HL.quiet (y_move rfl) rfl ?_
    refine HL.quiet (y_neq rfl rfl) rfl ?_
    refine HL.nil ?_
    refine HQ.next ?_
    refine HC.sub (E' := [(0, _), (1, _), (7, _), (9, _), (10, _), (11, _), (12, _), (13, _), (14, _), (15, _), (16, _), (85, _)]) ⟨rfl, rfl, rfl, rfl, rfl, rfl, rfl, rfl, rfl, rfl, rfl, rfl, trivial⟩ ?_
    refine HC.cond rfl (fun hc1 => ?_) (fun hc1 => ?_)
    · try simp only [Bool.and_eq_true, Bool.and_eq_false_iff, Bool.or_eq_true, Bool.or_eq_false_iff, decide_eq_true_eq, decide_eq_false_iff_not, Int.not_lt, Int.not_le, beq_iff_eq, bne_iff_ne, ne_eq, Decidable.not_not, beq_eq_false_iff_ne, bne_eq_false_iff_eq, Bool.not_eq_true', Bool.not_eq_false'] at hc1
      refine HC.seq ?_
      refine HC.region ?_
      refine HL.quiet (y_move rfl) rfl ?_
      refine HL.quiet (y_len_slice Tryd.underlying22 rfl) rfl ?_
      refine HL.quiet (y_eql rfl rfl) rfl ?_
      refine HL.quiet (y_assign rfl) rfl ?_
      refine HL.nil ?_
      refine HQ.next ?_
      refine HC.sub (E' := [(4, _)]) ⟨rfl, trivial⟩ ?_
      refine HC.ret ?_
      refine HQ.then_ret ?_
      refine HQ.doneP (Res.one Tryd.results4 rfl) (List.Sublist.refl _) ((((((hi1).trans hi2).trans hi3).trans hi4).trans hi5).trans hi6) ?_
      rw [readText_err (by assumption)]; rfl
    · try simp only [Bool.and_eq_true, Bool.and_eq_false_iff, Bool.or_eq_true, Bool.or_eq_false_iff, decide_eq_true_eq, decide_eq_false_iff_not, Int.not_lt, Int.not_le, beq_iff_eq, bne_iff_ne, ne_eq, Decidable.not_not, beq_eq_false_iff_ne, bne_eq_false_iff_eq, Bool.not_eq_true', Bool.not_eq_false'] at hc1
      refine HC.skip ?_
      refine HQ.next ?_
      refine HC.sub (E' := [(0, _), (1, _), (7, _), (9, _), (10, _), (11, _), (12, _), (13, _), (14, _), (15, _), (16, _)]) ⟨rfl, rfl, rfl, rfl, rfl, rfl, rfl, rfl, rfl, rfl, rfl, trivial⟩ ?_
      refine HC.seq ?_
      refine HC.seq ?_
      refine HC.region ?_
      refine HL.quiet (y_move rfl) rfl ?_
      refine HL.quiet (y_neq rfl rfl) rfl ?_
      refine HL.nil ?_
      refine HQ.next ?_
      refine HC.sub (E' := [(0, _), (1, _), (7, _), (9, _), (11, _), (12, _), (13, _), (14, _), (15, _), (16, _), (90, _)]) ⟨rfl, rfl, rfl, rfl, rfl, rfl, rfl, rfl, rfl, rfl, rfl, trivial⟩ ?_
      refine HC.cond rfl (fun hc2 => ?_) (fun hc2 => ?_)
      · try simp only [Bool.and_eq_true, Bool.and_eq_false_iff, Bool.or_eq_true, Bool.or_eq_false_iff, decide_eq_true_eq, decide_eq_false_iff_not, Int.not_lt, Int.not_le, beq_iff_eq, bne_iff_ne, ne_eq, Decidable.not_not, beq_eq_false_iff_ne, bne_eq_false_iff_eq, Bool.not_eq_true', Bool.not_eq_false'] at hc2
        refine HC.seq ?_
        refine HC.region ?_
        refine HL.quiet (y_move rfl) rfl ?_
        refine HL.quiet (y_neq rfl rfl) rfl ?_
        refine HL.quiet (y_move rfl) rfl ?_
        refine HL.split (t := 93) rfl (fun hg7 => ?_) (fun hg7 => ?_)
        · try simp only [Bool.and_eq_true, Bool.and_eq_false_iff, Bool.or_eq_true, Bool.or_eq_false_iff, decide_eq_true_eq, decide_eq_false_iff_not, Int.not_lt, Int.not_le, beq_iff_eq, bne_iff_ne, ne_eq, Decidable.not_not, beq_eq_false_iff_ne, bne_eq_false_iff_eq, Bool.not_eq_true', Bool.not_eq_false'] at hg7
          refine HL.quiet_guard (t := 93) rfl rfl (y_move rfl) rfl ?_
          refine HL.quiet_guard (t := 93) rfl rfl (y_neq rfl rfl) rfl ?_
          refine HL.quiet (y_pick_true rfl rfl) rfl ?_
          refine HL.quiet (y_assign rfl) rfl ?_
          refine HL.nil ?_
          refine HQ.next ?_
          refine HC.sub (E' := [(4, _)]) ⟨rfl, trivial⟩ ?_
          refine HC.ret ?_
          refine HQ.then_ret ?_
          refine HQ.doneP (Res.one Tryd.results4 rfl) (List.Sublist.refl _) ((((((hi1).trans hi2).trans hi3).trans hi4).trans hi5).trans hi6) ?_
          first | rfl | (exfalso; exact huc.bad hc1 hc2 (by assumption)) | (simp [huc.bad hc1 hc2, hud.bad hc1 hc2]; done)
        · try simp only [Bool.and_eq_true, Bool.and_eq_false_iff, Bool.or_eq_true, Bool.or_eq_false_iff, decide_eq_true_eq, decide_eq_false_iff_not, Int.not_lt, Int.not_le, beq_iff_eq, bne_iff_ne, ne_eq, Decidable.not_not, beq_eq_false_iff_ne, bne_eq_false_iff_eq, Bool.not_eq_true', Bool.not_eq_false'] at hg7
          refine HL.pass (t := 93) rfl rfl rfl rfl ?_
          refine HL.pass (t := 93) rfl rfl rfl rfl ?_
          refine HL.quiet (y_pick_false rfl rfl) rfl ?_
          refine HL.quiet (y_assign rfl) rfl ?_
          refine HL.nil ?_
          refine HQ.next ?_
          refine HC.sub (E' := [(4, _)]) ⟨rfl, trivial⟩ ?_
          refine HC.ret ?_
          refine HQ.then_ret ?_
          refine HQ.doneP (Res.one Tryd.results4 rfl) (List.Sublist.refl _) ((((((hi1).trans hi2).trans hi3).trans hi4).trans hi5).trans hi6) ?_
          first | rfl | (exfalso; exact huc.bad hc1 hc2 (by assumption)) | (simp [huc.bad hc1 hc2, hud.bad hc1 hc2]; done)
      · try simp only [Bool.and_eq_true, Bool.and_eq_false_iff, Bool.or_eq_true, Bool.or_eq_false_iff, decide_eq_true_eq, decide_eq_false_iff_not, Int.not_lt, Int.not_le, beq_iff_eq, bne_iff_ne, ne_eq, Decidable.not_not, beq_eq_false_iff_ne, bne_eq_false_iff_eq, Bool.not_eq_true', Bool.not_eq_false'] at hc2
        refine HC.skip ?_
        refine HQ.next ?_
        refine HC.sub (E' := [(0, _), (1, _), (7, _), (9, _), (11, _), (12, _), (13, _), (14, _), (15, _), (16, _)]) ⟨rfl, rfl, rfl, rfl, rfl, rfl, rfl, rfl, rfl, rfl, trivial⟩ ?_
        refine HC.seq ?_
        refine HC.seq ?_
        refine HC.region ?_
        refine HL.quiet (y_move rfl) rfl ?_
        refine HL.quiet (y_eql rfl rfl) rfl ?_
        refine HL.nil ?_
        refine HQ.next ?_
        refine HC.sub (E' := [(0, _), (1, _), (7, _), (9, _), (11, _), (12, _), (13, _), (14, _), (15, _), (98, _)]) ⟨rfl, rfl, rfl, rfl, rfl, rfl, rfl, rfl, rfl, rfl, trivial⟩ ?_
        refine HC.cond rfl (fun hc3 => ?_) (fun hc3 => ?_)
        · try simp only [Bool.and_eq_true, Bool.and_eq_false_iff, Bool.or_eq_true, Bool.or_eq_false_iff, decide_eq_true_eq, decide_eq_false_iff_not, Int.not_lt, Int.not_le, beq_iff_eq, bne_iff_ne, ne_eq, Decidable.not_not, beq_eq_false_iff_ne, bne_eq_false_iff_eq, Bool.not_eq_true', Bool.not_eq_false'] at hc3
          refine HC.seq ?_
          refine HC.region ?_
          refine HL.quiet (y_move rfl) rfl ?_
          refine HL.callP Tryd.call7 (.cons rfl (.nil)) rfl (formula_Filter _ _ ((readText s).2) (hv2.le ((((hi3).trans hi4).trans hi5).trans hi6))) ?_
          rintro _ I9 hi9 ⟨v9, rfl, hv9⟩
          obtain ⟨ad9, cap9, rfl, _⟩ := hv9.slice
          rw [show (filterOf ((readText s).2)).1 = 0 from filterOf_read hc1]
          refine HL.quiet (y_move rfl) rfl ?_
          refine HL.quiet (y_extract rfl rfl) rfl ?_
          refine HL.quiet (y_extract rfl rfl) rfl ?_
          refine HL.quiet (y_assign rfl) rfl ?_
          refine HL.quiet (y_assign rfl) rfl ?_
          refine HL.nil ?_
          refine HQ.next ?_
          refine HC.sub (E' := [(0, _), (1, _), (7, _), (9, _), (11, _), (12, _), (13, _), (14, _), (15, _), (17, _), (18, _)]) ⟨rfl, rfl, rfl, rfl, rfl, rfl, rfl, rfl, rfl, rfl, rfl, trivial⟩ ?_
          refine HC.seq ?_
          refine HC.region ?_
          refine HL.quiet (y_move rfl) rfl ?_
          refine HL.callP Tryd.call7 (.cons rfl (.nil)) rfl (formula_Filter _ _ ((readText un).2) (hv6.le (hi9))) ?_
          rintro _ I10 hi10 ⟨v10, rfl, hv10⟩
          obtain ⟨ad10, cap10, rfl, _⟩ := hv10.slice
          rw [show (filterOf ((readText un).2)).1 = 0 from by rw [hun.filter hc1 (by assumption)]]
          refine HL.quiet (y_move rfl) rfl ?_
          refine HL.quiet (y_extract rfl rfl) rfl ?_
          refine HL.quiet (y_extract rfl rfl) rfl ?_
          refine HL.quiet (y_assign rfl) rfl ?_
          refine HL.quiet (y_assign rfl) rfl ?_
          refine HL.nil ?_
          refine HQ.next ?_
          refine HC.sub (E' := [(0, _), (1, _), (7, _), (9, _), (11, _), (12, _), (13, _), (14, _), (17, _), (18, _), (19, _), (20, _)]) ⟨rfl, rfl, rfl, rfl, rfl, rfl, rfl, rfl, rfl, rfl, rfl, rfl, trivial⟩ ?_
          refine HC.seq ?_
          refine HC.region ?_
          refine HL.call (Lp := []) Tryd.call9 .nil (List.Perm.refl _) rfl (filter_Every _) ?_
          rintro _ _ _ _ ⟨b1J11, b2J11, rfl, rfl, rfl⟩
          refine HL.freezeBox (fun J11 hJ11 hevJ11 => ?_)
          refine HL.quiet (y_move rfl) rfl ?_
          refine HL.callP Tryd.call8 (.cons rfl (.cons rfl (.nil))) rfl (filter_Less _ _ _ _ _ (show Val J11 _ every from hevJ11) (hv9.le ((hi10).trans hJ11))) ?_
          rintro _ I12 hi12 ⟨v12, rfl, hv12⟩
          obtain ⟨ad12, cap12, rfl, _⟩ := hv12.slice
          rw [show (lessOf every ((filterOf ((readText s).2)).2)).1 = 0 from bothOf_one (every_ok.to) (filterOf_ok (readText_nodes (readText_zero hc1)).2.2)]
          refine HL.quiet (y_move rfl) rfl ?_
          refine HL.quiet (y_extract rfl rfl) rfl ?_
          refine HL.quiet (y_extract rfl rfl) rfl ?_
          refine HL.quiet (y_assign rfl) rfl ?_
          refine HL.quiet (y_assign rfl) rfl ?_
          refine HL.nil ?_
          refine HQ.next ?_
          refine HC.sub (E' := [(0, _), (1, _), (7, _), (9, _), (11, _), (12, _), (13, _), (14, _), (18, _), (19, _), (20, _), (21, _), (22, _)]) ⟨rfl, rfl, rfl, rfl, rfl, rfl, rfl, rfl, rfl, rfl, rfl, rfl, rfl, trivial⟩ ?_
          refine HC.seq ?_
          refine HC.region ?_
          refine HL.quiet (y_move rfl) rfl ?_
          refine HL.quiet (y_neq rfl rfl) rfl ?_
          refine HL.quiet (y_move rfl) rfl ?_
          refine HL.quiet_guard (t := 117) rfl rfl (y_move rfl) rfl ?_
          refine HL.quiet_guard (t := 117) rfl rfl (y_neq rfl rfl) rfl ?_
          refine HL.quiet (y_pick_false rfl rfl) rfl ?_
          refine HL.quiet (y_move rfl) rfl ?_
          refine HL.quiet_guard (t := 121) rfl rfl (y_move rfl) rfl ?_
          refine HL.quiet_guard (t := 121) rfl rfl (y_neq rfl rfl) rfl ?_
          refine HL.quiet (y_pick_false rfl rfl) rfl ?_
          refine HL.quiet (y_move rfl) rfl ?_
          refine HL.quiet_guard (t := 125) rfl rfl (y_move rfl) rfl ?_
          refine HL.quiet_guard (t := 125) rfl rfl (y_move rfl) rfl ?_
          refine HL.unguard (s := 125) rfl rfl ?_
          refine HL.callP Tryd.call10 (.cons rfl (.cons rfl (.nil))) rfl (keep_same _ _ _ _ _ (hv10.le ((hJ11).trans hi12)) hv12) ?_
          rintro _ I13 hi13 rfl
          rw [show sameOf ((filterOf ((readText un).2)).2) ((lessOf every ((filterOf ((readText s).2)).2)).2) = true from by rw [hun.filter hc1 (by assumption)]; exact same_refl _ _ _]
          refine HL.quiet_guard (t := 125) rfl rfl (y_not rfl) rfl ?_
          refine HL.quiet (y_pick_false rfl rfl) rfl ?_
          refine HL.nil ?_
          refine HQ.next ?_
          refine HC.sub (E' := [(0, _), (1, _), (7, _), (9, _), (11, _), (12, _), (13, _), (14, _), (130, _)]) ⟨rfl, rfl, rfl, rfl, rfl, rfl, rfl, rfl, rfl, trivial⟩ ?_
          refine HC.cond_false rfl ?_
          refine HC.skip ?_
          refine HQ.next ?_
          refine HC.sub (E' := [(0, _), (1, _), (7, _), (9, _), (11, _), (12, _), (13, _), (14, _)]) ⟨rfl, rfl, rfl, rfl, rfl, rfl, rfl, rfl, trivial⟩ ?_
          refine HC.seq ?_
          refine HC.seq ?_
          refine HC.region ?_
          refine HL.quiet (y_move rfl) rfl ?_
          refine HL.quiet (y_neq rfl rfl) rfl ?_
          refine HL.quiet (y_move rfl) rfl ?_
          refine HL.split (t := 141) rfl (fun hg14 => ?_) (fun hg14 => ?_)
          · try simp only [Bool.and_eq_true, Bool.and_eq_false_iff, Bool.or_eq_true, Bool.or_eq_false_iff, decide_eq_true_eq, decide_eq_false_iff_not, Int.not_lt, Int.not_le, beq_iff_eq, bne_iff_ne, ne_eq, Decidable.not_not, beq_eq_false_iff_ne, bne_eq_false_iff_eq, Bool.not_eq_true', Bool.not_eq_false'] at hg14
            refine HL.pass (t := 141) rfl rfl rfl rfl ?_
            refine HL.pass (t := 141) rfl rfl rfl rfl ?_
            refine HL.quiet (y_pick_true rfl rfl) rfl ?_
            refine HL.nil ?_
            refine HQ.next ?_
            refine HC.sub (E' := [(0, _), (1, _), (7, _), (9, _), (11, _), (12, _), (13, _), (14, _), (144, _)]) ⟨rfl, rfl, rfl, rfl, rfl, rfl, rfl, rfl, rfl, trivial⟩ ?_
            refine HC.cond_true rfl ?_
            refine HC.seq ?_
            refine HC.region ?_
            have hl1 := nodesCheck_len (readText_nodes (readText_zero hc1)).2.2
            have hl2 := nodesCheck_len (readText_nodes (readText_zero hc2)).2.2
            refine HL.quiet (y_move rfl) rfl ?_
            refine HL.quiet (y_eql rfl rfl) rfl ?_
            refine HL.quiet (y_move rfl) rfl ?_
            refine HL.split (t := 147) rfl (fun hg16 => ?_) (fun hg16 => ?_)
            · try simp only [Bool.and_eq_true, Bool.and_eq_false_iff, Bool.or_eq_true, Bool.or_eq_false_iff, decide_eq_true_eq, decide_eq_false_iff_not, Int.not_lt, Int.not_le, beq_iff_eq, bne_iff_ne, ne_eq, Decidable.not_not, beq_eq_false_iff_ne, bne_eq_false_iff_eq, Bool.not_eq_true', Bool.not_eq_false'] at hg16
              refine HL.quiet_guard (t := 147) rfl rfl (y_move rfl) rfl ?_
              refine HL.quiet_guard (t := 147) rfl rfl (y_eql rfl rfl) rfl ?_
              refine HL.quiet (y_pick_true rfl rfl) rfl ?_
              refine HL.quiet (y_move rfl) rfl ?_
              refine HL.split (t := 151) rfl (fun hg18 => ?_) (fun hg18 => ?_)
              · try simp only [Bool.and_eq_true, Bool.and_eq_false_iff, Bool.or_eq_true, Bool.or_eq_false_iff, decide_eq_true_eq, decide_eq_false_iff_not, Int.not_lt, Int.not_le, beq_iff_eq, bne_iff_ne, ne_eq, Decidable.not_not, beq_eq_false_iff_ne, bne_eq_false_iff_eq, Bool.not_eq_true', Bool.not_eq_false'] at hg18
                refine HL.quiet_guard (t := 151) rfl rfl (y_move rfl) rfl ?_
                refine HL.quiet_guard (t := 151) rfl rfl (y_len_slice Tryd.underlying22 rfl) rfl ?_
                refine HL.quiet_guard (t := 151) rfl rfl (y_move rfl) rfl ?_
                refine HL.quiet_guard (t := 151) rfl rfl (y_len_slice Tryd.underlying22 rfl) rfl ?_
                refine HL.quiet_guard (t := 151) rfl rfl (y_add rfl rfl (by omega)) rfl ?_
                refine HL.quiet_guard (t := 151) rfl rfl (y_geq rfl rfl) rfl ?_
                refine HL.quiet_guard (t := 151) rfl rfl (y_move rfl) rfl ?_
                refine HL.split (t := 158) rfl (fun hg20 => ?_) (fun hg20 => ?_)
                · try simp only [Bool.and_eq_true, Bool.and_eq_false_iff, Bool.or_eq_true, Bool.or_eq_false_iff, decide_eq_true_eq, decide_eq_false_iff_not, Int.not_lt, Int.not_le, beq_iff_eq, bne_iff_ne, ne_eq, Decidable.not_not, beq_eq_false_iff_ne, bne_eq_false_iff_eq, Bool.not_eq_true', Bool.not_eq_false'] at hg20
                  refine HL.pass (t := 158) rfl rfl rfl rfl ?_
                  refine HL.pass (t := 158) rfl rfl rfl rfl ?_
                  refine HL.pass (t := 158) rfl rfl rfl rfl ?_
                  refine HL.pass (t := 158) rfl rfl rfl rfl ?_
                  refine HL.pass (t := 158) rfl rfl rfl rfl ?_
                  refine HL.pass (t := 158) rfl rfl rfl rfl ?_
                  refine HL.pass (t := 158) rfl rfl rfl rfl ?_
                  refine HL.quiet_guard (t := 151) rfl rfl (y_pick_true rfl rfl) rfl ?_
                  refine HL.quiet (y_pick_true rfl rfl) rfl ?_
                  refine HL.quiet (y_assign rfl) rfl ?_
                  refine HL.nil ?_
                  refine HQ.next ?_
                  refine HC.sub (E' := [(4, _)]) ⟨rfl, trivial⟩ ?_
                  refine HC.ret ?_
                  refine HQ.then_ret ?_
                  refine HQ.doneP (Res.one Tryd.results4 rfl) (List.Sublist.refl _) (((((((((((hi1).trans hi2).trans hi3).trans hi4).trans hi5).trans hi6).trans hi9).trans hi10).trans hJ11).trans hi12).trans hi13) ?_
                  rfl
                · try simp only [Bool.and_eq_true, Bool.and_eq_false_iff, Bool.or_eq_true, Bool.or_eq_false_iff, decide_eq_true_eq, decide_eq_false_iff_not, Int.not_lt, Int.not_le, beq_iff_eq, bne_iff_ne, ne_eq, Decidable.not_not, beq_eq_false_iff_ne, bne_eq_false_iff_eq, Bool.not_eq_true', Bool.not_eq_false'] at hg20
                  refine HL.quiet_guard (t := 158) rfl rfl (y_move rfl) rfl ?_
                  refine HL.quiet_guard (t := 158) rfl rfl (y_len_str Tryd.underlying9 rfl) rfl ?_
                  refine HL.quiet_guard (t := 158) rfl rfl (y_move rfl) rfl ?_
                  refine HL.quiet_guard (t := 158) rfl rfl (y_len_str Tryd.underlying9 rfl) rfl ?_
                  refine HL.quiet_guard (t := 158) rfl rfl (y_add rfl rfl (by omega)) rfl ?_
                  refine HL.quiet_guard (t := 158) rfl rfl (y_add rfl rfl (by omega)) rfl ?_
                  refine HL.quiet_guard (t := 158) rfl rfl (y_gtr rfl rfl) rfl ?_
                  refine HL.quiet_guard (t := 151) rfl rfl (y_pick_false rfl rfl) rfl ?_
                  refine HL.quiet (y_pick_true rfl rfl) rfl ?_
                  refine HL.quiet (y_assign rfl) rfl ?_
                  refine HL.nil ?_
                  refine HQ.next ?_
                  refine HC.sub (E' := [(4, _)]) ⟨rfl, trivial⟩ ?_
                  refine HC.ret ?_
                  refine HQ.then_ret ?_
                  refine HQ.doneP (Res.one Tryd.results4 rfl) (List.Sublist.refl _) (((((((((((hi1).trans hi2).trans hi3).trans hi4).trans hi5).trans hi6).trans hi9).trans hi10).trans hJ11).trans hi12).trans hi13) ?_
                  rcases huc.pair hud hc1 hc2 with ⟨q1, q2⟩ | ⟨q1, q2, q3⟩ <;> rcases hun.pair hc1 with q4 | q4 <;> first | (exfalso; omega) | (simp [q1, q2]; done) | (simp [q1, q2] <;> omega)
              · try simp only [Bool.and_eq_true, Bool.and_eq_false_iff, Bool.or_eq_true, Bool.or_eq_false_iff, decide_eq_true_eq, decide_eq_false_iff_not, Int.not_lt, Int.not_le, beq_iff_eq, bne_iff_ne, ne_eq, Decidable.not_not, beq_eq_false_iff_ne, bne_eq_false_iff_eq, Bool.not_eq_true', Bool.not_eq_false'] at hg18
                refine HL.pass (t := 151) rfl rfl rfl rfl ?_
                refine HL.pass (t := 151) rfl rfl rfl rfl ?_
                refine HL.pass (t := 151) rfl rfl rfl rfl ?_
                refine HL.pass (t := 151) rfl rfl rfl rfl ?_
                refine HL.pass (t := 151) rfl rfl rfl rfl ?_
                refine HL.pass (t := 151) rfl rfl rfl rfl ?_
                refine HL.pass (t := 151) rfl rfl rfl rfl ?_
                refine HL.pass (t := 158) rfl rfl rfl rfl ?_
                refine HL.pass (t := 158) rfl rfl rfl rfl ?_
                refine HL.pass (t := 158) rfl rfl rfl rfl ?_
                refine HL.pass (t := 158) rfl rfl rfl rfl ?_
                refine HL.pass (t := 158) rfl rfl rfl rfl ?_
                refine HL.pass (t := 158) rfl rfl rfl rfl ?_
                refine HL.pass (t := 158) rfl rfl rfl rfl ?_
                refine HL.pass (t := 151) rfl rfl rfl rfl ?_
                refine HL.quiet (y_pick_false rfl rfl) rfl ?_
                refine HL.quiet (y_assign rfl) rfl ?_
                refine HL.nil ?_
                refine HQ.next ?_
                refine HC.sub (E' := [(4, _)]) ⟨rfl, trivial⟩ ?_
                refine HC.ret ?_
                refine HQ.then_ret ?_
                refine HQ.doneP (Res.one Tryd.results4 rfl) (List.Sublist.refl _) (((((((((((hi1).trans hi2).trans hi3).trans hi4).trans hi5).trans hi6).trans hi9).trans hi10).trans hJ11).trans hi12).trans hi13) ?_
                rcases huc.pair hud hc1 hc2 with ⟨q1, q2⟩ | ⟨q1, q2, q3⟩ <;> rcases hun.pair hc1 with q4 | q4 <;> first | (exfalso; omega) | (simp [q1, q2]; done) | (simp [q1, q2] <;> omega)
            · try simp only [Bool.and_eq_true, Bool.and_eq_false_iff, Bool.or_eq_true, Bool.or_eq_false_iff, decide_eq_true_eq, decide_eq_false_iff_not, Int.not_lt, Int.not_le, beq_iff_eq, bne_iff_ne, ne_eq, Decidable.not_not, beq_eq_false_iff_ne, bne_eq_false_iff_eq, Bool.not_eq_true', Bool.not_eq_false'] at hg16
              refine HL.pass (t := 147) rfl rfl rfl rfl ?_
              refine HL.pass (t := 147) rfl rfl rfl rfl ?_
              refine HL.quiet (y_pick_false rfl rfl) rfl ?_
              refine HL.quiet (y_move rfl) rfl ?_
              refine HL.pass (t := 151) rfl rfl rfl rfl ?_
              refine HL.pass (t := 151) rfl rfl rfl rfl ?_
              refine HL.pass (t := 151) rfl rfl rfl rfl ?_
              refine HL.pass (t := 151) rfl rfl rfl rfl ?_
              refine HL.pass (t := 151) rfl rfl rfl rfl ?_
              refine HL.pass (t := 151) rfl rfl rfl rfl ?_
              refine HL.pass (t := 151) rfl rfl rfl rfl ?_
              refine HL.pass (t := 158) rfl rfl rfl rfl ?_
              refine HL.pass (t := 158) rfl rfl rfl rfl ?_
              refine HL.pass (t := 158) rfl rfl rfl rfl ?_
              refine HL.pass (t := 158) rfl rfl rfl rfl ?_
              refine HL.pass (t := 158) rfl rfl rfl rfl ?_
              refine HL.pass (t := 158) rfl rfl rfl rfl ?_
              refine HL.pass (t := 158) rfl rfl rfl rfl ?_
              refine HL.pass (t := 151) rfl rfl rfl rfl ?_
              refine HL.quiet (y_pick_false rfl rfl) rfl ?_
              refine HL.quiet (y_assign rfl) rfl ?_
              refine HL.nil ?_
              refine HQ.next ?_
              refine HC.sub (E' := [(4, _)]) ⟨rfl, trivial⟩ ?_
              refine HC.ret ?_
              refine HQ.then_ret ?_
              refine HQ.doneP (Res.one Tryd.results4 rfl) (List.Sublist.refl _) (((((((((((hi1).trans hi2).trans hi3).trans hi4).trans hi5).trans hi6).trans hi9).trans hi10).trans hJ11).trans hi12).trans hi13) ?_
              rcases huc.pair hud hc1 hc2 with ⟨q1, q2⟩ | ⟨q1, q2, q3⟩ <;> rcases hun.pair hc1 with q4 | q4 <;> first | (exfalso; omega) | (simp [q1, q2]; done) | (simp [q1, q2] <;> omega)
          · try simp only [Bool.and_eq_true, Bool.and_eq_false_iff, Bool.or_eq_true, Bool.or_eq_false_iff, decide_eq_true_eq, decide_eq_false_iff_not, Int.not_lt, Int.not_le, beq_iff_eq, bne_iff_ne, ne_eq, Decidable.not_not, beq_eq_false_iff_ne, bne_eq_false_iff_eq, Bool.not_eq_true', Bool.not_eq_false'] at hg14
            refine HL.quiet_guard (t := 141) rfl rfl (y_move rfl) rfl ?_
            refine HL.quiet_guard (t := 141) rfl rfl (y_neq rfl rfl) rfl ?_
            refine HL.quiet (y_pick_false rfl rfl) rfl ?_
            refine HL.nil ?_
            refine HQ.next ?_
            refine HC.sub (E' := [(0, _), (1, _), (7, _), (9, _), (11, _), (12, _), (13, _), (14, _), (144, _)]) ⟨rfl, rfl, rfl, rfl, rfl, rfl, rfl, rfl, rfl, trivial⟩ ?_
            refine HC.cond rfl (fun hc6 => ?_) (fun hc6 => ?_)
            · try simp only [Bool.and_eq_true, Bool.and_eq_false_iff, Bool.or_eq_true, Bool.or_eq_false_iff, decide_eq_true_eq, decide_eq_false_iff_not, Int.not_lt, Int.not_le, beq_iff_eq, bne_iff_ne, ne_eq, Decidable.not_not, beq_eq_false_iff_ne, bne_eq_false_iff_eq, Bool.not_eq_true', Bool.not_eq_false'] at hc6
              refine HC.seq ?_
              refine HC.region ?_
              have hl1 := nodesCheck_len (readText_nodes (readText_zero hc1)).2.2
              have hl2 := nodesCheck_len (readText_nodes (readText_zero hc2)).2.2
              refine HL.quiet (y_move rfl) rfl ?_
              refine HL.quiet (y_eql rfl rfl) rfl ?_
              refine HL.quiet (y_move rfl) rfl ?_
              refine HL.split (t := 147) rfl (fun hg22 => ?_) (fun hg22 => ?_)
              · try simp only [Bool.and_eq_true, Bool.and_eq_false_iff, Bool.or_eq_true, Bool.or_eq_false_iff, decide_eq_true_eq, decide_eq_false_iff_not, Int.not_lt, Int.not_le, beq_iff_eq, bne_iff_ne, ne_eq, Decidable.not_not, beq_eq_false_iff_ne, bne_eq_false_iff_eq, Bool.not_eq_true', Bool.not_eq_false'] at hg22
                refine HL.quiet_guard (t := 147) rfl rfl (y_move rfl) rfl ?_
                refine HL.quiet_guard (t := 147) rfl rfl (y_eql rfl rfl) rfl ?_
                refine HL.quiet (y_pick_true rfl rfl) rfl ?_
                refine HL.quiet (y_move rfl) rfl ?_
                refine HL.split (t := 151) rfl (fun hg24 => ?_) (fun hg24 => ?_)
                · try simp only [Bool.and_eq_true, Bool.and_eq_false_iff, Bool.or_eq_true, Bool.or_eq_false_iff, decide_eq_true_eq, decide_eq_false_iff_not, Int.not_lt, Int.not_le, beq_iff_eq, bne_iff_ne, ne_eq, Decidable.not_not, beq_eq_false_iff_ne, bne_eq_false_iff_eq, Bool.not_eq_true', Bool.not_eq_false'] at hg24
                  refine HL.quiet_guard (t := 151) rfl rfl (y_move rfl) rfl ?_
                  refine HL.quiet_guard (t := 151) rfl rfl (y_len_slice Tryd.underlying22 rfl) rfl ?_
                  refine HL.quiet_guard (t := 151) rfl rfl (y_move rfl) rfl ?_
                  refine HL.quiet_guard (t := 151) rfl rfl (y_len_slice Tryd.underlying22 rfl) rfl ?_
                  refine HL.quiet_guard (t := 151) rfl rfl (y_add rfl rfl (by omega)) rfl ?_
                  refine HL.quiet_guard (t := 151) rfl rfl (y_geq rfl rfl) rfl ?_
                  refine HL.quiet_guard (t := 151) rfl rfl (y_move rfl) rfl ?_
                  refine HL.split (t := 158) rfl (fun hg26 => ?_) (fun hg26 => ?_)
                  · try simp only [Bool.and_eq_true, Bool.and_eq_false_iff, Bool.or_eq_true, Bool.or_eq_false_iff, decide_eq_true_eq, decide_eq_false_iff_not, Int.not_lt, Int.not_le, beq_iff_eq, bne_iff_ne, ne_eq, Decidable.not_not, beq_eq_false_iff_ne, bne_eq_false_iff_eq, Bool.not_eq_true', Bool.not_eq_false'] at hg26
                    refine HL.pass (t := 158) rfl rfl rfl rfl ?_
                    refine HL.pass (t := 158) rfl rfl rfl rfl ?_
                    refine HL.pass (t := 158) rfl rfl rfl rfl ?_
                    refine HL.pass (t := 158) rfl rfl rfl rfl ?_
                    refine HL.pass (t := 158) rfl rfl rfl rfl ?_
                    refine HL.pass (t := 158) rfl rfl rfl rfl ?_
                    refine HL.pass (t := 158) rfl rfl rfl rfl ?_
                    refine HL.quiet_guard (t := 151) rfl rfl (y_pick_true rfl rfl) rfl ?_
                    refine HL.quiet (y_pick_true rfl rfl) rfl ?_
                    refine HL.quiet (y_assign rfl) rfl ?_
                    refine HL.nil ?_
                    refine HQ.next ?_
                    refine HC.sub (E' := [(4, _)]) ⟨rfl, trivial⟩ ?_
                    refine HC.ret ?_
                    refine HQ.then_ret ?_
                    refine HQ.doneP (Res.one Tryd.results4 rfl) (List.Sublist.refl _) (((((((((((hi1).trans hi2).trans hi3).trans hi4).trans hi5).trans hi6).trans hi9).trans hi10).trans hJ11).trans hi12).trans hi13) ?_
                    rfl
                  · try simp only [Bool.and_eq_true, Bool.and_eq_false_iff, Bool.or_eq_true, Bool.or_eq_false_iff, decide_eq_true_eq, decide_eq_false_iff_not, Int.not_lt, Int.not_le, beq_iff_eq, bne_iff_ne, ne_eq, Decidable.not_not, beq_eq_false_iff_ne, bne_eq_false_iff_eq, Bool.not_eq_true', Bool.not_eq_false'] at hg26
                    refine HL.quiet_guard (t := 158) rfl rfl (y_move rfl) rfl ?_
                    refine HL.quiet_guard (t := 158) rfl rfl (y_len_str Tryd.underlying9 rfl) rfl ?_
                    refine HL.quiet_guard (t := 158) rfl rfl (y_move rfl) rfl ?_
                    refine HL.quiet_guard (t := 158) rfl rfl (y_len_str Tryd.underlying9 rfl) rfl ?_
                    refine HL.quiet_guard (t := 158) rfl rfl (y_add rfl rfl (by omega)) rfl ?_
                    refine HL.quiet_guard (t := 158) rfl rfl (y_add rfl rfl (by omega)) rfl ?_
                    refine HL.quiet_guard (t := 158) rfl rfl (y_gtr rfl rfl) rfl ?_
                    refine HL.quiet_guard (t := 151) rfl rfl (y_pick_false rfl rfl) rfl ?_
                    refine HL.quiet (y_pick_true rfl rfl) rfl ?_
                    refine HL.quiet (y_assign rfl) rfl ?_
                    refine HL.nil ?_
                    refine HQ.next ?_
                    refine HC.sub (E' := [(4, _)]) ⟨rfl, trivial⟩ ?_
                    refine HC.ret ?_
                    refine HQ.then_ret ?_
                    refine HQ.doneP (Res.one Tryd.results4 rfl) (List.Sublist.refl _) (((((((((((hi1).trans hi2).trans hi3).trans hi4).trans hi5).trans hi6).trans hi9).trans hi10).trans hJ11).trans hi12).trans hi13) ?_
                    rcases huc.pair hud hc1 hc2 with ⟨q1, q2⟩ | ⟨q1, q2, q3⟩ <;> rcases hun.pair hc1 with q4 | q4 <;> first | (exfalso; omega) | (simp [q1, q2]; done) | (simp [q1, q2] <;> omega)
                · try simp only [Bool.and_eq_true, Bool.and_eq_false_iff, Bool.or_eq_true, Bool.or_eq_false_iff, decide_eq_true_eq, decide_eq_false_iff_not, Int.not_lt, Int.not_le, beq_iff_eq, bne_iff_ne, ne_eq, Decidable.not_not, beq_eq_false_iff_ne, bne_eq_false_iff_eq, Bool.not_eq_true', Bool.not_eq_false'] at hg24
                  refine HL.pass (t := 151) rfl rfl rfl rfl ?_
                  refine HL.pass (t := 151) rfl rfl rfl rfl ?_
                  refine HL.pass (t := 151) rfl rfl rfl rfl ?_
                  refine HL.pass (t := 151) rfl rfl rfl rfl ?_
                  refine HL.pass (t := 151) rfl rfl rfl rfl ?_
                  refine HL.pass (t := 151) rfl rfl rfl rfl ?_
                  refine HL.pass (t := 151) rfl rfl rfl rfl ?_
                  refine HL.pass (t := 158) rfl rfl rfl rfl ?_
                  refine HL.pass (t := 158) rfl rfl rfl rfl ?_
                  refine HL.pass (t := 158) rfl rfl rfl rfl ?_
                  refine HL.pass (t := 158) rfl rfl rfl rfl ?_
                  refine HL.pass (t := 158) rfl rfl rfl rfl ?_
                  refine HL.pass (t := 158) rfl rfl rfl rfl ?_
                  refine HL.pass (t := 158) rfl rfl rfl rfl ?_
                  refine HL.pass (t := 151) rfl rfl rfl rfl ?_
                  refine HL.quiet (y_pick_false rfl rfl) rfl ?_
                  refine HL.quiet (y_assign rfl) rfl ?_
                  refine HL.nil ?_
                  refine HQ.next ?_
                  refine HC.sub (E' := [(4, _)]) ⟨rfl, trivial⟩ ?_
                  refine HC.ret ?_
                  refine HQ.then_ret ?_
                  refine HQ.doneP (Res.one Tryd.results4 rfl) (List.Sublist.refl _) (((((((((((hi1).trans hi2).trans hi3).trans hi4).trans hi5).trans hi6).trans hi9).trans hi10).trans hJ11).trans hi12).trans hi13) ?_
                  rcases huc.pair hud hc1 hc2 with ⟨q1, q2⟩ | ⟨q1, q2, q3⟩ <;> rcases hun.pair hc1 with q4 | q4 <;> first | (exfalso; omega) | (simp [q1, q2]; done) | (simp [q1, q2] <;> omega)
              · try simp only [Bool.and_eq_true, Bool.and_eq_false_iff, Bool.or_eq_true, Bool.or_eq_false_iff, decide_eq_true_eq, decide_eq_false_iff_not, Int.not_lt, Int.not_le, beq_iff_eq, bne_iff_ne, ne_eq, Decidable.not_not, beq_eq_false_iff_ne, bne_eq_false_iff_eq, Bool.not_eq_true', Bool.not_eq_false'] at hg22
                refine HL.pass (t := 147) rfl rfl rfl rfl ?_
                refine HL.pass (t := 147) rfl rfl rfl rfl ?_
                refine HL.quiet (y_pick_false rfl rfl) rfl ?_
                refine HL.quiet (y_move rfl) rfl ?_
                refine HL.pass (t := 151) rfl rfl rfl rfl ?_
                refine HL.pass (t := 151) rfl rfl rfl rfl ?_
                refine HL.pass (t := 151) rfl rfl rfl rfl ?_
                refine HL.pass (t := 151) rfl rfl rfl rfl ?_
                refine HL.pass (t := 151) rfl rfl rfl rfl ?_
                refine HL.pass (t := 151) rfl rfl rfl rfl ?_
                refine HL.pass (t := 151) rfl rfl rfl rfl ?_
                refine HL.pass (t := 158) rfl rfl rfl rfl ?_
                refine HL.pass (t := 158) rfl rfl rfl rfl ?_
                refine HL.pass (t := 158) rfl rfl rfl rfl ?_
                refine HL.pass (t := 158) rfl rfl rfl rfl ?_
                refine HL.pass (t := 158) rfl rfl rfl rfl ?_
                refine HL.pass (t := 158) rfl rfl rfl rfl ?_
                refine HL.pass (t := 158) rfl rfl rfl rfl ?_
                refine HL.pass (t := 151) rfl rfl rfl rfl ?_
                refine HL.quiet (y_pick_false rfl rfl) rfl ?_
                refine HL.quiet (y_assign rfl) rfl ?_
                refine HL.nil ?_
                refine HQ.next ?_
                refine HC.sub (E' := [(4, _)]) ⟨rfl, trivial⟩ ?_
                refine HC.ret ?_
                refine HQ.then_ret ?_
                refine HQ.doneP (Res.one Tryd.results4 rfl) (List.Sublist.refl _) (((((((((((hi1).trans hi2).trans hi3).trans hi4).trans hi5).trans hi6).trans hi9).trans hi10).trans hJ11).trans hi12).trans hi13) ?_
                rcases huc.pair hud hc1 hc2 with ⟨q1, q2⟩ | ⟨q1, q2, q3⟩ <;> rcases hun.pair hc1 with q4 | q4 <;> first | (exfalso; omega) | (simp [q1, q2]; done) | (simp [q1, q2] <;> omega)
            · try simp only [Bool.and_eq_true, Bool.and_eq_false_iff, Bool.or_eq_true, Bool.or_eq_false_iff, decide_eq_true_eq, decide_eq_false_iff_not, Int.not_lt, Int.not_le, beq_iff_eq, bne_iff_ne, ne_eq, Decidable.not_not, beq_eq_false_iff_ne, bne_eq_false_iff_eq, Bool.not_eq_true', Bool.not_eq_false'] at hc6
              refine HC.skip ?_
              refine HQ.next ?_
              refine HC.sub (E' := [(7, _), (9, _), (11, _), (13, _)]) ⟨rfl, rfl, rfl, rfl, trivial⟩ ?_
              refine HC.seq ?_
              refine HC.region ?_
              have hu1 : (readText uc).1 = 0 := by assumption
              have hu2 : (readText ud).1 = 0 := by assumption
              refine HL.quiet (y_move rfl) rfl ?_
              refine HL.callP Tryd.call7 (.cons rfl (.nil)) rfl (formula_Filter _ _ ((readText s).2) (hv2.le (((((((((hi3).trans hi4).trans hi5).trans hi6).trans hi9).trans hi10).trans hJ11).trans hi12).trans hi13))) ?_
              rintro _ I28 hi28 ⟨v28, rfl, hv28⟩
              obtain ⟨ad28, cap28, rfl, _⟩ := hv28.slice
              rw [show (filterOf ((readText s).2)).1 = 0 from filterOf_read hc1]
              refine HL.quiet (y_move rfl) rfl ?_
              refine HL.quiet (y_extract rfl rfl) rfl ?_
              refine HL.quiet (y_extract rfl rfl) rfl ?_
              refine HL.quiet (y_assign rfl) rfl ?_
              refine HL.quiet (y_assign rfl) rfl ?_
              refine HL.nil ?_
              refine HQ.next ?_
              refine HC.sub (E' := [(9, _), (11, _), (13, _), (23, _), (24, _)]) ⟨rfl, rfl, rfl, rfl, rfl, trivial⟩ ?_
              refine HC.seq ?_
              refine HC.region ?_
              refine HL.quiet (y_move rfl) rfl ?_
              refine HL.callP Tryd.call7 (.cons rfl (.nil)) rfl (formula_Filter _ _ ((readText t).2) (hv3.le (((((((((hi4).trans hi5).trans hi6).trans hi9).trans hi10).trans hJ11).trans hi12).trans hi13).trans hi28))) ?_
              rintro _ I29 hi29 ⟨v29, rfl, hv29⟩
              obtain ⟨ad29, cap29, rfl, _⟩ := hv29.slice
              rw [show (filterOf ((readText t).2)).1 = 0 from filterOf_read hc2]
              refine HL.quiet (y_move rfl) rfl ?_
              refine HL.quiet (y_extract rfl rfl) rfl ?_
              refine HL.quiet (y_extract rfl rfl) rfl ?_
              refine HL.quiet (y_assign rfl) rfl ?_
              refine HL.quiet (y_assign rfl) rfl ?_
              refine HL.nil ?_
              refine HQ.next ?_
              refine HC.sub (E' := [(11, _), (13, _), (23, _), (24, _), (25, _), (26, _)]) ⟨rfl, rfl, rfl, rfl, rfl, rfl, trivial⟩ ?_
              refine HC.seq ?_
              refine HC.region ?_
              refine HL.quiet (y_move rfl) rfl ?_
              refine HL.callP Tryd.call7 (.cons rfl (.nil)) rfl (formula_Filter _ _ ((readText uc).2) (hv4.le (((((((((hi5).trans hi6).trans hi9).trans hi10).trans hJ11).trans hi12).trans hi13).trans hi28).trans hi29))) ?_
              rintro _ I30 hi30 ⟨v30, rfl, hv30⟩
              obtain ⟨ad30, cap30, rfl, _⟩ := hv30.slice
              rw [show (filterOf ((readText uc).2)).1 = 0 from by rw [huc.filter hc1 hc2 hu1]]
              refine HL.quiet (y_move rfl) rfl ?_
              refine HL.quiet (y_extract rfl rfl) rfl ?_
              refine HL.quiet (y_extract rfl rfl) rfl ?_
              refine HL.quiet (y_assign rfl) rfl ?_
              refine HL.quiet (y_assign rfl) rfl ?_
              refine HL.nil ?_
              refine HQ.next ?_
              refine HC.sub (E' := [(13, _), (23, _), (24, _), (25, _), (26, _), (27, _), (28, _)]) ⟨rfl, rfl, rfl, rfl, rfl, rfl, rfl, trivial⟩ ?_
              refine HC.seq ?_
              refine HC.region ?_
              refine HL.quiet (y_move rfl) rfl ?_
              refine HL.callP Tryd.call7 (.cons rfl (.nil)) rfl (formula_Filter _ _ ((readText ud).2) (hv5.le (((((((((hi6).trans hi9).trans hi10).trans hJ11).trans hi12).trans hi13).trans hi28).trans hi29).trans hi30))) ?_
              rintro _ I31 hi31 ⟨v31, rfl, hv31⟩
              obtain ⟨ad31, cap31, rfl, _⟩ := hv31.slice
              rw [show (filterOf ((readText ud).2)).1 = 0 from by rw [hud.filter hc1 hc2 hu2]]
              refine HL.quiet (y_move rfl) rfl ?_
              refine HL.quiet (y_extract rfl rfl) rfl ?_
              refine HL.quiet (y_extract rfl rfl) rfl ?_
              refine HL.quiet (y_assign rfl) rfl ?_
              refine HL.quiet (y_assign rfl) rfl ?_
              refine HL.nil ?_
              refine HQ.next ?_
              refine HC.sub (E' := [(23, _), (24, _), (25, _), (26, _), (27, _), (28, _), (29, _), (30, _)]) ⟨rfl, rfl, rfl, rfl, rfl, rfl, rfl, rfl, trivial⟩ ?_
              refine HC.seq ?_
              refine HC.region ?_
              refine HL.quiet (y_move rfl) rfl ?_
              refine HL.quiet (y_move rfl) rfl ?_
              refine HL.callP Tryd.call11 (.cons rfl (.cons rfl (.nil))) rfl (filter_Meet _ _ _ _ _ (hv28.le (((hi29).trans hi30).trans hi31)) (hv29.le ((hi30).trans hi31))) ?_
              rintro _ I32 hi32 ⟨v32, rfl, hv32⟩
              obtain ⟨ad32, cap32, rfl, _⟩ := hv32.slice
              rw [show (meetOf ((filterOf ((readText s).2)).2) ((filterOf ((readText t).2)).2)).1 = 0 from bothOf_one (filterOf_ok (readText_nodes (readText_zero hc1)).2.2) (filterOf_ok (readText_nodes (readText_zero hc2)).2.2)]
              refine HL.quiet (y_move rfl) rfl ?_
              refine HL.quiet (y_extract rfl rfl) rfl ?_
              refine HL.quiet (y_extract rfl rfl) rfl ?_
              refine HL.quiet (y_assign rfl) rfl ?_
              refine HL.quiet (y_assign rfl) rfl ?_
              refine HL.nil ?_
              refine HQ.next ?_
              refine HC.sub (E' := [(23, _), (24, _), (25, _), (26, _), (27, _), (28, _), (29, _), (30, _), (31, _), (32, _)]) ⟨rfl, rfl, rfl, rfl, rfl, rfl, rfl, rfl, rfl, rfl, trivial⟩ ?_
              refine HC.seq ?_
              refine HC.region ?_
              refine HL.quiet (y_move rfl) rfl ?_
              refine HL.quiet (y_move rfl) rfl ?_
              refine HL.callP Tryd.call12 (.cons rfl (.cons rfl (.nil))) rfl (filter_Join _ _ _ _ _ (hv28.le ((((hi29).trans hi30).trans hi31).trans hi32)) (hv29.le (((hi30).trans hi31).trans hi32))) ?_
              rintro _ I33 hi33 ⟨v33, rfl, hv33⟩
              obtain ⟨ad33, cap33, rfl, _⟩ := hv33.slice
              rw [show (joinOf ((filterOf ((readText s).2)).2) ((filterOf ((readText t).2)).2)).1 = 0 from bothOf_one (filterOf_ok (readText_nodes (readText_zero hc1)).2.2) (filterOf_ok (readText_nodes (readText_zero hc2)).2.2)]
              refine HL.quiet (y_move rfl) rfl ?_
              refine HL.quiet (y_extract rfl rfl) rfl ?_
              refine HL.quiet (y_extract rfl rfl) rfl ?_
              refine HL.quiet (y_assign rfl) rfl ?_
              refine HL.quiet (y_assign rfl) rfl ?_
              refine HL.nil ?_
              refine HQ.next ?_
              refine HC.sub (E' := [(24, _), (26, _), (27, _), (28, _), (29, _), (30, _), (31, _), (32, _), (33, _), (34, _)]) ⟨rfl, rfl, rfl, rfl, rfl, rfl, rfl, rfl, rfl, rfl, trivial⟩ ?_
              refine HC.seq ?_
              refine HC.seq ?_
              refine HC.region ?_
              refine HL.quiet (y_move rfl) rfl ?_
              refine HL.quiet (y_move rfl) rfl ?_
              refine HL.quiet (y_move rfl) rfl ?_
              refine HL.quiet (y_move rfl) rfl ?_
              refine HL.quiet (y_move rfl) rfl ?_
              refine HL.quiet (y_move rfl) rfl ?_
              refine HL.buildSlice (vs := [(0, .int .i64 0), (1, .int .i64 0), (2, .int .i64 0), (3, .int .i64 0), (4, .int .i64 0), (5, .int .i64 0)]) (cs := [.int .i64 0, .int .i64 0, .int .i64 0, .int .i64 0, .int .i64 0, .int .i64 0]) (.cons rfl (.cons rfl (.cons rfl (.cons rfl (.cons rfl (.cons rfl (.nil))))))) Tryd.underlying33 Tryd.sizeOf23 Tryd.zeroValue23 rfl rfl (by kernel_rfl) rfl (fun be _ => ?_)
              refine HL.quiet (y_len_slice Tryd.underlying33 rfl) rfl ?_
              refine HL.quiet (y_move rfl) rfl ?_
              refine HL.nil ?_
              refine HQ.next ?_
              refine HC.sub (E' := [(27, _), (29, _), (31, _), (33, _), (206, _), (207, _), (208, _)]) ⟨rfl, rfl, rfl, rfl, rfl, rfl, rfl, trivial⟩ ?_
              refine HC.block ?_
              refine HC.sub (E' := (fun (k : Nat) => [(27, .slice ad30 ((filterOf ((readText uc).2)).2.length) cap30), (29, .slice ad31 ((filterOf ((readText ud).2)).2.length) cap31), (31, .slice ad32 ((meetOf ((filterOf ((readText s).2)).2) ((filterOf ((readText t).2)).2)).2.length) cap32), (33, .slice ad33 ((joinOf ((filterOf ((readText s).2)).2) ((filterOf ((readText t).2)).2)).2.length) cap33), (206, .slice (some ⟨be, 0, none⟩) 6 6), (207, .int .i64 (6 : Int)), (208, .int .i64 (k : Int))]) 0) ⟨rfl, rfl, rfl, rfl, rfl, rfl, rfl, trivial⟩ ?_
              refine HC.loop (fun (k : Nat) => 6 - k) (fun (k : Nat) => k ≤ 6) (fun (k : Nat) => [(27, .slice ad30 ((filterOf ((readText uc).2)).2.length) cap30), (29, .slice ad31 ((filterOf ((readText ud).2)).2.length) cap31), (31, .slice ad32 ((meetOf ((filterOf ((readText s).2)).2) ((filterOf ((readText t).2)).2)).2.length) cap32), (33, .slice ad33 ((joinOf ((filterOf ((readText s).2)).2) ((filterOf ((readText t).2)).2)).2.length) cap33), (206, .slice (some ⟨be, 0, none⟩) 6 6), (207, .int .i64 (6 : Int)), (208, .int .i64 (k : Int))]) (fun (k : Nat) => (be, blk [.int .i64 0, .int .i64 0, .int .i64 0, .int .i64 0, .int .i64 0, .int .i64 0] 23) :: Lf) (fun (k : Nat) => I33) 0 (by omega) (fun k hC => ?_)
              refine HC.seq ?_
              refine HC.region ?_
              refine HL.quiet (y_lss rfl rfl) rfl ?_
              refine HL.nil ?_
              refine HQ.next ?_
              refine HC.seq ?_
              refine HC.cond rfl (fun hc7 => ?_) (fun hc7 => ?_)
              · try simp only [Bool.and_eq_true, Bool.and_eq_false_iff, Bool.or_eq_true, Bool.or_eq_false_iff, decide_eq_true_eq, decide_eq_false_iff_not, Int.not_lt, Int.not_le, beq_iff_eq, bne_iff_ne, ne_eq, Decidable.not_not, beq_eq_false_iff_ne, bne_eq_false_iff_eq, Bool.not_eq_true', Bool.not_eq_false'] at hc7
                refine HC.skip ?_
                refine HQ.next ?_
                refine HC.sub (E' := [(27, _), (29, _), (31, _), (33, _), (206, _), (207, _), (208, _)]) ⟨rfl, rfl, rfl, rfl, rfl, rfl, rfl, trivial⟩ ?_
                refine HC.seq ?_
                refine HC.block ?_
                refine HC.seq ?_
                refine HC.region ?_
                refine HL.quiet (y_indexAddr (j := k) Tryd.underlying33 Tryd.sizeOf23 rfl rfl (by first | rfl | omega) (by omega)) rfl ?_
                refine HL.quiet (y_loadL (k := 0) (v := .int .i64 0) Tryd.isAgg23 rfl rfl (same_get 6 _ (by omega))) rfl ?_
                refine HL.quiet (y_assign rfl) rfl ?_
                refine HL.nil ?_
                refine HQ.next ?_
                refine HC.sub (E' := [(27, _), (29, _), (31, _), (33, _), (206, _), (207, _), (208, _), (36, _)]) ⟨rfl, rfl, rfl, rfl, rfl, rfl, rfl, rfl, trivial⟩ ?_
                refine HC.seq ?_
                refine HC.region ?_
                refine HL.quiet (y_move rfl) rfl ?_
                refine HL.quiet (y_neq rfl rfl) rfl ?_
                refine HL.nil ?_
                refine HQ.next ?_
                refine HC.sub (E' := [(27, _), (29, _), (31, _), (33, _), (206, _), (207, _), (208, _), (213, _)]) ⟨rfl, rfl, rfl, rfl, rfl, rfl, rfl, rfl, trivial⟩ ?_
                refine HC.cond_false rfl ?_
                refine HC.skip ?_
                refine HQ.inb_normal ?_
                refine HQ.next ?_
                refine HC.sub (E' := [(27, _), (29, _), (31, _), (33, _), (206, _), (207, _), (208, _)]) ⟨rfl, rfl, rfl, rfl, rfl, rfl, rfl, trivial⟩ ?_
                refine HC.region ?_
                refine HL.quiet (y_add rfl rfl (by omega)) rfl ?_
                refine HL.quiet (y_move rfl) rfl ?_
                refine HL.nil ?_
                exact HQ.again (k + 1) (by omega) (by omega) ⟨rfl, rfl, rfl, rfl, rfl, rfl, rfl, trivial⟩ (List.Sublist.cons_cons _ (List.Sublist.refl _)) (PLe.refl _)
              · try simp only [Bool.and_eq_true, Bool.and_eq_false_iff, Bool.or_eq_true, Bool.or_eq_false_iff, decide_eq_true_eq, decide_eq_false_iff_not, Int.not_lt, Int.not_le, beq_iff_eq, bne_iff_ne, ne_eq, Decidable.not_not, beq_eq_false_iff_ne, bne_eq_false_iff_eq, Bool.not_eq_true', Bool.not_eq_false'] at hc7
                refine HC.exit ?_
                refine HQ.then_exit ?_
                refine HQ.then_exit ?_
                refine HQ.inb_exit ?_
                refine HQ.next ?_
                refine HC.sub (E' := [(27, _), (29, _), (31, _), (33, _)]) ⟨rfl, rfl, rfl, rfl, trivial⟩ ?_
                refine HC.seq ?_
                refine HC.region ?_
                refine HL.quiet (y_move rfl) rfl ?_
                refine HL.quiet (y_move rfl) rfl ?_
                refine HL.callP Tryd.call10 (.cons rfl (.cons rfl (.nil))) rfl (keep_same _ _ _ _ _ (hv30.le (((hi31).trans hi32).trans hi33)) (hv32.le (hi33))) ?_
                rintro _ I34 hi34 rfl
                rw [show sameOf ((filterOf ((readText uc).2)).2) ((meetOf ((filterOf ((readText s).2)).2) ((filterOf ((readText t).2)).2)).2) = true from by rw [huc.filter hc1 hc2 hu1]; exact same_refl _ _ _]
                refine HL.quiet (y_move rfl) rfl ?_
                refine HL.quiet_guard (t := 218) rfl rfl (y_move rfl) rfl ?_
                refine HL.quiet_guard (t := 218) rfl rfl (y_move rfl) rfl ?_
                refine HL.unguard (s := 218) rfl rfl ?_
                refine HL.callP Tryd.call10 (.cons rfl (.cons rfl (.nil))) rfl (keep_same _ _ _ _ _ (hv31.le (((hi32).trans hi33).trans hi34)) (hv33.le (hi34))) ?_
                rintro _ I35 hi35 rfl
                rw [show sameOf ((filterOf ((readText ud).2)).2) ((joinOf ((filterOf ((readText s).2)).2) ((filterOf ((readText t).2)).2)).2) = true from by rw [hud.filter hc1 hc2 hu2]; exact same_refl _ _ _]
                refine HL.quiet (y_pick_true rfl rfl) rfl ?_
                refine HL.quiet (y_assign rfl) rfl ?_
                refine HL.nil ?_
                refine HQ.next ?_
                refine HC.sub (E' := [(4, _)]) ⟨rfl, trivial⟩ ?_
                refine HC.ret ?_
                refine HQ.doneP (Res.one Tryd.results4 rfl) (List.Sublist.cons _ (List.Sublist.refl _)) (((((((((((((((((((hi1).trans hi2).trans hi3).trans hi4).trans hi5).trans hi6).trans hi9).trans hi10).trans hJ11).trans hi12).trans hi13).trans hi28).trans hi29).trans hi30).trans hi31).trans hi32).trans hi33).trans hi34).trans hi35) ?_
                rfl
        · try simp only [Bool.and_eq_true, Bool.and_eq_false_iff, Bool.or_eq_true, Bool.or_eq_false_iff, decide_eq_true_eq, decide_eq_false_iff_not, Int.not_lt, Int.not_le, beq_iff_eq, bne_iff_ne, ne_eq, Decidable.not_not, beq_eq_false_iff_ne, bne_eq_false_iff_eq, Bool.not_eq_true', Bool.not_eq_false'] at hc3
          refine HC.seq ?_
          refine HC.region ?_
          refine HL.quiet (y_move rfl) rfl ?_
          refine HL.quiet (y_len_slice Tryd.underlying22 rfl) rfl ?_
          refine HL.quiet (y_lss rfl rfl) rfl ?_
          refine HL.quiet (y_move rfl) rfl ?_
          refine HL.split (t := 134) rfl (fun hg36 => ?_) (fun hg36 => ?_)
          · try simp only [Bool.and_eq_true, Bool.and_eq_false_iff, Bool.or_eq_true, Bool.or_eq_false_iff, decide_eq_true_eq, decide_eq_false_iff_not, Int.not_lt, Int.not_le, beq_iff_eq, bne_iff_ne, ne_eq, Decidable.not_not, beq_eq_false_iff_ne, bne_eq_false_iff_eq, Bool.not_eq_true', Bool.not_eq_false'] at hg36
            refine HL.quiet_guard (t := 134) rfl rfl (y_move rfl) rfl ?_
            refine HL.quiet_guard (t := 134) rfl rfl (y_len_str Tryd.underlying9 rfl) rfl ?_
            refine HL.quiet_guard (t := 134) rfl rfl (y_lss rfl rfl) rfl ?_
            refine HL.quiet (y_pick_true rfl rfl) rfl ?_
            refine HL.nil ?_
            refine HQ.next ?_
            refine HC.sub (E' := [(0, _), (1, _), (7, _), (9, _), (11, _), (12, _), (13, _), (14, _), (138, _)]) ⟨rfl, rfl, rfl, rfl, rfl, rfl, rfl, rfl, rfl, trivial⟩ ?_
            refine HC.cond rfl (fun hc9 => ?_) (fun hc9 => ?_)
            · try simp only [Bool.and_eq_true, Bool.and_eq_false_iff, Bool.or_eq_true, Bool.or_eq_false_iff, decide_eq_true_eq, decide_eq_false_iff_not, Int.not_lt, Int.not_le, beq_iff_eq, bne_iff_ne, ne_eq, Decidable.not_not, beq_eq_false_iff_ne, bne_eq_false_iff_eq, Bool.not_eq_true', Bool.not_eq_false'] at hc9
              refine HC.seq ?_
              refine HC.region ?_
              refine HL.quiet (y_assign rfl) rfl ?_
              refine HL.nil ?_
              refine HQ.next ?_
              refine HC.sub (E' := [(4, _)]) ⟨rfl, trivial⟩ ?_
              refine HC.ret ?_
              refine HQ.then_ret ?_
              refine HQ.doneP (Res.one Tryd.results4 rfl) (List.Sublist.refl _) ((((((hi1).trans hi2).trans hi3).trans hi4).trans hi5).trans hi6) ?_
              rcases huc.pair hud hc1 hc2 with ⟨q1, q2⟩ | ⟨q1, q2, q3⟩ <;> rcases hun.pair hc1 with q4 | q4 <;> first | (exfalso; omega) | (simp [q1, q2]; done) | (simp [q1, q2] <;> omega)
            · try simp only [Bool.and_eq_true, Bool.and_eq_false_iff, Bool.or_eq_true, Bool.or_eq_false_iff, decide_eq_true_eq, decide_eq_false_iff_not, Int.not_lt, Int.not_le, beq_iff_eq, bne_iff_ne, ne_eq, Decidable.not_not, beq_eq_false_iff_ne, bne_eq_false_iff_eq, Bool.not_eq_true', Bool.not_eq_false'] at hc9
              refine HC.skip ?_
              refine HQ.next ?_
              refine HC.sub (E' := [(0, _), (1, _), (7, _), (9, _), (11, _), (12, _), (13, _), (14, _)]) ⟨rfl, rfl, rfl, rfl, rfl, rfl, rfl, rfl, trivial⟩ ?_
              refine HC.seq ?_
              refine HC.seq ?_
              refine HC.region ?_
              refine HL.quiet (y_move rfl) rfl ?_
              refine HL.quiet (y_neq rfl rfl) rfl ?_
              refine HL.quiet (y_move rfl) rfl ?_
              refine HL.split (t := 141) rfl (fun hg38 => ?_) (fun hg38 => ?_)
              · try simp only [Bool.and_eq_true, Bool.and_eq_false_iff, Bool.or_eq_true, Bool.or_eq_false_iff, decide_eq_true_eq, decide_eq_false_iff_not, Int.not_lt, Int.not_le, beq_iff_eq, bne_iff_ne, ne_eq, Decidable.not_not, beq_eq_false_iff_ne, bne_eq_false_iff_eq, Bool.not_eq_true', Bool.not_eq_false'] at hg38
                refine HL.pass (t := 141) rfl rfl rfl rfl ?_
                refine HL.pass (t := 141) rfl rfl rfl rfl ?_
                refine HL.quiet (y_pick_true rfl rfl) rfl ?_
                refine HL.nil ?_
                refine HQ.next ?_
                refine HC.sub (E' := [(0, _), (1, _), (7, _), (9, _), (11, _), (12, _), (13, _), (14, _), (144, _)]) ⟨rfl, rfl, rfl, rfl, rfl, rfl, rfl, rfl, rfl, trivial⟩ ?_
                refine HC.cond_true rfl ?_
                refine HC.seq ?_
                refine HC.region ?_
                have hl1 := nodesCheck_len (readText_nodes (readText_zero hc1)).2.2
                have hl2 := nodesCheck_len (readText_nodes (readText_zero hc2)).2.2
                refine HL.quiet (y_move rfl) rfl ?_
                refine HL.quiet (y_eql rfl rfl) rfl ?_
                refine HL.quiet (y_move rfl) rfl ?_
                refine HL.split (t := 147) rfl (fun hg40 => ?_) (fun hg40 => ?_)
                · try simp only [Bool.and_eq_true, Bool.and_eq_false_iff, Bool.or_eq_true, Bool.or_eq_false_iff, decide_eq_true_eq, decide_eq_false_iff_not, Int.not_lt, Int.not_le, beq_iff_eq, bne_iff_ne, ne_eq, Decidable.not_not, beq_eq_false_iff_ne, bne_eq_false_iff_eq, Bool.not_eq_true', Bool.not_eq_false'] at hg40
                  refine HL.quiet_guard (t := 147) rfl rfl (y_move rfl) rfl ?_
                  refine HL.quiet_guard (t := 147) rfl rfl (y_eql rfl rfl) rfl ?_
                  refine HL.quiet (y_pick_true rfl rfl) rfl ?_
                  refine HL.quiet (y_move rfl) rfl ?_
                  refine HL.split (t := 151) rfl (fun hg42 => ?_) (fun hg42 => ?_)
                  · try simp only [Bool.and_eq_true, Bool.and_eq_false_iff, Bool.or_eq_true, Bool.or_eq_false_iff, decide_eq_true_eq, decide_eq_false_iff_not, Int.not_lt, Int.not_le, beq_iff_eq, bne_iff_ne, ne_eq, Decidable.not_not, beq_eq_false_iff_ne, bne_eq_false_iff_eq, Bool.not_eq_true', Bool.not_eq_false'] at hg42
                    refine HL.quiet_guard (t := 151) rfl rfl (y_move rfl) rfl ?_
                    refine HL.quiet_guard (t := 151) rfl rfl (y_len_slice Tryd.underlying22 rfl) rfl ?_
                    refine HL.quiet_guard (t := 151) rfl rfl (y_move rfl) rfl ?_
                    refine HL.quiet_guard (t := 151) rfl rfl (y_len_slice Tryd.underlying22 rfl) rfl ?_
                    refine HL.quiet_guard (t := 151) rfl rfl (y_add rfl rfl (by omega)) rfl ?_
                    refine HL.quiet_guard (t := 151) rfl rfl (y_geq rfl rfl) rfl ?_
                    refine HL.quiet_guard (t := 151) rfl rfl (y_move rfl) rfl ?_
                    refine HL.split (t := 158) rfl (fun hg44 => ?_) (fun hg44 => ?_)
                    · try simp only [Bool.and_eq_true, Bool.and_eq_false_iff, Bool.or_eq_true, Bool.or_eq_false_iff, decide_eq_true_eq, decide_eq_false_iff_not, Int.not_lt, Int.not_le, beq_iff_eq, bne_iff_ne, ne_eq, Decidable.not_not, beq_eq_false_iff_ne, bne_eq_false_iff_eq, Bool.not_eq_true', Bool.not_eq_false'] at hg44
                      refine HL.pass (t := 158) rfl rfl rfl rfl ?_
                      refine HL.pass (t := 158) rfl rfl rfl rfl ?_
                      refine HL.pass (t := 158) rfl rfl rfl rfl ?_
                      refine HL.pass (t := 158) rfl rfl rfl rfl ?_
                      refine HL.pass (t := 158) rfl rfl rfl rfl ?_
                      refine HL.pass (t := 158) rfl rfl rfl rfl ?_
                      refine HL.pass (t := 158) rfl rfl rfl rfl ?_
                      refine HL.quiet_guard (t := 151) rfl rfl (y_pick_true rfl rfl) rfl ?_
                      refine HL.quiet (y_pick_true rfl rfl) rfl ?_
                      refine HL.quiet (y_assign rfl) rfl ?_
                      refine HL.nil ?_
                      refine HQ.next ?_
                      refine HC.sub (E' := [(4, _)]) ⟨rfl, trivial⟩ ?_
                      refine HC.ret ?_
                      refine HQ.then_ret ?_
                      refine HQ.doneP (Res.one Tryd.results4 rfl) (List.Sublist.refl _) ((((((hi1).trans hi2).trans hi3).trans hi4).trans hi5).trans hi6) ?_
                      rfl
                    · try simp only [Bool.and_eq_true, Bool.and_eq_false_iff, Bool.or_eq_true, Bool.or_eq_false_iff, decide_eq_true_eq, decide_eq_false_iff_not, Int.not_lt, Int.not_le, beq_iff_eq, bne_iff_ne, ne_eq, Decidable.not_not, beq_eq_false_iff_ne, bne_eq_false_iff_eq, Bool.not_eq_true', Bool.not_eq_false'] at hg44
                      refine HL.quiet_guard (t := 158) rfl rfl (y_move rfl) rfl ?_
                      refine HL.quiet_guard (t := 158) rfl rfl (y_len_str Tryd.underlying9 rfl) rfl ?_
                      refine HL.quiet_guard (t := 158) rfl rfl (y_move rfl) rfl ?_
                      refine HL.quiet_guard (t := 158) rfl rfl (y_len_str Tryd.underlying9 rfl) rfl ?_
                      refine HL.quiet_guard (t := 158) rfl rfl (y_add rfl rfl (by omega)) rfl ?_
                      refine HL.quiet_guard (t := 158) rfl rfl (y_add rfl rfl (by omega)) rfl ?_
                      refine HL.quiet_guard (t := 158) rfl rfl (y_gtr rfl rfl) rfl ?_
                      refine HL.quiet_guard (t := 151) rfl rfl (y_pick_false rfl rfl) rfl ?_
                      refine HL.quiet (y_pick_true rfl rfl) rfl ?_
                      refine HL.quiet (y_assign rfl) rfl ?_
                      refine HL.nil ?_
                      refine HQ.next ?_
                      refine HC.sub (E' := [(4, _)]) ⟨rfl, trivial⟩ ?_
                      refine HC.ret ?_
                      refine HQ.then_ret ?_
                      refine HQ.doneP (Res.one Tryd.results4 rfl) (List.Sublist.refl _) ((((((hi1).trans hi2).trans hi3).trans hi4).trans hi5).trans hi6) ?_
                      rcases huc.pair hud hc1 hc2 with ⟨q1, q2⟩ | ⟨q1, q2, q3⟩ <;> rcases hun.pair hc1 with q4 | q4 <;> first | (exfalso; omega) | (simp [q1, q2]; done) | (simp [q1, q2] <;> omega)
                  · try simp only [Bool.and_eq_true, Bool.and_eq_false_iff, Bool.or_eq_true, Bool.or_eq_false_iff, decide_eq_true_eq, decide_eq_false_iff_not, Int.not_lt, Int.not_le, beq_iff_eq, bne_iff_ne, ne_eq, Decidable.not_not, beq_eq_false_iff_ne, bne_eq_false_iff_eq, Bool.not_eq_true', Bool.not_eq_false'] at hg42
                    refine HL.pass (t := 151) rfl rfl rfl rfl ?_
                    refine HL.pass (t := 151) rfl rfl rfl rfl ?_
                    refine HL.pass (t := 151) rfl rfl rfl rfl ?_
                    refine HL.pass (t := 151) rfl rfl rfl rfl ?_
                    refine HL.pass (t := 151) rfl rfl rfl rfl ?_
                    refine HL.pass (t := 151) rfl rfl rfl rfl ?_
                    refine HL.pass (t := 151) rfl rfl rfl rfl ?_
                    refine HL.pass (t := 158) rfl rfl rfl rfl ?_
                    refine HL.pass (t := 158) rfl rfl rfl rfl ?_
                    refine HL.pass (t := 158) rfl rfl rfl rfl ?_
                    refine HL.pass (t := 158) rfl rfl rfl rfl ?_
                    refine HL.pass (t := 158) rfl rfl rfl rfl ?_
                    refine HL.pass (t := 158) rfl rfl rfl rfl ?_
                    refine HL.pass (t := 158) rfl rfl rfl rfl ?_
                    refine HL.pass (t := 151) rfl rfl rfl rfl ?_
                    refine HL.quiet (y_pick_false rfl rfl) rfl ?_
                    refine HL.quiet (y_assign rfl) rfl ?_
                    refine HL.nil ?_
                    refine HQ.next ?_
                    refine HC.sub (E' := [(4, _)]) ⟨rfl, trivial⟩ ?_
                    refine HC.ret ?_
                    refine HQ.then_ret ?_
                    refine HQ.doneP (Res.one Tryd.results4 rfl) (List.Sublist.refl _) ((((((hi1).trans hi2).trans hi3).trans hi4).trans hi5).trans hi6) ?_
                    rcases huc.pair hud hc1 hc2 with ⟨q1, q2⟩ | ⟨q1, q2, q3⟩ <;> rcases hun.pair hc1 with q4 | q4 <;> first | (exfalso; omega) | (simp [q1, q2]; done) | (simp [q1, q2] <;> omega)
                · try simp only [Bool.and_eq_true, Bool.and_eq_false_iff, Bool.or_eq_true, Bool.or_eq_false_iff, decide_eq_true_eq, decide_eq_false_iff_not, Int.not_lt, Int.not_le, beq_iff_eq, bne_iff_ne, ne_eq, Decidable.not_not, beq_eq_false_iff_ne, bne_eq_false_iff_eq, Bool.not_eq_true', Bool.not_eq_false'] at hg40
                  refine HL.pass (t := 147) rfl rfl rfl rfl ?_
                  refine HL.pass (t := 147) rfl rfl rfl rfl ?_
                  refine HL.quiet (y_pick_false rfl rfl) rfl ?_
                  refine HL.quiet (y_move rfl) rfl ?_
                  refine HL.pass (t := 151) rfl rfl rfl rfl ?_
                  refine HL.pass (t := 151) rfl rfl rfl rfl ?_
                  refine HL.pass (t := 151) rfl rfl rfl rfl ?_
                  refine HL.pass (t := 151) rfl rfl rfl rfl ?_
                  refine HL.pass (t := 151) rfl rfl rfl rfl ?_
                  refine HL.pass (t := 151) rfl rfl rfl rfl ?_
                  refine HL.pass (t := 151) rfl rfl rfl rfl ?_
                  refine HL.pass (t := 158) rfl rfl rfl rfl ?_
                  refine HL.pass (t := 158) rfl rfl rfl rfl ?_
                  refine HL.pass (t := 158) rfl rfl rfl rfl ?_
                  refine HL.pass (t := 158) rfl rfl rfl rfl ?_
                  refine HL.pass (t := 158) rfl rfl rfl rfl ?_
                  refine HL.pass (t := 158) rfl rfl rfl rfl ?_
                  refine HL.pass (t := 158) rfl rfl rfl rfl ?_
                  refine HL.pass (t := 151) rfl rfl rfl rfl ?_
                  refine HL.quiet (y_pick_false rfl rfl) rfl ?_
                  refine HL.quiet (y_assign rfl) rfl ?_
                  refine HL.nil ?_
                  refine HQ.next ?_
                  refine HC.sub (E' := [(4, _)]) ⟨rfl, trivial⟩ ?_
                  refine HC.ret ?_
                  refine HQ.then_ret ?_
                  refine HQ.doneP (Res.one Tryd.results4 rfl) (List.Sublist.refl _) ((((((hi1).trans hi2).trans hi3).trans hi4).trans hi5).trans hi6) ?_
                  rcases huc.pair hud hc1 hc2 with ⟨q1, q2⟩ | ⟨q1, q2, q3⟩ <;> rcases hun.pair hc1 with q4 | q4 <;> first | (exfalso; omega) | (simp [q1, q2]; done) | (simp [q1, q2] <;> omega)
              · try simp only [Bool.and_eq_true, Bool.and_eq_false_iff, Bool.or_eq_true, Bool.or_eq_false_iff, decide_eq_true_eq, decide_eq_false_iff_not, Int.not_lt, Int.not_le, beq_iff_eq, bne_iff_ne, ne_eq, Decidable.not_not, beq_eq_false_iff_ne, bne_eq_false_iff_eq, Bool.not_eq_true', Bool.not_eq_false'] at hg38
                refine HL.quiet_guard (t := 141) rfl rfl (y_move rfl) rfl ?_
                refine HL.quiet_guard (t := 141) rfl rfl (y_neq rfl rfl) rfl ?_
                refine HL.quiet (y_pick_false rfl rfl) rfl ?_
                refine HL.nil ?_
                refine HQ.next ?_
                refine HC.sub (E' := [(0, _), (1, _), (7, _), (9, _), (11, _), (12, _), (13, _), (14, _), (144, _)]) ⟨rfl, rfl, rfl, rfl, rfl, rfl, rfl, rfl, rfl, trivial⟩ ?_
                refine HC.cond rfl (fun hc11 => ?_) (fun hc11 => ?_)
                · try simp only [Bool.and_eq_true, Bool.and_eq_false_iff, Bool.or_eq_true, Bool.or_eq_false_iff, decide_eq_true_eq, decide_eq_false_iff_not, Int.not_lt, Int.not_le, beq_iff_eq, bne_iff_ne, ne_eq, Decidable.not_not, beq_eq_false_iff_ne, bne_eq_false_iff_eq, Bool.not_eq_true', Bool.not_eq_false'] at hc11
                  refine HC.seq ?_
                  refine HC.region ?_
                  have hl1 := nodesCheck_len (readText_nodes (readText_zero hc1)).2.2
                  have hl2 := nodesCheck_len (readText_nodes (readText_zero hc2)).2.2
                  refine HL.quiet (y_move rfl) rfl ?_
                  refine HL.quiet (y_eql rfl rfl) rfl ?_
                  refine HL.quiet (y_move rfl) rfl ?_
                  refine HL.split (t := 147) rfl (fun hg46 => ?_) (fun hg46 => ?_)
                  · try simp only [Bool.and_eq_true, Bool.and_eq_false_iff, Bool.or_eq_true, Bool.or_eq_false_iff, decide_eq_true_eq, decide_eq_false_iff_not, Int.not_lt, Int.not_le, beq_iff_eq, bne_iff_ne, ne_eq, Decidable.not_not, beq_eq_false_iff_ne, bne_eq_false_iff_eq, Bool.not_eq_true', Bool.not_eq_false'] at hg46
                    refine HL.quiet_guard (t := 147) rfl rfl (y_move rfl) rfl ?_
                    refine HL.quiet_guard (t := 147) rfl rfl (y_eql rfl rfl) rfl ?_
                    refine HL.quiet (y_pick_true rfl rfl) rfl ?_
                    refine HL.quiet (y_move rfl) rfl ?_
                    refine HL.split (t := 151) rfl (fun hg48 => ?_) (fun hg48 => ?_)
                    · try simp only [Bool.and_eq_true, Bool.and_eq_false_iff, Bool.or_eq_true, Bool.or_eq_false_iff, decide_eq_true_eq, decide_eq_false_iff_not, Int.not_lt, Int.not_le, beq_iff_eq, bne_iff_ne, ne_eq, Decidable.not_not, beq_eq_false_iff_ne, bne_eq_false_iff_eq, Bool.not_eq_true', Bool.not_eq_false'] at hg48
                      refine HL.quiet_guard (t := 151) rfl rfl (y_move rfl) rfl ?_
                      refine HL.quiet_guard (t := 151) rfl rfl (y_len_slice Tryd.underlying22 rfl) rfl ?_
                      refine HL.quiet_guard (t := 151) rfl rfl (y_move rfl) rfl ?_
                      refine HL.quiet_guard (t := 151) rfl rfl (y_len_slice Tryd.underlying22 rfl) rfl ?_
                      refine HL.quiet_guard (t := 151) rfl rfl (y_add rfl rfl (by omega)) rfl ?_
                      refine HL.quiet_guard (t := 151) rfl rfl (y_geq rfl rfl) rfl ?_
                      refine HL.quiet_guard (t := 151) rfl rfl (y_move rfl) rfl ?_
                      refine HL.split (t := 158) rfl (fun hg50 => ?_) (fun hg50 => ?_)
                      · try simp only [Bool.and_eq_true, Bool.and_eq_false_iff, Bool.or_eq_true, Bool.or_eq_false_iff, decide_eq_true_eq, decide_eq_false_iff_not, Int.not_lt, Int.not_le, beq_iff_eq, bne_iff_ne, ne_eq, Decidable.not_not, beq_eq_false_iff_ne, bne_eq_false_iff_eq, Bool.not_eq_true', Bool.not_eq_false'] at hg50
                        refine HL.pass (t := 158) rfl rfl rfl rfl ?_
                        refine HL.pass (t := 158) rfl rfl rfl rfl ?_
                        refine HL.pass (t := 158) rfl rfl rfl rfl ?_
                        refine HL.pass (t := 158) rfl rfl rfl rfl ?_
                        refine HL.pass (t := 158) rfl rfl rfl rfl ?_
                        refine HL.pass (t := 158) rfl rfl rfl rfl ?_
                        refine HL.pass (t := 158) rfl rfl rfl rfl ?_
                        refine HL.quiet_guard (t := 151) rfl rfl (y_pick_true rfl rfl) rfl ?_
                        refine HL.quiet (y_pick_true rfl rfl) rfl ?_
                        refine HL.quiet (y_assign rfl) rfl ?_
                        refine HL.nil ?_
                        refine HQ.next ?_
                        refine HC.sub (E' := [(4, _)]) ⟨rfl, trivial⟩ ?_
                        refine HC.ret ?_
                        refine HQ.then_ret ?_
                        refine HQ.doneP (Res.one Tryd.results4 rfl) (List.Sublist.refl _) ((((((hi1).trans hi2).trans hi3).trans hi4).trans hi5).trans hi6) ?_
                        rfl
                      · try simp only [Bool.and_eq_true, Bool.and_eq_false_iff, Bool.or_eq_true, Bool.or_eq_false_iff, decide_eq_true_eq, decide_eq_false_iff_not, Int.not_lt, Int.not_le, beq_iff_eq, bne_iff_ne, ne_eq, Decidable.not_not, beq_eq_false_iff_ne, bne_eq_false_iff_eq, Bool.not_eq_true', Bool.not_eq_false'] at hg50
                        refine HL.quiet_guard (t := 158) rfl rfl (y_move rfl) rfl ?_
                        refine HL.quiet_guard (t := 158) rfl rfl (y_len_str Tryd.underlying9 rfl) rfl ?_
                        refine HL.quiet_guard (t := 158) rfl rfl (y_move rfl) rfl ?_
                        refine HL.quiet_guard (t := 158) rfl rfl (y_len_str Tryd.underlying9 rfl) rfl ?_
                        refine HL.quiet_guard (t := 158) rfl rfl (y_add rfl rfl (by omega)) rfl ?_
                        refine HL.quiet_guard (t := 158) rfl rfl (y_add rfl rfl (by omega)) rfl ?_
                        refine HL.quiet_guard (t := 158) rfl rfl (y_gtr rfl rfl) rfl ?_
                        refine HL.quiet_guard (t := 151) rfl rfl (y_pick_false rfl rfl) rfl ?_
                        refine HL.quiet (y_pick_true rfl rfl) rfl ?_
                        refine HL.quiet (y_assign rfl) rfl ?_
                        refine HL.nil ?_
                        refine HQ.next ?_
                        refine HC.sub (E' := [(4, _)]) ⟨rfl, trivial⟩ ?_
                        refine HC.ret ?_
                        refine HQ.then_ret ?_
                        refine HQ.doneP (Res.one Tryd.results4 rfl) (List.Sublist.refl _) ((((((hi1).trans hi2).trans hi3).trans hi4).trans hi5).trans hi6) ?_
                        rcases huc.pair hud hc1 hc2 with ⟨q1, q2⟩ | ⟨q1, q2, q3⟩ <;> rcases hun.pair hc1 with q4 | q4 <;> first | (exfalso; omega) | (simp [q1, q2]; done) | (simp [q1, q2] <;> omega)
                    · try simp only [Bool.and_eq_true, Bool.and_eq_false_iff, Bool.or_eq_true, Bool.or_eq_false_iff, decide_eq_true_eq, decide_eq_false_iff_not, Int.not_lt, Int.not_le, beq_iff_eq, bne_iff_ne, ne_eq, Decidable.not_not, beq_eq_false_iff_ne, bne_eq_false_iff_eq, Bool.not_eq_true', Bool.not_eq_false'] at hg48
                      refine HL.pass (t := 151) rfl rfl rfl rfl ?_
                      refine HL.pass (t := 151) rfl rfl rfl rfl ?_
                      refine HL.pass (t := 151) rfl rfl rfl rfl ?_
                      refine HL.pass (t := 151) rfl rfl rfl rfl ?_
                      refine HL.pass (t := 151) rfl rfl rfl rfl ?_
                      refine HL.pass (t := 151) rfl rfl rfl rfl ?_
                      refine HL.pass (t := 151) rfl rfl rfl rfl ?_
                      refine HL.pass (t := 158) rfl rfl rfl rfl ?_
                      refine HL.pass (t := 158) rfl rfl rfl rfl ?_
                      refine HL.pass (t := 158) rfl rfl rfl rfl ?_
                      refine HL.pass (t := 158) rfl rfl rfl rfl ?_
                      refine HL.pass (t := 158) rfl rfl rfl rfl ?_
                      refine HL.pass (t := 158) rfl rfl rfl rfl ?_
                      refine HL.pass (t := 158) rfl rfl rfl rfl ?_
                      refine HL.pass (t := 151) rfl rfl rfl rfl ?_
                      refine HL.quiet (y_pick_false rfl rfl) rfl ?_
                      refine HL.quiet (y_assign rfl) rfl ?_
                      refine HL.nil ?_
                      refine HQ.next ?_
                      refine HC.sub (E' := [(4, _)]) ⟨rfl, trivial⟩ ?_
                      refine HC.ret ?_
                      refine HQ.then_ret ?_
                      refine HQ.doneP (Res.one Tryd.results4 rfl) (List.Sublist.refl _) ((((((hi1).trans hi2).trans hi3).trans hi4).trans hi5).trans hi6) ?_
                      rcases huc.pair hud hc1 hc2 with ⟨q1, q2⟩ | ⟨q1, q2, q3⟩ <;> rcases hun.pair hc1 with q4 | q4 <;> first | (exfalso; omega) | (simp [q1, q2]; done) | (simp [q1, q2] <;> omega)
                  · try simp only [Bool.and_eq_true, Bool.and_eq_false_iff, Bool.or_eq_true, Bool.or_eq_false_iff, decide_eq_true_eq, decide_eq_false_iff_not, Int.not_lt, Int.not_le, beq_iff_eq, bne_iff_ne, ne_eq, Decidable.not_not, beq_eq_false_iff_ne, bne_eq_false_iff_eq, Bool.not_eq_true', Bool.not_eq_false'] at hg46
                    refine HL.pass (t := 147) rfl rfl rfl rfl ?_
                    refine HL.pass (t := 147) rfl rfl rfl rfl ?_
                    refine HL.quiet (y_pick_false rfl rfl) rfl ?_
                    refine HL.quiet (y_move rfl) rfl ?_
                    refine HL.pass (t := 151) rfl rfl rfl rfl ?_
                    refine HL.pass (t := 151) rfl rfl rfl rfl ?_
                    refine HL.pass (t := 151) rfl rfl rfl rfl ?_
                    refine HL.pass (t := 151) rfl rfl rfl rfl ?_
                    refine HL.pass (t := 151) rfl rfl rfl rfl ?_
                    refine HL.pass (t := 151) rfl rfl rfl rfl ?_
                    refine HL.pass (t := 151) rfl rfl rfl rfl ?_
                    refine HL.pass (t := 158) rfl rfl rfl rfl ?_
                    refine HL.pass (t := 158) rfl rfl rfl rfl ?_
                    refine HL.pass (t := 158) rfl rfl rfl rfl ?_
                    refine HL.pass (t := 158) rfl rfl rfl rfl ?_
                    refine HL.pass (t := 158) rfl rfl rfl rfl ?_
                    refine HL.pass (t := 158) rfl rfl rfl rfl ?_
                    refine HL.pass (t := 158) rfl rfl rfl rfl ?_
                    refine HL.pass (t := 151) rfl rfl rfl rfl ?_
                    refine HL.quiet (y_pick_false rfl rfl) rfl ?_
                    refine HL.quiet (y_assign rfl) rfl ?_
                    refine HL.nil ?_
                    refine HQ.next ?_
                    refine HC.sub (E' := [(4, _)]) ⟨rfl, trivial⟩ ?_
                    refine HC.ret ?_
                    refine HQ.then_ret ?_
                    refine HQ.doneP (Res.one Tryd.results4 rfl) (List.Sublist.refl _) ((((((hi1).trans hi2).trans hi3).trans hi4).trans hi5).trans hi6) ?_
                    rcases huc.pair hud hc1 hc2 with ⟨q1, q2⟩ | ⟨q1, q2, q3⟩ <;> rcases hun.pair hc1 with q4 | q4 <;> first | (exfalso; omega) | (simp [q1, q2]; done) | (simp [q1, q2] <;> omega)
                · try simp only [Bool.and_eq_true, Bool.and_eq_false_iff, Bool.or_eq_true, Bool.or_eq_false_iff, decide_eq_true_eq, decide_eq_false_iff_not, Int.not_lt, Int.not_le, beq_iff_eq, bne_iff_ne, ne_eq, Decidable.not_not, beq_eq_false_iff_ne, bne_eq_false_iff_eq, Bool.not_eq_true', Bool.not_eq_false'] at hc11
                  refine HC.skip ?_
                  refine HQ.next ?_
                  refine HC.sub (E' := [(7, _), (9, _), (11, _), (13, _)]) ⟨rfl, rfl, rfl, rfl, trivial⟩ ?_
                  refine HC.seq ?_
                  refine HC.region ?_
                  have hu1 : (readText uc).1 = 0 := by assumption
                  have hu2 : (readText ud).1 = 0 := by assumption
                  refine HL.quiet (y_move rfl) rfl ?_
                  refine HL.callP Tryd.call7 (.cons rfl (.nil)) rfl (formula_Filter _ _ ((readText s).2) (hv2.le ((((hi3).trans hi4).trans hi5).trans hi6))) ?_
                  rintro _ I52 hi52 ⟨v52, rfl, hv52⟩
                  obtain ⟨ad52, cap52, rfl, _⟩ := hv52.slice
                  rw [show (filterOf ((readText s).2)).1 = 0 from filterOf_read hc1]
                  refine HL.quiet (y_move rfl) rfl ?_
                  refine HL.quiet (y_extract rfl rfl) rfl ?_
                  refine HL.quiet (y_extract rfl rfl) rfl ?_
                  refine HL.quiet (y_assign rfl) rfl ?_
                  refine HL.quiet (y_assign rfl) rfl ?_
                  refine HL.nil ?_
                  refine HQ.next ?_
                  refine HC.sub (E' := [(9, _), (11, _), (13, _), (23, _), (24, _)]) ⟨rfl, rfl, rfl, rfl, rfl, trivial⟩ ?_
                  refine HC.seq ?_
                  refine HC.region ?_
                  refine HL.quiet (y_move rfl) rfl ?_
                  refine HL.callP Tryd.call7 (.cons rfl (.nil)) rfl (formula_Filter _ _ ((readText t).2) (hv3.le ((((hi4).trans hi5).trans hi6).trans hi52))) ?_
                  rintro _ I53 hi53 ⟨v53, rfl, hv53⟩
                  obtain ⟨ad53, cap53, rfl, _⟩ := hv53.slice
                  rw [show (filterOf ((readText t).2)).1 = 0 from filterOf_read hc2]
                  refine HL.quiet (y_move rfl) rfl ?_
                  refine HL.quiet (y_extract rfl rfl) rfl ?_
                  refine HL.quiet (y_extract rfl rfl) rfl ?_
                  refine HL.quiet (y_assign rfl) rfl ?_
                  refine HL.quiet (y_assign rfl) rfl ?_
                  refine HL.nil ?_
                  refine HQ.next ?_
                  refine HC.sub (E' := [(11, _), (13, _), (23, _), (24, _), (25, _), (26, _)]) ⟨rfl, rfl, rfl, rfl, rfl, rfl, trivial⟩ ?_
                  refine HC.seq ?_
                  refine HC.region ?_
                  refine HL.quiet (y_move rfl) rfl ?_
                  refine HL.callP Tryd.call7 (.cons rfl (.nil)) rfl (formula_Filter _ _ ((readText uc).2) (hv4.le ((((hi5).trans hi6).trans hi52).trans hi53))) ?_
                  rintro _ I54 hi54 ⟨v54, rfl, hv54⟩
                  obtain ⟨ad54, cap54, rfl, _⟩ := hv54.slice
                  rw [show (filterOf ((readText uc).2)).1 = 0 from by rw [huc.filter hc1 hc2 hu1]]
                  refine HL.quiet (y_move rfl) rfl ?_
                  refine HL.quiet (y_extract rfl rfl) rfl ?_
                  refine HL.quiet (y_extract rfl rfl) rfl ?_
                  refine HL.quiet (y_assign rfl) rfl ?_
                  refine HL.quiet (y_assign rfl) rfl ?_
                  refine HL.nil ?_
                  refine HQ.next ?_
                  refine HC.sub (E' := [(13, _), (23, _), (24, _), (25, _), (26, _), (27, _), (28, _)]) ⟨rfl, rfl, rfl, rfl, rfl, rfl, rfl, trivial⟩ ?_
                  refine HC.seq ?_
                  refine HC.region ?_
                  refine HL.quiet (y_move rfl) rfl ?_
                  refine HL.callP Tryd.call7 (.cons rfl (.nil)) rfl (formula_Filter _ _ ((readText ud).2) (hv5.le ((((hi6).trans hi52).trans hi53).trans hi54))) ?_
                  rintro _ I55 hi55 ⟨v55, rfl, hv55⟩
                  obtain ⟨ad55, cap55, rfl, _⟩ := hv55.slice
                  rw [show (filterOf ((readText ud).2)).1 = 0 from by rw [hud.filter hc1 hc2 hu2]]
                  refine HL.quiet (y_move rfl) rfl ?_
                  refine HL.quiet (y_extract rfl rfl) rfl ?_
                  refine HL.quiet (y_extract rfl rfl) rfl ?_
                  refine HL.quiet (y_assign rfl) rfl ?_
                  refine HL.quiet (y_assign rfl) rfl ?_
                  refine HL.nil ?_
                  refine HQ.next ?_
                  refine HC.sub (E' := [(23, _), (24, _), (25, _), (26, _), (27, _), (28, _), (29, _), (30, _)]) ⟨rfl, rfl, rfl, rfl, rfl, rfl, rfl, rfl, trivial⟩ ?_
                  refine HC.seq ?_
                  refine HC.region ?_
                  refine HL.quiet (y_move rfl) rfl ?_
                  refine HL.quiet (y_move rfl) rfl ?_
                  refine HL.callP Tryd.call11 (.cons rfl (.cons rfl (.nil))) rfl (filter_Meet _ _ _ _ _ (hv52.le (((hi53).trans hi54).trans hi55)) (hv53.le ((hi54).trans hi55))) ?_
                  rintro _ I56 hi56 ⟨v56, rfl, hv56⟩
                  obtain ⟨ad56, cap56, rfl, _⟩ := hv56.slice
                  rw [show (meetOf ((filterOf ((readText s).2)).2) ((filterOf ((readText t).2)).2)).1 = 0 from bothOf_one (filterOf_ok (readText_nodes (readText_zero hc1)).2.2) (filterOf_ok (readText_nodes (readText_zero hc2)).2.2)]
                  refine HL.quiet (y_move rfl) rfl ?_
                  refine HL.quiet (y_extract rfl rfl) rfl ?_
                  refine HL.quiet (y_extract rfl rfl) rfl ?_
                  refine HL.quiet (y_assign rfl) rfl ?_
                  refine HL.quiet (y_assign rfl) rfl ?_
                  refine HL.nil ?_
                  refine HQ.next ?_
                  refine HC.sub (E' := [(23, _), (24, _), (25, _), (26, _), (27, _), (28, _), (29, _), (30, _), (31, _), (32, _)]) ⟨rfl, rfl, rfl, rfl, rfl, rfl, rfl, rfl, rfl, rfl, trivial⟩ ?_
                  refine HC.seq ?_
                  refine HC.region ?_
                  refine HL.quiet (y_move rfl) rfl ?_
                  refine HL.quiet (y_move rfl) rfl ?_
                  refine HL.callP Tryd.call12 (.cons rfl (.cons rfl (.nil))) rfl (filter_Join _ _ _ _ _ (hv52.le ((((hi53).trans hi54).trans hi55).trans hi56)) (hv53.le (((hi54).trans hi55).trans hi56))) ?_
                  rintro _ I57 hi57 ⟨v57, rfl, hv57⟩
                  obtain ⟨ad57, cap57, rfl, _⟩ := hv57.slice
                  rw [show (joinOf ((filterOf ((readText s).2)).2) ((filterOf ((readText t).2)).2)).1 = 0 from bothOf_one (filterOf_ok (readText_nodes (readText_zero hc1)).2.2) (filterOf_ok (readText_nodes (readText_zero hc2)).2.2)]
                  refine HL.quiet (y_move rfl) rfl ?_
                  refine HL.quiet (y_extract rfl rfl) rfl ?_
                  refine HL.quiet (y_extract rfl rfl) rfl ?_
                  refine HL.quiet (y_assign rfl) rfl ?_
                  refine HL.quiet (y_assign rfl) rfl ?_
                  refine HL.nil ?_
                  refine HQ.next ?_
                  refine HC.sub (E' := [(24, _), (26, _), (27, _), (28, _), (29, _), (30, _), (31, _), (32, _), (33, _), (34, _)]) ⟨rfl, rfl, rfl, rfl, rfl, rfl, rfl, rfl, rfl, rfl, trivial⟩ ?_
                  refine HC.seq ?_
                  refine HC.seq ?_
                  refine HC.region ?_
                  refine HL.quiet (y_move rfl) rfl ?_
                  refine HL.quiet (y_move rfl) rfl ?_
                  refine HL.quiet (y_move rfl) rfl ?_
                  refine HL.quiet (y_move rfl) rfl ?_
                  refine HL.quiet (y_move rfl) rfl ?_
                  refine HL.quiet (y_move rfl) rfl ?_
                  refine HL.buildSlice (vs := [(0, .int .i64 0), (1, .int .i64 0), (2, .int .i64 0), (3, .int .i64 0), (4, .int .i64 0), (5, .int .i64 0)]) (cs := [.int .i64 0, .int .i64 0, .int .i64 0, .int .i64 0, .int .i64 0, .int .i64 0]) (.cons rfl (.cons rfl (.cons rfl (.cons rfl (.cons rfl (.cons rfl (.nil))))))) Tryd.underlying33 Tryd.sizeOf23 Tryd.zeroValue23 rfl rfl (by kernel_rfl) rfl (fun be _ => ?_)
                  refine HL.quiet (y_len_slice Tryd.underlying33 rfl) rfl ?_
                  refine HL.quiet (y_move rfl) rfl ?_
                  refine HL.nil ?_
                  refine HQ.next ?_
                  refine HC.sub (E' := [(27, _), (29, _), (31, _), (33, _), (206, _), (207, _), (208, _)]) ⟨rfl, rfl, rfl, rfl, rfl, rfl, rfl, trivial⟩ ?_
                  refine HC.block ?_
                  refine HC.sub (E' := (fun (k : Nat) => [(27, .slice ad54 ((filterOf ((readText uc).2)).2.length) cap54), (29, .slice ad55 ((filterOf ((readText ud).2)).2.length) cap55), (31, .slice ad56 ((meetOf ((filterOf ((readText s).2)).2) ((filterOf ((readText t).2)).2)).2.length) cap56), (33, .slice ad57 ((joinOf ((filterOf ((readText s).2)).2) ((filterOf ((readText t).2)).2)).2.length) cap57), (206, .slice (some ⟨be, 0, none⟩) 6 6), (207, .int .i64 (6 : Int)), (208, .int .i64 (k : Int))]) 0) ⟨rfl, rfl, rfl, rfl, rfl, rfl, rfl, trivial⟩ ?_
                  refine HC.loop (fun (k : Nat) => 6 - k) (fun (k : Nat) => k ≤ 6) (fun (k : Nat) => [(27, .slice ad54 ((filterOf ((readText uc).2)).2.length) cap54), (29, .slice ad55 ((filterOf ((readText ud).2)).2.length) cap55), (31, .slice ad56 ((meetOf ((filterOf ((readText s).2)).2) ((filterOf ((readText t).2)).2)).2.length) cap56), (33, .slice ad57 ((joinOf ((filterOf ((readText s).2)).2) ((filterOf ((readText t).2)).2)).2.length) cap57), (206, .slice (some ⟨be, 0, none⟩) 6 6), (207, .int .i64 (6 : Int)), (208, .int .i64 (k : Int))]) (fun (k : Nat) => (be, blk [.int .i64 0, .int .i64 0, .int .i64 0, .int .i64 0, .int .i64 0, .int .i64 0] 23) :: Lf) (fun (k : Nat) => I57) 0 (by omega) (fun k hC => ?_)
                  refine HC.seq ?_
                  refine HC.region ?_
                  refine HL.quiet (y_lss rfl rfl) rfl ?_
                  refine HL.nil ?_
                  refine HQ.next ?_
                  refine HC.seq ?_
                  refine HC.cond rfl (fun hc12 => ?_) (fun hc12 => ?_)
                  · try simp only [Bool.and_eq_true, Bool.and_eq_false_iff, Bool.or_eq_true, Bool.or_eq_false_iff, decide_eq_true_eq, decide_eq_false_iff_not, Int.not_lt, Int.not_le, beq_iff_eq, bne_iff_ne, ne_eq, Decidable.not_not, beq_eq_false_iff_ne, bne_eq_false_iff_eq, Bool.not_eq_true', Bool.not_eq_false'] at hc12
                    refine HC.skip ?_
                    refine HQ.next ?_
                    refine HC.sub (E' := [(27, _), (29, _), (31, _), (33, _), (206, _), (207, _), (208, _)]) ⟨rfl, rfl, rfl, rfl, rfl, rfl, rfl, trivial⟩ ?_
                    refine HC.seq ?_
                    refine HC.block ?_
                    refine HC.seq ?_
                    refine HC.region ?_
                    refine HL.quiet (y_indexAddr (j := k) Tryd.underlying33 Tryd.sizeOf23 rfl rfl (by first | rfl | omega) (by omega)) rfl ?_
                    refine HL.quiet (y_loadL (k := 0) (v := .int .i64 0) Tryd.isAgg23 rfl rfl (same_get 6 _ (by omega))) rfl ?_
                    refine HL.quiet (y_assign rfl) rfl ?_
                    refine HL.nil ?_
                    refine HQ.next ?_
                    refine HC.sub (E' := [(27, _), (29, _), (31, _), (33, _), (206, _), (207, _), (208, _), (36, _)]) ⟨rfl, rfl, rfl, rfl, rfl, rfl, rfl, rfl, trivial⟩ ?_
                    refine HC.seq ?_
                    refine HC.region ?_
                    refine HL.quiet (y_move rfl) rfl ?_
                    refine HL.quiet (y_neq rfl rfl) rfl ?_
                    refine HL.nil ?_
                    refine HQ.next ?_
                    refine HC.sub (E' := [(27, _), (29, _), (31, _), (33, _), (206, _), (207, _), (208, _), (213, _)]) ⟨rfl, rfl, rfl, rfl, rfl, rfl, rfl, rfl, trivial⟩ ?_
                    refine HC.cond_false rfl ?_
                    refine HC.skip ?_
                    refine HQ.inb_normal ?_
                    refine HQ.next ?_
                    refine HC.sub (E' := [(27, _), (29, _), (31, _), (33, _), (206, _), (207, _), (208, _)]) ⟨rfl, rfl, rfl, rfl, rfl, rfl, rfl, trivial⟩ ?_
                    refine HC.region ?_
                    refine HL.quiet (y_add rfl rfl (by omega)) rfl ?_
                    refine HL.quiet (y_move rfl) rfl ?_
                    refine HL.nil ?_
                    exact HQ.again (k + 1) (by omega) (by omega) ⟨rfl, rfl, rfl, rfl, rfl, rfl, rfl, trivial⟩ (List.Sublist.cons_cons _ (List.Sublist.refl _)) (PLe.refl _)
                  · try simp only [Bool.and_eq_true, Bool.and_eq_false_iff, Bool.or_eq_true, Bool.or_eq_false_iff, decide_eq_true_eq, decide_eq_false_iff_not, Int.not_lt, Int.not_le, beq_iff_eq, bne_iff_ne, ne_eq, Decidable.not_not, beq_eq_false_iff_ne, bne_eq_false_iff_eq, Bool.not_eq_true', Bool.not_eq_false'] at hc12
                    refine HC.exit ?_
                    refine HQ.then_exit ?_
                    refine HQ.then_exit ?_
                    refine HQ.inb_exit ?_
                    refine HQ.next ?_
                    refine HC.sub (E' := [(27, _), (29, _), (31, _), (33, _)]) ⟨rfl, rfl, rfl, rfl, trivial⟩ ?_
                    refine HC.seq ?_
                    refine HC.region ?_
                    refine HL.quiet (y_move rfl) rfl ?_
                    refine HL.quiet (y_move rfl) rfl ?_
                    refine HL.callP Tryd.call10 (.cons rfl (.cons rfl (.nil))) rfl (keep_same _ _ _ _ _ (hv54.le (((hi55).trans hi56).trans hi57)) (hv56.le (hi57))) ?_
                    rintro _ I58 hi58 rfl
                    rw [show sameOf ((filterOf ((readText uc).2)).2) ((meetOf ((filterOf ((readText s).2)).2) ((filterOf ((readText t).2)).2)).2) = true from by rw [huc.filter hc1 hc2 hu1]; exact same_refl _ _ _]
                    refine HL.quiet (y_move rfl) rfl ?_
                    refine HL.quiet_guard (t := 218) rfl rfl (y_move rfl) rfl ?_
                    refine HL.quiet_guard (t := 218) rfl rfl (y_move rfl) rfl ?_
                    refine HL.unguard (s := 218) rfl rfl ?_
                    refine HL.callP Tryd.call10 (.cons rfl (.cons rfl (.nil))) rfl (keep_same _ _ _ _ _ (hv55.le (((hi56).trans hi57).trans hi58)) (hv57.le (hi58))) ?_
                    rintro _ I59 hi59 rfl
                    rw [show sameOf ((filterOf ((readText ud).2)).2) ((joinOf ((filterOf ((readText s).2)).2) ((filterOf ((readText t).2)).2)).2) = true from by rw [hud.filter hc1 hc2 hu2]; exact same_refl _ _ _]
                    refine HL.quiet (y_pick_true rfl rfl) rfl ?_
                    refine HL.quiet (y_assign rfl) rfl ?_
                    refine HL.nil ?_
                    refine HQ.next ?_
                    refine HC.sub (E' := [(4, _)]) ⟨rfl, trivial⟩ ?_
                    refine HC.ret ?_
                    refine HQ.doneP (Res.one Tryd.results4 rfl) (List.Sublist.cons _ (List.Sublist.refl _)) ((((((((((((((hi1).trans hi2).trans hi3).trans hi4).trans hi5).trans hi6).trans hi52).trans hi53).trans hi54).trans hi55).trans hi56).trans hi57).trans hi58).trans hi59) ?_
                    rfl
          · try simp only [Bool.and_eq_true, Bool.and_eq_false_iff, Bool.or_eq_true, Bool.or_eq_false_iff, decide_eq_true_eq, decide_eq_false_iff_not, Int.not_lt, Int.not_le, beq_iff_eq, bne_iff_ne, ne_eq, Decidable.not_not, beq_eq_false_iff_ne, bne_eq_false_iff_eq, Bool.not_eq_true', Bool.not_eq_false'] at hg36
            refine HL.pass (t := 134) rfl rfl rfl rfl ?_
            refine HL.pass (t := 134) rfl rfl rfl rfl ?_
            refine HL.pass (t := 134) rfl rfl rfl rfl ?_
            refine HL.quiet (y_pick_false rfl rfl) rfl ?_
            refine HL.nil ?_
            refine HQ.next ?_
            refine HC.sub (E' := [(0, _), (1, _), (7, _), (9, _), (11, _), (12, _), (13, _), (14, _), (138, _)]) ⟨rfl, rfl, rfl, rfl, rfl, rfl, rfl, rfl, rfl, trivial⟩ ?_
            refine HC.cond_false rfl ?_
            refine HC.skip ?_
            refine HQ.next ?_
            refine HC.sub (E' := [(0, _), (1, _), (7, _), (9, _), (11, _), (12, _), (13, _), (14, _)]) ⟨rfl, rfl, rfl, rfl, rfl, rfl, rfl, rfl, trivial⟩ ?_
            refine HC.seq ?_
            refine HC.seq ?_
            refine HC.region ?_
            refine HL.quiet (y_move rfl) rfl ?_
            refine HL.quiet (y_neq rfl rfl) rfl ?_
            refine HL.quiet (y_move rfl) rfl ?_
            refine HL.split (t := 141) rfl (fun hg60 => ?_) (fun hg60 => ?_)
            · try simp only [Bool.and_eq_true, Bool.and_eq_false_iff, Bool.or_eq_true, Bool.or_eq_false_iff, decide_eq_true_eq, decide_eq_false_iff_not, Int.not_lt, Int.not_le, beq_iff_eq, bne_iff_ne, ne_eq, Decidable.not_not, beq_eq_false_iff_ne, bne_eq_false_iff_eq, Bool.not_eq_true', Bool.not_eq_false'] at hg60
              refine HL.pass (t := 141) rfl rfl rfl rfl ?_
              refine HL.pass (t := 141) rfl rfl rfl rfl ?_
              refine HL.quiet (y_pick_true rfl rfl) rfl ?_
              refine HL.nil ?_
              refine HQ.next ?_
              refine HC.sub (E' := [(0, _), (1, _), (7, _), (9, _), (11, _), (12, _), (13, _), (14, _), (144, _)]) ⟨rfl, rfl, rfl, rfl, rfl, rfl, rfl, rfl, rfl, trivial⟩ ?_
              refine HC.cond_true rfl ?_
              refine HC.seq ?_
              refine HC.region ?_
              have hl1 := nodesCheck_len (readText_nodes (readText_zero hc1)).2.2
              have hl2 := nodesCheck_len (readText_nodes (readText_zero hc2)).2.2
              refine HL.quiet (y_move rfl) rfl ?_
              refine HL.quiet (y_eql rfl rfl) rfl ?_
              refine HL.quiet (y_move rfl) rfl ?_
              refine HL.split (t := 147) rfl (fun hg62 => ?_) (fun hg62 => ?_)
              · try simp only [Bool.and_eq_true, Bool.and_eq_false_iff, Bool.or_eq_true, Bool.or_eq_false_iff, decide_eq_true_eq, decide_eq_false_iff_not, Int.not_lt, Int.not_le, beq_iff_eq, bne_iff_ne, ne_eq, Decidable.not_not, beq_eq_false_iff_ne, bne_eq_false_iff_eq, Bool.not_eq_true', Bool.not_eq_false'] at hg62
                refine HL.quiet_guard (t := 147) rfl rfl (y_move rfl) rfl ?_
                refine HL.quiet_guard (t := 147) rfl rfl (y_eql rfl rfl) rfl ?_
                refine HL.quiet (y_pick_true rfl rfl) rfl ?_
                refine HL.quiet (y_move rfl) rfl ?_
                refine HL.split (t := 151) rfl (fun hg64 => ?_) (fun hg64 => ?_)
                · try simp only [Bool.and_eq_true, Bool.and_eq_false_iff, Bool.or_eq_true, Bool.or_eq_false_iff, decide_eq_true_eq, decide_eq_false_iff_not, Int.not_lt, Int.not_le, beq_iff_eq, bne_iff_ne, ne_eq, Decidable.not_not, beq_eq_false_iff_ne, bne_eq_false_iff_eq, Bool.not_eq_true', Bool.not_eq_false'] at hg64
                  refine HL.quiet_guard (t := 151) rfl rfl (y_move rfl) rfl ?_
                  refine HL.quiet_guard (t := 151) rfl rfl (y_len_slice Tryd.underlying22 rfl) rfl ?_
                  refine HL.quiet_guard (t := 151) rfl rfl (y_move rfl) rfl ?_
                  refine HL.quiet_guard (t := 151) rfl rfl (y_len_slice Tryd.underlying22 rfl) rfl ?_
                  refine HL.quiet_guard (t := 151) rfl rfl (y_add rfl rfl (by omega)) rfl ?_
                  refine HL.quiet_guard (t := 151) rfl rfl (y_geq rfl rfl) rfl ?_
                  refine HL.quiet_guard (t := 151) rfl rfl (y_move rfl) rfl ?_
                  refine HL.split (t := 158) rfl (fun hg66 => ?_) (fun hg66 => ?_)
                  · try simp only [Bool.and_eq_true, Bool.and_eq_false_iff, Bool.or_eq_true, Bool.or_eq_false_iff, decide_eq_true_eq, decide_eq_false_iff_not, Int.not_lt, Int.not_le, beq_iff_eq, bne_iff_ne, ne_eq, Decidable.not_not, beq_eq_false_iff_ne, bne_eq_false_iff_eq, Bool.not_eq_true', Bool.not_eq_false'] at hg66
                    refine HL.pass (t := 158) rfl rfl rfl rfl ?_
                    refine HL.pass (t := 158) rfl rfl rfl rfl ?_
                    refine HL.pass (t := 158) rfl rfl rfl rfl ?_
                    refine HL.pass (t := 158) rfl rfl rfl rfl ?_
                    refine HL.pass (t := 158) rfl rfl rfl rfl ?_
                    refine HL.pass (t := 158) rfl rfl rfl rfl ?_
                    refine HL.pass (t := 158) rfl rfl rfl rfl ?_
                    refine HL.quiet_guard (t := 151) rfl rfl (y_pick_true rfl rfl) rfl ?_
                    refine HL.quiet (y_pick_true rfl rfl) rfl ?_
                    refine HL.quiet (y_assign rfl) rfl ?_
                    refine HL.nil ?_
                    refine HQ.next ?_
                    refine HC.sub (E' := [(4, _)]) ⟨rfl, trivial⟩ ?_
                    refine HC.ret ?_
                    refine HQ.then_ret ?_
                    refine HQ.doneP (Res.one Tryd.results4 rfl) (List.Sublist.refl _) ((((((hi1).trans hi2).trans hi3).trans hi4).trans hi5).trans hi6) ?_
                    rfl
                  · try simp only [Bool.and_eq_true, Bool.and_eq_false_iff, Bool.or_eq_true, Bool.or_eq_false_iff, decide_eq_true_eq, decide_eq_false_iff_not, Int.not_lt, Int.not_le, beq_iff_eq, bne_iff_ne, ne_eq, Decidable.not_not, beq_eq_false_iff_ne, bne_eq_false_iff_eq, Bool.not_eq_true', Bool.not_eq_false'] at hg66
                    refine HL.quiet_guard (t := 158) rfl rfl (y_move rfl) rfl ?_
                    refine HL.quiet_guard (t := 158) rfl rfl (y_len_str Tryd.underlying9 rfl) rfl ?_
                    refine HL.quiet_guard (t := 158) rfl rfl (y_move rfl) rfl ?_
                    refine HL.quiet_guard (t := 158) rfl rfl (y_len_str Tryd.underlying9 rfl) rfl ?_
                    refine HL.quiet_guard (t := 158) rfl rfl (y_add rfl rfl (by omega)) rfl ?_
                    refine HL.quiet_guard (t := 158) rfl rfl (y_add rfl rfl (by omega)) rfl ?_
                    refine HL.quiet_guard (t := 158) rfl rfl (y_gtr rfl rfl) rfl ?_
                    refine HL.quiet_guard (t := 151) rfl rfl (y_pick_false rfl rfl) rfl ?_
                    refine HL.quiet (y_pick_true rfl rfl) rfl ?_
                    refine HL.quiet (y_assign rfl) rfl ?_
                    refine HL.nil ?_
                    refine HQ.next ?_
                    refine HC.sub (E' := [(4, _)]) ⟨rfl, trivial⟩ ?_
                    refine HC.ret ?_
                    refine HQ.then_ret ?_
                    refine HQ.doneP (Res.one Tryd.results4 rfl) (List.Sublist.refl _) ((((((hi1).trans hi2).trans hi3).trans hi4).trans hi5).trans hi6) ?_
                    rcases huc.pair hud hc1 hc2 with ⟨q1, q2⟩ | ⟨q1, q2, q3⟩ <;> rcases hun.pair hc1 with q4 | q4 <;> first | (exfalso; omega) | (simp [q1, q2]; done) | (simp [q1, q2] <;> omega)
                · try simp only [Bool.and_eq_true, Bool.and_eq_false_iff, Bool.or_eq_true, Bool.or_eq_false_iff, decide_eq_true_eq, decide_eq_false_iff_not, Int.not_lt, Int.not_le, beq_iff_eq, bne_iff_ne, ne_eq, Decidable.not_not, beq_eq_false_iff_ne, bne_eq_false_iff_eq, Bool.not_eq_true', Bool.not_eq_false'] at hg64
                  refine HL.pass (t := 151) rfl rfl rfl rfl ?_
                  refine HL.pass (t := 151) rfl rfl rfl rfl ?_
                  refine HL.pass (t := 151) rfl rfl rfl rfl ?_
                  refine HL.pass (t := 151) rfl rfl rfl rfl ?_
                  refine HL.pass (t := 151) rfl rfl rfl rfl ?_
                  refine HL.pass (t := 151) rfl rfl rfl rfl ?_
                  refine HL.pass (t := 151) rfl rfl rfl rfl ?_
                  refine HL.pass (t := 158) rfl rfl rfl rfl ?_
                  refine HL.pass (t := 158) rfl rfl rfl rfl ?_
                  refine HL.pass (t := 158) rfl rfl rfl rfl ?_
                  refine HL.pass (t := 158) rfl rfl rfl rfl ?_
                  refine HL.pass (t := 158) rfl rfl rfl rfl ?_
                  refine HL.pass (t := 158) rfl rfl rfl rfl ?_
                  refine HL.pass (t := 158) rfl rfl rfl rfl ?_
                  refine HL.pass (t := 151) rfl rfl rfl rfl ?_
                  refine HL.quiet (y_pick_false rfl rfl) rfl ?_
                  refine HL.quiet (y_assign rfl) rfl ?_
                  refine HL.nil ?_
                  refine HQ.next ?_
                  refine HC.sub (E' := [(4, _)]) ⟨rfl, trivial⟩ ?_
                  refine HC.ret ?_
                  refine HQ.then_ret ?_
                  refine HQ.doneP (Res.one Tryd.results4 rfl) (List.Sublist.refl _) ((((((hi1).trans hi2).trans hi3).trans hi4).trans hi5).trans hi6) ?_
                  rcases huc.pair hud hc1 hc2 with ⟨q1, q2⟩ | ⟨q1, q2, q3⟩ <;> rcases hun.pair hc1 with q4 | q4 <;> first | (exfalso; omega) | (simp [q1, q2]; done) | (simp [q1, q2] <;> omega)
              · try simp only [Bool.and_eq_true, Bool.and_eq_false_iff, Bool.or_eq_true, Bool.or_eq_false_iff, decide_eq_true_eq, decide_eq_false_iff_not, Int.not_lt, Int.not_le, beq_iff_eq, bne_iff_ne, ne_eq, Decidable.not_not, beq_eq_false_iff_ne, bne_eq_false_iff_eq, Bool.not_eq_true', Bool.not_eq_false'] at hg62
                refine HL.pass (t := 147) rfl rfl rfl rfl ?_
                refine HL.pass (t := 147) rfl rfl rfl rfl ?_
                refine HL.quiet (y_pick_false rfl rfl) rfl ?_
                refine HL.quiet (y_move rfl) rfl ?_
                refine HL.pass (t := 151) rfl rfl rfl rfl ?_
                refine HL.pass (t := 151) rfl rfl rfl rfl ?_
                refine HL.pass (t := 151) rfl rfl rfl rfl ?_
                refine HL.pass (t := 151) rfl rfl rfl rfl ?_
                refine HL.pass (t := 151) rfl rfl rfl rfl ?_
                refine HL.pass (t := 151) rfl rfl rfl rfl ?_
                refine HL.pass (t := 151) rfl rfl rfl rfl ?_
                refine HL.pass (t := 158) rfl rfl rfl rfl ?_
                refine HL.pass (t := 158) rfl rfl rfl rfl ?_
                refine HL.pass (t := 158) rfl rfl rfl rfl ?_
                refine HL.pass (t := 158) rfl rfl rfl rfl ?_
                refine HL.pass (t := 158) rfl rfl rfl rfl ?_
                refine HL.pass (t := 158) rfl rfl rfl rfl ?_
                refine HL.pass (t := 158) rfl rfl rfl rfl ?_
                refine HL.pass (t := 151) rfl rfl rfl rfl ?_
                refine HL.quiet (y_pick_false rfl rfl) rfl ?_
                refine HL.quiet (y_assign rfl) rfl ?_
                refine HL.nil ?_
                refine HQ.next ?_
                refine HC.sub (E' := [(4, _)]) ⟨rfl, trivial⟩ ?_
                refine HC.ret ?_
                refine HQ.then_ret ?_
                refine HQ.doneP (Res.one Tryd.results4 rfl) (List.Sublist.refl _) ((((((hi1).trans hi2).trans hi3).trans hi4).trans hi5).trans hi6) ?_
                rcases huc.pair hud hc1 hc2 with ⟨q1, q2⟩ | ⟨q1, q2, q3⟩ <;> rcases hun.pair hc1 with q4 | q4 <;> first | (exfalso; omega) | (simp [q1, q2]; done) | (simp [q1, q2] <;> omega)
            · try simp only [Bool.and_eq_true, Bool.and_eq_false_iff, Bool.or_eq_true, Bool.or_eq_false_iff, decide_eq_true_eq, decide_eq_false_iff_not, Int.not_lt, Int.not_le, beq_iff_eq, bne_iff_ne, ne_eq, Decidable.not_not, beq_eq_false_iff_ne, bne_eq_false_iff_eq, Bool.not_eq_true', Bool.not_eq_false'] at hg60
              refine HL.quiet_guard (t := 141) rfl rfl (y_move rfl) rfl ?_
              refine HL.quiet_guard (t := 141) rfl rfl (y_neq rfl rfl) rfl ?_
              refine HL.quiet (y_pick_false rfl rfl) rfl ?_
              refine HL.nil ?_
              refine HQ.next ?_
              refine HC.sub (E' := [(0, _), (1, _), (7, _), (9, _), (11, _), (12, _), (13, _), (14, _), (144, _)]) ⟨rfl, rfl, rfl, rfl, rfl, rfl, rfl, rfl, rfl, trivial⟩ ?_
              refine HC.cond rfl (fun hc16 => ?_) (fun hc16 => ?_)
              · try simp only [Bool.and_eq_true, Bool.and_eq_false_iff, Bool.or_eq_true, Bool.or_eq_false_iff, decide_eq_true_eq, decide_eq_false_iff_not, Int.not_lt, Int.not_le, beq_iff_eq, bne_iff_ne, ne_eq, Decidable.not_not, beq_eq_false_iff_ne, bne_eq_false_iff_eq, Bool.not_eq_true', Bool.not_eq_false'] at hc16
                refine HC.seq ?_
                refine HC.region ?_
                have hl1 := nodesCheck_len (readText_nodes (readText_zero hc1)).2.2
                have hl2 := nodesCheck_len (readText_nodes (readText_zero hc2)).2.2
                refine HL.quiet (y_move rfl) rfl ?_
                refine HL.quiet (y_eql rfl rfl) rfl ?_
                refine HL.quiet (y_move rfl) rfl ?_
                refine HL.split (t := 147) rfl (fun hg68 => ?_) (fun hg68 => ?_)
                · try simp only [Bool.and_eq_true, Bool.and_eq_false_iff, Bool.or_eq_true, Bool.or_eq_false_iff, decide_eq_true_eq, decide_eq_false_iff_not, Int.not_lt, Int.not_le, beq_iff_eq, bne_iff_ne, ne_eq, Decidable.not_not, beq_eq_false_iff_ne, bne_eq_false_iff_eq, Bool.not_eq_true', Bool.not_eq_false'] at hg68
                  refine HL.quiet_guard (t := 147) rfl rfl (y_move rfl) rfl ?_
                  refine HL.quiet_guard (t := 147) rfl rfl (y_eql rfl rfl) rfl ?_
                  refine HL.quiet (y_pick_true rfl rfl) rfl ?_
                  refine HL.quiet (y_move rfl) rfl ?_
                  refine HL.split (t := 151) rfl (fun hg70 => ?_) (fun hg70 => ?_)
                  · try simp only [Bool.and_eq_true, Bool.and_eq_false_iff, Bool.or_eq_true, Bool.or_eq_false_iff, decide_eq_true_eq, decide_eq_false_iff_not, Int.not_lt, Int.not_le, beq_iff_eq, bne_iff_ne, ne_eq, Decidable.not_not, beq_eq_false_iff_ne, bne_eq_false_iff_eq, Bool.not_eq_true', Bool.not_eq_false'] at hg70
                    refine HL.quiet_guard (t := 151) rfl rfl (y_move rfl) rfl ?_
                    refine HL.quiet_guard (t := 151) rfl rfl (y_len_slice Tryd.underlying22 rfl) rfl ?_
                    refine HL.quiet_guard (t := 151) rfl rfl (y_move rfl) rfl ?_
                    refine HL.quiet_guard (t := 151) rfl rfl (y_len_slice Tryd.underlying22 rfl) rfl ?_
                    refine HL.quiet_guard (t := 151) rfl rfl (y_add rfl rfl (by omega)) rfl ?_
                    refine HL.quiet_guard (t := 151) rfl rfl (y_geq rfl rfl) rfl ?_
                    refine HL.quiet_guard (t := 151) rfl rfl (y_move rfl) rfl ?_
                    refine HL.split (t := 158) rfl (fun hg72 => ?_) (fun hg72 => ?_)
                    · try simp only [Bool.and_eq_true, Bool.and_eq_false_iff, Bool.or_eq_true, Bool.or_eq_false_iff, decide_eq_true_eq, decide_eq_false_iff_not, Int.not_lt, Int.not_le, beq_iff_eq, bne_iff_ne, ne_eq, Decidable.not_not, beq_eq_false_iff_ne, bne_eq_false_iff_eq, Bool.not_eq_true', Bool.not_eq_false'] at hg72
                      refine HL.pass (t := 158) rfl rfl rfl rfl ?_
                      refine HL.pass (t := 158) rfl rfl rfl rfl ?_
                      refine HL.pass (t := 158) rfl rfl rfl rfl ?_
                      refine HL.pass (t := 158) rfl rfl rfl rfl ?_
                      refine HL.pass (t := 158) rfl rfl rfl rfl ?_
                      refine HL.pass (t := 158) rfl rfl rfl rfl ?_
                      refine HL.pass (t := 158) rfl rfl rfl rfl ?_
                      refine HL.quiet_guard (t := 151) rfl rfl (y_pick_true rfl rfl) rfl ?_
                      refine HL.quiet (y_pick_true rfl rfl) rfl ?_
                      refine HL.quiet (y_assign rfl) rfl ?_
                      refine HL.nil ?_
                      refine HQ.next ?_
                      refine HC.sub (E' := [(4, _)]) ⟨rfl, trivial⟩ ?_
                      refine HC.ret ?_
                      refine HQ.then_ret ?_
                      refine HQ.doneP (Res.one Tryd.results4 rfl) (List.Sublist.refl _) ((((((hi1).trans hi2).trans hi3).trans hi4).trans hi5).trans hi6) ?_
                      rfl
                    · try simp only [Bool.and_eq_true, Bool.and_eq_false_iff, Bool.or_eq_true, Bool.or_eq_false_iff, decide_eq_true_eq, decide_eq_false_iff_not, Int.not_lt, Int.not_le, beq_iff_eq, bne_iff_ne, ne_eq, Decidable.not_not, beq_eq_false_iff_ne, bne_eq_false_iff_eq, Bool.not_eq_true', Bool.not_eq_false'] at hg72
                      refine HL.quiet_guard (t := 158) rfl rfl (y_move rfl) rfl ?_
                      refine HL.quiet_guard (t := 158) rfl rfl (y_len_str Tryd.underlying9 rfl) rfl ?_
                      refine HL.quiet_guard (t := 158) rfl rfl (y_move rfl) rfl ?_
                      refine HL.quiet_guard (t := 158) rfl rfl (y_len_str Tryd.underlying9 rfl) rfl ?_
                      refine HL.quiet_guard (t := 158) rfl rfl (y_add rfl rfl (by omega)) rfl ?_
                      refine HL.quiet_guard (t := 158) rfl rfl (y_add rfl rfl (by omega)) rfl ?_
                      refine HL.quiet_guard (t := 158) rfl rfl (y_gtr rfl rfl) rfl ?_
                      refine HL.quiet_guard (t := 151) rfl rfl (y_pick_false rfl rfl) rfl ?_
                      refine HL.quiet (y_pick_true rfl rfl) rfl ?_
                      refine HL.quiet (y_assign rfl) rfl ?_
                      refine HL.nil ?_
                      refine HQ.next ?_
                      refine HC.sub (E' := [(4, _)]) ⟨rfl, trivial⟩ ?_
                      refine HC.ret ?_
                      refine HQ.then_ret ?_
                      refine HQ.doneP (Res.one Tryd.results4 rfl) (List.Sublist.refl _) ((((((hi1).trans hi2).trans hi3).trans hi4).trans hi5).trans hi6) ?_
                      rcases huc.pair hud hc1 hc2 with ⟨q1, q2⟩ | ⟨q1, q2, q3⟩ <;> rcases hun.pair hc1 with q4 | q4 <;> first | (exfalso; omega) | (simp [q1, q2]; done) | (simp [q1, q2] <;> omega)
                  · try simp only [Bool.and_eq_true, Bool.and_eq_false_iff, Bool.or_eq_true, Bool.or_eq_false_iff, decide_eq_true_eq, decide_eq_false_iff_not, Int.not_lt, Int.not_le, beq_iff_eq, bne_iff_ne, ne_eq, Decidable.not_not, beq_eq_false_iff_ne, bne_eq_false_iff_eq, Bool.not_eq_true', Bool.not_eq_false'] at hg70
                    refine HL.pass (t := 151) rfl rfl rfl rfl ?_
                    refine HL.pass (t := 151) rfl rfl rfl rfl ?_
                    refine HL.pass (t := 151) rfl rfl rfl rfl ?_
                    refine HL.pass (t := 151) rfl rfl rfl rfl ?_
                    refine HL.pass (t := 151) rfl rfl rfl rfl ?_
                    refine HL.pass (t := 151) rfl rfl rfl rfl ?_
                    refine HL.pass (t := 151) rfl rfl rfl rfl ?_
                    refine HL.pass (t := 158) rfl rfl rfl rfl ?_
                    refine HL.pass (t := 158) rfl rfl rfl rfl ?_
                    refine HL.pass (t := 158) rfl rfl rfl rfl ?_
                    refine HL.pass (t := 158) rfl rfl rfl rfl ?_
                    refine HL.pass (t := 158) rfl rfl rfl rfl ?_
                    refine HL.pass (t := 158) rfl rfl rfl rfl ?_
                    refine HL.pass (t := 158) rfl rfl rfl rfl ?_
                    refine HL.pass (t := 151) rfl rfl rfl rfl ?_
                    refine HL.quiet (y_pick_false rfl rfl) rfl ?_
                    refine HL.quiet (y_assign rfl) rfl ?_
                    refine HL.nil ?_
                    refine HQ.next ?_
                    refine HC.sub (E' := [(4, _)]) ⟨rfl, trivial⟩ ?_
                    refine HC.ret ?_
                    refine HQ.then_ret ?_
                    refine HQ.doneP (Res.one Tryd.results4 rfl) (List.Sublist.refl _) ((((((hi1).trans hi2).trans hi3).trans hi4).trans hi5).trans hi6) ?_
                    rcases huc.pair hud hc1 hc2 with ⟨q1, q2⟩ | ⟨q1, q2, q3⟩ <;> rcases hun.pair hc1 with q4 | q4 <;> first | (exfalso; omega) | (simp [q1, q2]; done) | (simp [q1, q2] <;> omega)
                · try simp only [Bool.and_eq_true, Bool.and_eq_false_iff, Bool.or_eq_true, Bool.or_eq_false_iff, decide_eq_true_eq, decide_eq_false_iff_not, Int.not_lt, Int.not_le, beq_iff_eq, bne_iff_ne, ne_eq, Decidable.not_not, beq_eq_false_iff_ne, bne_eq_false_iff_eq, Bool.not_eq_true', Bool.not_eq_false'] at hg68
                  refine HL.pass (t := 147) rfl rfl rfl rfl ?_
                  refine HL.pass (t := 147) rfl rfl rfl rfl ?_
                  refine HL.quiet (y_pick_false rfl rfl) rfl ?_
                  refine HL.quiet (y_move rfl) rfl ?_
                  refine HL.pass (t := 151) rfl rfl rfl rfl ?_
                  refine HL.pass (t := 151) rfl rfl rfl rfl ?_
                  refine HL.pass (t := 151) rfl rfl rfl rfl ?_
                  refine HL.pass (t := 151) rfl rfl rfl rfl ?_
                  refine HL.pass (t := 151) rfl rfl rfl rfl ?_
                  refine HL.pass (t := 151) rfl rfl rfl rfl ?_
                  refine HL.pass (t := 151) rfl rfl rfl rfl ?_
                  refine HL.pass (t := 158) rfl rfl rfl rfl ?_
                  refine HL.pass (t := 158) rfl rfl rfl rfl ?_
                  refine HL.pass (t := 158) rfl rfl rfl rfl ?_
                  refine HL.pass (t := 158) rfl rfl rfl rfl ?_
                  refine HL.pass (t := 158) rfl rfl rfl rfl ?_
                  refine HL.pass (t := 158) rfl rfl rfl rfl ?_
                  refine HL.pass (t := 158) rfl rfl rfl rfl ?_
                  refine HL.pass (t := 151) rfl rfl rfl rfl ?_
                  refine HL.quiet (y_pick_false rfl rfl) rfl ?_
                  refine HL.quiet (y_assign rfl) rfl ?_
                  refine HL.nil ?_
                  refine HQ.next ?_
                  refine HC.sub (E' := [(4, _)]) ⟨rfl, trivial⟩ ?_
                  refine HC.ret ?_
                  refine HQ.then_ret ?_
                  refine HQ.doneP (Res.one Tryd.results4 rfl) (List.Sublist.refl _) ((((((hi1).trans hi2).trans hi3).trans hi4).trans hi5).trans hi6) ?_
                  rcases huc.pair hud hc1 hc2 with ⟨q1, q2⟩ | ⟨q1, q2, q3⟩ <;> rcases hun.pair hc1 with q4 | q4 <;> first | (exfalso; omega) | (simp [q1, q2]; done) | (simp [q1, q2] <;> omega)
              · try simp only [Bool.and_eq_true, Bool.and_eq_false_iff, Bool.or_eq_true, Bool.or_eq_false_iff, decide_eq_true_eq, decide_eq_false_iff_not, Int.not_lt, Int.not_le, beq_iff_eq, bne_iff_ne, ne_eq, Decidable.not_not, beq_eq_false_iff_ne, bne_eq_false_iff_eq, Bool.not_eq_true', Bool.not_eq_false'] at hc16
                refine HC.skip ?_
                refine HQ.next ?_
                refine HC.sub (E' := [(7, _), (9, _), (11, _), (13, _)]) ⟨rfl, rfl, rfl, rfl, trivial⟩ ?_
                refine HC.seq ?_
                refine HC.region ?_
                have hu1 : (readText uc).1 = 0 := by assumption
                have hu2 : (readText ud).1 = 0 := by assumption
                refine HL.quiet (y_move rfl) rfl ?_
                refine HL.callP Tryd.call7 (.cons rfl (.nil)) rfl (formula_Filter _ _ ((readText s).2) (hv2.le ((((hi3).trans hi4).trans hi5).trans hi6))) ?_
                rintro _ I74 hi74 ⟨v74, rfl, hv74⟩
                obtain ⟨ad74, cap74, rfl, _⟩ := hv74.slice
                rw [show (filterOf ((readText s).2)).1 = 0 from filterOf_read hc1]
                refine HL.quiet (y_move rfl) rfl ?_
                refine HL.quiet (y_extract rfl rfl) rfl ?_
                refine HL.quiet (y_extract rfl rfl) rfl ?_
                refine HL.quiet (y_assign rfl) rfl ?_
                refine HL.quiet (y_assign rfl) rfl ?_
                refine HL.nil ?_
                refine HQ.next ?_
                refine HC.sub (E' := [(9, _), (11, _), (13, _), (23, _), (24, _)]) ⟨rfl, rfl, rfl, rfl, rfl, trivial⟩ ?_
                refine HC.seq ?_
                refine HC.region ?_
                refine HL.quiet (y_move rfl) rfl ?_
                refine HL.callP Tryd.call7 (.cons rfl (.nil)) rfl (formula_Filter _ _ ((readText t).2) (hv3.le ((((hi4).trans hi5).trans hi6).trans hi74))) ?_
                rintro _ I75 hi75 ⟨v75, rfl, hv75⟩
                obtain ⟨ad75, cap75, rfl, _⟩ := hv75.slice
                rw [show (filterOf ((readText t).2)).1 = 0 from filterOf_read hc2]
                refine HL.quiet (y_move rfl) rfl ?_
                refine HL.quiet (y_extract rfl rfl) rfl ?_
                refine HL.quiet (y_extract rfl rfl) rfl ?_
                refine HL.quiet (y_assign rfl) rfl ?_
                refine HL.quiet (y_assign rfl) rfl ?_
                refine HL.nil ?_
                refine HQ.next ?_
                refine HC.sub (E' := [(11, _), (13, _), (23, _), (24, _), (25, _), (26, _)]) ⟨rfl, rfl, rfl, rfl, rfl, rfl, trivial⟩ ?_
                refine HC.seq ?_
                refine HC.region ?_
                refine HL.quiet (y_move rfl) rfl ?_
                refine HL.callP Tryd.call7 (.cons rfl (.nil)) rfl (formula_Filter _ _ ((readText uc).2) (hv4.le ((((hi5).trans hi6).trans hi74).trans hi75))) ?_
                rintro _ I76 hi76 ⟨v76, rfl, hv76⟩
                obtain ⟨ad76, cap76, rfl, _⟩ := hv76.slice
                rw [show (filterOf ((readText uc).2)).1 = 0 from by rw [huc.filter hc1 hc2 hu1]]
                refine HL.quiet (y_move rfl) rfl ?_
                refine HL.quiet (y_extract rfl rfl) rfl ?_
                refine HL.quiet (y_extract rfl rfl) rfl ?_
                refine HL.quiet (y_assign rfl) rfl ?_
                refine HL.quiet (y_assign rfl) rfl ?_
                refine HL.nil ?_
                refine HQ.next ?_
                refine HC.sub (E' := [(13, _), (23, _), (24, _), (25, _), (26, _), (27, _), (28, _)]) ⟨rfl, rfl, rfl, rfl, rfl, rfl, rfl, trivial⟩ ?_
                refine HC.seq ?_
                refine HC.region ?_
                refine HL.quiet (y_move rfl) rfl ?_
                refine HL.callP Tryd.call7 (.cons rfl (.nil)) rfl (formula_Filter _ _ ((readText ud).2) (hv5.le ((((hi6).trans hi74).trans hi75).trans hi76))) ?_
                rintro _ I77 hi77 ⟨v77, rfl, hv77⟩
                obtain ⟨ad77, cap77, rfl, _⟩ := hv77.slice
                rw [show (filterOf ((readText ud).2)).1 = 0 from by rw [hud.filter hc1 hc2 hu2]]
                refine HL.quiet (y_move rfl) rfl ?_
                refine HL.quiet (y_extract rfl rfl) rfl ?_
                refine HL.quiet (y_extract rfl rfl) rfl ?_
                refine HL.quiet (y_assign rfl) rfl ?_
                refine HL.quiet (y_assign rfl) rfl ?_
                refine HL.nil ?_
                refine HQ.next ?_
                refine HC.sub (E' := [(23, _), (24, _), (25, _), (26, _), (27, _), (28, _), (29, _), (30, _)]) ⟨rfl, rfl, rfl, rfl, rfl, rfl, rfl, rfl, trivial⟩ ?_
                refine HC.seq ?_
                refine HC.region ?_
                refine HL.quiet (y_move rfl) rfl ?_
                refine HL.quiet (y_move rfl) rfl ?_
                refine HL.callP Tryd.call11 (.cons rfl (.cons rfl (.nil))) rfl (filter_Meet _ _ _ _ _ (hv74.le (((hi75).trans hi76).trans hi77)) (hv75.le ((hi76).trans hi77))) ?_
                rintro _ I78 hi78 ⟨v78, rfl, hv78⟩
                obtain ⟨ad78, cap78, rfl, _⟩ := hv78.slice
                rw [show (meetOf ((filterOf ((readText s).2)).2) ((filterOf ((readText t).2)).2)).1 = 0 from bothOf_one (filterOf_ok (readText_nodes (readText_zero hc1)).2.2) (filterOf_ok (readText_nodes (readText_zero hc2)).2.2)]
                refine HL.quiet (y_move rfl) rfl ?_
                refine HL.quiet (y_extract rfl rfl) rfl ?_
                refine HL.quiet (y_extract rfl rfl) rfl ?_
                refine HL.quiet (y_assign rfl) rfl ?_
                refine HL.quiet (y_assign rfl) rfl ?_
                refine HL.nil ?_
                refine HQ.next ?_
                refine HC.sub (E' := [(23, _), (24, _), (25, _), (26, _), (27, _), (28, _), (29, _), (30, _), (31, _), (32, _)]) ⟨rfl, rfl, rfl, rfl, rfl, rfl, rfl, rfl, rfl, rfl, trivial⟩ ?_
                refine HC.seq ?_
                refine HC.region ?_
                refine HL.quiet (y_move rfl) rfl ?_
                refine HL.quiet (y_move rfl) rfl ?_
                refine HL.callP Tryd.call12 (.cons rfl (.cons rfl (.nil))) rfl (filter_Join _ _ _ _ _ (hv74.le ((((hi75).trans hi76).trans hi77).trans hi78)) (hv75.le (((hi76).trans hi77).trans hi78))) ?_
                rintro _ I79 hi79 ⟨v79, rfl, hv79⟩
                obtain ⟨ad79, cap79, rfl, _⟩ := hv79.slice
                rw [show (joinOf ((filterOf ((readText s).2)).2) ((filterOf ((readText t).2)).2)).1 = 0 from bothOf_one (filterOf_ok (readText_nodes (readText_zero hc1)).2.2) (filterOf_ok (readText_nodes (readText_zero hc2)).2.2)]
                refine HL.quiet (y_move rfl) rfl ?_
                refine HL.quiet (y_extract rfl rfl) rfl ?_
                refine HL.quiet (y_extract rfl rfl) rfl ?_
                refine HL.quiet (y_assign rfl) rfl ?_
                refine HL.quiet (y_assign rfl) rfl ?_
                refine HL.nil ?_
                refine HQ.next ?_
                refine HC.sub (E' := [(24, _), (26, _), (27, _), (28, _), (29, _), (30, _), (31, _), (32, _), (33, _), (34, _)]) ⟨rfl, rfl, rfl, rfl, rfl, rfl, rfl, rfl, rfl, rfl, trivial⟩ ?_
                refine HC.seq ?_
                refine HC.seq ?_
                refine HC.region ?_
                refine HL.quiet (y_move rfl) rfl ?_
                refine HL.quiet (y_move rfl) rfl ?_
                refine HL.quiet (y_move rfl) rfl ?_
                refine HL.quiet (y_move rfl) rfl ?_
                refine HL.quiet (y_move rfl) rfl ?_
                refine HL.quiet (y_move rfl) rfl ?_
                refine HL.buildSlice (vs := [(0, .int .i64 0), (1, .int .i64 0), (2, .int .i64 0), (3, .int .i64 0), (4, .int .i64 0), (5, .int .i64 0)]) (cs := [.int .i64 0, .int .i64 0, .int .i64 0, .int .i64 0, .int .i64 0, .int .i64 0]) (.cons rfl (.cons rfl (.cons rfl (.cons rfl (.cons rfl (.cons rfl (.nil))))))) Tryd.underlying33 Tryd.sizeOf23 Tryd.zeroValue23 rfl rfl (by kernel_rfl) rfl (fun be _ => ?_)
                refine HL.quiet (y_len_slice Tryd.underlying33 rfl) rfl ?_
                refine HL.quiet (y_move rfl) rfl ?_
                refine HL.nil ?_
                refine HQ.next ?_
                refine HC.sub (E' := [(27, _), (29, _), (31, _), (33, _), (206, _), (207, _), (208, _)]) ⟨rfl, rfl, rfl, rfl, rfl, rfl, rfl, trivial⟩ ?_
                refine HC.block ?_
                refine HC.sub (E' := (fun (k : Nat) => [(27, .slice ad76 ((filterOf ((readText uc).2)).2.length) cap76), (29, .slice ad77 ((filterOf ((readText ud).2)).2.length) cap77), (31, .slice ad78 ((meetOf ((filterOf ((readText s).2)).2) ((filterOf ((readText t).2)).2)).2.length) cap78), (33, .slice ad79 ((joinOf ((filterOf ((readText s).2)).2) ((filterOf ((readText t).2)).2)).2.length) cap79), (206, .slice (some ⟨be, 0, none⟩) 6 6), (207, .int .i64 (6 : Int)), (208, .int .i64 (k : Int))]) 0) ⟨rfl, rfl, rfl, rfl, rfl, rfl, rfl, trivial⟩ ?_
                refine HC.loop (fun (k : Nat) => 6 - k) (fun (k : Nat) => k ≤ 6) (fun (k : Nat) => [(27, .slice ad76 ((filterOf ((readText uc).2)).2.length) cap76), (29, .slice ad77 ((filterOf ((readText ud).2)).2.length) cap77), (31, .slice ad78 ((meetOf ((filterOf ((readText s).2)).2) ((filterOf ((readText t).2)).2)).2.length) cap78), (33, .slice ad79 ((joinOf ((filterOf ((readText s).2)).2) ((filterOf ((readText t).2)).2)).2.length) cap79), (206, .slice (some ⟨be, 0, none⟩) 6 6), (207, .int .i64 (6 : Int)), (208, .int .i64 (k : Int))]) (fun (k : Nat) => (be, blk [.int .i64 0, .int .i64 0, .int .i64 0, .int .i64 0, .int .i64 0, .int .i64 0] 23) :: Lf) (fun (k : Nat) => I79) 0 (by omega) (fun k hC => ?_)
                refine HC.seq ?_
                refine HC.region ?_
                refine HL.quiet (y_lss rfl rfl) rfl ?_
                refine HL.nil ?_
                refine HQ.next ?_
                refine HC.seq ?_
                refine HC.cond rfl (fun hc17 => ?_) (fun hc17 => ?_)
                · try simp only [Bool.and_eq_true, Bool.and_eq_false_iff, Bool.or_eq_true, Bool.or_eq_false_iff, decide_eq_true_eq, decide_eq_false_iff_not, Int.not_lt, Int.not_le, beq_iff_eq, bne_iff_ne, ne_eq, Decidable.not_not, beq_eq_false_iff_ne, bne_eq_false_iff_eq, Bool.not_eq_true', Bool.not_eq_false'] at hc17
                  refine HC.skip ?_
                  refine HQ.next ?_
                  refine HC.sub (E' := [(27, _), (29, _), (31, _), (33, _), (206, _), (207, _), (208, _)]) ⟨rfl, rfl, rfl, rfl, rfl, rfl, rfl, trivial⟩ ?_
                  refine HC.seq ?_
                  refine HC.block ?_
                  refine HC.seq ?_
                  refine HC.region ?_
                  refine HL.quiet (y_indexAddr (j := k) Tryd.underlying33 Tryd.sizeOf23 rfl rfl (by first | rfl | omega) (by omega)) rfl ?_
                  refine HL.quiet (y_loadL (k := 0) (v := .int .i64 0) Tryd.isAgg23 rfl rfl (same_get 6 _ (by omega))) rfl ?_
                  refine HL.quiet (y_assign rfl) rfl ?_
                  refine HL.nil ?_
                  refine HQ.next ?_
                  refine HC.sub (E' := [(27, _), (29, _), (31, _), (33, _), (206, _), (207, _), (208, _), (36, _)]) ⟨rfl, rfl, rfl, rfl, rfl, rfl, rfl, rfl, trivial⟩ ?_
                  refine HC.seq ?_
                  refine HC.region ?_
                  refine HL.quiet (y_move rfl) rfl ?_
                  refine HL.quiet (y_neq rfl rfl) rfl ?_
                  refine HL.nil ?_
                  refine HQ.next ?_
                  refine HC.sub (E' := [(27, _), (29, _), (31, _), (33, _), (206, _), (207, _), (208, _), (213, _)]) ⟨rfl, rfl, rfl, rfl, rfl, rfl, rfl, rfl, trivial⟩ ?_
                  refine HC.cond_false rfl ?_
                  refine HC.skip ?_
                  refine HQ.inb_normal ?_
                  refine HQ.next ?_
                  refine HC.sub (E' := [(27, _), (29, _), (31, _), (33, _), (206, _), (207, _), (208, _)]) ⟨rfl, rfl, rfl, rfl, rfl, rfl, rfl, trivial⟩ ?_
                  refine HC.region ?_
                  refine HL.quiet (y_add rfl rfl (by omega)) rfl ?_
                  refine HL.quiet (y_move rfl) rfl ?_
                  refine HL.nil ?_
                  exact HQ.again (k + 1) (by omega) (by omega) ⟨rfl, rfl, rfl, rfl, rfl, rfl, rfl, trivial⟩ (List.Sublist.cons_cons _ (List.Sublist.refl _)) (PLe.refl _)
                · try simp only [Bool.and_eq_true, Bool.and_eq_false_iff, Bool.or_eq_true, Bool.or_eq_false_iff, decide_eq_true_eq, decide_eq_false_iff_not, Int.not_lt, Int.not_le, beq_iff_eq, bne_iff_ne, ne_eq, Decidable.not_not, beq_eq_false_iff_ne, bne_eq_false_iff_eq, Bool.not_eq_true', Bool.not_eq_false'] at hc17
                  refine HC.exit ?_
                  refine HQ.then_exit ?_
                  refine HQ.then_exit ?_
                  refine HQ.inb_exit ?_
                  refine HQ.next ?_
                  refine HC.sub (E' := [(27, _), (29, _), (31, _), (33, _)]) ⟨rfl, rfl, rfl, rfl, trivial⟩ ?_
                  refine HC.seq ?_
                  refine HC.region ?_
                  refine HL.quiet (y_move rfl) rfl ?_
                  refine HL.quiet (y_move rfl) rfl ?_
                  refine HL.callP Tryd.call10 (.cons rfl (.cons rfl (.nil))) rfl (keep_same _ _ _ _ _ (hv76.le (((hi77).trans hi78).trans hi79)) (hv78.le (hi79))) ?_
                  rintro _ I80 hi80 rfl
                  rw [show sameOf ((filterOf ((readText uc).2)).2) ((meetOf ((filterOf ((readText s).2)).2) ((filterOf ((readText t).2)).2)).2) = true from by rw [huc.filter hc1 hc2 hu1]; exact same_refl _ _ _]
                  refine HL.quiet (y_move rfl) rfl ?_
                  refine HL.quiet_guard (t := 218) rfl rfl (y_move rfl) rfl ?_
                  refine HL.quiet_guard (t := 218) rfl rfl (y_move rfl) rfl ?_
                  refine HL.unguard (s := 218) rfl rfl ?_
                  refine HL.callP Tryd.call10 (.cons rfl (.cons rfl (.nil))) rfl (keep_same _ _ _ _ _ (hv77.le (((hi78).trans hi79).trans hi80)) (hv79.le (hi80))) ?_
                  rintro _ I81 hi81 rfl
                  rw [show sameOf ((filterOf ((readText ud).2)).2) ((joinOf ((filterOf ((readText s).2)).2) ((filterOf ((readText t).2)).2)).2) = true from by rw [hud.filter hc1 hc2 hu2]; exact same_refl _ _ _]
                  refine HL.quiet (y_pick_true rfl rfl) rfl ?_
                  refine HL.quiet (y_assign rfl) rfl ?_
                  refine HL.nil ?_
                  refine HQ.next ?_
                  refine HC.sub (E' := [(4, _)]) ⟨rfl, trivial⟩ ?_
                  refine HC.ret ?_
                  refine HQ.doneP (Res.one Tryd.results4 rfl) (List.Sublist.cons _ (List.Sublist.refl _)) ((((((((((((((hi1).trans hi2).trans hi3).trans hi4).trans hi5).trans hi6).trans hi74).trans hi75).trans hi76).trans hi77).trans hi78).trans hi79).trans hi80).trans hi81) ?_
                  rfl

end Go.Rm
