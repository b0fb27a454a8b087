/- What this text holds: the walk of TextBack, printed by a program of mine (wip/tools/walk.py) from plans of mine. -/
import Derived.Test.YtpcgfadcojaceaaDoorRmShowW
import Derived.Test.YtpcgfadcojaceaaDoorRmFFilter
import Derived.Test.YtpcgfadcojaceaaDoorRmTextD
set_option linter.unusedVariables false
set_option linter.unusedSimpArgs false
set_option linter.unusedSectionVars false
namespace Go.Rm
open Go Go.Proofs
set_option maxRecDepth 100000

theorem back_known : showText ([⟨2, 3, 0⟩, ⟨3, 1, 9⟩, ⟨6, 0, 1⟩] : List Node) = (0, [40, 35, 51, 124, 91, 49, 44, 57, 41, 41]) := by kernel_rfl
theorem read_show2 {l : List Node} {t : Bytes} (h : showText l = (0, t)) : ((readText (bs t)).1 = 0 → sameOf (filterOf l).2 (filterOf (readText (bs t)).2).2 = true ∧ (filterOf l).1 = 0 ∧ (filterOf (readText (bs t)).2).1 = 0) ∧ ((readText (bs t)).1 ≠ 0 → (readText (bs t)).1 = 2) := by
  rcases read_show h with ⟨ms, h1, h2, h3, h4⟩ | h1
  · have h1 : readText (bs t) = (0, ms) := h1
    rw [h1]; exact ⟨fun _ => ⟨h2, h3, h4⟩, fun h => absurd rfl h⟩
  · have h1 : (readText (bs t)).1 = 2 := h1
    exact ⟨fun h => by omega, fun _ => h1⟩
theorem show_err {l : List Node} (h : (showText l).1 ≠ 0) (h2 : ¬ bs (showText l).2 = ⟨#[]⟩) : False := by
  unfold showText at h h2
  split at h
  · rename_i h0; rw [if_pos h0] at h2; exact h2 rfl
  · rename_i h0
    split at h
    · rename_i h1; rw [if_neg h0, if_pos h1] at h2; exact h2 rfl
    · exact h rfl
theorem show_read2 {s : ByteArray} (h : (readText s).1 = 0) : (showText (readText s).2).1 = 0 := by rw [show_read (readText_zero h)]
theorem show_read3 {s : ByteArray} (h : (readText s).1 = 0) : bs (showText (readText s).2).2 = s := by rw [show_read (readText_zero h)]; exact bs_data s

theorem walk_TextBack (I : PHeap) (hG : Globs I) (v : Value) (l : List Node) (h : Val I v l) (s : ByteArray) : Pure Tryd.prog 5 [v, .string s] I (fun r _ => r = .bool true) := by
  obtain ⟨ad, cap, rfl, hcap, hE⟩ := h.slice
  refine Pure.of_body Tryd.func5 rfl Tryd.ntmps5 rfl (fun W Lf => ?_)
  refine HC.seq ?_
  refine HC.region ?_
  refine HL.quiet (y_assign rfl) rfl ?_
  refine HL.nil ?_
  refine HQ.next ?_
  refine HC.sub (E' := [(0, _), (1, _)]) ⟨rfl, rfl, trivial⟩ ?_
  refine HC.seq ?_
  refine HC.seq ?_
  refine HC.region ?_
  refine HL.quiet (y_build (vs := [(0, .int .i64 2), (1, .int .i64 3)]) (v := .agg #[.int .i64 2, .int .i64 3, .int .i64 0]) (.cons rfl (.cons rfl (.nil))) (fun w => by kernel_rfl)) rfl ?_
  refine HL.quiet (y_build (vs := [(0, .int .i64 3), (1, .int .i64 1), (2, .int .i64 9)]) (v := .agg #[.int .i64 3, .int .i64 1, .int .i64 9]) (.cons rfl (.cons rfl (.cons rfl (.nil)))) (fun w => by kernel_rfl)) rfl ?_
  refine HL.quiet (y_build (vs := [(0, .int .i64 6), (2, .int .i64 1)]) (v := .agg #[.int .i64 6, .int .i64 0, .int .i64 1]) (.cons rfl (.cons rfl (.nil))) (fun w => by kernel_rfl)) rfl ?_
  refine HL.buildSlice (vs := [(0, .agg #[.int .i64 2, .int .i64 3, .int .i64 0]), (1, .agg #[.int .i64 3, .int .i64 1, .int .i64 9]), (2, .agg #[.int .i64 6, .int .i64 0, .int .i64 1])]) (cs := [.int .i64 2, .int .i64 3, .int .i64 0, .int .i64 3, .int .i64 1, .int .i64 9, .int .i64 6, .int .i64 0, .int .i64 1]) (.cons rfl (.cons rfl (.cons rfl (.nil)))) Tryd.underlying22 Tryd.sizeOf37 Tryd.zeroValue37 rfl rfl (by kernel_rfl) rfl (fun lb _ => ?_)
  refine HL.freezeV (xs := ([⟨2, 3, 0⟩, ⟨3, 1, 9⟩, ⟨6, 0, 1⟩] : List Node)) (OwnS.full (e := 37) (size := 3) (xs := [.int .i64 2, .int .i64 3, .int .i64 0, .int .i64 3, .int .i64 1, .int .i64 9, .int .i64 6, .int .i64 0, .int .i64 1]) rfl (by decide)) (flat_Flat _ _) (List.Perm.refl _) (fun J hJ hlit => ?_)
  refine HL.callP Tryd.call13 (.cons rfl (.nil)) rfl (text_Show _ _ ([⟨2, 3, 0⟩, ⟨3, 1, 9⟩, ⟨6, 0, 1⟩] : List Node) hlit) ?_
  rintro _ Ii1 hi1 rfl
  rw [back_known]
  refine HL.quiet (y_move rfl) rfl ?_
  refine HL.quiet (y_extract rfl rfl) rfl ?_
  refine HL.quiet (y_extract rfl rfl) rfl ?_
  refine HL.quiet (y_assign rfl) rfl ?_
  refine HL.quiet (y_assign rfl) rfl ?_
  refine HL.nil ?_
  refine HQ.next ?_
  refine HC.sub (E' := [(0, _), (1, _), (5, _), (6, _)]) ⟨rfl, rfl, rfl, rfl, trivial⟩ ?_
  refine HC.seq ?_
  refine HC.region ?_
  refine HL.quiet (y_move rfl) rfl ?_
  refine HL.quiet (y_neq rfl rfl) rfl ?_
  refine HL.quiet (y_move rfl) rfl ?_
  refine HL.quiet_guard (t := 27) rfl rfl (y_move rfl) rfl ?_
  refine HL.quiet_guard (t := 27) rfl rfl (y_strneq rfl rfl) rfl ?_
  refine HL.quiet (y_pick_false rfl rfl) rfl ?_
  refine HL.nil ?_
  refine HQ.next ?_
  refine HC.sub (E' := [(0, _), (1, _), (30, _)]) ⟨rfl, rfl, rfl, trivial⟩ ?_
  refine HC.cond rfl (fun hc0 => ?_) (fun hc0 => ?_)
  · try simp only [Bool.and_eq_true, Bool.and_eq_false_iff, Bool.or_eq_true, Bool.or_eq_false_iff, decide_eq_true_eq, decide_eq_false_iff_not, Int.not_lt, Int.not_le, beq_iff_eq, bne_iff_ne, ne_eq, Decidable.not_not, beq_eq_false_iff_ne, bne_eq_false_iff_eq, Bool.not_eq_true', Bool.not_eq_false'] at hc0
    refine HC.seq ?_
    refine HC.region ?_
    refine HL.quiet (y_assign rfl) rfl ?_
    refine HL.nil ?_
    refine HQ.next ?_
    refine HC.sub (E' := [(4, _)]) ⟨rfl, trivial⟩ ?_
    refine HC.ret ?_
    refine HQ.then_ret ?_
    refine HQ.doneP (Res.one Tryd.results5 rfl) (List.Sublist.refl _) ((hJ).trans hi1) ?_
    exact absurd rfl (by assumption)
  · try simp only [Bool.and_eq_true, Bool.and_eq_false_iff, Bool.or_eq_true, Bool.or_eq_false_iff, decide_eq_true_eq, decide_eq_false_iff_not, Int.not_lt, Int.not_le, beq_iff_eq, bne_iff_ne, ne_eq, Decidable.not_not, beq_eq_false_iff_ne, bne_eq_false_iff_eq, Bool.not_eq_true', Bool.not_eq_false'] at hc0
    refine HC.skip ?_
    refine HQ.next ?_
    refine HC.sub (E' := [(0, _), (1, _)]) ⟨rfl, rfl, trivial⟩ ?_
    refine HC.seq ?_
    refine HC.region ?_
    refine HL.quiet (y_move rfl) rfl ?_
    refine HL.callP Tryd.call13 (.cons rfl (.nil)) rfl (text_Show _ _ l (h.le ((hJ).trans hi1))) ?_
    rintro _ Ii2 hi2 rfl
    refine HL.quiet (y_move rfl) rfl ?_
    refine HL.quiet (y_extract rfl rfl) rfl ?_
    refine HL.quiet (y_extract rfl rfl) rfl ?_
    refine HL.quiet (y_assign rfl) rfl ?_
    refine HL.quiet (y_assign rfl) rfl ?_
    refine HL.nil ?_
    refine HQ.next ?_
    refine HC.sub (E' := [(0, _), (1, _), (7, _), (8, _)]) ⟨rfl, rfl, rfl, rfl, trivial⟩ ?_
    refine HC.seq ?_
    refine HC.seq ?_
    refine HC.region ?_
    refine HL.quiet (y_move rfl) rfl ?_
    refine HL.quiet (y_eql rfl rfl) rfl ?_
    refine HL.nil ?_
    refine HQ.next ?_
    refine HC.sub (E' := [(0, _), (1, _), (7, _), (37, _)]) ⟨rfl, rfl, rfl, rfl, trivial⟩ ?_
    refine HC.cond rfl (fun hcs => ?_) (fun hcs => ?_)
    · try simp only [Bool.and_eq_true, Bool.and_eq_false_iff, Bool.or_eq_true, Bool.or_eq_false_iff, decide_eq_true_eq, decide_eq_false_iff_not, Int.not_lt, Int.not_le, beq_iff_eq, bne_iff_ne, ne_eq, Decidable.not_not, beq_eq_false_iff_ne, bne_eq_false_iff_eq, Bool.not_eq_true', Bool.not_eq_false'] at hcs
      refine HC.seq ?_
      refine HC.region ?_
      have hsh : showText l = (0, (showText l).2) := by rw [← hcs]
      refine HL.quiet (y_move rfl) rfl ?_
      refine HL.callP Tryd.call6 (.cons rfl (.nil)) rfl (text_Read _ (hG.le (((hJ).trans hi1).trans hi2)) (bs (showText l).2)) ?_
      rintro _ I3 hi3 ⟨v3, rfl, hv3⟩
      obtain ⟨ad3, cap3, rfl, _⟩ := hv3.slice
      refine HL.quiet (y_move rfl) rfl ?_
      refine HL.quiet (y_extract rfl rfl) rfl ?_
      refine HL.quiet (y_extract rfl rfl) rfl ?_
      refine HL.quiet (y_assign rfl) rfl ?_
      refine HL.quiet (y_assign rfl) rfl ?_
      refine HL.nil ?_
      refine HQ.next ?_
      refine HC.sub (E' := [(0, _), (1, _), (9, _), (10, _)]) ⟨rfl, rfl, rfl, rfl, trivial⟩ ?_
      refine HC.seq ?_
      refine HC.region ?_
      refine HL.quiet (y_move rfl) rfl ?_
      refine HL.quiet (y_eql rfl rfl) rfl ?_
      refine HL.nil ?_
      refine HQ.next ?_
      refine HC.sub (E' := [(0, _), (1, _), (9, _), (10, _), (44, _)]) ⟨rfl, rfl, rfl, rfl, rfl, trivial⟩ ?_
      refine HC.cond rfl (fun hc2 => ?_) (fun hc2 => ?_)
      · try simp only [Bool.and_eq_true, Bool.and_eq_false_iff, Bool.or_eq_true, Bool.or_eq_false_iff, decide_eq_true_eq, decide_eq_false_iff_not, Int.not_lt, Int.not_le, beq_iff_eq, bne_iff_ne, ne_eq, Decidable.not_not, beq_eq_false_iff_ne, bne_eq_false_iff_eq, Bool.not_eq_true', Bool.not_eq_false'] at hc2
        refine HC.seq ?_
        refine HC.region ?_
        obtain ⟨hsame, hf1, hf2⟩ := (read_show2 hsh).1 (by assumption)
        refine HL.quiet (y_move rfl) rfl ?_
        refine HL.callP Tryd.call7 (.cons rfl (.nil)) rfl (formula_Filter _ _ l (h.le ((((hJ).trans hi1).trans hi2).trans hi3))) ?_
        rintro _ I4 hi4 ⟨v4, rfl, hv4⟩
        obtain ⟨ad4, cap4, rfl, _⟩ := hv4.slice
        rw [show (filterOf l).1 = 0 from by rw [hf1]]
        refine HL.quiet (y_move rfl) rfl ?_
        refine HL.quiet (y_extract rfl rfl) rfl ?_
        refine HL.quiet (y_extract rfl rfl) rfl ?_
        refine HL.quiet (y_assign rfl) rfl ?_
        refine HL.quiet (y_assign rfl) rfl ?_
        refine HL.nil ?_
        refine HQ.next ?_
        refine HC.sub (E' := [(1, _), (9, _), (11, _), (12, _)]) ⟨rfl, rfl, rfl, rfl, trivial⟩ ?_
        refine HC.seq ?_
        refine HC.region ?_
        refine HL.quiet (y_move rfl) rfl ?_
        refine HL.callP Tryd.call7 (.cons rfl (.nil)) rfl (formula_Filter _ _ ((readText (bs (showText l).2)).2) (hv3.le (hi4))) ?_
        rintro _ I5 hi5 ⟨v5, rfl, hv5⟩
        obtain ⟨ad5, cap5, rfl, _⟩ := hv5.slice
        rw [show (filterOf ((readText (bs (showText l).2)).2)).1 = 0 from by rw [hf2]]
        refine HL.quiet (y_move rfl) rfl ?_
        refine HL.quiet (y_extract rfl rfl) rfl ?_
        refine HL.quiet (y_extract rfl rfl) rfl ?_
        refine HL.quiet (y_assign rfl) rfl ?_
        refine HL.quiet (y_assign rfl) rfl ?_
        refine HL.nil ?_
        refine HQ.next ?_
        refine HC.sub (E' := [(1, _), (11, _), (12, _), (13, _), (14, _)]) ⟨rfl, rfl, rfl, rfl, rfl, trivial⟩ ?_
        refine HC.seq ?_
        refine HC.region ?_
        refine HL.quiet (y_move rfl) rfl ?_
        refine HL.quiet (y_neq rfl rfl) rfl ?_
        refine HL.quiet (y_move rfl) rfl ?_
        refine HL.quiet_guard (t := 57) rfl rfl (y_move rfl) rfl ?_
        refine HL.quiet_guard (t := 57) rfl rfl (y_neq rfl rfl) rfl ?_
        refine HL.quiet (y_pick_false rfl rfl) rfl ?_
        refine HL.quiet (y_move rfl) rfl ?_
        refine HL.quiet_guard (t := 61) rfl rfl (y_move rfl) rfl ?_
        refine HL.quiet_guard (t := 61) rfl rfl (y_move rfl) rfl ?_
        refine HL.unguard (s := 61) rfl rfl ?_
        refine HL.callP Tryd.call10 (.cons rfl (.cons rfl (.nil))) rfl (keep_same _ _ _ _ _ (hv4.le (hi5)) hv5) ?_
        rintro _ I6 hi6 rfl
        rw [show sameOf ((filterOf l).2) ((filterOf ((readText (bs (showText l).2)).2)).2) = true from hsame]
        refine HL.quiet_guard (t := 61) rfl rfl (y_not rfl) rfl ?_
        refine HL.quiet (y_pick_false rfl rfl) rfl ?_
        refine HL.nil ?_
        refine HQ.next ?_
        refine HC.sub (E' := [(1, _), (66, _)]) ⟨rfl, rfl, trivial⟩ ?_
        refine HC.cond_false rfl ?_
        refine HC.skip ?_
        refine HQ.next ?_
        refine HC.sub (E' := [(1, _)]) ⟨rfl, trivial⟩ ?_
        refine HC.seq ?_
        refine HC.region ?_
        refine HL.quiet (y_move rfl) rfl ?_
        refine HL.callP Tryd.call6 (.cons rfl (.nil)) rfl (text_Read _ (hG.le (((((((hJ).trans hi1).trans hi2).trans hi3).trans hi4).trans hi5).trans hi6)) s) ?_
        rintro _ I7 hi7 ⟨v7, rfl, hv7⟩
        obtain ⟨ad7, cap7, rfl, _⟩ := hv7.slice
        refine HL.quiet (y_move rfl) rfl ?_
        refine HL.quiet (y_extract rfl rfl) rfl ?_
        refine HL.quiet (y_extract rfl rfl) rfl ?_
        refine HL.quiet (y_assign rfl) rfl ?_
        refine HL.quiet (y_assign rfl) rfl ?_
        refine HL.nil ?_
        refine HQ.next ?_
        refine HC.sub (E' := [(1, _), (15, _), (8, _)]) ⟨rfl, rfl, rfl, trivial⟩ ?_
        refine HC.seq ?_
        refine HC.seq ?_
        refine HC.region ?_
        refine HL.quiet (y_move rfl) rfl ?_
        refine HL.quiet (y_neq rfl rfl) rfl ?_
        refine HL.nil ?_
        refine HQ.next ?_
        refine HC.sub (E' := [(1, _), (15, _), (77, _)]) ⟨rfl, rfl, rfl, trivial⟩ ?_
        refine HC.cond rfl (fun hc4 => ?_) (fun hc4 => ?_)
        · try simp only [Bool.and_eq_true, Bool.and_eq_false_iff, Bool.or_eq_true, Bool.or_eq_false_iff, decide_eq_true_eq, decide_eq_false_iff_not, Int.not_lt, Int.not_le, beq_iff_eq, bne_iff_ne, ne_eq, Decidable.not_not, beq_eq_false_iff_ne, bne_eq_false_iff_eq, Bool.not_eq_true', Bool.not_eq_false'] at hc4
          refine HC.seq ?_
          refine HC.region ?_
          refine HL.quiet (y_move rfl) rfl ?_
          refine HL.quiet (y_len_slice Tryd.underlying22 rfl) rfl ?_
          refine HL.quiet (y_eql rfl rfl) rfl ?_
          refine HL.quiet (y_assign rfl) rfl ?_
          refine HL.nil ?_
          refine HQ.next ?_
          refine HC.sub (E' := [(4, _)]) ⟨rfl, trivial⟩ ?_
          refine HC.ret ?_
          refine HQ.then_ret ?_
          refine HQ.doneP (Res.one Tryd.results5 rfl) (List.Sublist.refl _) ((((((((hJ).trans hi1).trans hi2).trans hi3).trans hi4).trans hi5).trans hi6).trans hi7) ?_
          rw [readText_err (by assumption)]; rfl
        · try simp only [Bool.and_eq_true, Bool.and_eq_false_iff, Bool.or_eq_true, Bool.or_eq_false_iff, decide_eq_true_eq, decide_eq_false_iff_not, Int.not_lt, Int.not_le, beq_iff_eq, bne_iff_ne, ne_eq, Decidable.not_not, beq_eq_false_iff_ne, bne_eq_false_iff_eq, Bool.not_eq_true', Bool.not_eq_false'] at hc4
          refine HC.skip ?_
          refine HQ.next ?_
          refine HC.sub (E' := [(1, _), (15, _)]) ⟨rfl, rfl, trivial⟩ ?_
          refine HC.seq ?_
          refine HC.region ?_
          refine HL.quiet (y_move rfl) rfl ?_
          refine HL.callP Tryd.call13 (.cons rfl (.nil)) rfl (text_Show _ _ ((readText s).2) hv7) ?_
          rintro _ Ii8 hi8 rfl
          refine HL.quiet (y_move rfl) rfl ?_
          refine HL.quiet (y_extract rfl rfl) rfl ?_
          refine HL.quiet (y_extract rfl rfl) rfl ?_
          refine HL.quiet (y_assign rfl) rfl ?_
          refine HL.quiet (y_assign rfl) rfl ?_
          refine HL.nil ?_
          refine HQ.next ?_
          refine HC.sub (E' := [(1, _), (16, _), (8, _)]) ⟨rfl, rfl, rfl, trivial⟩ ?_
          refine HC.seq ?_
          refine HC.region ?_
          refine HL.quiet (y_move rfl) rfl ?_
          refine HL.quiet (y_eql rfl rfl) rfl ?_
          refine HL.quiet (y_move rfl) rfl ?_
          refine HL.split (t := 88) rfl (fun hg9 => ?_) (fun hg9 => ?_)
          · try simp only [Bool.and_eq_true, Bool.and_eq_false_iff, Bool.or_eq_true, Bool.or_eq_false_iff, decide_eq_true_eq, decide_eq_false_iff_not, Int.not_lt, Int.not_le, beq_iff_eq, bne_iff_ne, ne_eq, Decidable.not_not, beq_eq_false_iff_ne, bne_eq_false_iff_eq, Bool.not_eq_true', Bool.not_eq_false'] at hg9
            refine HL.quiet_guard (t := 88) rfl rfl (y_move rfl) rfl ?_
            refine HL.quiet_guard (t := 88) rfl rfl (y_move rfl) rfl ?_
            refine HL.quiet_guard (t := 88) rfl rfl (y_streq rfl rfl) rfl ?_
            refine HL.quiet (y_pick_true rfl rfl) rfl ?_
            refine HL.quiet (y_assign rfl) rfl ?_
            refine HL.nil ?_
            refine HQ.next ?_
            refine HC.sub (E' := [(4, _)]) ⟨rfl, trivial⟩ ?_
            refine HC.ret ?_
            refine HQ.doneP (Res.one Tryd.results5 rfl) (List.Sublist.refl _) (((((((((hJ).trans hi1).trans hi2).trans hi3).trans hi4).trans hi5).trans hi6).trans hi7).trans hi8) ?_
            first | (exfalso; have := (read_show2 hsh).2 (by assumption); omega) | (exfalso; exact show_err hcs (by assumption)) | (exfalso; have := show_read2 (by assumption); omega) | (rw [show_read3 (by assumption)]; simp; done)
          · try simp only [Bool.and_eq_true, Bool.and_eq_false_iff, Bool.or_eq_true, Bool.or_eq_false_iff, decide_eq_true_eq, decide_eq_false_iff_not, Int.not_lt, Int.not_le, beq_iff_eq, bne_iff_ne, ne_eq, Decidable.not_not, beq_eq_false_iff_ne, bne_eq_false_iff_eq, Bool.not_eq_true', Bool.not_eq_false'] at hg9
            refine HL.pass (t := 88) rfl rfl rfl rfl ?_
            refine HL.pass (t := 88) rfl rfl rfl rfl ?_
            refine HL.pass (t := 88) rfl rfl rfl rfl ?_
            refine HL.quiet (y_pick_false rfl rfl) rfl ?_
            refine HL.quiet (y_assign rfl) rfl ?_
            refine HL.nil ?_
            refine HQ.next ?_
            refine HC.sub (E' := [(4, _)]) ⟨rfl, trivial⟩ ?_
            refine HC.ret ?_
            refine HQ.doneP (Res.one Tryd.results5 rfl) (List.Sublist.refl _) (((((((((hJ).trans hi1).trans hi2).trans hi3).trans hi4).trans hi5).trans hi6).trans hi7).trans hi8) ?_
            first | (exfalso; have := (read_show2 hsh).2 (by assumption); omega) | (exfalso; exact show_err hcs (by assumption)) | (exfalso; have := show_read2 (by assumption); omega) | (rw [show_read3 (by assumption)]; simp; done)
      · try simp only [Bool.and_eq_true, Bool.and_eq_false_iff, Bool.or_eq_true, Bool.or_eq_false_iff, decide_eq_true_eq, decide_eq_false_iff_not, Int.not_lt, Int.not_le, beq_iff_eq, bne_iff_ne, ne_eq, Decidable.not_not, beq_eq_false_iff_ne, bne_eq_false_iff_eq, Bool.not_eq_true', Bool.not_eq_false'] at hc2
        refine HC.seq ?_
        refine HC.region ?_
        refine HL.quiet (y_move rfl) rfl ?_
        refine HL.quiet (y_neq rfl rfl) rfl ?_
        refine HL.nil ?_
        refine HQ.next ?_
        refine HC.sub (E' := [(1, _), (68, _)]) ⟨rfl, rfl, trivial⟩ ?_
        refine HC.cond rfl (fun hc5 => ?_) (fun hc5 => ?_)
        · try simp only [Bool.and_eq_true, Bool.and_eq_false_iff, Bool.or_eq_true, Bool.or_eq_false_iff, decide_eq_true_eq, decide_eq_false_iff_not, Int.not_lt, Int.not_le, beq_iff_eq, bne_iff_ne, ne_eq, Decidable.not_not, beq_eq_false_iff_ne, bne_eq_false_iff_eq, Bool.not_eq_true', Bool.not_eq_false'] at hc5
          refine HC.seq ?_
          refine HC.region ?_
          refine HL.quiet (y_assign rfl) rfl ?_
          refine HL.nil ?_
          refine HQ.next ?_
          refine HC.sub (E' := [(4, _)]) ⟨rfl, trivial⟩ ?_
          refine HC.ret ?_
          refine HQ.then_ret ?_
          refine HQ.doneP (Res.one Tryd.results5 rfl) (List.Sublist.refl _) ((((hJ).trans hi1).trans hi2).trans hi3) ?_
          first | (exfalso; have := (read_show2 hsh).2 (by assumption); omega) | (exfalso; exact show_err hcs (by assumption)) | (exfalso; have := show_read2 (by assumption); omega) | (rw [show_read3 (by assumption)]; simp; done)
        · try simp only [Bool.and_eq_true, Bool.and_eq_false_iff, Bool.or_eq_true, Bool.or_eq_false_iff, decide_eq_true_eq, decide_eq_false_iff_not, Int.not_lt, Int.not_le, beq_iff_eq, bne_iff_ne, ne_eq, Decidable.not_not, beq_eq_false_iff_ne, bne_eq_false_iff_eq, Bool.not_eq_true', Bool.not_eq_false'] at hc5
          refine HC.skip ?_
          refine HQ.next ?_
          refine HC.sub (E' := [(1, _)]) ⟨rfl, trivial⟩ ?_
          refine HC.seq ?_
          refine HC.region ?_
          refine HL.quiet (y_move rfl) rfl ?_
          refine HL.callP Tryd.call6 (.cons rfl (.nil)) rfl (text_Read _ (hG.le ((((hJ).trans hi1).trans hi2).trans hi3)) s) ?_
          rintro _ I11 hi11 ⟨v11, rfl, hv11⟩
          obtain ⟨ad11, cap11, rfl, _⟩ := hv11.slice
          refine HL.quiet (y_move rfl) rfl ?_
          refine HL.quiet (y_extract rfl rfl) rfl ?_
          refine HL.quiet (y_extract rfl rfl) rfl ?_
          refine HL.quiet (y_assign rfl) rfl ?_
          refine HL.quiet (y_assign rfl) rfl ?_
          refine HL.nil ?_
          refine HQ.next ?_
          refine HC.sub (E' := [(1, _), (15, _), (8, _)]) ⟨rfl, rfl, rfl, trivial⟩ ?_
          refine HC.seq ?_
          refine HC.seq ?_
          refine HC.region ?_
          refine HL.quiet (y_move rfl) rfl ?_
          refine HL.quiet (y_neq rfl rfl) rfl ?_
          refine HL.nil ?_
          refine HQ.next ?_
          refine HC.sub (E' := [(1, _), (15, _), (77, _)]) ⟨rfl, rfl, rfl, trivial⟩ ?_
          refine HC.cond rfl (fun hc6 => ?_) (fun hc6 => ?_)
          · try simp only [Bool.and_eq_true, Bool.and_eq_false_iff, Bool.or_eq_true, Bool.or_eq_false_iff, decide_eq_true_eq, decide_eq_false_iff_not, Int.not_lt, Int.not_le, beq_iff_eq, bne_iff_ne, ne_eq, Decidable.not_not, beq_eq_false_iff_ne, bne_eq_false_iff_eq, Bool.not_eq_true', Bool.not_eq_false'] at hc6
            refine HC.seq ?_
            refine HC.region ?_
            refine HL.quiet (y_move rfl) rfl ?_
            refine HL.quiet (y_len_slice Tryd.underlying22 rfl) rfl ?_
            refine HL.quiet (y_eql rfl rfl) rfl ?_
            refine HL.quiet (y_assign rfl) rfl ?_
            refine HL.nil ?_
            refine HQ.next ?_
            refine HC.sub (E' := [(4, _)]) ⟨rfl, trivial⟩ ?_
            refine HC.ret ?_
            refine HQ.then_ret ?_
            refine HQ.doneP (Res.one Tryd.results5 rfl) (List.Sublist.refl _) (((((hJ).trans hi1).trans hi2).trans hi3).trans hi11) ?_
            rw [readText_err (by assumption)]; rfl
          · try simp only [Bool.and_eq_true, Bool.and_eq_false_iff, Bool.or_eq_true, Bool.or_eq_false_iff, decide_eq_true_eq, decide_eq_false_iff_not, Int.not_lt, Int.not_le, beq_iff_eq, bne_iff_ne, ne_eq, Decidable.not_not, beq_eq_false_iff_ne, bne_eq_false_iff_eq, Bool.not_eq_true', Bool.not_eq_false'] at hc6
            refine HC.skip ?_
            refine HQ.next ?_
            refine HC.sub (E' := [(1, _), (15, _)]) ⟨rfl, rfl, trivial⟩ ?_
            refine HC.seq ?_
            refine HC.region ?_
            refine HL.quiet (y_move rfl) rfl ?_
            refine HL.callP Tryd.call13 (.cons rfl (.nil)) rfl (text_Show _ _ ((readText s).2) hv11) ?_
            rintro _ Ii12 hi12 rfl
            refine HL.quiet (y_move rfl) rfl ?_
            refine HL.quiet (y_extract rfl rfl) rfl ?_
            refine HL.quiet (y_extract rfl rfl) rfl ?_
            refine HL.quiet (y_assign rfl) rfl ?_
            refine HL.quiet (y_assign rfl) rfl ?_
            refine HL.nil ?_
            refine HQ.next ?_
            refine HC.sub (E' := [(1, _), (16, _), (8, _)]) ⟨rfl, rfl, rfl, trivial⟩ ?_
            refine HC.seq ?_
            refine HC.region ?_
            refine HL.quiet (y_move rfl) rfl ?_
            refine HL.quiet (y_eql rfl rfl) rfl ?_
            refine HL.quiet (y_move rfl) rfl ?_
            refine HL.split (t := 88) rfl (fun hg13 => ?_) (fun hg13 => ?_)
            · try simp only [Bool.and_eq_true, Bool.and_eq_false_iff, Bool.or_eq_true, Bool.or_eq_false_iff, decide_eq_true_eq, decide_eq_false_iff_not, Int.not_lt, Int.not_le, beq_iff_eq, bne_iff_ne, ne_eq, Decidable.not_not, beq_eq_false_iff_ne, bne_eq_false_iff_eq, Bool.not_eq_true', Bool.not_eq_false'] at hg13
              refine HL.quiet_guard (t := 88) rfl rfl (y_move rfl) rfl ?_
              refine HL.quiet_guard (t := 88) rfl rfl (y_move rfl) rfl ?_
              refine HL.quiet_guard (t := 88) rfl rfl (y_streq rfl rfl) rfl ?_
              refine HL.quiet (y_pick_true rfl rfl) rfl ?_
              refine HL.quiet (y_assign rfl) rfl ?_
              refine HL.nil ?_
              refine HQ.next ?_
              refine HC.sub (E' := [(4, _)]) ⟨rfl, trivial⟩ ?_
              refine HC.ret ?_
              refine HQ.doneP (Res.one Tryd.results5 rfl) (List.Sublist.refl _) ((((((hJ).trans hi1).trans hi2).trans hi3).trans hi11).trans hi12) ?_
              first | (exfalso; have := (read_show2 hsh).2 (by assumption); omega) | (exfalso; exact show_err hcs (by assumption)) | (exfalso; have := show_read2 (by assumption); omega) | (rw [show_read3 (by assumption)]; simp; done)
            · try simp only [Bool.and_eq_true, Bool.and_eq_false_iff, Bool.or_eq_true, Bool.or_eq_false_iff, decide_eq_true_eq, decide_eq_false_iff_not, Int.not_lt, Int.not_le, beq_iff_eq, bne_iff_ne, ne_eq, Decidable.not_not, beq_eq_false_iff_ne, bne_eq_false_iff_eq, Bool.not_eq_true', Bool.not_eq_false'] at hg13
              refine HL.pass (t := 88) rfl rfl rfl rfl ?_
              refine HL.pass (t := 88) rfl rfl rfl rfl ?_
              refine HL.pass (t := 88) rfl rfl rfl rfl ?_
              refine HL.quiet (y_pick_false rfl rfl) rfl ?_
              refine HL.quiet (y_assign rfl) rfl ?_
              refine HL.nil ?_
              refine HQ.next ?_
              refine HC.sub (E' := [(4, _)]) ⟨rfl, trivial⟩ ?_
              refine HC.ret ?_
              refine HQ.doneP (Res.one Tryd.results5 rfl) (List.Sublist.refl _) ((((((hJ).trans hi1).trans hi2).trans hi3).trans hi11).trans hi12) ?_
              first | (exfalso; have := (read_show2 hsh).2 (by assumption); omega) | (exfalso; exact show_err hcs (by assumption)) | (exfalso; have := show_read2 (by assumption); omega) | (rw [show_read3 (by assumption)]; simp; done)
    · try simp only [Bool.and_eq_true, Bool.and_eq_false_iff, Bool.or_eq_true, Bool.or_eq_false_iff, decide_eq_true_eq, decide_eq_false_iff_not, Int.not_lt, Int.not_le, beq_iff_eq, bne_iff_ne, ne_eq, Decidable.not_not, beq_eq_false_iff_ne, bne_eq_false_iff_eq, Bool.not_eq_true', Bool.not_eq_false'] at hcs
      refine HC.seq ?_
      refine HC.region ?_
      refine HL.quiet (y_move rfl) rfl ?_
      refine HL.quiet (y_strneq rfl rfl) rfl ?_
      refine HL.nil ?_
      refine HQ.next ?_
      refine HC.sub (E' := [(1, _), (70, _)]) ⟨rfl, rfl, trivial⟩ ?_
      refine HC.cond rfl (fun hc7 => ?_) (fun hc7 => ?_)
      · try simp only [Bool.and_eq_true, Bool.and_eq_false_iff, Bool.or_eq_true, Bool.or_eq_false_iff, decide_eq_true_eq, decide_eq_false_iff_not, Int.not_lt, Int.not_le, beq_iff_eq, bne_iff_ne, ne_eq, Decidable.not_not, beq_eq_false_iff_ne, bne_eq_false_iff_eq, Bool.not_eq_true', Bool.not_eq_false'] at hc7
        refine HC.seq ?_
        refine HC.region ?_
        refine HL.quiet (y_assign rfl) rfl ?_
        refine HL.nil ?_
        refine HQ.next ?_
        refine HC.sub (E' := [(4, _)]) ⟨rfl, trivial⟩ ?_
        refine HC.ret ?_
        refine HQ.then_ret ?_
        refine HQ.doneP (Res.one Tryd.results5 rfl) (List.Sublist.refl _) (((hJ).trans hi1).trans hi2) ?_
        first | (exfalso; have := (read_show2 hsh).2 (by assumption); omega) | (exfalso; exact show_err hcs (by assumption)) | (exfalso; have := show_read2 (by assumption); omega) | (rw [show_read3 (by assumption)]; simp; done)
      · try simp only [Bool.and_eq_true, Bool.and_eq_false_iff, Bool.or_eq_true, Bool.or_eq_false_iff, decide_eq_true_eq, decide_eq_false_iff_not, Int.not_lt, Int.not_le, beq_iff_eq, bne_iff_ne, ne_eq, Decidable.not_not, beq_eq_false_iff_ne, bne_eq_false_iff_eq, Bool.not_eq_true', Bool.not_eq_false'] at hc7
        refine HC.skip ?_
        refine HQ.next ?_
        refine HC.sub (E' := [(1, _)]) ⟨rfl, trivial⟩ ?_
        refine HC.seq ?_
        refine HC.region ?_
        refine HL.quiet (y_move rfl) rfl ?_
        refine HL.callP Tryd.call6 (.cons rfl (.nil)) rfl (text_Read _ (hG.le (((hJ).trans hi1).trans hi2)) s) ?_
        rintro _ I15 hi15 ⟨v15, rfl, hv15⟩
        obtain ⟨ad15, cap15, rfl, _⟩ := hv15.slice
        refine HL.quiet (y_move rfl) rfl ?_
        refine HL.quiet (y_extract rfl rfl) rfl ?_
        refine HL.quiet (y_extract rfl rfl) rfl ?_
        refine HL.quiet (y_assign rfl) rfl ?_
        refine HL.quiet (y_assign rfl) rfl ?_
        refine HL.nil ?_
        refine HQ.next ?_
        refine HC.sub (E' := [(1, _), (15, _), (8, _)]) ⟨rfl, rfl, rfl, trivial⟩ ?_
        refine HC.seq ?_
        refine HC.seq ?_
        refine HC.region ?_
        refine HL.quiet (y_move rfl) rfl ?_
        refine HL.quiet (y_neq rfl rfl) rfl ?_
        refine HL.nil ?_
        refine HQ.next ?_
        refine HC.sub (E' := [(1, _), (15, _), (77, _)]) ⟨rfl, rfl, rfl, trivial⟩ ?_
        refine HC.cond rfl (fun hc8 => ?_) (fun hc8 => ?_)
        · try simp only [Bool.and_eq_true, Bool.and_eq_false_iff, Bool.or_eq_true, Bool.or_eq_false_iff, decide_eq_true_eq, decide_eq_false_iff_not, Int.not_lt, Int.not_le, beq_iff_eq, bne_iff_ne, ne_eq, Decidable.not_not, beq_eq_false_iff_ne, bne_eq_false_iff_eq, Bool.not_eq_true', Bool.not_eq_false'] at hc8
          refine HC.seq ?_
          refine HC.region ?_
          refine HL.quiet (y_move rfl) rfl ?_
          refine HL.quiet (y_len_slice Tryd.underlying22 rfl) rfl ?_
          refine HL.quiet (y_eql rfl rfl) rfl ?_
          refine HL.quiet (y_assign rfl) rfl ?_
          refine HL.nil ?_
          refine HQ.next ?_
          refine HC.sub (E' := [(4, _)]) ⟨rfl, trivial⟩ ?_
          refine HC.ret ?_
          refine HQ.then_ret ?_
          refine HQ.doneP (Res.one Tryd.results5 rfl) (List.Sublist.refl _) ((((hJ).trans hi1).trans hi2).trans hi15) ?_
          rw [readText_err (by assumption)]; rfl
        · try simp only [Bool.and_eq_true, Bool.and_eq_false_iff, Bool.or_eq_true, Bool.or_eq_false_iff, decide_eq_true_eq, decide_eq_false_iff_not, Int.not_lt, Int.not_le, beq_iff_eq, bne_iff_ne, ne_eq, Decidable.not_not, beq_eq_false_iff_ne, bne_eq_false_iff_eq, Bool.not_eq_true', Bool.not_eq_false'] at hc8
          refine HC.skip ?_
          refine HQ.next ?_
          refine HC.sub (E' := [(1, _), (15, _)]) ⟨rfl, rfl, trivial⟩ ?_
          refine HC.seq ?_
          refine HC.region ?_
          refine HL.quiet (y_move rfl) rfl ?_
          refine HL.callP Tryd.call13 (.cons rfl (.nil)) rfl (text_Show _ _ ((readText s).2) hv15) ?_
          rintro _ Ii16 hi16 rfl
          refine HL.quiet (y_move rfl) rfl ?_
          refine HL.quiet (y_extract rfl rfl) rfl ?_
          refine HL.quiet (y_extract rfl rfl) rfl ?_
          refine HL.quiet (y_assign rfl) rfl ?_
          refine HL.quiet (y_assign rfl) rfl ?_
          refine HL.nil ?_
          refine HQ.next ?_
          refine HC.sub (E' := [(1, _), (16, _), (8, _)]) ⟨rfl, rfl, rfl, trivial⟩ ?_
          refine HC.seq ?_
          refine HC.region ?_
          refine HL.quiet (y_move rfl) rfl ?_
          refine HL.quiet (y_eql rfl rfl) rfl ?_
          refine HL.quiet (y_move rfl) rfl ?_
          refine HL.split (t := 88) rfl (fun hg17 => ?_) (fun hg17 => ?_)
          · try simp only [Bool.and_eq_true, Bool.and_eq_false_iff, Bool.or_eq_true, Bool.or_eq_false_iff, decide_eq_true_eq, decide_eq_false_iff_not, Int.not_lt, Int.not_le, beq_iff_eq, bne_iff_ne, ne_eq, Decidable.not_not, beq_eq_false_iff_ne, bne_eq_false_iff_eq, Bool.not_eq_true', Bool.not_eq_false'] at hg17
            refine HL.quiet_guard (t := 88) rfl rfl (y_move rfl) rfl ?_
            refine HL.quiet_guard (t := 88) rfl rfl (y_move rfl) rfl ?_
            refine HL.quiet_guard (t := 88) rfl rfl (y_streq rfl rfl) rfl ?_
            refine HL.quiet (y_pick_true rfl rfl) rfl ?_
            refine HL.quiet (y_assign rfl) rfl ?_
            refine HL.nil ?_
            refine HQ.next ?_
            refine HC.sub (E' := [(4, _)]) ⟨rfl, trivial⟩ ?_
            refine HC.ret ?_
            refine HQ.doneP (Res.one Tryd.results5 rfl) (List.Sublist.refl _) (((((hJ).trans hi1).trans hi2).trans hi15).trans hi16) ?_
            first | (exfalso; have := (read_show2 hsh).2 (by assumption); omega) | (exfalso; exact show_err hcs (by assumption)) | (exfalso; have := show_read2 (by assumption); omega) | (rw [show_read3 (by assumption)]; simp; done)
          · try simp only [Bool.and_eq_true, Bool.and_eq_false_iff, Bool.or_eq_true, Bool.or_eq_false_iff, decide_eq_true_eq, decide_eq_false_iff_not, Int.not_lt, Int.not_le, beq_iff_eq, bne_iff_ne, ne_eq, Decidable.not_not, beq_eq_false_iff_ne, bne_eq_false_iff_eq, Bool.not_eq_true', Bool.not_eq_false'] at hg17
            refine HL.pass (t := 88) rfl rfl rfl rfl ?_
            refine HL.pass (t := 88) rfl rfl rfl rfl ?_
            refine HL.pass (t := 88) rfl rfl rfl rfl ?_
            refine HL.quiet (y_pick_false rfl rfl) rfl ?_
            refine HL.quiet (y_assign rfl) rfl ?_
            refine HL.nil ?_
            refine HQ.next ?_
            refine HC.sub (E' := [(4, _)]) ⟨rfl, trivial⟩ ?_
            refine HC.ret ?_
            refine HQ.doneP (Res.one Tryd.results5 rfl) (List.Sublist.refl _) (((((hJ).trans hi1).trans hi2).trans hi15).trans hi16) ?_
            first | (exfalso; have := (read_show2 hsh).2 (by assumption); omega) | (exfalso; exact show_err hcs (by assumption)) | (exfalso; have := show_read2 (by assumption); omega) | (rw [show_read3 (by assumption)]; simp; done)

end Go.Rm
