/- What this text holds: contracts of the instances of slices.Clone, printed by a program of mine (wip/tools/walk.py) from plans of mine. -/
import Derived.Test.YtpcgfadcojaceaaDoorRmSpec4
import Derived.Test.YtpcgfadcojaceaaDoorRmStrconv
set_option linter.unusedVariables false
set_option linter.unusedSimpArgs false
set_option linter.unusedSectionVars false
namespace Go.Rm
open Go Go.Proofs
set_option maxRecDepth 100000

theorem clone_span (I : PHeap) (v : Value) (l : List Span) (h : Val I v l) (hlen : l.length ≤ 1000000) : Pure Tryd.prog 28 [v] I (fun r I' => Val I' r l) := by
  obtain ⟨ad, cap, rfl, hcap, hE⟩ := h.slice
  obtain ⟨ys, hF, hsrc⟩ := hE.src
  refine Pure.of_body Tryd.func28 rfl Tryd.ntmps28 rfl (fun W Lf => ?_)
  refine HC.seq ?_
  refine HC.region ?_
  refine HL.quiet (y_assign rfl) rfl ?_
  refine HL.nil ?_
  refine HQ.next ?_
  refine HC.sub (E' := [(0, _)]) ⟨rfl, trivial⟩ ?_
  refine HC.seq ?_
  refine HC.seq ?_
  refine HC.region ?_
  refine HL.quiet (y_move rfl) rfl ?_
  refine HL.quiet (y_eq_slice_nil Tryd.underlying50 rfl) rfl ?_
  refine HL.nil ?_
  refine HQ.next ?_
  refine HC.sub (E' := [(0, _), (4, _)]) ⟨rfl, rfl, trivial⟩ ?_
  refine HC.cond rfl (fun hc0 => ?_) (fun hc0 => ?_)
  · try simp only [Bool.and_eq_true, Bool.and_eq_false_iff, Bool.or_eq_true, Bool.or_eq_false_iff, decide_eq_true_eq, decide_eq_false_iff_not, Int.not_lt, Int.not_le, beq_iff_eq, bne_iff_ne, ne_eq, Decidable.not_not, beq_eq_false_iff_ne, bne_eq_false_iff_eq, Bool.not_eq_true', Bool.not_eq_false'] at hc0
    refine HC.seq ?_
    refine HC.region ?_
    refine HL.quiet (y_assign rfl) rfl ?_
    refine HL.nil ?_
    refine HQ.next ?_
    refine HC.sub (E' := [(2, _)]) ⟨rfl, trivial⟩ ?_
    refine HC.ret ?_
    refine HQ.then_ret ?_
    refine HQ.doneP (Res.one Tryd.results28 rfl) (List.Sublist.refl _) (PLe.refl _) ?_
    have h0 : ad = none := by simpa using hc0
    subst h0
    have hl := hE.nil_of
    subst hl
    exact Val.nil
  · try simp only [Bool.and_eq_true, Bool.and_eq_false_iff, Bool.or_eq_true, Bool.or_eq_false_iff, decide_eq_true_eq, decide_eq_false_iff_not, Int.not_lt, Int.not_le, beq_iff_eq, bne_iff_ne, ne_eq, Decidable.not_not, beq_eq_false_iff_ne, bne_eq_false_iff_eq, Bool.not_eq_true', Bool.not_eq_false'] at hc0
    refine HC.skip ?_
    refine HQ.next ?_
    refine HC.sub (E' := [(0, _)]) ⟨rfl, trivial⟩ ?_
    refine HC.seq ?_
    refine HC.region ?_
    refine HL.buildSlice0 Tryd.underlying50 Tryd.sizeOf54 rfl (fun nb _ => ?_)
    refine HL.quiet (y_move rfl) rfl ?_
    refine HL.append (Lx := [(nb, blk [] 54)]) (e := 54) (m := 0) (xs := []) (k := l.length) (news := ys) Tryd.underlying50 (z := .agg #[.int .i64 0, .int .i64 0]) (bytes := 16) (by kernel_rfl) rfl rfl rfl rfl (OwnS.full rfl (by decide)) (by rw [hF.len]; rfl) (List.Perm.refl _) (hsrc _ _) hF.one (by unfold maxLen; omega) (by omega) rfl ?_
    rintro v' Lx' ho'
    rw [List.nil_append, Nat.zero_add] at ho'
    refine HL.freezeV ho' hF (List.Perm.refl _) (fun I9 hI9 hV => ?_)
    refine HL.quiet (y_assign rfl) rfl ?_
    refine HL.nil ?_
    refine HQ.next ?_
    refine HC.sub (E' := [(2, _)]) ⟨rfl, trivial⟩ ?_
    refine HC.ret ?_
    refine HQ.doneP (Res.one Tryd.results28 rfl) (List.Sublist.refl _) (hI9) ?_
    exact hV

end Go.Rm
