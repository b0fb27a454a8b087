/- What this text holds: contracts of functions of the program, printed by a program of mine (wip/tools/walk.py) from plans of mine. -/
import Derived.Test.YtpcgfadcojaceaaDoorRmStrconv
set_option linter.unusedVariables false
set_option linter.unusedSimpArgs false
set_option linter.unusedSectionVars false
namespace Go.Rm
open Go Go.Proofs
set_option maxRecDepth 100000

theorem span_Check (I : PHeap) (v : Value) (l : List Span) (h : Val I v l) : Pure Tryd.prog 37 [v] I (fun r _ => r = .int .i64 (spanCheck l)) := by
  obtain ⟨ad, cap, rfl, hcap, hE⟩ := h.slice
  refine Pure.of_body Tryd.func37 rfl Tryd.ntmps37 rfl (fun W Lf => ?_)
  refine HC.seq ?_
  refine HC.region ?_
  refine HL.quiet (y_assign rfl) rfl ?_
  refine HL.nil ?_
  refine HQ.next ?_
  refine HC.sub (E' := [(0, _)]) ⟨rfl, trivial⟩ ?_
  refine HC.seq ?_
  refine HC.seq ?_
  refine HC.region ?_
  refine HL.quiet (y_move rfl) rfl ?_
  refine HL.quiet (y_len_slice Tryd.underlying50 rfl) rfl ?_
  refine HL.quiet (y_gtr rfl rfl) rfl ?_
  refine HL.nil ?_
  refine HQ.next ?_
  refine HC.sub (E' := [(0, _), (7, _)]) ⟨rfl, rfl, trivial⟩ ?_
  refine HC.cond rfl (fun hc0 => ?_) (fun hc0 => ?_)
  · try simp only [Bool.and_eq_true, Bool.and_eq_false_iff, Bool.or_eq_true, Bool.or_eq_false_iff, decide_eq_true_eq, decide_eq_false_iff_not, Int.not_lt, Int.not_le, beq_iff_eq, bne_iff_ne, ne_eq, Decidable.not_not, beq_eq_false_iff_ne, bne_eq_false_iff_eq, Bool.not_eq_true', Bool.not_eq_false'] at hc0
    refine HC.seq ?_
    refine HC.region ?_
    refine HL.quiet (y_assign rfl) rfl ?_
    refine HL.nil ?_
    refine HQ.next ?_
    refine HC.sub (E' := [(2, _)]) ⟨rfl, trivial⟩ ?_
    refine HC.ret ?_
    refine HQ.then_ret ?_
    refine HQ.doneP (Res.one Tryd.results37 rfl) (List.Sublist.refl _) (PLe.refl _) ?_
    show Value.int .i64 2 = _
    rw [spanCheck, if_pos (by omega)]
  · try simp only [Bool.and_eq_true, Bool.and_eq_false_iff, Bool.or_eq_true, Bool.or_eq_false_iff, decide_eq_true_eq, decide_eq_false_iff_not, Int.not_lt, Int.not_le, beq_iff_eq, bne_iff_ne, ne_eq, Decidable.not_not, beq_eq_false_iff_ne, bne_eq_false_iff_eq, Bool.not_eq_true', Bool.not_eq_false'] at hc0
    refine HC.skip ?_
    refine HQ.next ?_
    refine HC.sub (E' := [(0, _)]) ⟨rfl, trivial⟩ ?_
    refine HC.seq ?_
    refine HC.seq ?_
    refine HC.region ?_
    refine HL.quiet (y_move rfl) rfl ?_
    refine HL.quiet (y_len_slice Tryd.underlying50 rfl) rfl ?_
    refine HL.quiet (y_move rfl) rfl ?_
    refine HL.nil ?_
    refine HQ.next ?_
    refine HC.block ?_
    refine HC.sub (E' := (fun (k : Nat) => [(0, .slice ad l.length cap), (8, .slice ad l.length cap), (9, .int .i64 (l.length : Int)), (10, .int .i64 (k : Int))]) 0) ⟨rfl, rfl, rfl, rfl, trivial⟩ ?_
    refine HC.loop (fun (k : Nat) => l.length - k) (fun (k : Nat) => k ≤ l.length ∧ spanGo none l = spanGo (prevHi l k) (l.drop k)) (fun (k : Nat) => [(0, .slice ad l.length cap), (8, .slice ad l.length cap), (9, .int .i64 (l.length : Int)), (10, .int .i64 (k : Int))]) (fun (k : Nat) => Lf) (fun (k : Nat) => I) 0 (⟨by omega, by rw [prevHi_zero]; rfl⟩) (fun k hC => ?_)
    obtain ⟨hk, hgo⟩ := hC
    refine HC.seq ?_
    refine HC.region ?_
    refine HL.quiet (y_lss rfl rfl) rfl ?_
    refine HL.nil ?_
    refine HQ.next ?_
    refine HC.seq ?_
    refine HC.cond rfl (fun hc1 => ?_) (fun hc1 => ?_)
    · try simp only [Bool.and_eq_true, Bool.and_eq_false_iff, Bool.or_eq_true, Bool.or_eq_false_iff, decide_eq_true_eq, decide_eq_false_iff_not, Int.not_lt, Int.not_le, beq_iff_eq, bne_iff_ne, ne_eq, Decidable.not_not, beq_eq_false_iff_ne, bne_eq_false_iff_eq, Bool.not_eq_true', Bool.not_eq_false'] at hc1
      refine HC.skip ?_
      refine HQ.next ?_
      refine HC.sub (E' := [(0, _), (8, _), (9, _), (10, _)]) ⟨rfl, rfl, rfl, rfl, trivial⟩ ?_
      refine HC.seq ?_
      refine HC.block ?_
      refine HC.seq ?_
      refine HC.region ?_
      refine HL.quiet (y_move rfl) rfl ?_
      obtain ⟨b, off, rfl, hel⟩ := hE.at_ (show k < l.length by omega)
      obtain ⟨x, hx⟩ : ∃ x, l[k]? = some x := ⟨l[k]'(by omega), List.getElem?_eq_getElem _⟩
      have hc := (hel k x hx).span
      have hgo2 := spanGo_at hx hgo
      refine HL.quiet (y_indexAddr (j := k) Tryd.underlying50 Tryd.sizeOf54 rfl rfl (by first | rfl | omega) (by omega)) rfl ?_
      refine HL.quiet (y_loadI_agg (cs := [.int .i64 x.lo, .int .i64 x.hi]) Tryd.isAgg54 Tryd.sizeOf54 rfl rfl hc) rfl ?_
      refine HL.alloc_agg Tryd.zeroValue54 rfl (fun b1 _ => ?_)
      refine HL.quiet (y_assign rfl) rfl ?_
      refine HL.store_all_0 Tryd.sizeOf54 rfl rfl rfl rfl rfl ?_
      refine HL.nil ?_
      refine HQ.next ?_
      refine HC.sub (E' := [(0, _), (8, _), (9, _), (10, _), (4, _), (3, _)]) ⟨rfl, rfl, rfl, rfl, rfl, rfl, trivial⟩ ?_
      refine HC.seq ?_
      refine HC.seq ?_
      refine HC.region ?_
      refine HL.quiet (y_fieldAddr (o := 0) (t := 3) Tryd.underlying54 rfl Tryd.sizeOf3 (by decide) rfl) rfl ?_
      refine HL.quiet (y_loadL (k := 0) Tryd.isAgg3 rfl rfl rfl) rfl ?_
      refine HL.quiet (y_lss rfl rfl) rfl ?_
      refine HL.quiet (y_move rfl) rfl ?_
      refine HL.split (t := 18) rfl (fun hg2 => ?_) (fun hg2 => ?_)
      · try simp only [Bool.and_eq_true, Bool.and_eq_false_iff, Bool.or_eq_true, Bool.or_eq_false_iff, decide_eq_true_eq, decide_eq_false_iff_not, Int.not_lt, Int.not_le, beq_iff_eq, bne_iff_ne, ne_eq, Decidable.not_not, beq_eq_false_iff_ne, bne_eq_false_iff_eq, Bool.not_eq_true', Bool.not_eq_false'] at hg2
        refine HL.pass (t := 18) rfl rfl rfl rfl ?_
        refine HL.pass (t := 18) rfl rfl rfl rfl ?_
        refine HL.pass (t := 18) rfl rfl rfl rfl ?_
        refine HL.quiet (y_pick_true rfl rfl) rfl ?_
        refine HL.quiet (y_move rfl) rfl ?_
        refine HL.pass (t := 23) rfl rfl rfl rfl ?_
        refine HL.pass (t := 23) rfl rfl rfl rfl ?_
        refine HL.pass (t := 23) rfl rfl rfl rfl ?_
        refine HL.pass (t := 23) rfl rfl rfl rfl ?_
        refine HL.pass (t := 23) rfl rfl rfl rfl ?_
        refine HL.quiet (y_pick_true rfl rfl) rfl ?_
        refine HL.nil ?_
        refine HQ.next ?_
        refine HC.sub (E' := [(0, _), (8, _), (9, _), (10, _), (4, _), (3, _), (19, _), (20, _), (21, _), (24, _), (25, _), (26, _), (27, _), (28, _), (29, _)]) ⟨rfl, rfl, rfl, rfl, rfl, rfl, rfl, rfl, rfl, rfl, rfl, rfl, rfl, rfl, rfl, trivial⟩ ?_
        refine HC.cond_true rfl ?_
        refine HC.seq ?_
        refine HC.region ?_
        refine HL.quiet (y_assign rfl) rfl ?_
        refine HL.nil ?_
        refine HQ.next ?_
        refine HC.sub (E' := [(2, _)]) ⟨rfl, trivial⟩ ?_
        refine HC.ret ?_
        refine HQ.then_ret ?_
        refine HQ.inb_ret ?_
        refine HQ.then_ret ?_
        refine HQ.then_ret ?_
        refine HQ.inb_ret ?_
        refine HQ.then_ret ?_
        refine HQ.doneP (Res.one Tryd.results37 rfl) (List.Sublist.cons _ (List.Sublist.refl _)) (PLe.refl _) ?_
        first | (show Value.int .i64 1 = _; rw [spanCheck_le (by omega), hgo2, if_pos (by omega)]) | (show Value.int .i64 3 = _; rw [spanCheck_le (by omega), hgo2, if_neg (by omega), hpv, if_pos (by simpa using (by omega))]) | (show Value.int .i64 0 = _; rw [spanCheck_le (by omega), hgo, List.drop_eq_nil_of_le (by omega), spanGo])
      · try simp only [Bool.and_eq_true, Bool.and_eq_false_iff, Bool.or_eq_true, Bool.or_eq_false_iff, decide_eq_true_eq, decide_eq_false_iff_not, Int.not_lt, Int.not_le, beq_iff_eq, bne_iff_ne, ne_eq, Decidable.not_not, beq_eq_false_iff_ne, bne_eq_false_iff_eq, Bool.not_eq_true', Bool.not_eq_false'] at hg2
        refine HL.quiet_guard (t := 18) rfl rfl (y_fieldAddr (o := 1) (t := 3) Tryd.underlying54 rfl Tryd.sizeOf3 (by decide) rfl) rfl ?_
        refine HL.quiet_guard (t := 18) rfl rfl (y_loadL (k := 0) Tryd.isAgg3 rfl rfl rfl) rfl ?_
        refine HL.quiet_guard (t := 18) rfl rfl (y_gtr rfl rfl) rfl ?_
        refine HL.quiet (y_pick_false rfl rfl) rfl ?_
        refine HL.quiet (y_move rfl) rfl ?_
        refine HL.split (t := 23) rfl (fun hg4 => ?_) (fun hg4 => ?_)
        · try simp only [Bool.and_eq_true, Bool.and_eq_false_iff, Bool.or_eq_true, Bool.or_eq_false_iff, decide_eq_true_eq, decide_eq_false_iff_not, Int.not_lt, Int.not_le, beq_iff_eq, bne_iff_ne, ne_eq, Decidable.not_not, beq_eq_false_iff_ne, bne_eq_false_iff_eq, Bool.not_eq_true', Bool.not_eq_false'] at hg4
          refine HL.pass (t := 23) rfl rfl rfl rfl ?_
          refine HL.pass (t := 23) rfl rfl rfl rfl ?_
          refine HL.pass (t := 23) rfl rfl rfl rfl ?_
          refine HL.pass (t := 23) rfl rfl rfl rfl ?_
          refine HL.pass (t := 23) rfl rfl rfl rfl ?_
          refine HL.quiet (y_pick_true rfl rfl) rfl ?_
          refine HL.nil ?_
          refine HQ.next ?_
          refine HC.sub (E' := [(0, _), (8, _), (9, _), (10, _), (4, _), (3, _), (19, _), (20, _), (21, _), (24, _), (25, _), (26, _), (27, _), (28, _), (29, _)]) ⟨rfl, rfl, rfl, rfl, rfl, rfl, rfl, rfl, rfl, rfl, rfl, rfl, rfl, rfl, rfl, trivial⟩ ?_
          refine HC.cond_true rfl ?_
          refine HC.seq ?_
          refine HC.region ?_
          refine HL.quiet (y_assign rfl) rfl ?_
          refine HL.nil ?_
          refine HQ.next ?_
          refine HC.sub (E' := [(2, _)]) ⟨rfl, trivial⟩ ?_
          refine HC.ret ?_
          refine HQ.then_ret ?_
          refine HQ.inb_ret ?_
          refine HQ.then_ret ?_
          refine HQ.then_ret ?_
          refine HQ.inb_ret ?_
          refine HQ.then_ret ?_
          refine HQ.doneP (Res.one Tryd.results37 rfl) (List.Sublist.cons _ (List.Sublist.refl _)) (PLe.refl _) ?_
          first | (show Value.int .i64 1 = _; rw [spanCheck_le (by omega), hgo2, if_pos (by omega)]) | (show Value.int .i64 3 = _; rw [spanCheck_le (by omega), hgo2, if_neg (by omega), hpv, if_pos (by simpa using (by omega))]) | (show Value.int .i64 0 = _; rw [spanCheck_le (by omega), hgo, List.drop_eq_nil_of_le (by omega), spanGo])
        · try simp only [Bool.and_eq_true, Bool.and_eq_false_iff, Bool.or_eq_true, Bool.or_eq_false_iff, decide_eq_true_eq, decide_eq_false_iff_not, Int.not_lt, Int.not_le, beq_iff_eq, bne_iff_ne, ne_eq, Decidable.not_not, beq_eq_false_iff_ne, bne_eq_false_iff_eq, Bool.not_eq_true', Bool.not_eq_false'] at hg4
          refine HL.quiet_guard (t := 23) rfl rfl (y_fieldAddr (o := 0) (t := 3) Tryd.underlying54 rfl Tryd.sizeOf3 (by decide) rfl) rfl ?_
          refine HL.quiet_guard (t := 23) rfl rfl (y_loadL (k := 0) Tryd.isAgg3 rfl rfl rfl) rfl ?_
          refine HL.quiet_guard (t := 23) rfl rfl (y_fieldAddr (o := 1) (t := 3) Tryd.underlying54 rfl Tryd.sizeOf3 (by decide) rfl) rfl ?_
          refine HL.quiet_guard (t := 23) rfl rfl (y_loadL (k := 0) Tryd.isAgg3 rfl rfl rfl) rfl ?_
          refine HL.quiet_guard (t := 23) rfl rfl (y_geq rfl rfl) rfl ?_
          refine HL.quiet (y_pick_false rfl rfl) rfl ?_
          refine HL.nil ?_
          refine HQ.next ?_
          refine HC.sub (E' := [(0, _), (8, _), (9, _), (10, _), (4, _), (3, _), (19, _), (20, _), (21, _), (24, _), (25, _), (26, _), (27, _), (28, _), (29, _)]) ⟨rfl, rfl, rfl, rfl, rfl, rfl, rfl, rfl, rfl, rfl, rfl, rfl, rfl, rfl, rfl, trivial⟩ ?_
          refine HC.cond rfl (fun hc4 => ?_) (fun hc4 => ?_)
          · try simp only [Bool.and_eq_true, Bool.and_eq_false_iff, Bool.or_eq_true, Bool.or_eq_false_iff, decide_eq_true_eq, decide_eq_false_iff_not, Int.not_lt, Int.not_le, beq_iff_eq, bne_iff_ne, ne_eq, Decidable.not_not, beq_eq_false_iff_ne, bne_eq_false_iff_eq, Bool.not_eq_true', Bool.not_eq_false'] at hc4
            refine HC.seq ?_
            refine HC.region ?_
            refine HL.quiet (y_assign rfl) rfl ?_
            refine HL.nil ?_
            refine HQ.next ?_
            refine HC.sub (E' := [(2, _)]) ⟨rfl, trivial⟩ ?_
            refine HC.ret ?_
            refine HQ.then_ret ?_
            refine HQ.inb_ret ?_
            refine HQ.then_ret ?_
            refine HQ.then_ret ?_
            refine HQ.inb_ret ?_
            refine HQ.then_ret ?_
            refine HQ.doneP (Res.one Tryd.results37 rfl) (List.Sublist.cons _ (List.Sublist.refl _)) (PLe.refl _) ?_
            first | (show Value.int .i64 1 = _; rw [spanCheck_le (by omega), hgo2, if_pos (by omega)]) | (show Value.int .i64 3 = _; rw [spanCheck_le (by omega), hgo2, if_neg (by omega), hpv, if_pos (by simpa using (by omega))]) | (show Value.int .i64 0 = _; rw [spanCheck_le (by omega), hgo, List.drop_eq_nil_of_le (by omega), spanGo])
          · try simp only [Bool.and_eq_true, Bool.and_eq_false_iff, Bool.or_eq_true, Bool.or_eq_false_iff, decide_eq_true_eq, decide_eq_false_iff_not, Int.not_lt, Int.not_le, beq_iff_eq, bne_iff_ne, ne_eq, Decidable.not_not, beq_eq_false_iff_ne, bne_eq_false_iff_eq, Bool.not_eq_true', Bool.not_eq_false'] at hc4
            refine HC.skip ?_
            refine HQ.next ?_
            refine HC.sub (E' := [(0, _), (8, _), (9, _), (10, _), (4, _), (3, _), (19, _), (20, _), (21, _), (24, _), (25, _), (26, _), (27, _), (28, _)]) ⟨rfl, rfl, rfl, rfl, rfl, rfl, rfl, rfl, rfl, rfl, rfl, rfl, rfl, rfl, trivial⟩ ?_
            refine HC.seq ?_
            refine HC.region_still Tryd.mixed (by kernel_rfl) ?_
            refine HS.quiet (y_move rfl) rfl ?_
            refine HS.quiet (y_gtr rfl rfl) rfl ?_
            refine HS.quiet (y_move rfl) rfl ?_
            refine HS.split (t := 32) rfl (fun hg6 => ?_) (fun hg6 => ?_)
            · try simp only [Bool.and_eq_true, Bool.and_eq_false_iff, Bool.or_eq_true, Bool.or_eq_false_iff, decide_eq_true_eq, decide_eq_false_iff_not, Int.not_lt, Int.not_le, beq_iff_eq, bne_iff_ne, ne_eq, Decidable.not_not, beq_eq_false_iff_ne, bne_eq_false_iff_eq, Bool.not_eq_true', Bool.not_eq_false'] at hg6
              obtain ⟨j, hj⟩ : ∃ j, k = j + 1 := ⟨k - 1, by omega⟩
              obtain ⟨y, hy⟩ : ∃ y, l[j]? = some y := ⟨l[j]'(by omega), List.getElem?_eq_getElem _⟩
              have hcy := (hel j y hy).span
              have hpv : prevHi l k = some y.hi := by rw [hj]; exact prevHi_succ l hy
              refine HS.quiet_guard (t := 32) rfl rfl (y_move rfl) rfl ?_
              refine HS.quiet_guard (t := 32) rfl rfl (y_move rfl) rfl ?_
              refine HS.quiet_guard (t := 32) rfl rfl (y_sub rfl rfl (by omega)) rfl ?_
              refine HS.quiet_guard (t := 32) rfl rfl (y_indexAddr (j := j) Tryd.underlying50 Tryd.sizeOf54 rfl rfl (by omega) (by omega)) rfl ?_
              refine HS.quiet_guard (t := 32) rfl rfl (y_fieldAddr (o := 1) (t := 3) Tryd.underlying54 rfl Tryd.sizeOf3 (by decide) rfl) rfl ?_
              refine HS.quiet_guard (t := 32) rfl rfl (y_loadI (cs := [.int .i64 y.hi]) Tryd.isAgg3 rfl (hcy.drop 1) rfl) rfl ?_
              refine HS.quiet_guard (t := 32) rfl rfl (y_fieldAddr (o := 0) (t := 3) Tryd.underlying54 rfl Tryd.sizeOf3 (by decide) rfl) rfl ?_
              refine HS.quiet_guard (t := 32) rfl rfl (y_loadL (k := 0) Tryd.isAgg3 rfl rfl rfl) rfl ?_
              refine HS.quiet_guard (t := 32) rfl rfl (y_geq rfl rfl) rfl ?_
              refine HS.quiet (y_pick_true rfl rfl) rfl ?_
              refine HS.nil ?_
              refine HQ.next ?_
              refine HC.sub (E' := [(0, _), (8, _), (9, _), (10, _), (19, _), (20, _), (21, _), (24, _), (25, _), (26, _), (27, _), (28, _), (33, _), (34, _), (35, _), (36, _), (37, _), (38, _), (39, _), (40, _), (41, _), (42, _)]) ⟨rfl, rfl, rfl, rfl, rfl, rfl, rfl, rfl, rfl, rfl, rfl, rfl, rfl, rfl, rfl, rfl, rfl, rfl, rfl, rfl, rfl, rfl, trivial⟩ ?_
              refine HC.cond rfl (fun hc5 => ?_) (fun hc5 => ?_)
              · try simp only [Bool.and_eq_true, Bool.and_eq_false_iff, Bool.or_eq_true, Bool.or_eq_false_iff, decide_eq_true_eq, decide_eq_false_iff_not, Int.not_lt, Int.not_le, beq_iff_eq, bne_iff_ne, ne_eq, Decidable.not_not, beq_eq_false_iff_ne, bne_eq_false_iff_eq, Bool.not_eq_true', Bool.not_eq_false'] at hc5
                refine HC.seq ?_
                refine HC.region ?_
                refine HL.quiet (y_assign rfl) rfl ?_
                refine HL.nil ?_
                refine HQ.next ?_
                refine HC.sub (E' := [(2, _)]) ⟨rfl, trivial⟩ ?_
                refine HC.ret ?_
                refine HQ.inb_ret ?_
                refine HQ.then_ret ?_
                refine HQ.then_ret ?_
                refine HQ.inb_ret ?_
                refine HQ.then_ret ?_
                refine HQ.doneP (Res.one Tryd.results37 rfl) (List.Sublist.cons _ (List.Sublist.refl _)) (PLe.refl _) ?_
                first | (show Value.int .i64 1 = _; rw [spanCheck_le (by omega), hgo2, if_pos (by omega)]) | (show Value.int .i64 3 = _; rw [spanCheck_le (by omega), hgo2, if_neg (by omega), hpv, if_pos (by simpa using (by omega))]) | (show Value.int .i64 0 = _; rw [spanCheck_le (by omega), hgo, List.drop_eq_nil_of_le (by omega), spanGo])
              · try simp only [Bool.and_eq_true, Bool.and_eq_false_iff, Bool.or_eq_true, Bool.or_eq_false_iff, decide_eq_true_eq, decide_eq_false_iff_not, Int.not_lt, Int.not_le, beq_iff_eq, bne_iff_ne, ne_eq, Decidable.not_not, beq_eq_false_iff_ne, bne_eq_false_iff_eq, Bool.not_eq_true', Bool.not_eq_false'] at hc5
                refine HC.skip ?_
                refine HQ.inb_normal ?_
                refine HQ.next ?_
                refine HC.sub (E' := [(0, _), (8, _), (9, _), (10, _), (19, _), (20, _), (21, _), (24, _), (25, _), (26, _), (27, _), (28, _), (33, _), (34, _), (35, _), (36, _), (37, _), (38, _), (39, _), (40, _), (41, _)]) ⟨rfl, rfl, rfl, rfl, rfl, rfl, rfl, rfl, rfl, rfl, rfl, rfl, rfl, rfl, rfl, rfl, rfl, rfl, rfl, rfl, rfl, trivial⟩ ?_
                refine HC.region ?_
                refine HL.quiet (y_add rfl rfl (by omega)) rfl ?_
                refine HL.quiet (y_move rfl) rfl ?_
                refine HL.nil ?_
                exact HQ.again (k + 1) (⟨by omega, by rw [hgo2, if_neg (by omega), prevHi_succ l hx]; first | (rw [show k = 0 by omega, prevHi_zero]; rfl) | (rw [hpv, if_neg (by simp; omega)])⟩) (by omega) ⟨rfl, rfl, rfl, rfl, trivial⟩ (List.Sublist.cons _ (List.Sublist.refl _)) (PLe.refl _)
            · try simp only [Bool.and_eq_true, Bool.and_eq_false_iff, Bool.or_eq_true, Bool.or_eq_false_iff, decide_eq_true_eq, decide_eq_false_iff_not, Int.not_lt, Int.not_le, beq_iff_eq, bne_iff_ne, ne_eq, Decidable.not_not, beq_eq_false_iff_ne, bne_eq_false_iff_eq, Bool.not_eq_true', Bool.not_eq_false'] at hg6
              refine HS.pass (t := 32) rfl rfl rfl rfl ?_
              refine HS.pass (t := 32) rfl rfl rfl rfl ?_
              refine HS.pass (t := 32) rfl rfl rfl rfl ?_
              refine HS.pass (t := 32) rfl rfl rfl rfl ?_
              refine HS.pass (t := 32) rfl rfl rfl rfl ?_
              refine HS.pass (t := 32) rfl rfl rfl rfl ?_
              refine HS.pass (t := 32) rfl rfl rfl rfl ?_
              refine HS.pass (t := 32) rfl rfl rfl rfl ?_
              refine HS.pass (t := 32) rfl rfl rfl rfl ?_
              refine HS.quiet (y_pick_false rfl rfl) rfl ?_
              refine HS.nil ?_
              refine HQ.next ?_
              refine HC.sub (E' := [(0, _), (8, _), (9, _), (10, _), (19, _), (20, _), (21, _), (24, _), (25, _), (26, _), (27, _), (28, _), (33, _), (34, _), (35, _), (36, _), (37, _), (38, _), (39, _), (40, _), (41, _), (42, _)]) ⟨rfl, rfl, rfl, rfl, rfl, rfl, rfl, rfl, rfl, rfl, rfl, rfl, rfl, rfl, rfl, rfl, rfl, rfl, rfl, rfl, rfl, rfl, trivial⟩ ?_
              refine HC.cond_false rfl ?_
              refine HC.skip ?_
              refine HQ.inb_normal ?_
              refine HQ.next ?_
              refine HC.sub (E' := [(0, _), (8, _), (9, _), (10, _), (19, _), (20, _), (21, _), (24, _), (25, _), (26, _), (27, _), (28, _), (33, _), (34, _), (35, _), (36, _), (37, _), (38, _), (39, _), (40, _), (41, _)]) ⟨rfl, rfl, rfl, rfl, rfl, rfl, rfl, rfl, rfl, rfl, rfl, rfl, rfl, rfl, rfl, rfl, rfl, rfl, rfl, rfl, rfl, trivial⟩ ?_
              refine HC.region ?_
              refine HL.quiet (y_add rfl rfl (by omega)) rfl ?_
              refine HL.quiet (y_move rfl) rfl ?_
              refine HL.nil ?_
              exact HQ.again (k + 1) (⟨by omega, by rw [hgo2, if_neg (by omega), prevHi_succ l hx]; first | (rw [show k = 0 by omega, prevHi_zero]; rfl) | (rw [hpv, if_neg (by simp; omega)])⟩) (by omega) ⟨rfl, rfl, rfl, rfl, trivial⟩ (List.Sublist.cons _ (List.Sublist.refl _)) (PLe.refl _)
    · try simp only [Bool.and_eq_true, Bool.and_eq_false_iff, Bool.or_eq_true, Bool.or_eq_false_iff, decide_eq_true_eq, decide_eq_false_iff_not, Int.not_lt, Int.not_le, beq_iff_eq, bne_iff_ne, ne_eq, Decidable.not_not, beq_eq_false_iff_ne, bne_eq_false_iff_eq, Bool.not_eq_true', Bool.not_eq_false'] at hc1
      refine HC.exit ?_
      refine HQ.then_exit ?_
      refine HQ.then_exit ?_
      refine HQ.inb_exit ?_
      refine HQ.next ?_
      refine HC.sub (E' := []) trivial ?_
      refine HC.seq ?_
      refine HC.region ?_
      refine HL.quiet (y_assign rfl) rfl ?_
      refine HL.nil ?_
      refine HQ.next ?_
      refine HC.ret ?_
      refine HQ.doneP (Res.one Tryd.results37 rfl) (List.Sublist.refl _) (PLe.refl _) ?_
      first | (show Value.int .i64 1 = _; rw [spanCheck_le (by omega), hgo2, if_pos (by omega)]) | (show Value.int .i64 3 = _; rw [spanCheck_le (by omega), hgo2, if_neg (by omega), hpv, if_pos (by simpa using (by omega))]) | (show Value.int .i64 0 = _; rw [spanCheck_le (by omega), hgo, List.drop_eq_nil_of_le (by omega), spanGo])

end Go.Rm
