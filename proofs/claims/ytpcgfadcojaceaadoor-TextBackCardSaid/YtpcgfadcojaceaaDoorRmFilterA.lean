/- What this text holds: contracts of packages cube and filter (Tags, Check, In, tabled), printed by a program of mine (wip/tools/walk.py) from plans of mine. -/
import Derived.Test.YtpcgfadcojaceaaDoorRmSpan
import Derived.Test.YtpcgfadcojaceaaDoorRmSpec2
set_option linter.unusedVariables false
set_option linter.unusedSimpArgs false
set_option linter.unusedSectionVars false
namespace Go.Rm
open Go Go.Proofs
set_option maxRecDepth 100000

theorem cube_Tags (I : PHeap) (n : Int) : Pure Tryd.prog 44 [.int .i64 n] I (fun r _ => r = .bool (decide (0 ≤ n) && decide (n ≤ 15))) := by
  refine Pure.of_body Tryd.func44 rfl Tryd.ntmps44 rfl (fun W Lf => ?_)
  refine HC.seq ?_
  refine HC.region ?_
  refine HL.quiet (y_assign rfl) rfl ?_
  refine HL.nil ?_
  refine HQ.next ?_
  refine HC.sub (E' := [(0, _)]) ⟨rfl, trivial⟩ ?_
  refine HC.seq ?_
  refine HC.region ?_
  refine HL.quiet (y_move rfl) rfl ?_
  refine HL.quiet (y_geq rfl rfl) rfl ?_
  refine HL.quiet (y_move rfl) rfl ?_
  refine HL.split (t := 5) rfl (fun hg1 => ?_) (fun hg1 => ?_)
  · try simp only [Bool.and_eq_true, Bool.and_eq_false_iff, Bool.or_eq_true, Bool.or_eq_false_iff, decide_eq_true_eq, decide_eq_false_iff_not, Int.not_lt, Int.not_le, beq_iff_eq, bne_iff_ne, ne_eq, Decidable.not_not, beq_eq_false_iff_ne, bne_eq_false_iff_eq, Bool.not_eq_true', Bool.not_eq_false'] at hg1
    refine HL.quiet_guard (t := 5) rfl rfl (y_move rfl) rfl ?_
    refine HL.quiet_guard (t := 5) rfl rfl (y_leq rfl rfl) rfl ?_
    refine HL.quiet (y_pick_true rfl rfl) rfl ?_
    refine HL.quiet (y_assign rfl) rfl ?_
    refine HL.nil ?_
    refine HQ.next ?_
    refine HC.sub (E' := [(2, _)]) ⟨rfl, trivial⟩ ?_
    refine HC.ret ?_
    refine HQ.doneP (Res.one Tryd.results44 rfl) (List.Sublist.refl _) (PLe.refl _) ?_
    congr 1; rw [Bool.eq_iff_iff]; simp only [Bool.and_eq_true, decide_eq_true_eq, beq_iff_eq, Bool.false_eq_true, iff_false, false_iff, not_and]; omega
  · try simp only [Bool.and_eq_true, Bool.and_eq_false_iff, Bool.or_eq_true, Bool.or_eq_false_iff, decide_eq_true_eq, decide_eq_false_iff_not, Int.not_lt, Int.not_le, beq_iff_eq, bne_iff_ne, ne_eq, Decidable.not_not, beq_eq_false_iff_ne, bne_eq_false_iff_eq, Bool.not_eq_true', Bool.not_eq_false'] at hg1
    refine HL.pass (t := 5) rfl rfl rfl rfl ?_
    refine HL.pass (t := 5) rfl rfl rfl rfl ?_
    refine HL.quiet (y_pick_false rfl rfl) rfl ?_
    refine HL.quiet (y_assign rfl) rfl ?_
    refine HL.nil ?_
    refine HQ.next ?_
    refine HC.sub (E' := [(2, _)]) ⟨rfl, trivial⟩ ?_
    refine HC.ret ?_
    refine HQ.doneP (Res.one Tryd.results44 rfl) (List.Sublist.refl _) (PLe.refl _) ?_
    congr 1; rw [Bool.eq_iff_iff]; simp only [Bool.and_eq_true, decide_eq_true_eq, beq_iff_eq, Bool.false_eq_true, iff_false, false_iff, not_and]; omega

theorem cube_Check (I : PHeap) (c : Cube) : Pure Tryd.prog 36 [.agg #[.int .i64 c.yes, .int .i64 c.no]] I (fun r _ => r = .int .i64 (cubeCheck c)) := by
  refine Pure.of_body Tryd.func36 rfl Tryd.ntmps36 rfl (fun W Lf => ?_)
  refine HC.seq ?_
  refine HC.region ?_
  refine HL.box_agg rfl rfl (fun b1 _ => ?_)
  refine HL.quiet (y_assign rfl) rfl ?_
  refine HL.nil ?_
  refine HQ.next ?_
  refine HC.sub (E' := [(1, _)]) ⟨rfl, trivial⟩ ?_
  refine HC.seq ?_
  refine HC.seq ?_
  refine HC.region ?_
  refine HL.quiet (y_fieldAddr (o := 0) (t := 3) Tryd.underlying49 rfl Tryd.sizeOf3 (by decide) rfl) rfl ?_
  refine HL.quiet (y_loadL (k := 0) Tryd.isAgg3 rfl rfl rfl) rfl ?_
  refine HL.callP Tryd.call44 (.cons rfl (.nil)) rfl (cube_Tags _ c.yes) ?_
  rintro _ Ii2 hi2 rfl
  refine HL.quiet (y_not rfl) rfl ?_
  refine HL.quiet (y_move rfl) rfl ?_
  refine HL.split (t := 7) rfl (fun hg3 => ?_) (fun hg3 => ?_)
  · try simp only [Bool.and_eq_true, Bool.and_eq_false_iff, Bool.or_eq_true, Bool.or_eq_false_iff, decide_eq_true_eq, decide_eq_false_iff_not, Int.not_lt, Int.not_le, beq_iff_eq, bne_iff_ne, ne_eq, Decidable.not_not, beq_eq_false_iff_ne, bne_eq_false_iff_eq, Bool.not_eq_true', Bool.not_eq_false'] at hg3
    refine HL.pass (t := 7) rfl rfl rfl rfl ?_
    refine HL.pass (t := 7) rfl rfl rfl rfl ?_
    refine HL.pass (t := 7) rfl rfl rfl rfl ?_
    refine HL.pass (t := 7) rfl rfl rfl rfl ?_
    refine HL.quiet (y_pick_true rfl rfl) rfl ?_
    refine HL.nil ?_
    refine HQ.next ?_
    refine HC.sub (E' := [(1, _), (12, _)]) ⟨rfl, rfl, trivial⟩ ?_
    refine HC.cond_true rfl ?_
    refine HC.seq ?_
    refine HC.region ?_
    refine HL.quiet (y_assign rfl) rfl ?_
    refine HL.nil ?_
    refine HQ.next ?_
    refine HC.sub (E' := [(2, _)]) ⟨rfl, trivial⟩ ?_
    refine HC.ret ?_
    refine HQ.then_ret ?_
    refine HQ.doneP (Res.one Tryd.results36 rfl) (List.Sublist.cons _ (List.Sublist.refl _)) (hi2) ?_
    show Value.int .i64 1 = _
    rw [cubeCheck, if_pos (by omega)]
  · try simp only [Bool.and_eq_true, Bool.and_eq_false_iff, Bool.or_eq_true, Bool.or_eq_false_iff, decide_eq_true_eq, decide_eq_false_iff_not, Int.not_lt, Int.not_le, beq_iff_eq, bne_iff_ne, ne_eq, Decidable.not_not, beq_eq_false_iff_ne, bne_eq_false_iff_eq, Bool.not_eq_true', Bool.not_eq_false'] at hg3
    refine HL.quiet_guard (t := 7) rfl rfl (y_fieldAddr (o := 1) (t := 3) Tryd.underlying49 rfl Tryd.sizeOf3 (by decide) rfl) rfl ?_
    refine HL.quiet_guard (t := 7) rfl rfl (y_loadL (k := 0) Tryd.isAgg3 rfl rfl rfl) rfl ?_
    refine HL.unguard (s := 7) rfl rfl ?_
    refine HL.callP Tryd.call44 (.cons rfl (.nil)) rfl (cube_Tags _ c.no) ?_
    rintro _ Ii5 hi5 rfl
    refine HL.quiet_guard (t := 7) rfl rfl (y_not rfl) rfl ?_
    refine HL.quiet (y_pick_false rfl rfl) rfl ?_
    refine HL.nil ?_
    refine HQ.next ?_
    refine HC.sub (E' := [(1, _), (12, _)]) ⟨rfl, rfl, trivial⟩ ?_
    refine HC.cond rfl (fun hc1 => ?_) (fun hc1 => ?_)
    · try simp only [Bool.and_eq_true, Bool.and_eq_false_iff, Bool.or_eq_true, Bool.or_eq_false_iff, decide_eq_true_eq, decide_eq_false_iff_not, Int.not_lt, Int.not_le, beq_iff_eq, bne_iff_ne, ne_eq, Decidable.not_not, beq_eq_false_iff_ne, bne_eq_false_iff_eq, Bool.not_eq_true', Bool.not_eq_false'] at hc1
      refine HC.seq ?_
      refine HC.region ?_
      refine HL.quiet (y_assign rfl) rfl ?_
      refine HL.nil ?_
      refine HQ.next ?_
      refine HC.sub (E' := [(2, _)]) ⟨rfl, trivial⟩ ?_
      refine HC.ret ?_
      refine HQ.then_ret ?_
      refine HQ.doneP (Res.one Tryd.results36 rfl) (List.Sublist.cons _ (List.Sublist.refl _)) ((hi2).trans hi5) ?_
      show Value.int .i64 1 = _
      rw [cubeCheck, if_pos (by omega)]
    · try simp only [Bool.and_eq_true, Bool.and_eq_false_iff, Bool.or_eq_true, Bool.or_eq_false_iff, decide_eq_true_eq, decide_eq_false_iff_not, Int.not_lt, Int.not_le, beq_iff_eq, bne_iff_ne, ne_eq, Decidable.not_not, beq_eq_false_iff_ne, bne_eq_false_iff_eq, Bool.not_eq_true', Bool.not_eq_false'] at hc1
      refine HC.skip ?_
      refine HQ.next ?_
      refine HC.sub (E' := [(1, _)]) ⟨rfl, trivial⟩ ?_
      refine HC.seq ?_
      refine HC.seq ?_
      refine HC.region ?_
      refine HL.quiet (y_fieldAddr (o := 0) (t := 3) Tryd.underlying49 rfl Tryd.sizeOf3 (by decide) rfl) rfl ?_
      refine HL.quiet (y_loadL (k := 0) Tryd.isAgg3 rfl rfl rfl) rfl ?_
      refine HL.quiet (y_fieldAddr (o := 1) (t := 3) Tryd.underlying49 rfl Tryd.sizeOf3 (by decide) rfl) rfl ?_
      refine HL.quiet (y_loadL (k := 0) Tryd.isAgg3 rfl rfl rfl) rfl ?_
      obtain ⟨y, hy⟩ := Int.eq_ofNat_of_zero_le (show 0 ≤ c.yes by omega)
      obtain ⟨n, hn⟩ := Int.eq_ofNat_of_zero_le (show 0 ≤ c.no by omega)
      refine HL.quiet (y_bits (bo := .and) (r := ((y &&& n : Nat) : Int)) rfl rfl rfl (by rw [hy, hn]; exact and_i64 (by omega) (by omega))) rfl ?_
      refine HL.quiet (y_neq rfl rfl) rfl ?_
      refine HL.nil ?_
      refine HQ.next ?_
      refine HC.sub (E' := [(18, _)]) ⟨rfl, trivial⟩ ?_
      refine HC.cond rfl (fun hc2 => ?_) (fun hc2 => ?_)
      · try simp only [Bool.and_eq_true, Bool.and_eq_false_iff, Bool.or_eq_true, Bool.or_eq_false_iff, decide_eq_true_eq, decide_eq_false_iff_not, Int.not_lt, Int.not_le, beq_iff_eq, bne_iff_ne, ne_eq, Decidable.not_not, beq_eq_false_iff_ne, bne_eq_false_iff_eq, Bool.not_eq_true', Bool.not_eq_false'] at hc2
        refine HC.seq ?_
        refine HC.region ?_
        refine HL.quiet (y_assign rfl) rfl ?_
        refine HL.nil ?_
        refine HQ.next ?_
        refine HC.sub (E' := [(2, _)]) ⟨rfl, trivial⟩ ?_
        refine HC.ret ?_
        refine HQ.then_ret ?_
        refine HQ.doneP (Res.one Tryd.results36 rfl) (List.Sublist.cons _ (List.Sublist.refl _)) ((hi2).trans hi5) ?_
        show Value.int .i64 3 = _
        have he : c.yes.toNat &&& c.no.toNat = y &&& n := by rw [hy, hn]; rfl
        rw [cubeCheck, if_neg (by omega), he]
        first | rw [if_pos (by omega)] | rw [if_neg (by omega)]
      · try simp only [Bool.and_eq_true, Bool.and_eq_false_iff, Bool.or_eq_true, Bool.or_eq_false_iff, decide_eq_true_eq, decide_eq_false_iff_not, Int.not_lt, Int.not_le, beq_iff_eq, bne_iff_ne, ne_eq, Decidable.not_not, beq_eq_false_iff_ne, bne_eq_false_iff_eq, Bool.not_eq_true', Bool.not_eq_false'] at hc2
        refine HC.skip ?_
        refine HQ.next ?_
        refine HC.sub (E' := []) trivial ?_
        refine HC.seq ?_
        refine HC.region ?_
        refine HL.quiet (y_assign rfl) rfl ?_
        refine HL.nil ?_
        refine HQ.next ?_
        refine HC.ret ?_
        refine HQ.doneP (Res.one Tryd.results36 rfl) (List.Sublist.cons _ (List.Sublist.refl _)) ((hi2).trans hi5) ?_
        show Value.int .i64 0 = _
        have he : c.yes.toNat &&& c.no.toNat = y &&& n := by rw [hy, hn]; rfl
        rw [cubeCheck, if_neg (by omega), he]
        first | rw [if_pos (by omega)] | rw [if_neg (by omega)]

theorem cube_In (I : PHeap) (c : Cube) (hc : CubeOk c) (tags : Nat) (ht : tags < 16) : Pure Tryd.prog 38 [.agg #[.int .i64 c.yes, .int .i64 c.no], .int .i64 (tags : Int)] I (fun r _ => r = .bool (cubeIn c tags)) := by
  obtain ⟨h1, h2, h3, h4⟩ := hc
  obtain ⟨y, hy⟩ := Int.eq_ofNat_of_zero_le h1
  obtain ⟨n, hn⟩ := Int.eq_ofNat_of_zero_le h3
  have e1 : c.yes.toNat = y := by rw [hy]; rfl
  have e2 : c.no.toNat = n := by rw [hn]; rfl
  refine Pure.of_body Tryd.func38 rfl Tryd.ntmps38 rfl (fun W Lf => ?_)
  refine HC.seq ?_
  refine HC.region ?_
  refine HL.box_agg rfl rfl (fun b1 _ => ?_)
  refine HL.quiet (y_assign rfl) rfl ?_
  refine HL.nil ?_
  refine HQ.next ?_
  refine HC.sub (E' := [(1, _), (2, _)]) ⟨rfl, rfl, trivial⟩ ?_
  refine HC.seq ?_
  refine HC.region ?_
  refine HL.quiet (y_move rfl) rfl ?_
  refine HL.quiet (y_fieldAddr (o := 0) (t := 3) Tryd.underlying49 rfl Tryd.sizeOf3 (by decide) rfl) rfl ?_
  refine HL.quiet (y_loadL (k := 0) Tryd.isAgg3 rfl rfl rfl) rfl ?_
  refine HL.quiet (y_bits (bo := .and) (r := ((tags &&& y : Nat) : Int)) rfl rfl rfl (by rw [hy]; exact and_i64 (by omega) (by omega))) rfl ?_
  refine HL.quiet (y_fieldAddr (o := 0) (t := 3) Tryd.underlying49 rfl Tryd.sizeOf3 (by decide) rfl) rfl ?_
  refine HL.quiet (y_loadL (k := 0) Tryd.isAgg3 rfl rfl rfl) rfl ?_
  refine HL.quiet (y_eql rfl rfl) rfl ?_
  refine HL.quiet (y_move rfl) rfl ?_
  refine HL.split (t := 12) rfl (fun hg2 => ?_) (fun hg2 => ?_)
  · try simp only [Bool.and_eq_true, Bool.and_eq_false_iff, Bool.or_eq_true, Bool.or_eq_false_iff, decide_eq_true_eq, decide_eq_false_iff_not, Int.not_lt, Int.not_le, beq_iff_eq, bne_iff_ne, ne_eq, Decidable.not_not, beq_eq_false_iff_ne, bne_eq_false_iff_eq, Bool.not_eq_true', Bool.not_eq_false'] at hg2
    refine HL.quiet_guard (t := 12) rfl rfl (y_move rfl) rfl ?_
    refine HL.quiet_guard (t := 12) rfl rfl (y_fieldAddr (o := 1) (t := 3) Tryd.underlying49 rfl Tryd.sizeOf3 (by decide) rfl) rfl ?_
    refine HL.quiet_guard (t := 12) rfl rfl (y_loadL (k := 0) Tryd.isAgg3 rfl rfl rfl) rfl ?_
    refine HL.quiet_guard (t := 12) rfl rfl (y_bits (bo := .and) (r := ((tags &&& n : Nat) : Int)) rfl rfl rfl (by rw [hn]; exact and_i64 (by omega) (by omega))) rfl ?_
    refine HL.quiet_guard (t := 12) rfl rfl (y_eql rfl rfl) rfl ?_
    refine HL.quiet (y_pick_true rfl rfl) rfl ?_
    refine HL.quiet (y_assign rfl) rfl ?_
    refine HL.nil ?_
    refine HQ.next ?_
    refine HC.sub (E' := [(4, _)]) ⟨rfl, trivial⟩ ?_
    refine HC.ret ?_
    refine HQ.doneP (Res.one Tryd.results38 rfl) (List.Sublist.cons _ (List.Sublist.refl _)) (PLe.refl _) ?_
    rw [cubeIn, e1, e2]
    congr 1; rw [Bool.eq_iff_iff]; simp only [Bool.and_eq_true, beq_iff_eq, Bool.false_eq_true, false_iff, not_and]; omega
  · try simp only [Bool.and_eq_true, Bool.and_eq_false_iff, Bool.or_eq_true, Bool.or_eq_false_iff, decide_eq_true_eq, decide_eq_false_iff_not, Int.not_lt, Int.not_le, beq_iff_eq, bne_iff_ne, ne_eq, Decidable.not_not, beq_eq_false_iff_ne, bne_eq_false_iff_eq, Bool.not_eq_true', Bool.not_eq_false'] at hg2
    refine HL.pass (t := 12) rfl rfl rfl rfl ?_
    refine HL.pass (t := 12) rfl rfl rfl rfl ?_
    refine HL.pass (t := 12) rfl rfl rfl rfl ?_
    refine HL.pass (t := 12) rfl rfl rfl rfl ?_
    refine HL.pass (t := 12) rfl rfl rfl rfl ?_
    refine HL.quiet (y_pick_false rfl rfl) rfl ?_
    refine HL.quiet (y_assign rfl) rfl ?_
    refine HL.nil ?_
    refine HQ.next ?_
    refine HC.sub (E' := [(4, _)]) ⟨rfl, trivial⟩ ?_
    refine HC.ret ?_
    refine HQ.doneP (Res.one Tryd.results38 rfl) (List.Sublist.cons _ (List.Sublist.refl _)) (PLe.refl _) ?_
    rw [cubeIn, e1, e2]
    congr 1; rw [Bool.eq_iff_iff]; simp only [Bool.and_eq_true, beq_iff_eq, Bool.false_eq_true, false_iff, not_and]; omega

theorem filter_Check (I : PHeap) (v : Value) (l : List Box) (h : Val I v l) : Pure Tryd.prog 29 [v] I (fun r _ => r = .int .i64 (filterCheck l)) := by
  obtain ⟨ad, cap, rfl, hcap, hE⟩ := h.slice
  refine Pure.of_body Tryd.func29 rfl Tryd.ntmps29 rfl (fun W Lf => ?_)
  refine HC.seq ?_
  refine HC.region ?_
  refine HL.quiet (y_assign rfl) rfl ?_
  refine HL.nil ?_
  refine HQ.next ?_
  refine HC.sub (E' := [(0, _)]) ⟨rfl, trivial⟩ ?_
  refine HC.seq ?_
  refine HC.seq ?_
  refine HC.region ?_
  refine HL.quiet (y_move rfl) rfl ?_
  refine HL.quiet (y_len_slice Tryd.underlying27 rfl) rfl ?_
  refine HL.quiet (y_gtr rfl rfl) rfl ?_
  refine HL.nil ?_
  refine HQ.next ?_
  refine HC.sub (E' := [(0, _), (9, _)]) ⟨rfl, rfl, trivial⟩ ?_
  refine HC.cond rfl (fun hc0 => ?_) (fun hc0 => ?_)
  · try simp only [Bool.and_eq_true, Bool.and_eq_false_iff, Bool.or_eq_true, Bool.or_eq_false_iff, decide_eq_true_eq, decide_eq_false_iff_not, Int.not_lt, Int.not_le, beq_iff_eq, bne_iff_ne, ne_eq, Decidable.not_not, beq_eq_false_iff_ne, bne_eq_false_iff_eq, Bool.not_eq_true', Bool.not_eq_false'] at hc0
    refine HC.seq ?_
    refine HC.region ?_
    refine HL.quiet (y_assign rfl) rfl ?_
    refine HL.nil ?_
    refine HQ.next ?_
    refine HC.sub (E' := [(2, _)]) ⟨rfl, trivial⟩ ?_
    refine HC.ret ?_
    refine HQ.then_ret ?_
    refine HQ.doneP (Res.one Tryd.results29 rfl) (List.Sublist.refl _) (PLe.refl _) ?_
    show Value.int .i64 2 = _
    rw [filterCheck, if_pos (by omega)]
  · try simp only [Bool.and_eq_true, Bool.and_eq_false_iff, Bool.or_eq_true, Bool.or_eq_false_iff, decide_eq_true_eq, decide_eq_false_iff_not, Int.not_lt, Int.not_le, beq_iff_eq, bne_iff_ne, ne_eq, Decidable.not_not, beq_eq_false_iff_ne, bne_eq_false_iff_eq, Bool.not_eq_true', Bool.not_eq_false'] at hc0
    refine HC.skip ?_
    refine HQ.next ?_
    refine HC.sub (E' := [(0, _)]) ⟨rfl, trivial⟩ ?_
    refine HC.seq ?_
    refine HC.seq ?_
    refine HC.region ?_
    refine HL.quiet (y_move rfl) rfl ?_
    refine HL.quiet (y_len_slice Tryd.underlying27 rfl) rfl ?_
    refine HL.quiet (y_move rfl) rfl ?_
    refine HL.nil ?_
    refine HQ.next ?_
    refine HC.sub (E' := [(10, _), (11, _), (12, _)]) ⟨rfl, rfl, rfl, trivial⟩ ?_
    refine HC.block ?_
    refine HC.sub (E' := (fun (k : Nat) => [(10, .slice ad l.length cap), (11, .int .i64 (l.length : Int)), (12, .int .i64 (k : Int))]) 0) ⟨rfl, rfl, rfl, trivial⟩ ?_
    refine HC.loop (fun (k : Nat) => l.length - k) (fun (k : Nat) => k ≤ l.length ∧ boxesGo l = boxesGo (l.drop k)) (fun (k : Nat) => [(10, .slice ad l.length cap), (11, .int .i64 (l.length : Int)), (12, .int .i64 (k : Int))]) (fun (k : Nat) => Lf) (fun (k : Nat) => I) 0 (⟨by omega, rfl⟩) (fun k hC => ?_)
    obtain ⟨hk, hgo⟩ := hC
    refine HC.seq ?_
    refine HC.region ?_
    refine HL.quiet (y_lss rfl rfl) rfl ?_
    refine HL.nil ?_
    refine HQ.next ?_
    refine HC.seq ?_
    refine HC.cond rfl (fun hc1 => ?_) (fun hc1 => ?_)
    · try simp only [Bool.and_eq_true, Bool.and_eq_false_iff, Bool.or_eq_true, Bool.or_eq_false_iff, decide_eq_true_eq, decide_eq_false_iff_not, Int.not_lt, Int.not_le, beq_iff_eq, bne_iff_ne, ne_eq, Decidable.not_not, beq_eq_false_iff_ne, bne_eq_false_iff_eq, Bool.not_eq_true', Bool.not_eq_false'] at hc1
      refine HC.skip ?_
      refine HQ.next ?_
      refine HC.sub (E' := [(10, _), (11, _), (12, _)]) ⟨rfl, rfl, rfl, trivial⟩ ?_
      refine HC.seq ?_
      refine HC.block ?_
      refine HC.seq ?_
      refine HC.region ?_
      obtain ⟨b, off, rfl, hel⟩ := hE.at_ (show k < l.length by omega)
      obtain ⟨x, hx⟩ : ∃ x, l[k]? = some x := ⟨l[k]'(by omega), List.getElem?_eq_getElem _⟩
      obtain ⟨xa, xc, hxe, hxs, hc⟩ := (hel k x hx).box
      have hgo2 := boxesGo_at hx hgo
      refine HL.quiet (y_indexAddr (j := k) Tryd.underlying27 Tryd.sizeOf52 rfl rfl (by first | rfl | omega) (by omega)) rfl ?_
      refine HL.quiet (y_loadI_agg (cs := [.int .i64 x.cube.yes, .int .i64 x.cube.no, .slice xa x.spans.length xc]) Tryd.isAgg52 Tryd.sizeOf52 rfl rfl hc) rfl ?_
      refine HL.alloc_agg Tryd.zeroValue52 rfl (fun b1 _ => ?_)
      refine HL.store_all_0 Tryd.sizeOf52 rfl rfl rfl rfl rfl ?_
      refine HL.nil ?_
      refine HQ.next ?_
      refine HC.sub (E' := [(10, _), (11, _), (12, _), (4, _)]) ⟨rfl, rfl, rfl, rfl, trivial⟩ ?_
      refine HC.seq ?_
      refine HC.seq ?_
      refine HC.region ?_
      refine HL.quiet (y_fieldAddr (o := 0) (t := 49) Tryd.underlying52 rfl Tryd.sizeOf49 (by decide) rfl) rfl ?_
      refine HL.quiet (y_loadL_agg (k := 0) (cs := [.int .i64 x.cube.yes, .int .i64 x.cube.no]) Tryd.isAgg49 Tryd.sizeOf49 rfl rfl rfl rfl) rfl ?_
      refine HL.callP Tryd.call36 (.cons rfl (.nil)) rfl (cube_Check _ x.cube) ?_
      rintro _ Ii2 hi2 rfl
      refine HL.quiet (y_assign rfl) rfl ?_
      refine HL.nil ?_
      refine HQ.next ?_
      refine HC.sub (E' := [(10, _), (11, _), (12, _), (4, _), (5, _)]) ⟨rfl, rfl, rfl, rfl, rfl, trivial⟩ ?_
      refine HC.seq ?_
      refine HC.region ?_
      refine HL.quiet (y_move rfl) rfl ?_
      refine HL.quiet (y_neq rfl rfl) rfl ?_
      refine HL.nil ?_
      refine HQ.next ?_
      refine HC.sub (E' := [(10, _), (11, _), (12, _), (4, _), (5, _), (20, _)]) ⟨rfl, rfl, rfl, rfl, rfl, rfl, trivial⟩ ?_
      refine HC.cond rfl (fun hc2 => ?_) (fun hc2 => ?_)
      · try simp only [Bool.and_eq_true, Bool.and_eq_false_iff, Bool.or_eq_true, Bool.or_eq_false_iff, decide_eq_true_eq, decide_eq_false_iff_not, Int.not_lt, Int.not_le, beq_iff_eq, bne_iff_ne, ne_eq, Decidable.not_not, beq_eq_false_iff_ne, bne_eq_false_iff_eq, Bool.not_eq_true', Bool.not_eq_false'] at hc2
        refine HC.seq ?_
        refine HC.region ?_
        refine HL.quiet (y_move rfl) rfl ?_
        refine HL.quiet (y_assign rfl) rfl ?_
        refine HL.nil ?_
        refine HQ.next ?_
        refine HC.sub (E' := [(2, _)]) ⟨rfl, trivial⟩ ?_
        refine HC.ret ?_
        refine HQ.then_ret ?_
        refine HQ.inb_ret ?_
        refine HQ.then_ret ?_
        refine HQ.then_ret ?_
        refine HQ.inb_ret ?_
        refine HQ.then_ret ?_
        refine HQ.doneP (Res.one Tryd.results29 rfl) (List.Sublist.cons _ (List.Sublist.refl _)) (hi2) ?_
        show Value.int .i64 (cubeCheck x.cube) = _
        have hb : boxCheck x = cubeCheck x.cube := by unfold boxCheck; split <;> omega
        rw [filterCheck_le (by omega), hgo2, if_neg (by omega), hb]
      · try simp only [Bool.and_eq_true, Bool.and_eq_false_iff, Bool.or_eq_true, Bool.or_eq_false_iff, decide_eq_true_eq, decide_eq_false_iff_not, Int.not_lt, Int.not_le, beq_iff_eq, bne_iff_ne, ne_eq, Decidable.not_not, beq_eq_false_iff_ne, bne_eq_false_iff_eq, Bool.not_eq_true', Bool.not_eq_false'] at hc2
        refine HC.skip ?_
        refine HQ.next ?_
        refine HC.sub (E' := [(10, _), (11, _), (12, _), (4, _)]) ⟨rfl, rfl, rfl, rfl, trivial⟩ ?_
        refine HC.seq ?_
        refine HC.region ?_
        refine HL.quiet (y_fieldAddr (o := 2) (t := 50) Tryd.underlying52 rfl Tryd.sizeOf50 (by decide) rfl) rfl ?_
        refine HL.quiet (y_loadL (k := 0) Tryd.isAgg50 rfl rfl rfl) rfl ?_
        refine HL.callP Tryd.call37 (.cons rfl (.nil)) rfl (span_Check _ _ x.spans (hxs.le (hi2))) ?_
        rintro _ Ii3 hi3 rfl
        refine HL.quiet (y_assign rfl) rfl ?_
        refine HL.nil ?_
        refine HQ.next ?_
        refine HC.sub (E' := [(10, _), (11, _), (12, _), (6, _)]) ⟨rfl, rfl, rfl, rfl, trivial⟩ ?_
        refine HC.seq ?_
        refine HC.region ?_
        refine HL.quiet (y_move rfl) rfl ?_
        refine HL.quiet (y_neq rfl rfl) rfl ?_
        refine HL.nil ?_
        refine HQ.next ?_
        refine HC.sub (E' := [(10, _), (11, _), (12, _), (6, _), (26, _)]) ⟨rfl, rfl, rfl, rfl, rfl, trivial⟩ ?_
        refine HC.cond rfl (fun hc3 => ?_) (fun hc3 => ?_)
        · try simp only [Bool.and_eq_true, Bool.and_eq_false_iff, Bool.or_eq_true, Bool.or_eq_false_iff, decide_eq_true_eq, decide_eq_false_iff_not, Int.not_lt, Int.not_le, beq_iff_eq, bne_iff_ne, ne_eq, Decidable.not_not, beq_eq_false_iff_ne, bne_eq_false_iff_eq, Bool.not_eq_true', Bool.not_eq_false'] at hc3
          refine HC.seq ?_
          refine HC.region ?_
          refine HL.quiet (y_move rfl) rfl ?_
          refine HL.quiet (y_assign rfl) rfl ?_
          refine HL.nil ?_
          refine HQ.next ?_
          refine HC.sub (E' := [(2, _)]) ⟨rfl, trivial⟩ ?_
          refine HC.ret ?_
          refine HQ.inb_ret ?_
          refine HQ.then_ret ?_
          refine HQ.then_ret ?_
          refine HQ.inb_ret ?_
          refine HQ.then_ret ?_
          refine HQ.doneP (Res.one Tryd.results29 rfl) (List.Sublist.cons _ (List.Sublist.refl _)) ((hi2).trans hi3) ?_
          show Value.int .i64 (spanCheck x.spans) = _
          have hb : boxCheck x = spanCheck x.spans := by unfold boxCheck; split <;> omega
          rw [filterCheck_le (by omega), hgo2, if_neg (by omega), hb]
        · try simp only [Bool.and_eq_true, Bool.and_eq_false_iff, Bool.or_eq_true, Bool.or_eq_false_iff, decide_eq_true_eq, decide_eq_false_iff_not, Int.not_lt, Int.not_le, beq_iff_eq, bne_iff_ne, ne_eq, Decidable.not_not, beq_eq_false_iff_ne, bne_eq_false_iff_eq, Bool.not_eq_true', Bool.not_eq_false'] at hc3
          refine HC.skip ?_
          refine HQ.inb_normal ?_
          refine HQ.next ?_
          refine HC.sub (E' := [(10, _), (11, _), (12, _)]) ⟨rfl, rfl, rfl, trivial⟩ ?_
          refine HC.region ?_
          refine HL.quiet (y_add rfl rfl (by omega)) rfl ?_
          refine HL.quiet (y_move rfl) rfl ?_
          refine HL.nil ?_
          exact HQ.again (k + 1) (⟨by omega, by rw [hgo2, if_pos (by unfold boxCheck; split <;> omega)]⟩) (by omega) ⟨rfl, rfl, rfl, trivial⟩ (List.Sublist.cons _ (List.Sublist.refl _)) ((hi2).trans hi3)
    · try simp only [Bool.and_eq_true, Bool.and_eq_false_iff, Bool.or_eq_true, Bool.or_eq_false_iff, decide_eq_true_eq, decide_eq_false_iff_not, Int.not_lt, Int.not_le, beq_iff_eq, bne_iff_ne, ne_eq, Decidable.not_not, beq_eq_false_iff_ne, bne_eq_false_iff_eq, Bool.not_eq_true', Bool.not_eq_false'] at hc1
      refine HC.exit ?_
      refine HQ.then_exit ?_
      refine HQ.then_exit ?_
      refine HQ.inb_exit ?_
      refine HQ.next ?_
      refine HC.sub (E' := []) trivial ?_
      refine HC.seq ?_
      refine HC.region ?_
      refine HL.quiet (y_assign rfl) rfl ?_
      refine HL.nil ?_
      refine HQ.next ?_
      refine HC.ret ?_
      refine HQ.doneP (Res.one Tryd.results29 rfl) (List.Sublist.refl _) (PLe.refl _) ?_
      show Value.int .i64 0 = _
      rw [filterCheck_le (by omega), hgo, List.drop_eq_nil_of_le (by omega), boxesGo]

theorem filter_tabled (I : PHeap) (v : Value) (l : List Box) (h : Val I v l) (hok : FilterOk l) : Pure Tryd.prog 30 [v] I (fun r _ => r = .agg (tabV (tabOf l)).toArray) := by
  obtain ⟨ad, cap, rfl, hcap, hE⟩ := h.slice
  have hlen := hok.len
  refine Pure.of_body Tryd.func30 rfl Tryd.ntmps30 rfl (fun W Lf => ?_)
  refine HC.seq ?_
  refine HC.region ?_
  refine HL.alloc_agg Tryd.zeroValue69 rfl (fun rt _ => ?_)
  refine HL.nil ?_
  refine HQ.next ?_
  refine HC.seq ?_
  refine HC.region ?_
  refine HL.alloc_agg Tryd.zeroValue69 rfl (fun tb _ => ?_)
  refine HL.nil ?_
  refine HQ.next ?_
  refine HC.seq ?_
  refine HC.seq ?_
  refine HC.region ?_
  refine HL.quiet (y_move rfl) rfl ?_
  refine HL.quiet (y_len_slice Tryd.underlying27 rfl) rfl ?_
  refine HL.quiet (y_move rfl) rfl ?_
  refine HL.nil ?_
  refine HQ.next ?_
  refine HC.sub (E' := [(2, _), (3, _), (10, _), (11, _), (12, _)]) ⟨rfl, rfl, rfl, rfl, rfl, trivial⟩ ?_
  refine HC.block ?_
  refine HC.ownEq (L' := (fun (k : Nat) => (tb, blk (tabV (tabOf (l.take k))) 69) :: (rt, blk [.int .u32 0, .int .u32 0, .int .u32 0, .int .u32 0, .int .u32 0, .int .u32 0, .int .u32 0, .int .u32 0, .int .u32 0, .int .u32 0, .int .u32 0, .int .u32 0, .int .u32 0, .int .u32 0, .int .u32 0, .int .u32 0] 69) :: Lf) 0) (rfl) ?_
  refine HC.sub (E' := (fun (k : Nat) => [(2, .pointer (some ⟨rt, 0, none⟩)), (3, .pointer (some ⟨tb, 0, none⟩)), (10, .slice ad l.length cap), (11, .int .i64 (l.length : Int)), (12, .int .i64 (k : Int))]) 0) ⟨rfl, rfl, rfl, rfl, rfl, trivial⟩ ?_
  refine HC.loop (fun (k : Nat) => l.length - k) (fun (k : Nat) => k ≤ l.length) (fun (k : Nat) => [(2, .pointer (some ⟨rt, 0, none⟩)), (3, .pointer (some ⟨tb, 0, none⟩)), (10, .slice ad l.length cap), (11, .int .i64 (l.length : Int)), (12, .int .i64 (k : Int))]) (fun (k : Nat) => (tb, blk (tabV (tabOf (l.take k))) 69) :: (rt, blk [.int .u32 0, .int .u32 0, .int .u32 0, .int .u32 0, .int .u32 0, .int .u32 0, .int .u32 0, .int .u32 0, .int .u32 0, .int .u32 0, .int .u32 0, .int .u32 0, .int .u32 0, .int .u32 0, .int .u32 0, .int .u32 0] 69) :: Lf) (fun (k : Nat) => I) 0 (by omega) (fun k hC => ?_)
  refine HC.seq ?_
  refine HC.region ?_
  refine HL.quiet (y_lss rfl rfl) rfl ?_
  refine HL.nil ?_
  refine HQ.next ?_
  refine HC.seq ?_
  refine HC.cond rfl (fun hc0 => ?_) (fun hc0 => ?_)
  · try simp only [Bool.and_eq_true, Bool.and_eq_false_iff, Bool.or_eq_true, Bool.or_eq_false_iff, decide_eq_true_eq, decide_eq_false_iff_not, Int.not_lt, Int.not_le, beq_iff_eq, bne_iff_ne, ne_eq, Decidable.not_not, beq_eq_false_iff_ne, bne_eq_false_iff_eq, Bool.not_eq_true', Bool.not_eq_false'] at hc0
    refine HC.skip ?_
    refine HQ.next ?_
    refine HC.sub (E' := [(2, _), (3, _), (10, _), (11, _), (12, _)]) ⟨rfl, rfl, rfl, rfl, rfl, trivial⟩ ?_
    refine HC.seq ?_
    refine HC.block ?_
    refine HC.seq ?_
    refine HC.region ?_
    obtain ⟨b, off, rfl, hel⟩ := hE.at_ (show k < l.length by omega)
    obtain ⟨x, hx⟩ : ∃ x, l[k]? = some x := ⟨l[k]'(by omega), List.getElem?_eq_getElem _⟩
    obtain ⟨xa, xc, hxe, hxs, hc⟩ := (hel k x hx).box
    refine HL.quiet (y_indexAddr (j := k) Tryd.underlying27 Tryd.sizeOf52 rfl rfl (by first | rfl | omega) (by omega)) rfl ?_
    refine HL.quiet (y_loadI_agg (cs := [.int .i64 x.cube.yes, .int .i64 x.cube.no, .slice xa x.spans.length xc]) Tryd.isAgg52 Tryd.sizeOf52 rfl rfl hc) rfl ?_
    refine HL.alloc_agg Tryd.zeroValue52 rfl (fun bx _ => ?_)
    refine HL.store_all_0 Tryd.sizeOf52 rfl rfl rfl rfl rfl ?_
    refine HL.nil ?_
    refine HQ.next ?_
    refine HC.sub (E' := [(2, _), (3, _), (10, _), (11, _), (12, _), (5, _)]) ⟨rfl, rfl, rfl, rfl, rfl, rfl, trivial⟩ ?_
    refine HC.seq ?_
    refine HC.region ?_
    refine HL.quiet (y_assign rfl) rfl ?_
    refine HL.nil ?_
    refine HQ.next ?_
    refine HC.seq ?_
    refine HC.seq ?_
    refine HC.region ?_
    refine HL.quiet (y_fieldAddr (o := 2) (t := 50) Tryd.underlying52 rfl Tryd.sizeOf50 (by decide) rfl) rfl ?_
    refine HL.quiet (y_loadL (k := 0) Tryd.isAgg50 rfl rfl rfl) rfl ?_
    refine HL.quiet (y_len_slice Tryd.underlying50 rfl) rfl ?_
    refine HL.quiet (y_move rfl) rfl ?_
    refine HL.nil ?_
    refine HQ.next ?_
    refine HC.sub (E' := [(2, _), (3, _), (10, _), (11, _), (12, _), (5, _), (6, _), (17, _), (18, _), (19, _)]) ⟨rfl, rfl, rfl, rfl, rfl, rfl, rfl, rfl, rfl, rfl, trivial⟩ ?_
    refine HC.block ?_
    refine HC.sub (E' := (fun (j : Nat) => [(2, .pointer (some ⟨rt, 0, none⟩)), (3, .pointer (some ⟨tb, 0, none⟩)), (5, .pointer (some ⟨bx, 0, none⟩)), (6, .int .u32 (((maskOf (x.spans.take j)).toNat : Int))), (10, .slice (some ⟨b, off, none⟩) l.length cap), (11, .int .i64 (l.length : Int)), (12, .int .i64 (k : Int)), (17, .slice xa x.spans.length xc), (18, .int .i64 (x.spans.length : Int)), (19, .int .i64 (j : Int))]) 0) ⟨rfl, rfl, rfl, rfl, rfl, rfl, rfl, rfl, rfl, rfl, trivial⟩ ?_
    refine HC.loop (fun (j : Nat) => x.spans.length - j) (fun (j : Nat) => j ≤ x.spans.length) (fun (j : Nat) => [(2, .pointer (some ⟨rt, 0, none⟩)), (3, .pointer (some ⟨tb, 0, none⟩)), (5, .pointer (some ⟨bx, 0, none⟩)), (6, .int .u32 (((maskOf (x.spans.take j)).toNat : Int))), (10, .slice (some ⟨b, off, none⟩) l.length cap), (11, .int .i64 (l.length : Int)), (12, .int .i64 (k : Int)), (17, .slice xa x.spans.length xc), (18, .int .i64 (x.spans.length : Int)), (19, .int .i64 (j : Int))]) (fun (j : Nat) => (bx, blk [.int .i64 x.cube.yes, .int .i64 x.cube.no, .slice xa x.spans.length xc] 52) :: (tb, blk (tabV (tabOf (l.take k))) 69) :: (rt, blk [.int .u32 0, .int .u32 0, .int .u32 0, .int .u32 0, .int .u32 0, .int .u32 0, .int .u32 0, .int .u32 0, .int .u32 0, .int .u32 0, .int .u32 0, .int .u32 0, .int .u32 0, .int .u32 0, .int .u32 0, .int .u32 0] 69) :: Lf) (fun (j : Nat) => I) 0 (by omega) (fun j hC => ?_)
    refine HC.seq ?_
    refine HC.region ?_
    refine HL.quiet (y_lss rfl rfl) rfl ?_
    refine HL.nil ?_
    refine HQ.next ?_
    refine HC.seq ?_
    refine HC.cond rfl (fun hc1 => ?_) (fun hc1 => ?_)
    · try simp only [Bool.and_eq_true, Bool.and_eq_false_iff, Bool.or_eq_true, Bool.or_eq_false_iff, decide_eq_true_eq, decide_eq_false_iff_not, Int.not_lt, Int.not_le, beq_iff_eq, bne_iff_ne, ne_eq, Decidable.not_not, beq_eq_false_iff_ne, bne_eq_false_iff_eq, Bool.not_eq_true', Bool.not_eq_false'] at hc1
      refine HC.skip ?_
      refine HQ.next ?_
      refine HC.sub (E' := [(2, _), (3, _), (5, _), (6, _), (10, _), (11, _), (12, _), (17, _), (18, _), (19, _)]) ⟨rfl, rfl, rfl, rfl, rfl, rfl, rfl, rfl, rfl, rfl, trivial⟩ ?_
      refine HC.seq ?_
      refine HC.block ?_
      refine HC.seq ?_
      refine HC.region ?_
      obtain ⟨b2, off2, rfl, hel2⟩ := hxe.at_ (show j < x.spans.length by omega)
      obtain ⟨y, hy⟩ : ∃ y, x.spans[j]? = some y := ⟨x.spans[j]'(by omega), List.getElem?_eq_getElem _⟩
      have hc2 := (hel2 j y hy).span
      have hyok := SpanOk.of (hok.spans x (List.mem_of_getElem? hx)) y (List.mem_of_getElem? hy)
      obtain ⟨hy0, hy1, hy2⟩ := hyok
      have hsl := spanCheck_len (hok.spans x (List.mem_of_getElem? hx))
      refine HL.quiet (y_indexAddr (j := j) Tryd.underlying50 Tryd.sizeOf54 rfl rfl (by first | rfl | omega) (by omega)) rfl ?_
      refine HL.quiet (y_loadI_agg (cs := [.int .i64 y.lo, .int .i64 y.hi]) Tryd.isAgg54 Tryd.sizeOf54 rfl rfl hc2) rfl ?_
      refine HL.alloc_agg Tryd.zeroValue54 rfl (fun b1 _ => ?_)
      refine HL.store_all_0 Tryd.sizeOf54 rfl rfl rfl rfl rfl ?_
      refine HL.nil ?_
      refine HQ.next ?_
      refine HC.sub (E' := [(2, _), (3, _), (5, _), (6, _), (10, _), (11, _), (12, _), (17, _), (18, _), (19, _), (8, _)]) ⟨rfl, rfl, rfl, rfl, rfl, rfl, rfl, rfl, rfl, rfl, rfl, trivial⟩ ?_
      refine HC.region_still Tryd.mixed (by kernel_rfl) ?_
      refine HS.quiet (y_move rfl) rfl ?_
      refine HS.quiet (y_fieldAddr (o := 1) (t := 3) Tryd.underlying54 rfl Tryd.sizeOf3 (by decide) rfl) rfl ?_
      refine HS.quiet (y_loadL (k := 0) Tryd.isAgg3 rfl rfl rfl) rfl ?_
      refine HS.quiet (y_shl rfl rfl (by omega) (by simp only [IntKind.bits]; omega) rfl) rfl ?_
      refine HS.quiet (y_fieldAddr (o := 0) (t := 3) Tryd.underlying54 rfl Tryd.sizeOf3 (by decide) rfl) rfl ?_
      refine HS.quiet (y_loadL (k := 0) Tryd.isAgg3 rfl rfl rfl) rfl ?_
      refine HS.quiet (y_shl rfl rfl (by omega) (by simp only [IntKind.bits]; omega) rfl) rfl ?_
      refine HS.quiet (y_arith_sub (r := ((spanMask y).toNat : Int)) rfl rfl (spanMask_u32 ⟨hy0, hy1, hy2⟩)) rfl ?_
      refine HS.quiet (y_bits (bo := .or) (r := ((maskOf (x.spans.take (j + 1))).toNat : Int)) rfl rfl rfl (by rw [or_u32, take_snoc hy, maskOf_snoc])) rfl ?_
      refine HS.quiet (y_assign rfl) rfl ?_
      refine HS.nil ?_
      refine HQ.inb_normal ?_
      refine HQ.next ?_
      refine HC.sub (E' := [(2, _), (3, _), (5, _), (6, _), (10, _), (11, _), (12, _), (17, _), (18, _), (19, _)]) ⟨rfl, rfl, rfl, rfl, rfl, rfl, rfl, rfl, rfl, rfl, trivial⟩ ?_
      refine HC.region ?_
      refine HL.quiet (y_add rfl rfl (by omega)) rfl ?_
      refine HL.quiet (y_move rfl) rfl ?_
      refine HL.nil ?_
      exact HQ.again (j + 1) (by omega) (by omega) ⟨rfl, rfl, rfl, rfl, rfl, rfl, rfl, rfl, rfl, rfl, trivial⟩ (List.Sublist.cons _ (List.Sublist.cons_cons _ (List.Sublist.cons_cons _ (List.Sublist.cons_cons _ (List.Sublist.refl _))))) (PLe.refl _)
    · try simp only [Bool.and_eq_true, Bool.and_eq_false_iff, Bool.or_eq_true, Bool.or_eq_false_iff, decide_eq_true_eq, decide_eq_false_iff_not, Int.not_lt, Int.not_le, beq_iff_eq, bne_iff_ne, ne_eq, Decidable.not_not, beq_eq_false_iff_ne, bne_eq_false_iff_eq, Bool.not_eq_true', Bool.not_eq_false'] at hc1
      refine HC.exit ?_
      refine HQ.then_exit ?_
      refine HQ.then_exit ?_
      refine HQ.inb_exit ?_
      refine HQ.next ?_
      refine HC.sub (E' := [(2, _), (3, _), (5, _), (6, _), (10, _), (11, _), (12, _)]) ⟨rfl, rfl, rfl, rfl, rfl, rfl, rfl, trivial⟩ ?_
      refine HC.seq ?_
      refine HC.region ?_
      refine HL.quiet (y_move rfl) rfl ?_
      refine HL.nil ?_
      refine HQ.next ?_
      refine HC.block ?_
      refine HC.ownEq (L' := (fun (i : Nat) => (bx, blk [.int .i64 x.cube.yes, .int .i64 x.cube.no, .slice xa x.spans.length xc] 52) :: (tb, blk (tabV (mixT (tabOf (l.take (k + 1))) (tabOf (l.take k)) i)) 69) :: (rt, blk [.int .u32 0, .int .u32 0, .int .u32 0, .int .u32 0, .int .u32 0, .int .u32 0, .int .u32 0, .int .u32 0, .int .u32 0, .int .u32 0, .int .u32 0, .int .u32 0, .int .u32 0, .int .u32 0, .int .u32 0, .int .u32 0] 69) :: Lf) 0) (by simp only [mixT_none]) ?_
      refine HC.sub (E' := (fun (i : Nat) => [(2, .pointer (some ⟨rt, 0, none⟩)), (3, .pointer (some ⟨tb, 0, none⟩)), (5, .pointer (some ⟨bx, 0, none⟩)), (6, .int .u32 (((maskOf (x.spans.take j)).toNat : Int))), (10, .slice (some ⟨b, off, none⟩) l.length cap), (11, .int .i64 (l.length : Int)), (12, .int .i64 (k : Int)), (33, .int .i64 (i : Int))]) 0) ⟨rfl, rfl, rfl, rfl, rfl, rfl, rfl, rfl, trivial⟩ ?_
      refine HC.loop (fun (i : Nat) => 16 - i) (fun (i : Nat) => i ≤ 16) (fun (i : Nat) => [(2, .pointer (some ⟨rt, 0, none⟩)), (3, .pointer (some ⟨tb, 0, none⟩)), (5, .pointer (some ⟨bx, 0, none⟩)), (6, .int .u32 (((maskOf (x.spans.take j)).toNat : Int))), (10, .slice (some ⟨b, off, none⟩) l.length cap), (11, .int .i64 (l.length : Int)), (12, .int .i64 (k : Int)), (33, .int .i64 (i : Int))]) (fun (i : Nat) => (bx, blk [.int .i64 x.cube.yes, .int .i64 x.cube.no, .slice xa x.spans.length xc] 52) :: (tb, blk (tabV (mixT (tabOf (l.take (k + 1))) (tabOf (l.take k)) i)) 69) :: (rt, blk [.int .u32 0, .int .u32 0, .int .u32 0, .int .u32 0, .int .u32 0, .int .u32 0, .int .u32 0, .int .u32 0, .int .u32 0, .int .u32 0, .int .u32 0, .int .u32 0, .int .u32 0, .int .u32 0, .int .u32 0, .int .u32 0] 69) :: Lf) (fun (i : Nat) => I) 0 (by omega) (fun i hC => ?_)
      refine HC.seq ?_
      refine HC.region ?_
      refine HL.quiet (y_lss rfl rfl) rfl ?_
      refine HL.nil ?_
      refine HQ.next ?_
      refine HC.seq ?_
      refine HC.cond rfl (fun hc2 => ?_) (fun hc2 => ?_)
      · try simp only [Bool.and_eq_true, Bool.and_eq_false_iff, Bool.or_eq_true, Bool.or_eq_false_iff, decide_eq_true_eq, decide_eq_false_iff_not, Int.not_lt, Int.not_le, beq_iff_eq, bne_iff_ne, ne_eq, Decidable.not_not, beq_eq_false_iff_ne, bne_eq_false_iff_eq, Bool.not_eq_true', Bool.not_eq_false'] at hc2
        refine HC.skip ?_
        refine HQ.next ?_
        refine HC.sub (E' := [(2, _), (3, _), (5, _), (6, _), (10, _), (11, _), (12, _), (33, _)]) ⟨rfl, rfl, rfl, rfl, rfl, rfl, rfl, rfl, trivial⟩ ?_
        refine HC.seq ?_
        refine HC.block ?_
        refine HC.seq ?_
        refine HC.region ?_
        refine HL.quiet (y_move rfl) rfl ?_
        refine HL.quiet (y_assign rfl) rfl ?_
        refine HL.nil ?_
        refine HQ.next ?_
        refine HC.sub (E' := [(2, _), (3, _), (5, _), (6, _), (10, _), (11, _), (12, _), (33, _), (9, _)]) ⟨rfl, rfl, rfl, rfl, rfl, rfl, rfl, rfl, rfl, trivial⟩ ?_
        refine HC.seq ?_
        refine HC.region ?_
        refine HL.quiet (y_fieldAddr (o := 0) (t := 49) Tryd.underlying52 rfl Tryd.sizeOf49 (by decide) rfl) rfl ?_
        refine HL.quiet (y_loadL_agg (k := 0) (cs := [.int .i64 x.cube.yes, .int .i64 x.cube.no]) Tryd.isAgg49 Tryd.sizeOf49 rfl rfl rfl rfl) rfl ?_
        refine HL.quiet (y_move rfl) rfl ?_
        refine HL.callP Tryd.call38 (.cons rfl (.cons rfl (.nil))) rfl (cube_In _ x.cube (CubeOk.of (hok.cube x (List.mem_of_getElem? hx))) i (by omega)) ?_
        rintro _ Ii2 hi2 rfl
        refine HL.nil ?_
        refine HQ.next ?_
        refine HC.sub (E' := [(2, _), (3, _), (5, _), (6, _), (10, _), (11, _), (12, _), (33, _), (9, _), (39, _)]) ⟨rfl, rfl, rfl, rfl, rfl, rfl, rfl, rfl, rfl, rfl, trivial⟩ ?_
        refine HC.cond rfl (fun hc3 => ?_) (fun hc3 => ?_)
        · try simp only [Bool.and_eq_true, Bool.and_eq_false_iff, Bool.or_eq_true, Bool.or_eq_false_iff, decide_eq_true_eq, decide_eq_false_iff_not, Int.not_lt, Int.not_le, beq_iff_eq, bne_iff_ne, ne_eq, Decidable.not_not, beq_eq_false_iff_ne, bne_eq_false_iff_eq, Bool.not_eq_true', Bool.not_eq_false'] at hc3
          refine HC.region ?_
          refine HL.quiet (y_move rfl) rfl ?_
          refine HL.quiet (y_indexArr (j := i) Tryd.underlying69 Tryd.sizeOf57 rfl rfl (by first | rfl | omega) (by omega)) rfl ?_
          refine HL.quiet (y_loadL (k := 1) (v := .int .u32 (((tabOf (l.take k) i).toNat : Int))) Tryd.isAgg57 rfl rfl (mixT_get _ _ (by omega))) rfl ?_
          refine HL.quiet (y_move rfl) rfl ?_
          refine HL.quiet (y_bits (bo := .or) (r := ((tabOf (l.take (k + 1)) i).toNat : Int)) rfl rfl rfl (by rw [or_u32, take_snoc hx, tabOf_snoc, boxAdd, if_pos hc3, show x.spans.take j = x.spans from List.take_of_length_le (by omega)])) rfl ?_
          refine HL.quiet (y_indexArr (j := i) Tryd.underlying69 Tryd.sizeOf57 rfl rfl (by first | rfl | omega) (by omega)) rfl ?_
          refine HL.store1s_1 (c' := (tabV (mixT (tabOf (l.take (k + 1))) (tabOf (l.take k)) (i + 1)))) Tryd.sizeOf57 rfl rfl (by rw [tabV_len]; omega) rfl (mixT_set _ _ _) ?_
          refine HL.nil ?_
          refine HQ.inb_normal ?_
          refine HQ.next ?_
          refine HC.sub (E' := [(2, _), (3, _), (5, _), (6, _), (10, _), (11, _), (12, _), (33, _)]) ⟨rfl, rfl, rfl, rfl, rfl, rfl, rfl, rfl, trivial⟩ ?_
          refine HC.region ?_
          refine HL.quiet (y_add rfl rfl (by omega)) rfl ?_
          refine HL.quiet (y_move rfl) rfl ?_
          refine HL.nil ?_
          exact HQ.again (i + 1) (by omega) (by omega) ⟨rfl, rfl, rfl, rfl, rfl, rfl, rfl, rfl, trivial⟩ (List.Sublist.cons_cons _ (List.Sublist.cons_cons _ (List.Sublist.cons_cons _ (List.Sublist.refl _)))) (hi2)
        · try simp only [Bool.and_eq_true, Bool.and_eq_false_iff, Bool.or_eq_true, Bool.or_eq_false_iff, decide_eq_true_eq, decide_eq_false_iff_not, Int.not_lt, Int.not_le, beq_iff_eq, bne_iff_ne, ne_eq, Decidable.not_not, beq_eq_false_iff_ne, bne_eq_false_iff_eq, Bool.not_eq_true', Bool.not_eq_false'] at hc3
          refine HC.skip ?_
          refine HQ.inb_normal ?_
          refine HQ.next ?_
          refine HC.sub (E' := [(2, _), (3, _), (5, _), (6, _), (10, _), (11, _), (12, _), (33, _)]) ⟨rfl, rfl, rfl, rfl, rfl, rfl, rfl, rfl, trivial⟩ ?_
          refine HC.region ?_
          refine HL.ownEq (L' := (bx, blk [.int .i64 x.cube.yes, .int .i64 x.cube.no, .slice xa x.spans.length xc] 52) :: (tb, blk (tabV (mixT (tabOf (l.take (k + 1))) (tabOf (l.take k)) (i + 1))) 69) :: (rt, blk [.int .u32 0, .int .u32 0, .int .u32 0, .int .u32 0, .int .u32 0, .int .u32 0, .int .u32 0, .int .u32 0, .int .u32 0, .int .u32 0, .int .u32 0, .int .u32 0, .int .u32 0, .int .u32 0, .int .u32 0, .int .u32 0] 69) :: Lf) (by rw [mixT_same (by rw [take_snoc hx, tabOf_snoc, boxAdd, if_neg (by simpa using hc3)])]) ?_
          refine HL.quiet (y_add rfl rfl (by omega)) rfl ?_
          refine HL.quiet (y_move rfl) rfl ?_
          refine HL.nil ?_
          exact HQ.again (i + 1) (by omega) (by omega) ⟨rfl, rfl, rfl, rfl, rfl, rfl, rfl, rfl, trivial⟩ (List.Sublist.cons_cons _ (List.Sublist.cons_cons _ (List.Sublist.cons_cons _ (List.Sublist.refl _)))) (hi2)
      · try simp only [Bool.and_eq_true, Bool.and_eq_false_iff, Bool.or_eq_true, Bool.or_eq_false_iff, decide_eq_true_eq, decide_eq_false_iff_not, Int.not_lt, Int.not_le, beq_iff_eq, bne_iff_ne, ne_eq, Decidable.not_not, beq_eq_false_iff_ne, bne_eq_false_iff_eq, Bool.not_eq_true', Bool.not_eq_false'] at hc2
        refine HC.exit ?_
        refine HQ.then_exit ?_
        refine HQ.then_exit ?_
        refine HQ.inb_exit ?_
        refine HQ.inb_normal ?_
        refine HQ.next ?_
        refine HC.sub (E' := [(2, _), (3, _), (10, _), (11, _), (12, _)]) ⟨rfl, rfl, rfl, rfl, rfl, trivial⟩ ?_
        refine HC.region ?_
        refine HL.ownEq (L' := (bx, blk [.int .i64 x.cube.yes, .int .i64 x.cube.no, .slice xa x.spans.length xc] 52) :: (tb, blk (tabV (tabOf (l.take (k + 1)))) 69) :: (rt, blk [.int .u32 0, .int .u32 0, .int .u32 0, .int .u32 0, .int .u32 0, .int .u32 0, .int .u32 0, .int .u32 0, .int .u32 0, .int .u32 0, .int .u32 0, .int .u32 0, .int .u32 0, .int .u32 0, .int .u32 0, .int .u32 0] 69) :: Lf) (by rw [mixT_all (by omega)]) ?_
        refine HL.quiet (y_add rfl rfl (by omega)) rfl ?_
        refine HL.quiet (y_move rfl) rfl ?_
        refine HL.nil ?_
        exact HQ.again (k + 1) (by omega) (by omega) ⟨rfl, rfl, rfl, rfl, rfl, trivial⟩ (List.Sublist.cons _ (List.Sublist.cons_cons _ (List.Sublist.cons_cons _ (List.Sublist.refl _)))) (PLe.refl _)
  · try simp only [Bool.and_eq_true, Bool.and_eq_false_iff, Bool.or_eq_true, Bool.or_eq_false_iff, decide_eq_true_eq, decide_eq_false_iff_not, Int.not_lt, Int.not_le, beq_iff_eq, bne_iff_ne, ne_eq, Decidable.not_not, beq_eq_false_iff_ne, bne_eq_false_iff_eq, Bool.not_eq_true', Bool.not_eq_false'] at hc0
    refine HC.exit ?_
    refine HQ.then_exit ?_
    refine HQ.then_exit ?_
    refine HQ.inb_exit ?_
    refine HQ.next ?_
    refine HC.sub (E' := [(2, _), (3, _)]) ⟨rfl, rfl, trivial⟩ ?_
    refine HC.seq ?_
    refine HC.region ?_
    have hkl : k = l.length := by omega
    subst hkl
    refine HL.quiet (y_loadL_agg (k := 0) (cs := tabV (tabOf (l.take l.length))) Tryd.isAgg69 Tryd.sizeOf69 rfl rfl (by rw [List.drop_zero]; exact List.take_of_length_le (by rw [tabV_len]; omega)) (tabV_len _)) rfl ?_
    refine HL.store_all_1 (vs := tabV (tabOf (l.take l.length))) Tryd.sizeOf69 rfl rfl (tabV_len _) (rfl) (tabV_one _) ?_
    refine HL.nil ?_
    refine HQ.next ?_
    refine HC.sub (E' := [(2, _)]) ⟨rfl, trivial⟩ ?_
    refine HC.ret ?_
    refine HQ.doneP (Res.cell (k := 1) Tryd.results30 Tryd.isAgg69 Tryd.sizeOf69 rfl rfl (tabV_len _)) (List.Sublist.cons _ (List.Sublist.cons _ (List.Sublist.refl _))) (PLe.refl _) ?_
    rw [List.take_length]

end Go.Rm
