/- What this text holds: the contract of text.reader.number, printed by a program of mine (wip/tools/walk.py) from plans of mine. -/
import Derived.Test.YtpcgfadcojaceaaDoorRmTextA
set_option linter.unusedVariables false
set_option linter.unusedSimpArgs false
set_option linter.unusedSectionVars false
namespace Go.Rm
open Go Go.Proofs
set_option maxRecDepth 100000

theorem text_number (I : PHeap) (hG : Globs I) (s : ByteArray) (hs : s.size ≤ 400) (p : Nat) (rest : List UInt8) (hp : Pos s p rest) (r : Nat) (v : Value) : SpecX Tryd.prog 26 [.pointer (some ⟨r, 0, none⟩)] [(r, rdr s p v)] I
    (fun e L' I' => (∃ n rest' q, number rest = some (n, rest') ∧ e = .returned (.int .i64 (n : Int)) ∧ Pos s q rest' ∧ p < q ∧ L' = [(r, rdr s q v)]) ∨ (number rest = none ∧ e = .panicked (faultOf 9) ∧ ∃ q, L' = [(r, rdr s q v)])) := by
  refine SpecX.of_body Tryd.func26 rfl Tryd.ntmps26 rfl (fun W Lf => ?_)
  refine HC.seq ?_
  refine HC.region ?_
  refine HL.quiet (y_assign rfl) rfl ?_
  refine HL.nil ?_
  refine HQ.next ?_
  refine HC.sub (E' := [(0, _)]) ⟨rfl, trivial⟩ ?_
  refine HC.seq ?_
  refine HC.region ?_
  refine HL.quiet (y_move rfl) rfl ?_
  refine HL.quiet (y_nilCheck rfl) rfl ?_
  refine HL.quiet (y_fieldAddr (o := 1) (t := 3) Tryd.underlying44 rfl Tryd.sizeOf3 (by decide) rfl) rfl ?_
  refine HL.quiet (y_loadL (k := 0) Tryd.isAgg3 rfl rfl rfl) rfl ?_
  refine HL.quiet (y_assign rfl) rfl ?_
  refine HL.nil ?_
  refine HQ.next ?_
  refine HC.sub (E' := [(0, _), (3, _)]) ⟨rfl, rfl, trivial⟩ ?_
  refine HC.seq_mid (α := Nat) (fun q => ∃ ds rq, rest = ds ++ rq ∧ (∀ x ∈ ds, isDig x = true) ∧ q = p + ds.length ∧ Pos s q rq ∧ (ds ++ rq).takeWhile isDig = ds ∧ (ds ++ rq).dropWhile isDig = rq) (fun q => [(0, .pointer (some ⟨r, 0, none⟩)), (3, .int .i64 (p : Int))]) (fun q => (r, blk [.string s, .int .i64 (q : Int), v] 44) :: Lf) (fun q => I) ?_ (fun q hM => ?_)
  · skip
    refine HC.block ?_
    refine HC.sub (E' := (fun (q : Nat) => [(0, .pointer (some ⟨r, 0, none⟩)), (3, .int .i64 (p : Int))]) p) ⟨rfl, rfl, trivial⟩ ?_
    refine HC.loop (fun (q : Nat) => s.size - q) (fun (q : Nat) => ∃ ds rq, rest = ds ++ rq ∧ (∀ x ∈ ds, isDig x = true) ∧ q = p + ds.length ∧ Pos s q rq) (fun (q : Nat) => [(0, .pointer (some ⟨r, 0, none⟩)), (3, .int .i64 (p : Int))]) (fun (q : Nat) => (r, blk [.string s, .int .i64 (q : Int), v] 44) :: Lf) (fun (q : Nat) => I) p (⟨[], rest, rfl, by simp, by simp, hp⟩) (fun q hC => ?_)
    obtain ⟨ds, rq, hrest, hd, hq0, hq⟩ := hC
    have hqs := hq.le
    refine HC.seq ?_
    refine HC.seq ?_
    refine HC.region_still Tryd.mixed (by kernel_rfl) ?_
    refine HS.quiet (y_move rfl) rfl ?_
    refine HS.quiet (y_nilCheck rfl) rfl ?_
    refine HS.quiet (y_fieldAddr (o := 1) (t := 3) Tryd.underlying44 rfl Tryd.sizeOf3 (by decide) rfl) rfl ?_
    refine HS.quiet (y_loadL (k := 0) Tryd.isAgg3 rfl rfl rfl) rfl ?_
    refine HS.quiet (y_move rfl) rfl ?_
    refine HS.quiet (y_nilCheck rfl) rfl ?_
    refine HS.quiet (y_fieldAddr (o := 0) (t := 9) Tryd.underlying44 rfl Tryd.sizeOf9 (by decide) rfl) rfl ?_
    refine HS.quiet (y_loadL (k := 0) Tryd.isAgg9 rfl rfl rfl) rfl ?_
    refine HS.quiet (y_len_str Tryd.underlying9 rfl) rfl ?_
    refine HS.quiet (y_lss rfl rfl) rfl ?_
    refine HS.quiet (y_move rfl) rfl ?_
    refine HS.split (t := 21) rfl (fun hg1 => ?_) (fun hg1 => ?_)
    · try simp only [Bool.and_eq_true, Bool.and_eq_false_iff, Bool.or_eq_true, Bool.or_eq_false_iff, decide_eq_true_eq, decide_eq_false_iff_not, Int.not_lt, Int.not_le, beq_iff_eq, bne_iff_ne, ne_eq, Decidable.not_not, beq_eq_false_iff_ne, bne_eq_false_iff_eq, Bool.not_eq_true', Bool.not_eq_false'] at hg1
      refine HS.quiet_guard (t := 21) rfl rfl (y_move rfl) rfl ?_
      refine HS.quiet_guard (t := 21) rfl rfl (y_nilCheck rfl) rfl ?_
      refine HS.quiet_guard (t := 21) rfl rfl (y_fieldAddr (o := 0) (t := 9) Tryd.underlying44 rfl Tryd.sizeOf9 (by decide) rfl) rfl ?_
      refine HS.quiet_guard (t := 21) rfl rfl (y_loadL (k := 0) Tryd.isAgg9 rfl rfl rfl) rfl ?_
      refine HS.quiet_guard (t := 21) rfl rfl (y_move rfl) rfl ?_
      refine HS.quiet_guard (t := 21) rfl rfl (y_nilCheck rfl) rfl ?_
      refine HS.quiet_guard (t := 21) rfl rfl (y_fieldAddr (o := 1) (t := 3) Tryd.underlying44 rfl Tryd.sizeOf3 (by decide) rfl) rfl ?_
      refine HS.quiet_guard (t := 21) rfl rfl (y_loadL (k := 0) Tryd.isAgg3 rfl rfl rfl) rfl ?_
      have h : q < s.size := by omega
      refine HS.quiet_guard (t := 21) rfl rfl (y_index_str (j := q) Tryd.underlying9 rfl rfl (by first | rfl | omega) h) rfl ?_
      refine HS.quiet_guard (t := 21) rfl rfl (y_geq rfl rfl) rfl ?_
      refine HS.quiet (y_pick_true rfl rfl) rfl ?_
      refine HS.quiet (y_move rfl) rfl ?_
      refine HS.split (t := 33) rfl (fun hg3 => ?_) (fun hg3 => ?_)
      · try simp only [Bool.and_eq_true, Bool.and_eq_false_iff, Bool.or_eq_true, Bool.or_eq_false_iff, decide_eq_true_eq, decide_eq_false_iff_not, Int.not_lt, Int.not_le, beq_iff_eq, bne_iff_ne, ne_eq, Decidable.not_not, beq_eq_false_iff_ne, bne_eq_false_iff_eq, Bool.not_eq_true', Bool.not_eq_false'] at hg3
        refine HS.quiet_guard (t := 33) rfl rfl (y_move rfl) rfl ?_
        refine HS.quiet_guard (t := 33) rfl rfl (y_nilCheck rfl) rfl ?_
        refine HS.quiet_guard (t := 33) rfl rfl (y_fieldAddr (o := 0) (t := 9) Tryd.underlying44 rfl Tryd.sizeOf9 (by decide) rfl) rfl ?_
        refine HS.quiet_guard (t := 33) rfl rfl (y_loadL (k := 0) Tryd.isAgg9 rfl rfl rfl) rfl ?_
        refine HS.quiet_guard (t := 33) rfl rfl (y_move rfl) rfl ?_
        refine HS.quiet_guard (t := 33) rfl rfl (y_nilCheck rfl) rfl ?_
        refine HS.quiet_guard (t := 33) rfl rfl (y_fieldAddr (o := 1) (t := 3) Tryd.underlying44 rfl Tryd.sizeOf3 (by decide) rfl) rfl ?_
        refine HS.quiet_guard (t := 33) rfl rfl (y_loadL (k := 0) Tryd.isAgg3 rfl rfl rfl) rfl ?_
        refine HS.quiet_guard (t := 33) rfl rfl (y_index_str (j := q) Tryd.underlying9 rfl rfl (by first | rfl | omega) h) rfl ?_
        refine HS.quiet_guard (t := 33) rfl rfl (y_leq rfl rfl) rfl ?_
        refine HS.quiet (y_pick_true rfl rfl) rfl ?_
        refine HS.nil ?_
        refine HQ.next ?_
        refine HC.sub (E' := [(0, _), (3, _), (22, _), (23, _), (24, _), (25, _), (26, _), (27, _), (28, _), (29, _), (30, _), (31, _), (34, _), (35, _), (36, _), (37, _), (38, _), (39, _), (40, _), (41, _), (42, _), (43, _), (44, _)]) ⟨rfl, rfl, rfl, rfl, rfl, rfl, rfl, rfl, rfl, rfl, rfl, rfl, rfl, rfl, rfl, rfl, rfl, rfl, rfl, rfl, rfl, rfl, rfl, trivial⟩ ?_
        refine HC.cond rfl (fun hc0 => ?_) (fun hc0 => ?_)
        · try simp only [Bool.and_eq_true, Bool.and_eq_false_iff, Bool.or_eq_true, Bool.or_eq_false_iff, decide_eq_true_eq, decide_eq_false_iff_not, Int.not_lt, Int.not_le, beq_iff_eq, bne_iff_ne, ne_eq, Decidable.not_not, beq_eq_false_iff_ne, bne_eq_false_iff_eq, Bool.not_eq_true', Bool.not_eq_false'] at hc0
          refine HC.skip ?_
          refine HQ.next ?_
          refine HC.sub (E' := [(0, _), (3, _), (22, _), (23, _), (24, _), (25, _), (26, _), (27, _), (28, _), (29, _), (30, _), (31, _), (34, _), (35, _), (36, _), (37, _), (38, _), (39, _), (40, _), (41, _), (42, _), (43, _)]) ⟨rfl, rfl, rfl, rfl, rfl, rfl, rfl, rfl, rfl, rfl, rfl, rfl, rfl, rfl, rfl, rfl, rfl, rfl, rfl, rfl, rfl, rfl, trivial⟩ ?_
          refine HC.block ?_
          refine HC.region ?_
          obtain ⟨r2, hr2, hq2⟩ := hq.get h
          refine HL.quiet (y_move rfl) rfl ?_
          refine HL.quiet (y_nilCheck rfl) rfl ?_
          refine HL.quiet (y_fieldAddr (o := 1) (t := 3) Tryd.underlying44 rfl Tryd.sizeOf3 (by decide) rfl) rfl ?_
          refine HL.quiet (y_loadL (k := 0) Tryd.isAgg3 rfl rfl rfl) rfl ?_
          refine HL.quiet (y_add rfl rfl (by omega)) rfl ?_
          refine HL.quiet (y_nilCheck rfl) rfl ?_
          refine HL.quiet (y_fieldAddr (o := 1) (t := 3) Tryd.underlying44 rfl Tryd.sizeOf3 (by decide) rfl) rfl ?_
          refine HL.store1_0 (c' := [.string s, .int .i64 ((q : Int) + 1), v]) Tryd.sizeOf3 rfl rfl rfl rfl rfl ?_
          refine HL.nil ?_
          refine HQ.inb_normal ?_
          exact HQ.again (q + 1) (⟨ds ++ [s[q]'h], r2, by rw [hrest, hr2]; simp, by intro x hx; rcases List.mem_append.1 hx with hx | hx; exact hd x hx; rw [List.mem_singleton] at hx; rw [hx]; simp only [isDig, Bool.and_eq_true, decide_eq_true_eq]; omega, by simp; omega, hq2⟩) (by omega) ⟨rfl, rfl, trivial⟩ (List.Sublist.cons_cons _ (List.Sublist.refl _)) (PLe.refl _)
        · try simp only [Bool.and_eq_true, Bool.and_eq_false_iff, Bool.or_eq_true, Bool.or_eq_false_iff, decide_eq_true_eq, decide_eq_false_iff_not, Int.not_lt, Int.not_le, beq_iff_eq, bne_iff_ne, ne_eq, Decidable.not_not, beq_eq_false_iff_ne, bne_eq_false_iff_eq, Bool.not_eq_true', Bool.not_eq_false'] at hc0
          refine HC.exit ?_
          refine HQ.then_exit ?_
          refine HQ.then_exit ?_
          refine HQ.inb_exit ?_
          exact HQ.mid q (⟨ds, rq, hrest, hd, hq0, hq, takeWhile_stop hd (by intro x rr hx; subst hx; obtain ⟨hlt, hxe, _⟩ := hq.cons; subst hxe; simp only [isDig, Bool.and_eq_false_iff, decide_eq_false_iff_not]; omega)⟩) ⟨rfl, rfl, trivial⟩ (List.Sublist.cons_cons _ (List.Sublist.refl _)) (PLe.refl _)
      · try simp only [Bool.and_eq_true, Bool.and_eq_false_iff, Bool.or_eq_true, Bool.or_eq_false_iff, decide_eq_true_eq, decide_eq_false_iff_not, Int.not_lt, Int.not_le, beq_iff_eq, bne_iff_ne, ne_eq, Decidable.not_not, beq_eq_false_iff_ne, bne_eq_false_iff_eq, Bool.not_eq_true', Bool.not_eq_false'] at hg3
        refine HS.pass (t := 33) rfl rfl rfl rfl ?_
        refine HS.pass (t := 33) rfl rfl rfl rfl ?_
        refine HS.pass (t := 33) rfl rfl rfl rfl ?_
        refine HS.pass (t := 33) rfl rfl rfl rfl ?_
        refine HS.pass (t := 33) rfl rfl rfl rfl ?_
        refine HS.pass (t := 33) rfl rfl rfl rfl ?_
        refine HS.pass (t := 33) rfl rfl rfl rfl ?_
        refine HS.pass (t := 33) rfl rfl rfl rfl ?_
        refine HS.pass (t := 33) rfl rfl rfl rfl ?_
        refine HS.pass (t := 33) rfl rfl rfl rfl ?_
        refine HS.quiet (y_pick_false rfl rfl) rfl ?_
        refine HS.nil ?_
        refine HQ.next ?_
        refine HC.sub (E' := [(0, _), (3, _), (22, _), (23, _), (24, _), (25, _), (26, _), (27, _), (28, _), (29, _), (30, _), (31, _), (34, _), (35, _), (36, _), (37, _), (38, _), (39, _), (40, _), (41, _), (42, _), (43, _), (44, _)]) ⟨rfl, rfl, rfl, rfl, rfl, rfl, rfl, rfl, rfl, rfl, rfl, rfl, rfl, rfl, rfl, rfl, rfl, rfl, rfl, rfl, rfl, rfl, rfl, trivial⟩ ?_
        refine HC.cond_false rfl ?_
        refine HC.exit ?_
        refine HQ.then_exit ?_
        refine HQ.then_exit ?_
        refine HQ.inb_exit ?_
        exact HQ.mid q (⟨ds, rq, hrest, hd, hq0, hq, takeWhile_stop hd (by intro x rr hx; subst hx; obtain ⟨hlt, hxe, _⟩ := hq.cons; subst hxe; simp only [isDig, Bool.and_eq_false_iff, decide_eq_false_iff_not]; omega)⟩) ⟨rfl, rfl, trivial⟩ (List.Sublist.cons_cons _ (List.Sublist.refl _)) (PLe.refl _)
    · try simp only [Bool.and_eq_true, Bool.and_eq_false_iff, Bool.or_eq_true, Bool.or_eq_false_iff, decide_eq_true_eq, decide_eq_false_iff_not, Int.not_lt, Int.not_le, beq_iff_eq, bne_iff_ne, ne_eq, Decidable.not_not, beq_eq_false_iff_ne, bne_eq_false_iff_eq, Bool.not_eq_true', Bool.not_eq_false'] at hg1
      refine HS.pass (t := 21) rfl rfl rfl rfl ?_
      refine HS.pass (t := 21) rfl rfl rfl rfl ?_
      refine HS.pass (t := 21) rfl rfl rfl rfl ?_
      refine HS.pass (t := 21) rfl rfl rfl rfl ?_
      refine HS.pass (t := 21) rfl rfl rfl rfl ?_
      refine HS.pass (t := 21) rfl rfl rfl rfl ?_
      refine HS.pass (t := 21) rfl rfl rfl rfl ?_
      refine HS.pass (t := 21) rfl rfl rfl rfl ?_
      refine HS.pass (t := 21) rfl rfl rfl rfl ?_
      refine HS.pass (t := 21) rfl rfl rfl rfl ?_
      refine HS.quiet (y_pick_false rfl rfl) rfl ?_
      refine HS.quiet (y_move rfl) rfl ?_
      refine HS.pass (t := 33) rfl rfl rfl rfl ?_
      refine HS.pass (t := 33) rfl rfl rfl rfl ?_
      refine HS.pass (t := 33) rfl rfl rfl rfl ?_
      refine HS.pass (t := 33) rfl rfl rfl rfl ?_
      refine HS.pass (t := 33) rfl rfl rfl rfl ?_
      refine HS.pass (t := 33) rfl rfl rfl rfl ?_
      refine HS.pass (t := 33) rfl rfl rfl rfl ?_
      refine HS.pass (t := 33) rfl rfl rfl rfl ?_
      refine HS.pass (t := 33) rfl rfl rfl rfl ?_
      refine HS.pass (t := 33) rfl rfl rfl rfl ?_
      refine HS.quiet (y_pick_false rfl rfl) rfl ?_
      refine HS.nil ?_
      refine HQ.next ?_
      refine HC.sub (E' := [(0, _), (3, _), (22, _), (23, _), (24, _), (25, _), (26, _), (27, _), (28, _), (29, _), (30, _), (31, _), (34, _), (35, _), (36, _), (37, _), (38, _), (39, _), (40, _), (41, _), (42, _), (43, _), (44, _)]) ⟨rfl, rfl, rfl, rfl, rfl, rfl, rfl, rfl, rfl, rfl, rfl, rfl, rfl, rfl, rfl, rfl, rfl, rfl, rfl, rfl, rfl, rfl, rfl, trivial⟩ ?_
      refine HC.cond_false rfl ?_
      refine HC.exit ?_
      refine HQ.then_exit ?_
      refine HQ.then_exit ?_
      refine HQ.inb_exit ?_
      exact HQ.mid q (⟨ds, rq, hrest, hd, hq0, hq, takeWhile_stop hd (by intro x rr hx; subst hx; obtain ⟨hlt, hxe, _⟩ := hq.cons; subst hxe; simp only [isDig, Bool.and_eq_false_iff, decide_eq_false_iff_not]; omega)⟩) ⟨rfl, rfl, trivial⟩ (List.Sublist.cons_cons _ (List.Sublist.refl _)) (PLe.refl _)
  · obtain ⟨ds, rq, hrest, hd, hq0, hq, htw, hdw⟩ := hM
    subst hrest
    have hdd : (s.extract p q).data.toList = ds := by rw [hq0]; exact hp.extract
    have hqs := hq.le
    have hdl : (s.extract p q).size = ds.length := by rw [← hdd]; rfl
    refine HC.seq ?_
    refine HC.region_still Tryd.mixed (by kernel_rfl) ?_
    refine HS.quiet (y_move rfl) rfl ?_
    refine HS.quiet (y_nilCheck rfl) rfl ?_
    refine HS.quiet (y_fieldAddr (o := 0) (t := 9) Tryd.underlying44 rfl Tryd.sizeOf9 (by decide) rfl) rfl ?_
    refine HS.quiet (y_loadL (k := 0) Tryd.isAgg9 rfl rfl rfl) rfl ?_
    refine HS.quiet (y_move rfl) rfl ?_
    refine HS.quiet (y_move rfl) rfl ?_
    refine HS.quiet (y_nilCheck rfl) rfl ?_
    refine HS.quiet (y_fieldAddr (o := 1) (t := 3) Tryd.underlying44 rfl Tryd.sizeOf3 (by decide) rfl) rfl ?_
    refine HS.quiet (y_loadL (k := 0) Tryd.isAgg3 rfl rfl rfl) rfl ?_
    refine HS.quiet (y_slice_str (p := p) (q := q) Tryd.underlying9 rfl rfl rfl (by omega) (by omega)) rfl ?_
    refine HS.quiet (y_assign rfl) rfl ?_
    refine HS.nil ?_
    refine HQ.next ?_
    refine HC.sub (E' := [(4, _)]) ⟨rfl, trivial⟩ ?_
    refine HC.seq ?_
    refine HC.region ?_
    refine HL.quiet (y_move rfl) rfl ?_
    refine HL.callP Tryd.call34 (.cons rfl (.nil)) rfl (strconv_Atoi _ hG _ (by have := hq.le; simp only [ByteArray.size_extract]; omega)) ?_
    rintro _ I1 hI1 ⟨n, ev, rfl, hA⟩
    rcases hA with ⟨rfl, hok⟩ | ⟨⟨et, ep, rfl⟩, hno⟩
    · skip
      refine HL.quiet (y_move rfl) rfl ?_
      refine HL.quiet (y_extract rfl rfl) rfl ?_
      refine HL.quiet (y_extract rfl rfl) rfl ?_
      refine HL.quiet (y_assign rfl) rfl ?_
      refine HL.quiet (y_assign rfl) rfl ?_
      refine HL.nil ?_
      refine HQ.next ?_
      refine HC.sub (E' := [(4, _), (5, _), (6, _)]) ⟨rfl, rfl, rfl, trivial⟩ ?_
      refine HC.seq ?_
      refine HC.seq ?_
      refine HC.region ?_
      refine HL.quiet (y_move rfl) rfl ?_
      refine HL.quiet (y_neq_nil_nil Tryd.underlying73 rfl) rfl ?_
      refine HL.quiet (y_move rfl) rfl ?_
      refine HL.quiet_guard (t := 69) rfl rfl (y_move rfl) rfl ?_
      refine HL.quiet_guard (t := 69) rfl rfl (y_len_str Tryd.underlying9 rfl) rfl ?_
      refine HL.quiet_guard (t := 69) rfl rfl (y_gtr rfl rfl) rfl ?_
      refine HL.quiet (y_pick_false rfl rfl) rfl ?_
      refine HL.quiet (y_move rfl) rfl ?_
      refine HL.split (t := 74) rfl (fun hg5 => ?_) (fun hg5 => ?_)
      · try simp only [Bool.and_eq_true, Bool.and_eq_false_iff, Bool.or_eq_true, Bool.or_eq_false_iff, decide_eq_true_eq, decide_eq_false_iff_not, Int.not_lt, Int.not_le, beq_iff_eq, bne_iff_ne, ne_eq, Decidable.not_not, beq_eq_false_iff_ne, bne_eq_false_iff_eq, Bool.not_eq_true', Bool.not_eq_false'] at hg5
        refine HL.pass (t := 74) rfl rfl rfl rfl ?_
        refine HL.pass (t := 74) rfl rfl rfl rfl ?_
        refine HL.pass (t := 74) rfl rfl rfl rfl ?_
        refine HL.pass (t := 74) rfl rfl rfl rfl ?_
        refine HL.quiet (y_pick_true rfl rfl) rfl ?_
        refine HL.nil ?_
        refine HQ.next ?_
        refine HC.sub (E' := [(5, _), (79, _)]) ⟨rfl, rfl, trivial⟩ ?_
        refine HC.cond_true rfl ?_
        refine HC.region ?_
        refine HL.callX0 (Lp := []) Tryd.call35 (.cons rfl (.nil)) (List.Perm.refl _) rfl (text_bad _ 9) ?_ ?_ ?_
        rotate_left
        · rintro _ _ _ hi ⟨h, rfl, rfl⟩; cases h
          refine HQ.then_panic ?_
          refine HQ.doneX_panic (L' := [(r, rdr s q v)]) (List.Sublist.refl _) (by first | exact PLe.refl _ | exact hI1 | exact hI1.trans hI2) (.inr ⟨?_, rfl, q, rfl⟩)
          rw [Rm.number, htw, numeral_long (by omega)]; rfl
        · rintro _ _ _ ⟨h, _⟩; cases h
        rintro _ _ _ _ ⟨h, _⟩; cases h
      · try simp only [Bool.and_eq_true, Bool.and_eq_false_iff, Bool.or_eq_true, Bool.or_eq_false_iff, decide_eq_true_eq, decide_eq_false_iff_not, Int.not_lt, Int.not_le, beq_iff_eq, bne_iff_ne, ne_eq, Decidable.not_not, beq_eq_false_iff_ne, bne_eq_false_iff_eq, Bool.not_eq_true', Bool.not_eq_false'] at hg5
        refine HL.quiet_guard (t := 74) rfl rfl (y_move rfl) rfl ?_
        obtain ⟨k, hk, rfl, hnum⟩ := numeral_ok hd (by rw [← hdd]; exact hok) (by omega)
        refine HL.unguard (s := 74) rfl rfl ?_
        refine HL.callP Tryd.call23 (.cons rfl (.nil)) rfl (strconv_Itoa _ k hk) ?_
        rintro _ I2 hI2 rfl
        refine HL.quiet_guard (t := 74) rfl rfl (y_move rfl) rfl ?_
        refine HL.quiet_guard (t := 74) rfl rfl (y_strneq rfl rfl) rfl ?_
        refine HL.quiet (y_pick_false rfl rfl) rfl ?_
        refine HL.nil ?_
        refine HQ.next ?_
        refine HC.sub (E' := [(5, _), (79, _)]) ⟨rfl, rfl, trivial⟩ ?_
        refine HC.cond rfl (fun hc4 => ?_) (fun hc4 => ?_)
        · try simp only [Bool.and_eq_true, Bool.and_eq_false_iff, Bool.or_eq_true, Bool.or_eq_false_iff, decide_eq_true_eq, decide_eq_false_iff_not, Int.not_lt, Int.not_le, beq_iff_eq, bne_iff_ne, ne_eq, Decidable.not_not, beq_eq_false_iff_ne, bne_eq_false_iff_eq, Bool.not_eq_true', Bool.not_eq_false'] at hc4
          refine HC.region ?_
          refine HL.callX0 (Lp := []) Tryd.call35 (.cons rfl (.nil)) (List.Perm.refl _) rfl (text_bad _ 9) ?_ ?_ ?_
          rotate_left
          · rintro _ _ _ hi ⟨h, rfl, rfl⟩; cases h
            refine HQ.then_panic ?_
            refine HQ.doneX_panic (L' := [(r, rdr s q v)]) (List.Sublist.refl _) (by first | exact PLe.refl _ | exact hI1 | exact hI1.trans hI2) (.inr ⟨?_, rfl, q, rfl⟩)
            rw [Rm.number, htw, (show numeral ds = none by rcases hnum with ⟨h1, h2⟩ | ⟨h1, h2⟩; exact absurd (mk_eq.2 (by rw [hdd]; exact h1)) hc4; exact h2)]; rfl
          · rintro _ _ _ ⟨h, _⟩; cases h
          rintro _ _ _ _ ⟨h, _⟩; cases h
        · try simp only [Bool.and_eq_true, Bool.and_eq_false_iff, Bool.or_eq_true, Bool.or_eq_false_iff, decide_eq_true_eq, decide_eq_false_iff_not, Int.not_lt, Int.not_le, beq_iff_eq, bne_iff_ne, ne_eq, Decidable.not_not, beq_eq_false_iff_ne, bne_eq_false_iff_eq, Bool.not_eq_true', Bool.not_eq_false'] at hc4
          refine HC.skip ?_
          refine HQ.next ?_
          refine HC.sub (E' := [(5, _)]) ⟨rfl, trivial⟩ ?_
          refine HC.seq ?_
          refine HC.region ?_
          refine HL.quiet (y_move rfl) rfl ?_
          refine HL.quiet (y_assign rfl) rfl ?_
          refine HL.nil ?_
          refine HQ.next ?_
          refine HC.sub (E' := [(2, _)]) ⟨rfl, trivial⟩ ?_
          refine HC.ret ?_
          refine HQ.doneX (L' := (r, blk [.string s, .int .i64 (q : Int), v] 44) :: []) (Res.one Tryd.results26 rfl) (List.Sublist.cons_cons _ (List.Sublist.refl _)) (hI1.trans hI2) ?_
          have hnn : numeral ds = some k := by
            rcases hnum with ⟨h1, h2⟩ | ⟨h1, h2⟩
            · exact h2
            · exact absurd (by rw [← hdd]; exact mk_eq.1 hc4) h1
          refine .inl ⟨k, rq, q, by rw [Rm.number, htw, hdw, hnn]; rfl, rfl, hq, ?_, rfl⟩
          cases ds with
          | nil => cases hnn
          | cons x xs => simp at hq0; omega
    · skip
      refine HL.quiet (y_move rfl) rfl ?_
      refine HL.quiet (y_extract rfl rfl) rfl ?_
      refine HL.quiet (y_extract rfl rfl) rfl ?_
      refine HL.quiet (y_assign rfl) rfl ?_
      refine HL.quiet (y_assign rfl) rfl ?_
      refine HL.nil ?_
      refine HQ.next ?_
      refine HC.sub (E' := [(4, _), (5, _), (6, _)]) ⟨rfl, rfl, rfl, trivial⟩ ?_
      refine HC.seq ?_
      refine HC.seq ?_
      refine HC.region ?_
      refine HL.quiet (y_move rfl) rfl ?_
      refine HL.quiet (y_neq_nil_iface Tryd.underlying73 rfl) rfl ?_
      refine HL.quiet (y_move rfl) rfl ?_
      refine HL.pass (t := 69) rfl rfl rfl rfl ?_
      refine HL.pass (t := 69) rfl rfl rfl rfl ?_
      refine HL.pass (t := 69) rfl rfl rfl rfl ?_
      refine HL.quiet (y_pick_true rfl rfl) rfl ?_
      refine HL.quiet (y_move rfl) rfl ?_
      refine HL.pass (t := 74) rfl rfl rfl rfl ?_
      refine HL.pass (t := 74) rfl rfl rfl rfl ?_
      refine HL.pass (t := 74) rfl rfl rfl rfl ?_
      refine HL.pass (t := 74) rfl rfl rfl rfl ?_
      refine HL.quiet (y_pick_true rfl rfl) rfl ?_
      refine HL.nil ?_
      refine HQ.next ?_
      refine HC.sub (E' := [(5, _), (79, _)]) ⟨rfl, rfl, trivial⟩ ?_
      refine HC.cond_true rfl ?_
      refine HC.region ?_
      refine HL.callX0 (Lp := []) Tryd.call35 (.cons rfl (.nil)) (List.Perm.refl _) rfl (text_bad _ 9) ?_ ?_ ?_
      rotate_left
      · rintro _ _ _ hi ⟨h, rfl, rfl⟩; cases h
        refine HQ.then_panic ?_
        refine HQ.doneX_panic (L' := [(r, rdr s q v)]) (List.Sublist.refl _) (by first | exact PLe.refl _ | exact hI1 | exact hI1.trans hI2) (.inr ⟨?_, rfl, q, rfl⟩)
        rw [Rm.number, htw, numeral_no hd (fun m hm => hno m (by rw [hdd]; exact hm))]; rfl
      · rintro _ _ _ ⟨h, _⟩; cases h
      rintro _ _ _ _ ⟨h, _⟩; cases h

end Go.Rm
