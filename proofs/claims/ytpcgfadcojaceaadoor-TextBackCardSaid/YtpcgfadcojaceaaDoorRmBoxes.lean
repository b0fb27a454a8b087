/- What this text holds: contracts of filter.boxes and of its closure, printed by a program of mine (wip/tools/walk.py) from plans of mine. -/
import Derived.Test.YtpcgfadcojaceaaDoorRmMake
import Derived.Test.YtpcgfadcojaceaaDoorRmFilterA
import Derived.Test.YtpcgfadcojaceaaDoorRmSpec4
set_option linter.unusedVariables false
set_option linter.unusedSimpArgs false
set_option linter.unusedSectionVars false
namespace Go.Rm
open Go Go.Proofs
set_option maxRecDepth 100000

theorem boxes_bit (I : PHeap) (t : Nat → BitVec 32) (tb tg : Nat) (G : TypeId) (g : Nat) (hgt : g < 16) (n : Nat) (hn : n < 32) : Spec Tryd.prog 40 (.int .i64 (n : Int) :: [.pointer (some ⟨tb, 0, none⟩), .pointer (some ⟨tg, 0, none⟩)]) [(tb, blk (tabV t) 69), (tg, blk [.int .i64 (g : Int)] G)] I
    (fun r L' J => r = .bool ((t g).getLsbD n) ∧ [(tb, blk (tabV t) 69), (tg, blk [.int .i64 (g : Int)] G)] = L' ∧ I = J) := by
  refine Spec.of_body Tryd.func40 rfl Tryd.ntmps40 rfl (fun W Lf => ?_)
  refine HC.seq ?_
  refine HC.region ?_
  refine HL.quiet (y_assign rfl) rfl ?_
  refine HL.nil ?_
  refine HQ.next ?_
  refine HC.sub (E' := [(0, _), (1, _), (2, _)]) ⟨rfl, rfl, rfl, trivial⟩ ?_
  refine HC.seq ?_
  refine HC.region ?_
  refine HL.quiet (y_loadL (k := 1) Tryd.isAgg3 rfl rfl rfl) rfl ?_
  refine HL.quiet (y_indexArr (j := g) Tryd.underlying69 Tryd.sizeOf57 rfl rfl (by first | rfl | omega) (by omega)) rfl ?_
  refine HL.quiet (y_loadL (k := 0) (v := .int .u32 (((t g).toNat : Int))) Tryd.isAgg57 rfl rfl (by rw [Nat.zero_add, Nat.mul_one]; exact tabV_get t hgt)) rfl ?_
  refine HL.quiet (y_move rfl) rfl ?_
  refine HL.quiet (y_shr (r := ((t g >>> n).toNat : Int)) rfl rfl (by omega) (by simp only [IntKind.bits]; omega) (shr_u32 _ _)) rfl ?_
  refine HL.quiet (y_bits (bo := .and) (r := ((t g >>> n &&& 1#32).toNat : Int)) rfl rfl rfl (and_u32 _ 1#32)) rfl ?_
  refine HL.quiet (y_eql rfl rfl) rfl ?_
  refine HL.quiet (y_assign rfl) rfl ?_
  refine HL.nil ?_
  refine HQ.next ?_
  refine HC.sub (E' := [(4, _)]) ⟨rfl, trivial⟩ ?_
  refine HC.ret ?_
  refine HQ.doneS (L' := (tb, blk (tabV t) 69) :: (tg, blk [.int .i64 (g : Int)] G) :: []) (Res.one Tryd.results40 rfl) (List.Sublist.cons_cons _ (List.Sublist.cons_cons _ (List.Sublist.refl _))) (PLe.refl _) ?_
  exact ⟨congrArg Value.bool (bit_of _ _), rfl, rfl⟩

theorem filter_boxes (I : PHeap) (t : Nat → BitVec 32) : Pure Tryd.prog 31 [.agg (tabV t).toArray] I (fun r I' => Val I' r (boxesOf t)) := by
  refine Pure.of_body Tryd.func31 rfl Tryd.ntmps31 rfl (fun W Lf => ?_)
  refine HC.seq ?_
  refine HC.region ?_
  refine HL.box_agg (c := tabV t) rfl rfl (fun tb _ => ?_)
  refine HL.quiet (y_assign rfl) rfl ?_
  refine HL.nil ?_
  refine HQ.next ?_
  refine HC.sub (E' := [(1, _)]) ⟨rfl, trivial⟩ ?_
  refine HC.seq ?_
  refine HC.region ?_
  refine HL.quiet (y_assign rfl) rfl ?_
  refine HL.nil ?_
  refine HQ.next ?_
  refine HC.seq ?_
  refine HC.region ?_
  refine HL.alloc_agg Tryd.zeroValue80 rfl (fun dn _ => ?_)
  refine HL.nil ?_
  refine HQ.next ?_
  refine HC.seq ?_
  refine HC.seq ?_
  refine HC.region ?_
  refine HL.quiet (y_move rfl) rfl ?_
  refine HL.nil ?_
  refine HQ.next ?_
  refine HC.block ?_
  refine HC.ownEq (L' := (fun (g : Nat) (v : Value) (Lx : Own) (J : PHeap) => (dn, blk (boolV (bxUpto t g).2) 80) :: (tb, blk (tabV t) 69) :: (Lx ++ Lf)) 0 (.slice none 0 0) ([]) I) (rfl) ?_
  refine HC.sub (E' := (fun (g : Nat) (v : Value) (Lx : Own) (J : PHeap) => [(1, .pointer (some ⟨tb, 0, none⟩)), (3, v), (4, .pointer (some ⟨dn, 0, none⟩)), (12, .int .i64 (g : Int))]) 0 (.slice none 0 0) ([]) I) ⟨rfl, rfl, rfl, rfl, trivial⟩ ?_
  refine HC.loop4 (fun (g : Nat) (v : Value) (Lx : Own) (J : PHeap) => 16 - g) (fun (g : Nat) (v : Value) (Lx : Own) (J : PHeap) => g ≤ 16 ∧ PLe I J ∧ ∃ ys, OwnS 52 3 v (bxUpto t g).1.length ys Lx ∧ Flat J (bxUpto t g).1 ys) (fun (g : Nat) (v : Value) (Lx : Own) (J : PHeap) => [(1, .pointer (some ⟨tb, 0, none⟩)), (3, v), (4, .pointer (some ⟨dn, 0, none⟩)), (12, .int .i64 (g : Int))]) (fun (g : Nat) (v : Value) (Lx : Own) (J : PHeap) => (dn, blk (boolV (bxUpto t g).2) 80) :: (tb, blk (tabV t) 69) :: (Lx ++ Lf)) (fun (g : Nat) (v : Value) (Lx : Own) (J : PHeap) => J) 0 (.slice none 0 0) ([]) I (⟨by omega, PLe.refl _, [], OwnS.nil _ _, .nil⟩) (fun g v Lx J hC => ?_)
  obtain ⟨hg, hJ, ys, ho, hF⟩ := hC
  obtain ⟨ad, cap, rfl, _⟩ := ho.shape
  refine HC.seq ?_
  refine HC.region ?_
  refine HL.quiet (y_lss rfl rfl) rfl ?_
  refine HL.nil ?_
  refine HQ.next ?_
  refine HC.seq ?_
  refine HC.cond rfl (fun hc0 => ?_) (fun hc0 => ?_)
  · try simp only [Bool.and_eq_true, Bool.and_eq_false_iff, Bool.or_eq_true, Bool.or_eq_false_iff, decide_eq_true_eq, decide_eq_false_iff_not, Int.not_lt, Int.not_le, beq_iff_eq, bne_iff_ne, ne_eq, Decidable.not_not, beq_eq_false_iff_ne, bne_eq_false_iff_eq, Bool.not_eq_true', Bool.not_eq_false'] at hc0
    refine HC.skip ?_
    refine HQ.next ?_
    refine HC.sub (E' := [(1, _), (3, _), (4, _), (12, _)]) ⟨rfl, rfl, rfl, rfl, trivial⟩ ?_
    refine HC.seq ?_
    refine HC.block ?_
    refine HC.seq ?_
    refine HC.region ?_
    have hgl : g < 16 := by omega
    refine HL.quiet (y_move rfl) rfl ?_
    refine HL.alloc1 Tryd.zeroValue3 rfl rfl (fun tg _ => ?_)
    refine HL.store1_0 (c' := [.int .i64 (g : Int)]) Tryd.sizeOf3 rfl rfl rfl rfl rfl ?_
    refine HL.nil ?_
    refine HQ.next ?_
    refine HC.sub (E' := [(1, _), (3, _), (4, _), (12, _), (5, _)]) ⟨rfl, rfl, rfl, rfl, rfl, trivial⟩ ?_
    refine HC.seq ?_
    refine HC.seq ?_
    refine HC.region ?_
    refine HL.quiet (y_loadL (k := 0) Tryd.isAgg3 rfl rfl rfl) rfl ?_
    refine HL.quiet (y_indexArr (j := g) Tryd.underlying80 Tryd.sizeOf4 rfl rfl (by first | rfl | omega) (by omega)) rfl ?_
    refine HL.quiet (y_loadL (k := 1) (v := .bool ((bxUpto t g).2 g)) Tryd.isAgg4 rfl rfl (boolV_get _ (by omega))) rfl ?_
    refine HL.quiet (y_move rfl) rfl ?_
    refine HL.split (t := 18) rfl (fun hg1 => ?_) (fun hg1 => ?_)
    · try simp only [Bool.and_eq_true, Bool.and_eq_false_iff, Bool.or_eq_true, Bool.or_eq_false_iff, decide_eq_true_eq, decide_eq_false_iff_not, Int.not_lt, Int.not_le, beq_iff_eq, bne_iff_ne, ne_eq, Decidable.not_not, beq_eq_false_iff_ne, bne_eq_false_iff_eq, Bool.not_eq_true', Bool.not_eq_false'] at hg1
      refine HL.pass (t := 18) rfl rfl rfl rfl ?_
      refine HL.pass (t := 18) rfl rfl rfl rfl ?_
      refine HL.pass (t := 18) rfl rfl rfl rfl ?_
      refine HL.pass (t := 18) rfl rfl rfl rfl ?_
      refine HL.quiet (y_pick_true rfl rfl) rfl ?_
      refine HL.nil ?_
      refine HQ.next ?_
      refine HC.sub (E' := [(1, _), (3, _), (4, _), (12, _), (5, _), (19, _), (20, _), (21, _), (22, _), (23, _)]) ⟨rfl, rfl, rfl, rfl, rfl, rfl, rfl, rfl, rfl, rfl, trivial⟩ ?_
      refine HC.cond_true rfl ?_
      refine HC.exit ?_
      refine HQ.then_exit ?_
      refine HQ.inb_exit ?_
      refine HQ.next ?_
      refine HC.sub (E' := [(1, _), (3, _), (4, _), (12, _), (19, _), (20, _), (21, _), (22, _)]) ⟨rfl, rfl, rfl, rfl, rfl, rfl, rfl, rfl, trivial⟩ ?_
      refine HC.region ?_
      have hskip : bxUpto t (g + 1) = bxUpto t g := bxUpto_skip (by first | exact .inl hg1 | exact .inr (BitVec.eq_of_toNat_eq (by have h0 : ((t g).toNat : Int) = 0 := (by assumption); show (t g).toNat = 0; omega)))
      refine HL.ownEq (L' := (tg, blk [.int .i64 (g : Int)] 3) :: (dn, blk (boolV (bxUpto t (g + 1)).2) 80) :: (tb, blk (tabV t) 69) :: (Lx ++ Lf)) (by rw [hskip]) ?_
      refine HL.quiet (y_add rfl rfl (by omega)) rfl ?_
      refine HL.quiet (y_move rfl) rfl ?_
      refine HL.nil ?_
      exact HQ.again (g + 1, _, Lx, J) (show (fun (g : Nat) (v : Value) (Lx : Own) (J : PHeap) => g ≤ 16 ∧ PLe I J ∧ ∃ ys, OwnS 52 3 v (bxUpto t g).1.length ys Lx ∧ Flat J (bxUpto t g).1 ys) (g + 1) (_) Lx J from ⟨by omega, hJ, by rw [hskip]; exact ⟨ys, ho, hF⟩⟩) (show 16 - (g + 1) < 16 - g from by omega) ⟨rfl, rfl, rfl, rfl, trivial⟩ (List.Sublist.cons _ (List.Sublist.cons_cons _ (List.Sublist.cons_cons _ (List.Sublist.refl _)))) (PLe.refl _)
    · try simp only [Bool.and_eq_true, Bool.and_eq_false_iff, Bool.or_eq_true, Bool.or_eq_false_iff, decide_eq_true_eq, decide_eq_false_iff_not, Int.not_lt, Int.not_le, beq_iff_eq, bne_iff_ne, ne_eq, Decidable.not_not, beq_eq_false_iff_ne, bne_eq_false_iff_eq, Bool.not_eq_true', Bool.not_eq_false'] at hg1
      refine HL.quiet_guard (t := 18) rfl rfl (y_loadL (k := 0) Tryd.isAgg3 rfl rfl rfl) rfl ?_
      refine HL.quiet_guard (t := 18) rfl rfl (y_indexArr (j := g) Tryd.underlying69 Tryd.sizeOf57 rfl rfl (by first | rfl | omega) (by omega)) rfl ?_
      refine HL.quiet_guard (t := 18) rfl rfl (y_loadL (k := 2) (v := .int .u32 (((t g).toNat : Int))) Tryd.isAgg57 rfl rfl (by rw [Nat.zero_add, Nat.mul_one]; exact tabV_get t (by omega))) rfl ?_
      refine HL.quiet_guard (t := 18) rfl rfl (y_eql rfl rfl) rfl ?_
      refine HL.quiet (y_pick_false rfl rfl) rfl ?_
      refine HL.nil ?_
      refine HQ.next ?_
      refine HC.sub (E' := [(1, _), (3, _), (4, _), (12, _), (5, _), (19, _), (20, _), (21, _), (22, _), (23, _)]) ⟨rfl, rfl, rfl, rfl, rfl, rfl, rfl, rfl, rfl, rfl, trivial⟩ ?_
      refine HC.cond rfl (fun hc2 => ?_) (fun hc2 => ?_)
      · try simp only [Bool.and_eq_true, Bool.and_eq_false_iff, Bool.or_eq_true, Bool.or_eq_false_iff, decide_eq_true_eq, decide_eq_false_iff_not, Int.not_lt, Int.not_le, beq_iff_eq, bne_iff_ne, ne_eq, Decidable.not_not, beq_eq_false_iff_ne, bne_eq_false_iff_eq, Bool.not_eq_true', Bool.not_eq_false'] at hc2
        refine HC.exit ?_
        refine HQ.then_exit ?_
        refine HQ.inb_exit ?_
        refine HQ.next ?_
        refine HC.sub (E' := [(1, _), (3, _), (4, _), (12, _), (19, _), (20, _), (21, _), (22, _)]) ⟨rfl, rfl, rfl, rfl, rfl, rfl, rfl, rfl, trivial⟩ ?_
        refine HC.region ?_
        have hskip : bxUpto t (g + 1) = bxUpto t g := bxUpto_skip (by first | exact .inl hg1 | exact .inr (BitVec.eq_of_toNat_eq (by have h0 : ((t g).toNat : Int) = 0 := (by assumption); show (t g).toNat = 0; omega)))
        refine HL.ownEq (L' := (tg, blk [.int .i64 (g : Int)] 3) :: (dn, blk (boolV (bxUpto t (g + 1)).2) 80) :: (tb, blk (tabV t) 69) :: (Lx ++ Lf)) (by rw [hskip]) ?_
        refine HL.quiet (y_add rfl rfl (by omega)) rfl ?_
        refine HL.quiet (y_move rfl) rfl ?_
        refine HL.nil ?_
        exact HQ.again (g + 1, _, Lx, J) (show (fun (g : Nat) (v : Value) (Lx : Own) (J : PHeap) => g ≤ 16 ∧ PLe I J ∧ ∃ ys, OwnS 52 3 v (bxUpto t g).1.length ys Lx ∧ Flat J (bxUpto t g).1 ys) (g + 1) (_) Lx J from ⟨by omega, hJ, by rw [hskip]; exact ⟨ys, ho, hF⟩⟩) (show 16 - (g + 1) < 16 - g from by omega) ⟨rfl, rfl, rfl, rfl, trivial⟩ (List.Sublist.cons _ (List.Sublist.cons_cons _ (List.Sublist.cons_cons _ (List.Sublist.refl _)))) (PLe.refl _)
      · try simp only [Bool.and_eq_true, Bool.and_eq_false_iff, Bool.or_eq_true, Bool.or_eq_false_iff, decide_eq_true_eq, decide_eq_false_iff_not, Int.not_lt, Int.not_le, beq_iff_eq, bne_iff_ne, ne_eq, Decidable.not_not, beq_eq_false_iff_ne, bne_eq_false_iff_eq, Bool.not_eq_true', Bool.not_eq_false'] at hc2
        refine HC.skip ?_
        refine HQ.next ?_
        refine HC.sub (E' := [(1, _), (3, _), (4, _), (12, _), (5, _), (19, _), (20, _), (21, _), (22, _)]) ⟨rfl, rfl, rfl, rfl, rfl, rfl, rfl, rfl, rfl, trivial⟩ ?_
        refine HC.seq ?_
        refine HC.region ?_
        have hnd : (bxUpto t g).2 g = false := by simpa using hg1
        have hnz : t g ≠ 0 := fun e => by have h0 : ¬ ((t g).toNat : Int) = 0 := (by assumption); rw [e] at h0; exact h0 rfl
        refine HL.quiet (y_loadL (k := 0) Tryd.isAgg3 rfl rfl rfl) rfl ?_
        refine HL.quiet (y_loadL (k := 0) Tryd.isAgg3 rfl rfl rfl) rfl ?_
        refine HL.quiet (y_arith_sub (r := ((15 - g : Nat) : Int)) rfl rfl (by rw [wrap64_id (by omega)]; omega)) rfl ?_
        refine HL.quiet (y_build (vs := [(0, .int .i64 (g : Int)), (1, .int .i64 (((15 - g : Nat) : Int)))]) (v := .agg #[.int .i64 (g : Int), .int .i64 (((15 - g : Nat) : Int))]) (.cons rfl (.cons rfl (.nil))) (fun w => by kernel_rfl)) rfl ?_
        refine HL.alloc_agg Tryd.zeroValue49 rfl (fun cb _ => ?_)
        refine HL.store_all_0 Tryd.sizeOf49 rfl rfl rfl rfl rfl ?_
        refine HL.nil ?_
        refine HQ.next ?_
        refine HC.sub (E' := [(1, _), (3, _), (4, _), (12, _), (5, _), (19, _), (20, _), (21, _), (22, _), (6, _)]) ⟨rfl, rfl, rfl, rfl, rfl, rfl, rfl, rfl, rfl, rfl, trivial⟩ ?_
        refine HC.seq ?_
        refine HC.seq ?_
        refine HC.region ?_
        refine HL.quiet (y_move rfl) rfl ?_
        refine HL.nil ?_
        refine HQ.next ?_
        refine HC.block ?_
        refine HC.sub (E' := (fun (k : Nat) => [(1, .pointer (some ⟨tb, 0, none⟩)), (3, .slice ad ((bxUpto t g).1.length) cap), (4, .pointer (some ⟨dn, 0, none⟩)), (5, .pointer (some ⟨tg, 0, none⟩)), (6, .pointer (some ⟨cb, 0, none⟩)), (12, .int .i64 (g : Int)), (19, .int .i64 (g : Int)), (20, .pointer (some ⟨tb, 0 + g * 1, none⟩)), (21, .int .u32 (((t g).toNat : Int))), (22, .bool ((((t g).toNat : Int)) == 0)), (28, .int .i64 (k : Int))]) 0) ⟨rfl, rfl, rfl, rfl, rfl, rfl, rfl, rfl, rfl, rfl, rfl, trivial⟩ ?_
        refine HC.loop (fun (k : Nat) => 4 - k) (fun (k : Nat) => k ≤ 4) (fun (k : Nat) => [(1, .pointer (some ⟨tb, 0, none⟩)), (3, .slice ad ((bxUpto t g).1.length) cap), (4, .pointer (some ⟨dn, 0, none⟩)), (5, .pointer (some ⟨tg, 0, none⟩)), (6, .pointer (some ⟨cb, 0, none⟩)), (12, .int .i64 (g : Int)), (19, .int .i64 (g : Int)), (20, .pointer (some ⟨tb, 0 + g * 1, none⟩)), (21, .int .u32 (((t g).toNat : Int))), (22, .bool ((((t g).toNat : Int)) == 0)), (28, .int .i64 (k : Int))]) (fun (k : Nat) => (cb, blk [.int .i64 (((widenUpto t g k).1 : Int)), .int .i64 (((widenUpto t g k).2 : Int))] 49) :: (tg, blk [.int .i64 (g : Int)] 3) :: (dn, blk (boolV (bxUpto t g).2) 80) :: (tb, blk (tabV t) 69) :: (Lx ++ Lf)) (fun (k : Nat) => J) 0 (by omega) (fun k hC => ?_)
        refine HC.seq ?_
        refine HC.region ?_
        refine HL.quiet (y_lss rfl rfl) rfl ?_
        refine HL.nil ?_
        refine HQ.next ?_
        refine HC.seq ?_
        refine HC.cond rfl (fun hc3 => ?_) (fun hc3 => ?_)
        · try simp only [Bool.and_eq_true, Bool.and_eq_false_iff, Bool.or_eq_true, Bool.or_eq_false_iff, decide_eq_true_eq, decide_eq_false_iff_not, Int.not_lt, Int.not_le, beq_iff_eq, bne_iff_ne, ne_eq, Decidable.not_not, beq_eq_false_iff_ne, bne_eq_false_iff_eq, Bool.not_eq_true', Bool.not_eq_false'] at hc3
          refine HC.skip ?_
          refine HQ.next ?_
          refine HC.sub (E' := [(1, _), (3, _), (4, _), (5, _), (6, _), (12, _), (19, _), (20, _), (21, _), (22, _), (28, _)]) ⟨rfl, rfl, rfl, rfl, rfl, rfl, rfl, rfl, rfl, rfl, rfl, trivial⟩ ?_
          refine HC.seq ?_
          refine HC.block ?_
          refine HC.seq ?_
          refine HC.region ?_
          refine HL.quiet (y_move rfl) rfl ?_
          refine HL.quiet (y_assign rfl) rfl ?_
          refine HL.nil ?_
          refine HQ.next ?_
          refine HC.sub (E' := [(1, _), (3, _), (4, _), (5, _), (6, _), (12, _), (19, _), (20, _), (21, _), (22, _), (28, _), (7, _)]) ⟨rfl, rfl, rfl, rfl, rfl, rfl, rfl, rfl, rfl, rfl, rfl, rfl, trivial⟩ ?_
          refine HC.seq ?_
          refine HC.drawn ([]) 12 Tryd.mixed ?_
          obtain ⟨hw1, hw2⟩ := widenUpto_lt t hgl k
          refine HG.take (i := 0) ([]) rfl (by kernel_rfl) (by kernel_rfl) (by kernel_rfl) (PanicOk.then (PanicOk.inb (PanicOk.then (PanicOk.then (PanicOk.inb (PanicOk.then (PanicOk.inb (PanicOk.then (PanicOk.then (PanicOk.inb (PanicOk.then (PanicOk.bodyQ)))))))))))) rfl (.inl ⟨List.nil_sublist _, List.nil_sublist _⟩) (fun I' hI' => (y_fieldAddr (o := 0) (t := 3) Tryd.underlying49 rfl Tryd.sizeOf3 (by decide) rfl)) rfl ?_
          refine HG.take (i := 1) ((cb, blk [.int .i64 (((widenUpto t g k).1 : Int)), .int .i64 (((widenUpto t g k).2 : Int))] 49) :: (tg, blk [.int .i64 (g : Int)] 3) :: (dn, blk (boolV (bxUpto t g).2) 80) :: (tb, blk (tabV t) 69) :: (Lx ++ Lf)) rfl (by kernel_rfl) (by kernel_rfl) (by kernel_rfl) (PanicOk.then (PanicOk.inb (PanicOk.then (PanicOk.then (PanicOk.inb (PanicOk.then (PanicOk.inb (PanicOk.then (PanicOk.then (PanicOk.inb (PanicOk.then (PanicOk.bodyQ)))))))))))) rfl (.inr ⟨by kernel_rfl, List.Sublist.refl _⟩) (fun I' hI' => (y_loadL (k := 0) Tryd.isAgg3 rfl rfl rfl)) rfl ?_
          refine HG.take (i := 2) ([]) rfl (by kernel_rfl) (by kernel_rfl) (by kernel_rfl) (PanicOk.then (PanicOk.inb (PanicOk.then (PanicOk.then (PanicOk.inb (PanicOk.then (PanicOk.inb (PanicOk.then (PanicOk.then (PanicOk.inb (PanicOk.then (PanicOk.bodyQ)))))))))))) rfl (.inl ⟨List.nil_sublist _, List.nil_sublist _⟩) (fun I' hI' => (y_move rfl)) rfl ?_
          refine HG.take (i := 3) ([]) rfl (by kernel_rfl) (by kernel_rfl) (by kernel_rfl) (PanicOk.then (PanicOk.inb (PanicOk.then (PanicOk.then (PanicOk.inb (PanicOk.then (PanicOk.inb (PanicOk.then (PanicOk.then (PanicOk.inb (PanicOk.then (PanicOk.bodyQ)))))))))))) rfl (.inl ⟨List.nil_sublist _, List.nil_sublist _⟩) (fun I' hI' => (y_shl (r := ((2 ^ k : Nat) : Int)) rfl rfl (by omega) (by simp only [IntKind.bits]; omega) (shl_i64 (by omega)))) rfl ?_
          refine HG.take (i := 4) ([]) rfl (by kernel_rfl) (by kernel_rfl) (by kernel_rfl) (PanicOk.then (PanicOk.inb (PanicOk.then (PanicOk.then (PanicOk.inb (PanicOk.then (PanicOk.inb (PanicOk.then (PanicOk.then (PanicOk.inb (PanicOk.then (PanicOk.bodyQ)))))))))))) rfl (.inl ⟨List.nil_sublist _, List.nil_sublist _⟩) (fun I' hI' => (y_bits (bo := .andNot) (r := ((cubeDrop (widenUpto t g k) k).1 : Int)) rfl rfl rfl (andNot_i64 hw1 (by omega)))) rfl ?_
          refine HG.take (i := 5) ([]) rfl (by kernel_rfl) (by kernel_rfl) (by kernel_rfl) (PanicOk.then (PanicOk.inb (PanicOk.then (PanicOk.then (PanicOk.inb (PanicOk.then (PanicOk.inb (PanicOk.then (PanicOk.then (PanicOk.inb (PanicOk.then (PanicOk.bodyQ)))))))))))) rfl (.inl ⟨List.nil_sublist _, List.nil_sublist _⟩) (fun I' hI' => (y_fieldAddr (o := 1) (t := 3) Tryd.underlying49 rfl Tryd.sizeOf3 (by decide) rfl)) rfl ?_
          refine HG.take (i := 6) ((cb, blk [.int .i64 (((widenUpto t g k).1 : Int)), .int .i64 (((widenUpto t g k).2 : Int))] 49) :: (tg, blk [.int .i64 (g : Int)] 3) :: (dn, blk (boolV (bxUpto t g).2) 80) :: (tb, blk (tabV t) 69) :: (Lx ++ Lf)) rfl (by kernel_rfl) (by kernel_rfl) (by kernel_rfl) (PanicOk.then (PanicOk.inb (PanicOk.then (PanicOk.then (PanicOk.inb (PanicOk.then (PanicOk.inb (PanicOk.then (PanicOk.then (PanicOk.inb (PanicOk.then (PanicOk.bodyQ)))))))))))) rfl (.inr ⟨by kernel_rfl, List.Sublist.refl _⟩) (fun I' hI' => (y_loadL (k := 0) Tryd.isAgg3 rfl rfl rfl)) rfl ?_
          refine HG.take (i := 7) ([]) rfl (by kernel_rfl) (by kernel_rfl) (by kernel_rfl) (PanicOk.then (PanicOk.inb (PanicOk.then (PanicOk.then (PanicOk.inb (PanicOk.then (PanicOk.inb (PanicOk.then (PanicOk.then (PanicOk.inb (PanicOk.then (PanicOk.bodyQ)))))))))))) rfl (.inl ⟨List.nil_sublist _, List.nil_sublist _⟩) (fun I' hI' => (y_move rfl)) rfl ?_
          refine HG.take (i := 8) ([]) rfl (by kernel_rfl) (by kernel_rfl) (by kernel_rfl) (PanicOk.then (PanicOk.inb (PanicOk.then (PanicOk.then (PanicOk.inb (PanicOk.then (PanicOk.inb (PanicOk.then (PanicOk.then (PanicOk.inb (PanicOk.then (PanicOk.bodyQ)))))))))))) rfl (.inl ⟨List.nil_sublist _, List.nil_sublist _⟩) (fun I' hI' => (y_shl (r := ((2 ^ k : Nat) : Int)) rfl rfl (by omega) (by simp only [IntKind.bits]; omega) (shl_i64 (by omega)))) rfl ?_
          refine HG.take (i := 9) ([]) rfl (by kernel_rfl) (by kernel_rfl) (by kernel_rfl) (PanicOk.then (PanicOk.inb (PanicOk.then (PanicOk.then (PanicOk.inb (PanicOk.then (PanicOk.inb (PanicOk.then (PanicOk.then (PanicOk.inb (PanicOk.then (PanicOk.bodyQ)))))))))))) rfl (.inl ⟨List.nil_sublist _, List.nil_sublist _⟩) (fun I' hI' => (y_bits (bo := .andNot) (r := ((cubeDrop (widenUpto t g k) k).2 : Int)) rfl rfl rfl (andNot_i64 hw2 (by omega)))) rfl ?_
          refine HG.take (i := 10) ([]) rfl (by kernel_rfl) (by kernel_rfl) (by kernel_rfl) (PanicOk.then (PanicOk.inb (PanicOk.then (PanicOk.then (PanicOk.inb (PanicOk.then (PanicOk.inb (PanicOk.then (PanicOk.then (PanicOk.inb (PanicOk.then (PanicOk.bodyQ)))))))))))) rfl (.inl ⟨List.nil_sublist _, List.nil_sublist _⟩) (fun I' hI' => (y_build (vs := [(0, .int .i64 (((cubeDrop (widenUpto t g k) k).1 : Int))), (1, .int .i64 (((cubeDrop (widenUpto t g k) k).2 : Int)))]) (v := .agg #[.int .i64 (((cubeDrop (widenUpto t g k) k).1 : Int)), .int .i64 (((cubeDrop (widenUpto t g k) k).2 : Int))]) (.cons rfl (.cons rfl (.nil))) (fun w => by kernel_rfl))) rfl ?_
          refine HG.one (i := 11) (by kernel_rfl) rfl (fun hcl hsz => ?_)
          refine HL.alloc_agg Tryd.zeroValue49 rfl (fun db _ => ?_)
          refine HL.nil ?_
          refine HQ.goOn hcl hsz (by kernel_rfl) (List.Sublist.cons _ (List.Sublist.refl _)) (PLe.refl _) ?_
          clear hcl hsz
          refine HG.one (i := 12) (by kernel_rfl) rfl (fun hcl hsz => ?_)
          refine HL.store_all_0 Tryd.sizeOf49 rfl rfl rfl rfl rfl ?_
          refine HL.nil ?_
          refine HQ.goOn_tail hcl hsz (by kernel_rfl) (List.nil_sublist _) (PLe.refl _) ?_
          clear hcl hsz
          refine HG.done (by kernel_rfl) ?_
          refine HQ.next ?_
          refine HC.sub (E' := [(1, _), (3, _), (4, _), (5, _), (6, _), (12, _), (19, _), (20, _), (21, _), (22, _), (28, _), (8, _)]) ⟨rfl, rfl, rfl, rfl, rfl, rfl, rfl, rfl, rfl, rfl, rfl, rfl, trivial⟩ ?_
          refine HC.seq ?_
          refine HC.region ?_
          refine HL.quiet (y_assign rfl) rfl ?_
          refine HL.nil ?_
          refine HQ.next ?_
          refine HC.seq ?_
          refine HC.seq ?_
          refine HC.region ?_
          refine HL.quiet (y_move rfl) rfl ?_
          refine HL.nil ?_
          refine HQ.next ?_
          refine HC.block ?_
          refine HC.sub (E' := (fun (o : Nat) => [(1, .pointer (some ⟨tb, 0, none⟩)), (3, .slice ad ((bxUpto t g).1.length) cap), (4, .pointer (some ⟨dn, 0, none⟩)), (5, .pointer (some ⟨tg, 0, none⟩)), (6, .pointer (some ⟨cb, 0, none⟩)), (8, .pointer (some ⟨db, 0, none⟩)), (9, .bool (sameIn t (cubeDrop (widenUpto t g k) k) g o)), (12, .int .i64 (g : Int)), (19, .int .i64 (g : Int)), (20, .pointer (some ⟨tb, 0 + g * 1, none⟩)), (21, .int .u32 (((t g).toNat : Int))), (22, .bool ((((t g).toNat : Int)) == 0)), (28, .int .i64 (k : Int)), (42, .int .i64 (o : Int))]) 0) ⟨rfl, rfl, rfl, rfl, rfl, rfl, rfl, rfl, rfl, rfl, rfl, rfl, rfl, rfl, trivial⟩ ?_
          refine HC.loop (fun (o : Nat) => 16 - o) (fun (o : Nat) => o ≤ 16) (fun (o : Nat) => [(1, .pointer (some ⟨tb, 0, none⟩)), (3, .slice ad ((bxUpto t g).1.length) cap), (4, .pointer (some ⟨dn, 0, none⟩)), (5, .pointer (some ⟨tg, 0, none⟩)), (6, .pointer (some ⟨cb, 0, none⟩)), (8, .pointer (some ⟨db, 0, none⟩)), (9, .bool (sameIn t (cubeDrop (widenUpto t g k) k) g o)), (12, .int .i64 (g : Int)), (19, .int .i64 (g : Int)), (20, .pointer (some ⟨tb, 0 + g * 1, none⟩)), (21, .int .u32 (((t g).toNat : Int))), (22, .bool ((((t g).toNat : Int)) == 0)), (28, .int .i64 (k : Int)), (42, .int .i64 (o : Int))]) (fun (o : Nat) => (db, blk [.int .i64 (((cubeDrop (widenUpto t g k) k).1 : Int)), .int .i64 (((cubeDrop (widenUpto t g k) k).2 : Int))] 49) :: (cb, blk [.int .i64 (((widenUpto t g k).1 : Int)), .int .i64 (((widenUpto t g k).2 : Int))] 49) :: (tg, blk [.int .i64 (g : Int)] 3) :: (dn, blk (boolV (bxUpto t g).2) 80) :: (tb, blk (tabV t) 69) :: (Lx ++ Lf)) (fun (o : Nat) => J) 0 (by omega) (fun o hC => ?_)
          refine HC.seq ?_
          refine HC.region ?_
          refine HL.quiet (y_lss rfl rfl) rfl ?_
          refine HL.nil ?_
          refine HQ.next ?_
          refine HC.seq ?_
          refine HC.cond rfl (fun hc4 => ?_) (fun hc4 => ?_)
          · try simp only [Bool.and_eq_true, Bool.and_eq_false_iff, Bool.or_eq_true, Bool.or_eq_false_iff, decide_eq_true_eq, decide_eq_false_iff_not, Int.not_lt, Int.not_le, beq_iff_eq, bne_iff_ne, ne_eq, Decidable.not_not, beq_eq_false_iff_ne, bne_eq_false_iff_eq, Bool.not_eq_true', Bool.not_eq_false'] at hc4
            refine HC.skip ?_
            refine HQ.next ?_
            refine HC.sub (E' := [(1, _), (3, _), (4, _), (5, _), (6, _), (8, _), (9, _), (12, _), (19, _), (20, _), (21, _), (22, _), (28, _), (42, _)]) ⟨rfl, rfl, rfl, rfl, rfl, rfl, rfl, rfl, rfl, rfl, rfl, rfl, rfl, rfl, trivial⟩ ?_
            refine HC.seq ?_
            refine HC.block ?_
            refine HC.seq ?_
            refine HC.region ?_
            refine HL.quiet (y_move rfl) rfl ?_
            refine HL.quiet (y_assign rfl) rfl ?_
            refine HL.nil ?_
            refine HQ.next ?_
            refine HC.sub (E' := [(1, _), (3, _), (4, _), (5, _), (6, _), (8, _), (9, _), (12, _), (19, _), (20, _), (21, _), (22, _), (28, _), (42, _), (10, _)]) ⟨rfl, rfl, rfl, rfl, rfl, rfl, rfl, rfl, rfl, rfl, rfl, rfl, rfl, rfl, rfl, trivial⟩ ?_
            refine HC.drawn ((db, blk [.int .i64 (((cubeDrop (widenUpto t g k) k).1 : Int)), .int .i64 (((cubeDrop (widenUpto t g k) k).2 : Int))] 49) :: (cb, blk [.int .i64 (((widenUpto t g k).1 : Int)), .int .i64 (((widenUpto t g k).2 : Int))] 49) :: (tg, blk [.int .i64 (g : Int)] 3) :: (dn, blk (boolV (bxUpto t g).2) 80) :: (tb, blk (tabV t) 69) :: (Lx ++ Lf)) 17 Tryd.mixed ?_
            refine HG.take (i := 0) ([]) rfl (by kernel_rfl) (by kernel_rfl) (by kernel_rfl) (PanicOk.inb (PanicOk.then (PanicOk.then (PanicOk.inb (PanicOk.then (PanicOk.inb (PanicOk.then (PanicOk.then (PanicOk.inb (PanicOk.then (PanicOk.inb (PanicOk.then (PanicOk.then (PanicOk.inb (PanicOk.then (PanicOk.bodyQ)))))))))))))))) rfl (.inl ⟨List.nil_sublist _, List.nil_sublist _⟩) (fun I' hI' => (y_move rfl)) rfl ?_
            refine HG.take (i := 1) ([]) rfl (by kernel_rfl) (by kernel_rfl) (by kernel_rfl) (PanicOk.inb (PanicOk.then (PanicOk.then (PanicOk.inb (PanicOk.then (PanicOk.inb (PanicOk.then (PanicOk.then (PanicOk.inb (PanicOk.then (PanicOk.inb (PanicOk.then (PanicOk.then (PanicOk.inb (PanicOk.then (PanicOk.bodyQ)))))))))))))))) rfl (.inl ⟨List.nil_sublist _, List.nil_sublist _⟩) (fun I' hI' => (y_move rfl)) rfl ?_
            refine HG.split (s := 46) rfl (fun hg3 => ?_) (fun hg3 => ?_)
            · try simp only [Bool.and_eq_true, Bool.and_eq_false_iff, Bool.or_eq_true, Bool.or_eq_false_iff, decide_eq_true_eq, decide_eq_false_iff_not, Int.not_lt, Int.not_le, beq_iff_eq, bne_iff_ne, ne_eq, Decidable.not_not, beq_eq_false_iff_ne, bne_eq_false_iff_eq, Bool.not_eq_true', Bool.not_eq_false'] at hg3
              refine HG.take_guard (i := 2) (s := 46) ((db, blk [.int .i64 (((cubeDrop (widenUpto t g k) k).1 : Int)), .int .i64 (((cubeDrop (widenUpto t g k) k).2 : Int))] 49) :: (cb, blk [.int .i64 (((widenUpto t g k).1 : Int)), .int .i64 (((widenUpto t g k).2 : Int))] 49) :: (tg, blk [.int .i64 (g : Int)] 3) :: (dn, blk (boolV (bxUpto t g).2) 80) :: (tb, blk (tabV t) 69) :: (Lx ++ Lf)) rfl (by kernel_rfl) (by kernel_rfl) (by kernel_rfl) (PanicOk.inb (PanicOk.then (PanicOk.then (PanicOk.inb (PanicOk.then (PanicOk.inb (PanicOk.then (PanicOk.then (PanicOk.inb (PanicOk.then (PanicOk.inb (PanicOk.then (PanicOk.then (PanicOk.inb (PanicOk.then (PanicOk.bodyQ)))))))))))))))) rfl (.inl ⟨List.Sublist.refl _, List.Sublist.refl _⟩) rfl rfl (fun I' hI' => (y_loadL_agg (k := 0) (cs := [.int .i64 (((cubeDrop (widenUpto t g k) k).1 : Int)), .int .i64 (((cubeDrop (widenUpto t g k) k).2 : Int))]) Tryd.isAgg49 Tryd.sizeOf49 rfl rfl rfl rfl)) rfl ?_
              refine HG.take_guard (i := 3) (s := 46) ([]) rfl (by kernel_rfl) (by kernel_rfl) (by kernel_rfl) (PanicOk.inb (PanicOk.then (PanicOk.then (PanicOk.inb (PanicOk.then (PanicOk.inb (PanicOk.then (PanicOk.then (PanicOk.inb (PanicOk.then (PanicOk.inb (PanicOk.then (PanicOk.then (PanicOk.inb (PanicOk.then (PanicOk.bodyQ)))))))))))))))) rfl (.inl ⟨List.nil_sublist _, List.nil_sublist _⟩) rfl rfl (fun I' hI' => (y_move rfl)) rfl ?_
              refine HG.one (i := 4) (by kernel_rfl) rfl (fun hcl hsz => ?_)
              refine HL.unguard (s := 46) rfl rfl ?_
              refine HL.callP Tryd.call38 (.cons rfl (.cons rfl (.nil))) rfl (cube_In _ (cubeOf (cubeDrop (widenUpto t g k) k)) (cubeOf_ok (dropBit_lt hw1) (dropBit_lt hw2)) o (by omega)) ?_
              rintro _ Ii4 hi4 rfl
              refine HL.nil ?_
              refine HQ.goOn hcl hsz (by kernel_rfl) (List.Sublist.refl _) (hi4) ?_
              clear hcl hsz
              refine HG.take_guard (i := 5) (s := 46) ([]) rfl (by kernel_rfl) (by kernel_rfl) (by kernel_rfl) (PanicOk.inb (PanicOk.then (PanicOk.then (PanicOk.inb (PanicOk.then (PanicOk.inb (PanicOk.then (PanicOk.then (PanicOk.inb (PanicOk.then (PanicOk.inb (PanicOk.then (PanicOk.then (PanicOk.inb (PanicOk.then (PanicOk.bodyQ)))))))))))))))) rfl (.inl ⟨List.nil_sublist _, List.nil_sublist _⟩) rfl rfl (fun I' hI' => (y_not rfl)) rfl ?_
              refine HG.take_guard (i := 6) (s := 46) ([]) rfl (by kernel_rfl) (by kernel_rfl) (by kernel_rfl) (PanicOk.inb (PanicOk.then (PanicOk.then (PanicOk.inb (PanicOk.then (PanicOk.inb (PanicOk.then (PanicOk.then (PanicOk.inb (PanicOk.then (PanicOk.inb (PanicOk.then (PanicOk.then (PanicOk.inb (PanicOk.then (PanicOk.bodyQ)))))))))))))))) rfl (.inl ⟨List.nil_sublist _, List.nil_sublist _⟩) rfl rfl (fun I' hI' => (y_move rfl)) rfl ?_
              refine HG.split (s := 51) rfl (fun hg5 => ?_) (fun hg5 => ?_)
              · try simp only [Bool.and_eq_true, Bool.and_eq_false_iff, Bool.or_eq_true, Bool.or_eq_false_iff, decide_eq_true_eq, decide_eq_false_iff_not, Int.not_lt, Int.not_le, beq_iff_eq, bne_iff_ne, ne_eq, Decidable.not_not, beq_eq_false_iff_ne, bne_eq_false_iff_eq, Bool.not_eq_true', Bool.not_eq_false'] at hg5
                refine HG.pass (i := 7) (s := 51) rfl (by kernel_rfl) (by kernel_rfl) (by kernel_rfl) (PanicOk.inb (PanicOk.then (PanicOk.then (PanicOk.inb (PanicOk.then (PanicOk.inb (PanicOk.then (PanicOk.then (PanicOk.inb (PanicOk.then (PanicOk.inb (PanicOk.then (PanicOk.then (PanicOk.inb (PanicOk.then (PanicOk.bodyQ)))))))))))))))) rfl rfl rfl rfl rfl ?_
                refine HG.pass (i := 8) (s := 51) rfl (by kernel_rfl) (by kernel_rfl) (by kernel_rfl) (PanicOk.inb (PanicOk.then (PanicOk.then (PanicOk.inb (PanicOk.then (PanicOk.inb (PanicOk.then (PanicOk.then (PanicOk.inb (PanicOk.then (PanicOk.inb (PanicOk.then (PanicOk.then (PanicOk.inb (PanicOk.then (PanicOk.bodyQ)))))))))))))))) rfl rfl rfl rfl rfl ?_
                refine HG.pass (i := 9) (s := 51) rfl (by kernel_rfl) (by kernel_rfl) (by kernel_rfl) (PanicOk.inb (PanicOk.then (PanicOk.then (PanicOk.inb (PanicOk.then (PanicOk.inb (PanicOk.then (PanicOk.then (PanicOk.inb (PanicOk.then (PanicOk.inb (PanicOk.then (PanicOk.then (PanicOk.inb (PanicOk.then (PanicOk.bodyQ)))))))))))))))) rfl rfl rfl rfl rfl ?_
                refine HG.pass (i := 10) (s := 51) rfl (by kernel_rfl) (by kernel_rfl) (by kernel_rfl) (PanicOk.inb (PanicOk.then (PanicOk.then (PanicOk.inb (PanicOk.then (PanicOk.inb (PanicOk.then (PanicOk.then (PanicOk.inb (PanicOk.then (PanicOk.inb (PanicOk.then (PanicOk.then (PanicOk.inb (PanicOk.then (PanicOk.bodyQ)))))))))))))))) rfl rfl rfl rfl rfl ?_
                refine HG.pass (i := 11) (s := 51) rfl (by kernel_rfl) (by kernel_rfl) (by kernel_rfl) (PanicOk.inb (PanicOk.then (PanicOk.then (PanicOk.inb (PanicOk.then (PanicOk.inb (PanicOk.then (PanicOk.then (PanicOk.inb (PanicOk.then (PanicOk.inb (PanicOk.then (PanicOk.then (PanicOk.inb (PanicOk.then (PanicOk.bodyQ)))))))))))))))) rfl rfl rfl rfl rfl ?_
                refine HG.pass (i := 12) (s := 51) rfl (by kernel_rfl) (by kernel_rfl) (by kernel_rfl) (PanicOk.inb (PanicOk.then (PanicOk.then (PanicOk.inb (PanicOk.then (PanicOk.inb (PanicOk.then (PanicOk.then (PanicOk.inb (PanicOk.then (PanicOk.inb (PanicOk.then (PanicOk.then (PanicOk.inb (PanicOk.then (PanicOk.bodyQ)))))))))))))))) rfl rfl rfl rfl rfl ?_
                refine HG.pass (i := 13) (s := 51) rfl (by kernel_rfl) (by kernel_rfl) (by kernel_rfl) (PanicOk.inb (PanicOk.then (PanicOk.then (PanicOk.inb (PanicOk.then (PanicOk.inb (PanicOk.then (PanicOk.then (PanicOk.inb (PanicOk.then (PanicOk.inb (PanicOk.then (PanicOk.then (PanicOk.inb (PanicOk.then (PanicOk.bodyQ)))))))))))))))) rfl rfl rfl rfl rfl ?_
                refine HG.take_guard (i := 14) (s := 46) ([]) rfl (by kernel_rfl) (by kernel_rfl) (by kernel_rfl) (PanicOk.inb (PanicOk.then (PanicOk.then (PanicOk.inb (PanicOk.then (PanicOk.inb (PanicOk.then (PanicOk.then (PanicOk.inb (PanicOk.then (PanicOk.inb (PanicOk.then (PanicOk.then (PanicOk.inb (PanicOk.then (PanicOk.bodyQ)))))))))))))))) rfl (.inl ⟨List.nil_sublist _, List.nil_sublist _⟩) rfl rfl (fun I' hI' => (y_pick_true rfl rfl)) rfl ?_
                refine HG.take (i := 15) ([]) rfl (by kernel_rfl) (by kernel_rfl) (by kernel_rfl) (PanicOk.inb (PanicOk.then (PanicOk.then (PanicOk.inb (PanicOk.then (PanicOk.inb (PanicOk.then (PanicOk.then (PanicOk.inb (PanicOk.then (PanicOk.inb (PanicOk.then (PanicOk.then (PanicOk.inb (PanicOk.then (PanicOk.bodyQ)))))))))))))))) rfl (.inl ⟨List.nil_sublist _, List.nil_sublist _⟩) (fun I' hI' => (y_pick_true rfl rfl)) rfl ?_
                refine HG.take (i := 16) ([]) rfl (by kernel_rfl) (by kernel_rfl) (by kernel_rfl) (PanicOk.inb (PanicOk.then (PanicOk.then (PanicOk.inb (PanicOk.then (PanicOk.inb (PanicOk.then (PanicOk.then (PanicOk.inb (PanicOk.then (PanicOk.inb (PanicOk.then (PanicOk.then (PanicOk.inb (PanicOk.then (PanicOk.bodyQ)))))))))))))))) rfl (.inl ⟨List.nil_sublist _, List.nil_sublist _⟩) (fun I' hI' => (y_assign rfl)) rfl ?_
                refine HG.done (by kernel_rfl) ?_
                refine HQ.inb_normal ?_
                refine HQ.next ?_
                refine HC.sub (E' := [(1, _), (3, _), (4, _), (5, _), (6, _), (8, _), (9, _), (12, _), (19, _), (20, _), (21, _), (22, _), (28, _), (42, _), (47, _), (48, _), (49, _), (50, _), (51, _), (52, _), (53, _), (54, _), (55, _), (56, _), (57, _), (58, _), (59, _)]) ⟨rfl, rfl, rfl, rfl, rfl, rfl, rfl, rfl, rfl, rfl, rfl, rfl, rfl, rfl, rfl, rfl, rfl, rfl, rfl, rfl, rfl, rfl, rfl, rfl, rfl, rfl, rfl, trivial⟩ ?_
                refine HC.region ?_
                refine HL.quiet (y_add rfl rfl (by omega)) rfl ?_
                refine HL.quiet (y_move rfl) rfl ?_
                refine HL.nil ?_
                exact HQ.again (o + 1) (by omega) (by omega) ⟨rfl, rfl, rfl, rfl, rfl, rfl, (show some (Value.bool true) = some (Value.bool (sameIn t (cubeDrop (widenUpto t g k) k) g (o + 1))) by rw [sameIn_succ]; (try simp only [toNat_beq]); first | (simp [*]; done) | (have h5 := hg5; rw [cubeIn_of] at h5; simp [*])), rfl, rfl, rfl, rfl, rfl, rfl, rfl, trivial⟩ (List.Sublist.cons_cons _ (List.Sublist.cons_cons _ (List.Sublist.cons_cons _ (List.Sublist.cons_cons _ (List.Sublist.cons_cons _ (List.Sublist.refl _)))))) (hi4)
              · try simp only [Bool.and_eq_true, Bool.and_eq_false_iff, Bool.or_eq_true, Bool.or_eq_false_iff, decide_eq_true_eq, decide_eq_false_iff_not, Int.not_lt, Int.not_le, beq_iff_eq, bne_iff_ne, ne_eq, Decidable.not_not, beq_eq_false_iff_ne, bne_eq_false_iff_eq, Bool.not_eq_true', Bool.not_eq_false'] at hg5
                refine HG.take_guard (i := 7) (s := 51) ([]) rfl (by kernel_rfl) (by kernel_rfl) (by kernel_rfl) (PanicOk.inb (PanicOk.then (PanicOk.then (PanicOk.inb (PanicOk.then (PanicOk.inb (PanicOk.then (PanicOk.then (PanicOk.inb (PanicOk.then (PanicOk.inb (PanicOk.then (PanicOk.then (PanicOk.inb (PanicOk.then (PanicOk.bodyQ)))))))))))))))) rfl (.inl ⟨List.nil_sublist _, List.nil_sublist _⟩) rfl rfl (fun I' hI' => (y_move rfl)) rfl ?_
                refine HG.take_guard (i := 8) (s := 51) ([]) rfl (by kernel_rfl) (by kernel_rfl) (by kernel_rfl) (PanicOk.inb (PanicOk.then (PanicOk.then (PanicOk.inb (PanicOk.then (PanicOk.inb (PanicOk.then (PanicOk.then (PanicOk.inb (PanicOk.then (PanicOk.inb (PanicOk.then (PanicOk.then (PanicOk.inb (PanicOk.then (PanicOk.bodyQ)))))))))))))))) rfl (.inl ⟨List.nil_sublist _, List.nil_sublist _⟩) rfl rfl (fun I' hI' => (y_indexArr (j := o) Tryd.underlying69 Tryd.sizeOf57 rfl rfl (by first | rfl | omega) (by omega))) rfl ?_
                refine HG.take_guard (i := 9) (s := 51) ((db, blk [.int .i64 (((cubeDrop (widenUpto t g k) k).1 : Int)), .int .i64 (((cubeDrop (widenUpto t g k) k).2 : Int))] 49) :: (cb, blk [.int .i64 (((widenUpto t g k).1 : Int)), .int .i64 (((widenUpto t g k).2 : Int))] 49) :: (tg, blk [.int .i64 (g : Int)] 3) :: (dn, blk (boolV (bxUpto t g).2) 80) :: (tb, blk (tabV t) 69) :: (Lx ++ Lf)) rfl (by kernel_rfl) (by kernel_rfl) (by kernel_rfl) (PanicOk.inb (PanicOk.then (PanicOk.then (PanicOk.inb (PanicOk.then (PanicOk.inb (PanicOk.then (PanicOk.then (PanicOk.inb (PanicOk.then (PanicOk.inb (PanicOk.then (PanicOk.then (PanicOk.inb (PanicOk.then (PanicOk.bodyQ)))))))))))))))) rfl (.inl ⟨List.Sublist.refl _, List.Sublist.refl _⟩) rfl rfl (fun I' hI' => (y_loadL (k := 4) (v := .int .u32 (((t o).toNat : Int))) Tryd.isAgg57 rfl rfl (by rw [Nat.zero_add, Nat.mul_one]; exact tabV_get t (by omega)))) rfl ?_
                refine HG.take_guard (i := 10) (s := 51) ((db, blk [.int .i64 (((cubeDrop (widenUpto t g k) k).1 : Int)), .int .i64 (((cubeDrop (widenUpto t g k) k).2 : Int))] 49) :: (cb, blk [.int .i64 (((widenUpto t g k).1 : Int)), .int .i64 (((widenUpto t g k).2 : Int))] 49) :: (tg, blk [.int .i64 (g : Int)] 3) :: (dn, blk (boolV (bxUpto t g).2) 80) :: (tb, blk (tabV t) 69) :: (Lx ++ Lf)) rfl (by kernel_rfl) (by kernel_rfl) (by kernel_rfl) (PanicOk.inb (PanicOk.then (PanicOk.then (PanicOk.inb (PanicOk.then (PanicOk.inb (PanicOk.then (PanicOk.then (PanicOk.inb (PanicOk.then (PanicOk.inb (PanicOk.then (PanicOk.then (PanicOk.inb (PanicOk.then (PanicOk.bodyQ)))))))))))))))) rfl (.inl ⟨List.Sublist.refl _, List.Sublist.refl _⟩) rfl rfl (fun I' hI' => (y_loadL (k := 2) Tryd.isAgg3 rfl rfl rfl)) rfl ?_
                refine HG.take_guard (i := 11) (s := 51) ([]) rfl (by kernel_rfl) (by kernel_rfl) (by kernel_rfl) (PanicOk.inb (PanicOk.then (PanicOk.then (PanicOk.inb (PanicOk.then (PanicOk.inb (PanicOk.then (PanicOk.then (PanicOk.inb (PanicOk.then (PanicOk.inb (PanicOk.then (PanicOk.then (PanicOk.inb (PanicOk.then (PanicOk.bodyQ)))))))))))))))) rfl (.inl ⟨List.nil_sublist _, List.nil_sublist _⟩) rfl rfl (fun I' hI' => (y_indexArr (j := g) Tryd.underlying69 Tryd.sizeOf57 rfl rfl (by first | rfl | omega) (by omega))) rfl ?_
                refine HG.take_guard (i := 12) (s := 51) ((db, blk [.int .i64 (((cubeDrop (widenUpto t g k) k).1 : Int)), .int .i64 (((cubeDrop (widenUpto t g k) k).2 : Int))] 49) :: (cb, blk [.int .i64 (((widenUpto t g k).1 : Int)), .int .i64 (((widenUpto t g k).2 : Int))] 49) :: (tg, blk [.int .i64 (g : Int)] 3) :: (dn, blk (boolV (bxUpto t g).2) 80) :: (tb, blk (tabV t) 69) :: (Lx ++ Lf)) rfl (by kernel_rfl) (by kernel_rfl) (by kernel_rfl) (PanicOk.inb (PanicOk.then (PanicOk.then (PanicOk.inb (PanicOk.then (PanicOk.inb (PanicOk.then (PanicOk.then (PanicOk.inb (PanicOk.then (PanicOk.inb (PanicOk.then (PanicOk.then (PanicOk.inb (PanicOk.then (PanicOk.bodyQ)))))))))))))))) rfl (.inl ⟨List.Sublist.refl _, List.Sublist.refl _⟩) rfl rfl (fun I' hI' => (y_loadL (k := 4) (v := .int .u32 (((t g).toNat : Int))) Tryd.isAgg57 rfl rfl (by rw [Nat.zero_add, Nat.mul_one]; exact tabV_get t (by omega)))) rfl ?_
                refine HG.take_guard (i := 13) (s := 51) ([]) rfl (by kernel_rfl) (by kernel_rfl) (by kernel_rfl) (PanicOk.inb (PanicOk.then (PanicOk.then (PanicOk.inb (PanicOk.then (PanicOk.inb (PanicOk.then (PanicOk.then (PanicOk.inb (PanicOk.then (PanicOk.inb (PanicOk.then (PanicOk.then (PanicOk.inb (PanicOk.then (PanicOk.bodyQ)))))))))))))))) rfl (.inl ⟨List.nil_sublist _, List.nil_sublist _⟩) rfl rfl (fun I' hI' => (y_eql rfl rfl)) rfl ?_
                refine HG.take_guard (i := 14) (s := 46) ([]) rfl (by kernel_rfl) (by kernel_rfl) (by kernel_rfl) (PanicOk.inb (PanicOk.then (PanicOk.then (PanicOk.inb (PanicOk.then (PanicOk.inb (PanicOk.then (PanicOk.then (PanicOk.inb (PanicOk.then (PanicOk.inb (PanicOk.then (PanicOk.then (PanicOk.inb (PanicOk.then (PanicOk.bodyQ)))))))))))))))) rfl (.inl ⟨List.nil_sublist _, List.nil_sublist _⟩) rfl rfl (fun I' hI' => (y_pick_false rfl rfl)) rfl ?_
                refine HG.take (i := 15) ([]) rfl (by kernel_rfl) (by kernel_rfl) (by kernel_rfl) (PanicOk.inb (PanicOk.then (PanicOk.then (PanicOk.inb (PanicOk.then (PanicOk.inb (PanicOk.then (PanicOk.then (PanicOk.inb (PanicOk.then (PanicOk.inb (PanicOk.then (PanicOk.then (PanicOk.inb (PanicOk.then (PanicOk.bodyQ)))))))))))))))) rfl (.inl ⟨List.nil_sublist _, List.nil_sublist _⟩) (fun I' hI' => (y_pick_true rfl rfl)) rfl ?_
                refine HG.take (i := 16) ([]) rfl (by kernel_rfl) (by kernel_rfl) (by kernel_rfl) (PanicOk.inb (PanicOk.then (PanicOk.then (PanicOk.inb (PanicOk.then (PanicOk.inb (PanicOk.then (PanicOk.then (PanicOk.inb (PanicOk.then (PanicOk.inb (PanicOk.then (PanicOk.then (PanicOk.inb (PanicOk.then (PanicOk.bodyQ)))))))))))))))) rfl (.inl ⟨List.nil_sublist _, List.nil_sublist _⟩) (fun I' hI' => (y_assign rfl)) rfl ?_
                refine HG.done (by kernel_rfl) ?_
                refine HQ.inb_normal ?_
                refine HQ.next ?_
                refine HC.sub (E' := [(1, _), (3, _), (4, _), (5, _), (6, _), (8, _), (9, _), (12, _), (19, _), (20, _), (21, _), (22, _), (28, _), (42, _), (47, _), (48, _), (49, _), (50, _), (51, _), (52, _), (53, _), (54, _), (55, _), (56, _), (57, _), (58, _), (59, _)]) ⟨rfl, rfl, rfl, rfl, rfl, rfl, rfl, rfl, rfl, rfl, rfl, rfl, rfl, rfl, rfl, rfl, rfl, rfl, rfl, rfl, rfl, rfl, rfl, rfl, rfl, rfl, rfl, trivial⟩ ?_
                refine HC.region ?_
                refine HL.quiet (y_add rfl rfl (by omega)) rfl ?_
                refine HL.quiet (y_move rfl) rfl ?_
                refine HL.nil ?_
                exact HQ.again (o + 1) (by omega) (by omega) ⟨rfl, rfl, rfl, rfl, rfl, rfl, (show some (Value.bool ((((t o).toNat : Int)) == (((t g).toNat : Int)))) = some (Value.bool (sameIn t (cubeDrop (widenUpto t g k) k) g (o + 1))) by rw [sameIn_succ]; (try simp only [toNat_beq]); first | (simp [*]; done) | (have h5 := hg5; rw [cubeIn_of] at h5; simp [*])), rfl, rfl, rfl, rfl, rfl, rfl, rfl, trivial⟩ (List.Sublist.cons_cons _ (List.Sublist.cons_cons _ (List.Sublist.cons_cons _ (List.Sublist.cons_cons _ (List.Sublist.cons_cons _ (List.Sublist.refl _)))))) (hi4)
            · try simp only [Bool.and_eq_true, Bool.and_eq_false_iff, Bool.or_eq_true, Bool.or_eq_false_iff, decide_eq_true_eq, decide_eq_false_iff_not, Int.not_lt, Int.not_le, beq_iff_eq, bne_iff_ne, ne_eq, Decidable.not_not, beq_eq_false_iff_ne, bne_eq_false_iff_eq, Bool.not_eq_true', Bool.not_eq_false'] at hg3
              refine HG.pass (i := 2) (s := 46) rfl (by kernel_rfl) (by kernel_rfl) (by kernel_rfl) (PanicOk.inb (PanicOk.then (PanicOk.then (PanicOk.inb (PanicOk.then (PanicOk.inb (PanicOk.then (PanicOk.then (PanicOk.inb (PanicOk.then (PanicOk.inb (PanicOk.then (PanicOk.then (PanicOk.inb (PanicOk.then (PanicOk.bodyQ)))))))))))))))) rfl rfl rfl rfl rfl ?_
              refine HG.pass (i := 3) (s := 46) rfl (by kernel_rfl) (by kernel_rfl) (by kernel_rfl) (PanicOk.inb (PanicOk.then (PanicOk.then (PanicOk.inb (PanicOk.then (PanicOk.inb (PanicOk.then (PanicOk.then (PanicOk.inb (PanicOk.then (PanicOk.inb (PanicOk.then (PanicOk.then (PanicOk.inb (PanicOk.then (PanicOk.bodyQ)))))))))))))))) rfl rfl rfl rfl rfl ?_
              refine HG.one (i := 4) (by kernel_rfl) rfl (fun hcl hsz => ?_)
              refine HL.pass (t := 46) rfl rfl rfl rfl ?_
              refine HL.nil ?_
              refine HQ.goOn hcl hsz (by kernel_rfl) (List.Sublist.refl _) (PLe.refl _) ?_
              clear hcl hsz
              refine HG.pass (i := 5) (s := 46) rfl (by kernel_rfl) (by kernel_rfl) (by kernel_rfl) (PanicOk.inb (PanicOk.then (PanicOk.then (PanicOk.inb (PanicOk.then (PanicOk.inb (PanicOk.then (PanicOk.then (PanicOk.inb (PanicOk.then (PanicOk.inb (PanicOk.then (PanicOk.then (PanicOk.inb (PanicOk.then (PanicOk.bodyQ)))))))))))))))) rfl rfl rfl rfl rfl ?_
              refine HG.pass (i := 6) (s := 46) rfl (by kernel_rfl) (by kernel_rfl) (by kernel_rfl) (PanicOk.inb (PanicOk.then (PanicOk.then (PanicOk.inb (PanicOk.then (PanicOk.inb (PanicOk.then (PanicOk.then (PanicOk.inb (PanicOk.then (PanicOk.inb (PanicOk.then (PanicOk.then (PanicOk.inb (PanicOk.then (PanicOk.bodyQ)))))))))))))))) rfl rfl rfl rfl rfl ?_
              refine HG.pass (i := 7) (s := 51) rfl (by kernel_rfl) (by kernel_rfl) (by kernel_rfl) (PanicOk.inb (PanicOk.then (PanicOk.then (PanicOk.inb (PanicOk.then (PanicOk.inb (PanicOk.then (PanicOk.then (PanicOk.inb (PanicOk.then (PanicOk.inb (PanicOk.then (PanicOk.then (PanicOk.inb (PanicOk.then (PanicOk.bodyQ)))))))))))))))) rfl rfl rfl rfl rfl ?_
              refine HG.pass (i := 8) (s := 51) rfl (by kernel_rfl) (by kernel_rfl) (by kernel_rfl) (PanicOk.inb (PanicOk.then (PanicOk.then (PanicOk.inb (PanicOk.then (PanicOk.inb (PanicOk.then (PanicOk.then (PanicOk.inb (PanicOk.then (PanicOk.inb (PanicOk.then (PanicOk.then (PanicOk.inb (PanicOk.then (PanicOk.bodyQ)))))))))))))))) rfl rfl rfl rfl rfl ?_
              refine HG.pass (i := 9) (s := 51) rfl (by kernel_rfl) (by kernel_rfl) (by kernel_rfl) (PanicOk.inb (PanicOk.then (PanicOk.then (PanicOk.inb (PanicOk.then (PanicOk.inb (PanicOk.then (PanicOk.then (PanicOk.inb (PanicOk.then (PanicOk.inb (PanicOk.then (PanicOk.then (PanicOk.inb (PanicOk.then (PanicOk.bodyQ)))))))))))))))) rfl rfl rfl rfl rfl ?_
              refine HG.pass (i := 10) (s := 51) rfl (by kernel_rfl) (by kernel_rfl) (by kernel_rfl) (PanicOk.inb (PanicOk.then (PanicOk.then (PanicOk.inb (PanicOk.then (PanicOk.inb (PanicOk.then (PanicOk.then (PanicOk.inb (PanicOk.then (PanicOk.inb (PanicOk.then (PanicOk.then (PanicOk.inb (PanicOk.then (PanicOk.bodyQ)))))))))))))))) rfl rfl rfl rfl rfl ?_
              refine HG.pass (i := 11) (s := 51) rfl (by kernel_rfl) (by kernel_rfl) (by kernel_rfl) (PanicOk.inb (PanicOk.then (PanicOk.then (PanicOk.inb (PanicOk.then (PanicOk.inb (PanicOk.then (PanicOk.then (PanicOk.inb (PanicOk.then (PanicOk.inb (PanicOk.then (PanicOk.then (PanicOk.inb (PanicOk.then (PanicOk.bodyQ)))))))))))))))) rfl rfl rfl rfl rfl ?_
              refine HG.pass (i := 12) (s := 51) rfl (by kernel_rfl) (by kernel_rfl) (by kernel_rfl) (PanicOk.inb (PanicOk.then (PanicOk.then (PanicOk.inb (PanicOk.then (PanicOk.inb (PanicOk.then (PanicOk.then (PanicOk.inb (PanicOk.then (PanicOk.inb (PanicOk.then (PanicOk.then (PanicOk.inb (PanicOk.then (PanicOk.bodyQ)))))))))))))))) rfl rfl rfl rfl rfl ?_
              refine HG.pass (i := 13) (s := 51) rfl (by kernel_rfl) (by kernel_rfl) (by kernel_rfl) (PanicOk.inb (PanicOk.then (PanicOk.then (PanicOk.inb (PanicOk.then (PanicOk.inb (PanicOk.then (PanicOk.then (PanicOk.inb (PanicOk.then (PanicOk.inb (PanicOk.then (PanicOk.then (PanicOk.inb (PanicOk.then (PanicOk.bodyQ)))))))))))))))) rfl rfl rfl rfl rfl ?_
              refine HG.pass (i := 14) (s := 46) rfl (by kernel_rfl) (by kernel_rfl) (by kernel_rfl) (PanicOk.inb (PanicOk.then (PanicOk.then (PanicOk.inb (PanicOk.then (PanicOk.inb (PanicOk.then (PanicOk.then (PanicOk.inb (PanicOk.then (PanicOk.inb (PanicOk.then (PanicOk.then (PanicOk.inb (PanicOk.then (PanicOk.bodyQ)))))))))))))))) rfl rfl rfl rfl rfl ?_
              refine HG.take (i := 15) ([]) rfl (by kernel_rfl) (by kernel_rfl) (by kernel_rfl) (PanicOk.inb (PanicOk.then (PanicOk.then (PanicOk.inb (PanicOk.then (PanicOk.inb (PanicOk.then (PanicOk.then (PanicOk.inb (PanicOk.then (PanicOk.inb (PanicOk.then (PanicOk.then (PanicOk.inb (PanicOk.then (PanicOk.bodyQ)))))))))))))))) rfl (.inl ⟨List.nil_sublist _, List.nil_sublist _⟩) (fun I' hI' => (y_pick_false rfl rfl)) rfl ?_
              refine HG.take (i := 16) ([]) rfl (by kernel_rfl) (by kernel_rfl) (by kernel_rfl) (PanicOk.inb (PanicOk.then (PanicOk.then (PanicOk.inb (PanicOk.then (PanicOk.inb (PanicOk.then (PanicOk.then (PanicOk.inb (PanicOk.then (PanicOk.inb (PanicOk.then (PanicOk.then (PanicOk.inb (PanicOk.then (PanicOk.bodyQ)))))))))))))))) rfl (.inl ⟨List.nil_sublist _, List.nil_sublist _⟩) (fun I' hI' => (y_assign rfl)) rfl ?_
              refine HG.done (by kernel_rfl) ?_
              refine HQ.inb_normal ?_
              refine HQ.next ?_
              refine HC.sub (E' := [(1, _), (3, _), (4, _), (5, _), (6, _), (8, _), (9, _), (12, _), (19, _), (20, _), (21, _), (22, _), (28, _), (42, _), (47, _), (48, _), (49, _), (50, _), (51, _), (52, _), (53, _), (54, _), (55, _), (56, _), (57, _), (58, _), (59, _)]) ⟨rfl, rfl, rfl, rfl, rfl, rfl, rfl, rfl, rfl, rfl, rfl, rfl, rfl, rfl, rfl, rfl, rfl, rfl, rfl, rfl, rfl, rfl, rfl, rfl, rfl, rfl, rfl, trivial⟩ ?_
              refine HC.region ?_
              refine HL.quiet (y_add rfl rfl (by omega)) rfl ?_
              refine HL.quiet (y_move rfl) rfl ?_
              refine HL.nil ?_
              exact HQ.again (o + 1) (by omega) (by omega) ⟨rfl, rfl, rfl, rfl, rfl, rfl, (show some (Value.bool false) = some (Value.bool (sameIn t (cubeDrop (widenUpto t g k) k) g (o + 1))) by rw [sameIn_succ]; (try simp only [toNat_beq]); first | (simp [*]; done) | (have h5 := hg5; rw [cubeIn_of] at h5; simp [*])), rfl, rfl, rfl, rfl, rfl, rfl, rfl, trivial⟩ (List.Sublist.cons_cons _ (List.Sublist.cons_cons _ (List.Sublist.cons_cons _ (List.Sublist.cons_cons _ (List.Sublist.cons_cons _ (List.Sublist.refl _)))))) (PLe.refl _)
          · try simp only [Bool.and_eq_true, Bool.and_eq_false_iff, Bool.or_eq_true, Bool.or_eq_false_iff, decide_eq_true_eq, decide_eq_false_iff_not, Int.not_lt, Int.not_le, beq_iff_eq, bne_iff_ne, ne_eq, Decidable.not_not, beq_eq_false_iff_ne, bne_eq_false_iff_eq, Bool.not_eq_true', Bool.not_eq_false'] at hc4
            refine HC.exit ?_
            refine HQ.then_exit ?_
            refine HQ.then_exit ?_
            refine HQ.inb_exit ?_
            refine HQ.next ?_
            refine HC.sub (E' := [(1, _), (3, _), (4, _), (5, _), (6, _), (8, _), (9, _), (12, _), (19, _), (20, _), (21, _), (22, _), (28, _)]) ⟨rfl, rfl, rfl, rfl, rfl, rfl, rfl, rfl, rfl, rfl, rfl, rfl, rfl, trivial⟩ ?_
            refine HC.seq ?_
            refine HC.region ?_
            have ho16 : o = 16 := by omega
            refine HL.quiet (y_move rfl) rfl ?_
            refine HL.nil ?_
            refine HQ.next ?_
            refine HC.sub (E' := [(1, _), (3, _), (4, _), (5, _), (6, _), (8, _), (12, _), (19, _), (20, _), (21, _), (22, _), (28, _), (62, _)]) ⟨rfl, rfl, rfl, rfl, rfl, rfl, rfl, rfl, rfl, rfl, rfl, rfl, rfl, trivial⟩ ?_
            refine HC.cond rfl (fun hc5 => ?_) (fun hc5 => ?_)
            · try simp only [Bool.and_eq_true, Bool.and_eq_false_iff, Bool.or_eq_true, Bool.or_eq_false_iff, decide_eq_true_eq, decide_eq_false_iff_not, Int.not_lt, Int.not_le, beq_iff_eq, bne_iff_ne, ne_eq, Decidable.not_not, beq_eq_false_iff_ne, bne_eq_false_iff_eq, Bool.not_eq_true', Bool.not_eq_false'] at hc5
              refine HC.region ?_
              refine HL.quiet (y_loadL_agg (k := 0) (cs := [.int .i64 (((cubeDrop (widenUpto t g k) k).1 : Int)), .int .i64 (((cubeDrop (widenUpto t g k) k).2 : Int))]) Tryd.isAgg49 Tryd.sizeOf49 rfl rfl rfl rfl) rfl ?_
              refine HL.store_all_1 Tryd.sizeOf49 rfl rfl rfl rfl rfl ?_
              refine HL.nil ?_
              refine HQ.inb_normal ?_
              refine HQ.next ?_
              refine HC.sub (E' := [(1, _), (3, _), (4, _), (5, _), (6, _), (12, _), (19, _), (20, _), (21, _), (22, _), (28, _)]) ⟨rfl, rfl, rfl, rfl, rfl, rfl, rfl, rfl, rfl, rfl, rfl, trivial⟩ ?_
              refine HC.region ?_
              refine HL.ownEq (L' := (db, blk [.int .i64 (((cubeDrop (widenUpto t g k) k).1 : Int)), .int .i64 (((cubeDrop (widenUpto t g k) k).2 : Int))] 49) :: (cb, blk [.int .i64 (((widenUpto t g (k + 1)).1 : Int)), .int .i64 (((widenUpto t g (k + 1)).2 : Int))] 49) :: (tg, blk [.int .i64 (g : Int)] 3) :: (dn, blk (boolV (bxUpto t g).2) 80) :: (tb, blk (tabV t) 69) :: (Lx ++ Lf)) (by first | rw [widenUpto_yes (by rw [← ho16]; assumption)] | rw [widenUpto_no (by rw [← ho16]; assumption)]) ?_
              refine HL.quiet (y_add rfl rfl (by omega)) rfl ?_
              refine HL.quiet (y_move rfl) rfl ?_
              refine HL.nil ?_
              exact HQ.again (k + 1) (by omega) (by omega) ⟨rfl, rfl, rfl, rfl, rfl, rfl, rfl, rfl, rfl, rfl, rfl, trivial⟩ (List.Sublist.cons _ (List.Sublist.cons_cons _ (List.Sublist.cons_cons _ (List.Sublist.cons_cons _ (List.Sublist.cons_cons _ (List.Sublist.refl _)))))) (PLe.refl _)
            · try simp only [Bool.and_eq_true, Bool.and_eq_false_iff, Bool.or_eq_true, Bool.or_eq_false_iff, decide_eq_true_eq, decide_eq_false_iff_not, Int.not_lt, Int.not_le, beq_iff_eq, bne_iff_ne, ne_eq, Decidable.not_not, beq_eq_false_iff_ne, bne_eq_false_iff_eq, Bool.not_eq_true', Bool.not_eq_false'] at hc5
              refine HC.skip ?_
              refine HQ.inb_normal ?_
              refine HQ.next ?_
              refine HC.sub (E' := [(1, _), (3, _), (4, _), (5, _), (6, _), (12, _), (19, _), (20, _), (21, _), (22, _), (28, _)]) ⟨rfl, rfl, rfl, rfl, rfl, rfl, rfl, rfl, rfl, rfl, rfl, trivial⟩ ?_
              refine HC.region ?_
              refine HL.ownEq (L' := (db, blk [.int .i64 (((cubeDrop (widenUpto t g k) k).1 : Int)), .int .i64 (((cubeDrop (widenUpto t g k) k).2 : Int))] 49) :: (cb, blk [.int .i64 (((widenUpto t g (k + 1)).1 : Int)), .int .i64 (((widenUpto t g (k + 1)).2 : Int))] 49) :: (tg, blk [.int .i64 (g : Int)] 3) :: (dn, blk (boolV (bxUpto t g).2) 80) :: (tb, blk (tabV t) 69) :: (Lx ++ Lf)) (by first | rw [widenUpto_yes (by rw [← ho16]; assumption)] | rw [widenUpto_no (by rw [← ho16]; assumption)]) ?_
              refine HL.quiet (y_add rfl rfl (by omega)) rfl ?_
              refine HL.quiet (y_move rfl) rfl ?_
              refine HL.nil ?_
              exact HQ.again (k + 1) (by omega) (by omega) ⟨rfl, rfl, rfl, rfl, rfl, rfl, rfl, rfl, rfl, rfl, rfl, trivial⟩ (List.Sublist.cons _ (List.Sublist.cons_cons _ (List.Sublist.cons_cons _ (List.Sublist.cons_cons _ (List.Sublist.cons_cons _ (List.Sublist.refl _)))))) (PLe.refl _)
        · try simp only [Bool.and_eq_true, Bool.and_eq_false_iff, Bool.or_eq_true, Bool.or_eq_false_iff, decide_eq_true_eq, decide_eq_false_iff_not, Int.not_lt, Int.not_le, beq_iff_eq, bne_iff_ne, ne_eq, Decidable.not_not, beq_eq_false_iff_ne, bne_eq_false_iff_eq, Bool.not_eq_true', Bool.not_eq_false'] at hc3
          refine HC.exit ?_
          refine HQ.then_exit ?_
          refine HQ.then_exit ?_
          refine HQ.inb_exit ?_
          refine HQ.next ?_
          refine HC.sub (E' := [(1, _), (3, _), (4, _), (5, _), (6, _), (12, _), (19, _), (20, _), (21, _), (22, _)]) ⟨rfl, rfl, rfl, rfl, rfl, rfl, rfl, rfl, rfl, rfl, trivial⟩ ?_
          refine HC.seq ?_
          refine HC.seq ?_
          refine HC.region ?_
          have hk4 : k = 4 := by omega
          subst hk4
          refine HL.quiet (y_move rfl) rfl ?_
          refine HL.nil ?_
          refine HQ.next ?_
          refine HC.block ?_
          refine HC.ownEq (L' := (fun (o : Nat) => (cb, blk [.int .i64 (((widenUpto t g 4).1 : Int)), .int .i64 (((widenUpto t g 4).2 : Int))] 49) :: (tg, blk [.int .i64 (g : Int)] 3) :: (dn, blk (boolV (mixB (fun o => (bxUpto t g).2 o || pIn (widenUpto t g 4) o) (bxUpto t g).2 o)) 80) :: (tb, blk (tabV t) 69) :: (Lx ++ Lf)) 0) (by simp only [mixB_none]) ?_
          refine HC.sub (E' := (fun (o : Nat) => [(1, .pointer (some ⟨tb, 0, none⟩)), (3, .slice ad ((bxUpto t g).1.length) cap), (4, .pointer (some ⟨dn, 0, none⟩)), (5, .pointer (some ⟨tg, 0, none⟩)), (6, .pointer (some ⟨cb, 0, none⟩)), (12, .int .i64 (g : Int)), (19, .int .i64 (g : Int)), (20, .pointer (some ⟨tb, 0 + g * 1, none⟩)), (21, .int .u32 (((t g).toNat : Int))), (22, .bool ((((t g).toNat : Int)) == 0)), (65, .int .i64 (o : Int))]) 0) ⟨rfl, rfl, rfl, rfl, rfl, rfl, rfl, rfl, rfl, rfl, rfl, trivial⟩ ?_
          refine HC.loop (fun (o : Nat) => 16 - o) (fun (o : Nat) => o ≤ 16) (fun (o : Nat) => [(1, .pointer (some ⟨tb, 0, none⟩)), (3, .slice ad ((bxUpto t g).1.length) cap), (4, .pointer (some ⟨dn, 0, none⟩)), (5, .pointer (some ⟨tg, 0, none⟩)), (6, .pointer (some ⟨cb, 0, none⟩)), (12, .int .i64 (g : Int)), (19, .int .i64 (g : Int)), (20, .pointer (some ⟨tb, 0 + g * 1, none⟩)), (21, .int .u32 (((t g).toNat : Int))), (22, .bool ((((t g).toNat : Int)) == 0)), (65, .int .i64 (o : Int))]) (fun (o : Nat) => (cb, blk [.int .i64 (((widenUpto t g 4).1 : Int)), .int .i64 (((widenUpto t g 4).2 : Int))] 49) :: (tg, blk [.int .i64 (g : Int)] 3) :: (dn, blk (boolV (mixB (fun o => (bxUpto t g).2 o || pIn (widenUpto t g 4) o) (bxUpto t g).2 o)) 80) :: (tb, blk (tabV t) 69) :: (Lx ++ Lf)) (fun (o : Nat) => J) 0 (by omega) (fun o hC => ?_)
          refine HC.seq ?_
          refine HC.region ?_
          refine HL.quiet (y_lss rfl rfl) rfl ?_
          refine HL.nil ?_
          refine HQ.next ?_
          refine HC.seq ?_
          refine HC.cond rfl (fun hc6 => ?_) (fun hc6 => ?_)
          · try simp only [Bool.and_eq_true, Bool.and_eq_false_iff, Bool.or_eq_true, Bool.or_eq_false_iff, decide_eq_true_eq, decide_eq_false_iff_not, Int.not_lt, Int.not_le, beq_iff_eq, bne_iff_ne, ne_eq, Decidable.not_not, beq_eq_false_iff_ne, bne_eq_false_iff_eq, Bool.not_eq_true', Bool.not_eq_false'] at hc6
            refine HC.skip ?_
            refine HQ.next ?_
            refine HC.sub (E' := [(1, _), (3, _), (4, _), (5, _), (6, _), (12, _), (19, _), (20, _), (21, _), (22, _), (65, _)]) ⟨rfl, rfl, rfl, rfl, rfl, rfl, rfl, rfl, rfl, rfl, rfl, trivial⟩ ?_
            refine HC.seq ?_
            refine HC.block ?_
            refine HC.seq ?_
            refine HC.region ?_
            refine HL.quiet (y_move rfl) rfl ?_
            refine HL.quiet (y_assign rfl) rfl ?_
            refine HL.nil ?_
            refine HQ.next ?_
            refine HC.sub (E' := [(1, _), (3, _), (4, _), (5, _), (6, _), (12, _), (19, _), (20, _), (21, _), (22, _), (65, _), (11, _)]) ⟨rfl, rfl, rfl, rfl, rfl, rfl, rfl, rfl, rfl, rfl, rfl, rfl, trivial⟩ ?_
            refine HC.region ?_
            refine HL.quiet (y_move rfl) rfl ?_
            refine HL.quiet (y_move rfl) rfl ?_
            refine HL.quiet (y_indexArr (j := o) Tryd.underlying80 Tryd.sizeOf4 rfl rfl (by first | rfl | omega) (by omega)) rfl ?_
            refine HL.quiet (y_loadL (k := 2) (v := .bool ((bxUpto t g).2 o)) Tryd.isAgg4 rfl rfl (mixB_get _ _ (by omega))) rfl ?_
            refine HL.quiet (y_move rfl) rfl ?_
            refine HL.split (t := 72) rfl (fun hg6 => ?_) (fun hg6 => ?_)
            · try simp only [Bool.and_eq_true, Bool.and_eq_false_iff, Bool.or_eq_true, Bool.or_eq_false_iff, decide_eq_true_eq, decide_eq_false_iff_not, Int.not_lt, Int.not_le, beq_iff_eq, bne_iff_ne, ne_eq, Decidable.not_not, beq_eq_false_iff_ne, bne_eq_false_iff_eq, Bool.not_eq_true', Bool.not_eq_false'] at hg6
              refine HL.pass (t := 72) rfl rfl rfl rfl ?_
              refine HL.pass (t := 72) rfl rfl rfl rfl ?_
              refine HL.pass (t := 72) rfl rfl rfl rfl ?_
              refine HL.quiet (y_pick_true rfl rfl) rfl ?_
              refine HL.quiet (y_indexArr (j := o) Tryd.underlying80 Tryd.sizeOf4 rfl rfl (by first | rfl | omega) (by omega)) rfl ?_
              refine HL.store1s_2 (c' := (boolV (mixB (fun o => (bxUpto t g).2 o || pIn (widenUpto t g 4) o) (bxUpto t g).2 (o + 1)))) Tryd.sizeOf4 rfl rfl (by rw [boolV_len]; omega) rfl (mixB_set _ _ (by simp [*, cubeIn_of])) ?_
              refine HL.nil ?_
              refine HQ.inb_normal ?_
              refine HQ.next ?_
              refine HC.sub (E' := [(1, _), (3, _), (4, _), (5, _), (6, _), (12, _), (19, _), (20, _), (21, _), (22, _), (65, _), (73, _), (74, _), (75, _)]) ⟨rfl, rfl, rfl, rfl, rfl, rfl, rfl, rfl, rfl, rfl, rfl, rfl, rfl, rfl, trivial⟩ ?_
              refine HC.region ?_
              refine HL.quiet (y_add rfl rfl (by omega)) rfl ?_
              refine HL.quiet (y_move rfl) rfl ?_
              refine HL.nil ?_
              exact HQ.again (o + 1) (by omega) (by omega) ⟨rfl, rfl, rfl, rfl, rfl, rfl, rfl, rfl, rfl, rfl, rfl, trivial⟩ (List.Sublist.cons_cons _ (List.Sublist.cons_cons _ (List.Sublist.cons_cons _ (List.Sublist.cons_cons _ (List.Sublist.refl _))))) (PLe.refl _)
            · try simp only [Bool.and_eq_true, Bool.and_eq_false_iff, Bool.or_eq_true, Bool.or_eq_false_iff, decide_eq_true_eq, decide_eq_false_iff_not, Int.not_lt, Int.not_le, beq_iff_eq, bne_iff_ne, ne_eq, Decidable.not_not, beq_eq_false_iff_ne, bne_eq_false_iff_eq, Bool.not_eq_true', Bool.not_eq_false'] at hg6
              refine HL.quiet_guard (t := 72) rfl rfl (y_loadL_agg (k := 0) (cs := [.int .i64 (((widenUpto t g 4).1 : Int)), .int .i64 (((widenUpto t g 4).2 : Int))]) Tryd.isAgg49 Tryd.sizeOf49 rfl rfl rfl rfl) rfl ?_
              refine HL.quiet_guard (t := 72) rfl rfl (y_move rfl) rfl ?_
              refine HL.unguard (s := 72) rfl rfl ?_
              refine HL.callP Tryd.call38 (.cons rfl (.cons rfl (.nil))) rfl (cube_In _ (cubeOf (widenUpto t g 4)) (cubeOf_ok (widenUpto_lt t hgl 4).1 (widenUpto_lt t hgl 4).2) o (by omega)) ?_
              rintro _ Ii8 hi8 rfl
              refine HL.quiet (y_pick_false rfl rfl) rfl ?_
              refine HL.quiet (y_indexArr (j := o) Tryd.underlying80 Tryd.sizeOf4 rfl rfl (by first | rfl | omega) (by omega)) rfl ?_
              refine HL.store1s_2 (c' := (boolV (mixB (fun o => (bxUpto t g).2 o || pIn (widenUpto t g 4) o) (bxUpto t g).2 (o + 1)))) Tryd.sizeOf4 rfl rfl (by rw [boolV_len]; omega) rfl (mixB_set _ _ (by simp [*, cubeIn_of])) ?_
              refine HL.nil ?_
              refine HQ.inb_normal ?_
              refine HQ.next ?_
              refine HC.sub (E' := [(1, _), (3, _), (4, _), (5, _), (6, _), (12, _), (19, _), (20, _), (21, _), (22, _), (65, _), (73, _), (74, _), (75, _)]) ⟨rfl, rfl, rfl, rfl, rfl, rfl, rfl, rfl, rfl, rfl, rfl, rfl, rfl, rfl, trivial⟩ ?_
              refine HC.region ?_
              refine HL.quiet (y_add rfl rfl (by omega)) rfl ?_
              refine HL.quiet (y_move rfl) rfl ?_
              refine HL.nil ?_
              exact HQ.again (o + 1) (by omega) (by omega) ⟨rfl, rfl, rfl, rfl, rfl, rfl, rfl, rfl, rfl, rfl, rfl, trivial⟩ (List.Sublist.cons_cons _ (List.Sublist.cons_cons _ (List.Sublist.cons_cons _ (List.Sublist.cons_cons _ (List.Sublist.refl _))))) (hi8)
          · try simp only [Bool.and_eq_true, Bool.and_eq_false_iff, Bool.or_eq_true, Bool.or_eq_false_iff, decide_eq_true_eq, decide_eq_false_iff_not, Int.not_lt, Int.not_le, beq_iff_eq, bne_iff_ne, ne_eq, Decidable.not_not, beq_eq_false_iff_ne, bne_eq_false_iff_eq, Bool.not_eq_true', Bool.not_eq_false'] at hc6
            refine HC.exit ?_
            refine HQ.then_exit ?_
            refine HQ.then_exit ?_
            refine HQ.inb_exit ?_
            refine HQ.next ?_
            refine HC.sub (E' := [(1, _), (3, _), (4, _), (5, _), (6, _), (12, _), (19, _), (20, _), (21, _), (22, _)]) ⟨rfl, rfl, rfl, rfl, rfl, rfl, rfl, rfl, rfl, rfl, trivial⟩ ?_
            refine HC.drawn ([(cb, blk [.int .i64 (((widenUpto t g 4).1 : Int)), .int .i64 (((widenUpto t g 4).2 : Int))] 49)]) 6 Tryd.mixed ?_
            refine HG.take (i := 0) ([]) rfl (by kernel_rfl) (by kernel_rfl) (by kernel_rfl) (PanicOk.inb (PanicOk.then (PanicOk.then (PanicOk.inb (PanicOk.then (PanicOk.bodyQ)))))) rfl (.inl ⟨List.nil_sublist _, List.nil_sublist _⟩) (fun I' hI' => (y_move rfl)) rfl ?_
            refine HG.take (i := 1) ([(cb, blk [.int .i64 (((widenUpto t g 4).1 : Int)), .int .i64 (((widenUpto t g 4).2 : Int))] 49)]) rfl (by kernel_rfl) (by kernel_rfl) (by kernel_rfl) (PanicOk.inb (PanicOk.then (PanicOk.then (PanicOk.inb (PanicOk.then (PanicOk.bodyQ)))))) rfl (.inl ⟨List.Sublist.refl _, List.Sublist.cons_cons _ (List.Sublist.cons _ (List.Sublist.cons _ (List.Sublist.cons _ (List.nil_sublist _))))⟩) (fun I' hI' => (y_loadL_agg (k := 0) (cs := [.int .i64 (((widenUpto t g 4).1 : Int)), .int .i64 (((widenUpto t g 4).2 : Int))]) Tryd.isAgg49 Tryd.sizeOf49 rfl rfl rfl rfl)) rfl ?_
            refine HG.take (i := 2) ([]) rfl (by kernel_rfl) (by kernel_rfl) (by kernel_rfl) (PanicOk.inb (PanicOk.then (PanicOk.then (PanicOk.inb (PanicOk.then (PanicOk.bodyQ)))))) rfl (.inl ⟨List.nil_sublist _, List.nil_sublist _⟩) (fun I' hI' => (y_makeFunc2 .nil (.cons rfl (.cons rfl (.nil))))) rfl ?_
            refine HG.one (i := 3) (by kernel_rfl) rfl (fun hcl hsz => ?_)
            refine HL.call (Lp := [(tb, blk (tabV t) 69), (tg, blk [.int .i64 (g : Int)] 3)]) Tryd.call39 (.cons rfl (.nil)) ((permK_3).trans (List.Perm.cons _ (permK_1))) rfl (span_Make _ 40 [.pointer (some ⟨tb, 0, none⟩), .pointer (some ⟨tg, 0, none⟩)] Tryd.call40 (fun n => (t g).getLsbD n) [(tb, blk (tabV t) 69), (tg, blk [.int .i64 (g : Int)] 3)] (fun n hn J _ => boxes_bit J t tb tg 3 g hgl n hn)) ?_
            rintro sv _ Ii9 hi9 ⟨rfl, hsv⟩
            obtain ⟨sad, scap, rfl, _⟩ := hsv.slice
            refine HL.perm ((permK_3).trans (List.Perm.cons _ (permK_1))).symm ?_
            refine HL.nil ?_
            refine HQ.goOn hcl hsz (by kernel_rfl) (List.Sublist.refl _) (hi9) ?_
            clear hcl hsz
            refine HG.take (i := 4) ([]) rfl (by kernel_rfl) (by kernel_rfl) (by kernel_rfl) (PanicOk.inb (PanicOk.then (PanicOk.then (PanicOk.inb (PanicOk.then (PanicOk.bodyQ)))))) rfl (.inl ⟨List.nil_sublist _, List.nil_sublist _⟩) (fun I' hI' => (y_build (vs := [(0, .agg #[.int .i64 (((widenUpto t g 4).1 : Int)), .int .i64 (((widenUpto t g 4).2 : Int))]), (1, .slice sad ((spansMake fun n => (t g).getLsbD n).length) scap)]) (v := .agg #[.int .i64 (((widenUpto t g 4).1 : Int)), .int .i64 (((widenUpto t g 4).2 : Int)), .slice sad ((spansMake fun n => (t g).getLsbD n).length) scap]) (.cons rfl (.cons rfl (.nil))) (fun w => by kernel_rfl))) rfl ?_
            refine HG.one (i := 5) (by kernel_rfl) rfl (fun hcl hsz => ?_)
            refine HL.buildSlice (vs := [(0, .agg #[.int .i64 (((widenUpto t g 4).1 : Int)), .int .i64 (((widenUpto t g 4).2 : Int)), .slice sad ((spansMake fun n => (t g).getLsbD n).length) scap])]) (cs := [.int .i64 (((widenUpto t g 4).1 : Int)), .int .i64 (((widenUpto t g 4).2 : Int)), .slice sad ((spansMake fun n => (t g).getLsbD n).length) scap]) (.cons rfl (.nil)) Tryd.underlying27 Tryd.sizeOf52 Tryd.zeroValue52 rfl rfl (by kernel_rfl) rfl (fun b10 _ => ?_)
            refine HL.nil ?_
            refine HQ.goOn hcl hsz (by kernel_rfl) (List.Sublist.cons _ (List.Sublist.refl _)) (hi9) ?_
            clear hcl hsz
            refine HG.one (i := 6) (by kernel_rfl) rfl (fun hcl hsz => ?_)
            refine HL.append (e := 52) (m := ((bxUpto t g).1.length)) (xs := ys) (k := 1) (news := ([.int .i64 ((widenUpto t g 4).1 : Int), .int .i64 ((widenUpto t g 4).2 : Int), .slice sad (spansMake fun n => (t g).getLsbD n).length scap])) Tryd.underlying27 (z := .agg #[.int .i64 0, .int .i64 0, .slice none 0 0]) (bytes := 40) (by kernel_rfl) rfl rfl rfl rfl ho (rfl) permF_5 (Src.own (k := 0) rfl (fun _ _ h => h)) (by simp [Value.oneCell']) (by have := bxUpto_len t g; unfold maxLen; omega) (by have := bxUpto_len t g; omega) rfl ?_
            rintro v' Lx' ho'
            obtain ⟨ad', cap', rfl, _⟩ := ho'.shape
            refine HL.perm permF_5.symm ?_
            refine HL.nil ?_
            refine HQ.goOn_tail hcl hsz (by kernel_rfl) (List.Sublist.cons _ (List.Sublist.cons_cons _ (List.Sublist.cons _ (List.Sublist.cons _ (List.Sublist.cons _ (List.nil_sublist _)))))) (hi9) ?_
            clear hcl hsz
            refine HG.take (i := 7) ([]) rfl (by kernel_rfl) (by kernel_rfl) (by kernel_rfl) (PanicOk.inb (PanicOk.then (PanicOk.then (PanicOk.inb (PanicOk.then (PanicOk.bodyQ)))))) rfl (.inl ⟨List.nil_sublist _, List.nil_sublist _⟩) (fun I' hI' => (y_assign rfl)) rfl ?_
            refine HG.done (by kernel_rfl) ?_
            refine HQ.inb_normal ?_
            refine HQ.next ?_
            refine HC.sub (E' := [(1, _), (3, _), (4, _), (12, _), (19, _), (20, _), (21, _), (22, _)]) ⟨rfl, rfl, rfl, rfl, rfl, rfl, rfl, rfl, trivial⟩ ?_
            refine HC.region ?_
            have hup : bxUpto t (g + 1) = ((bxUpto t g).1 ++ [boxAt t g], fun o => (bxUpto t g).2 o || pIn (widen t g) o) := bxUpto_more hnd hnz
            have hmore : ∃ ys, OwnS 52 3 (.slice ad' ((bxUpto t g).1.length + 1) cap') (bxUpto t (g + 1)).1.length ys Lx' ∧ Flat Ii9 (bxUpto t (g + 1)).1 ys := by
              refine ⟨_, by rw [hup, List.length_append]; exact ho', ?_⟩
              rw [hup]
              exact (hF.le (hi9)).snoc ⟨_, rfl, hsv.le (PLe.refl _)⟩
            refine HL.ownEq (L' := (b10, blk [.int .i64 (((widenUpto t g 4).1 : Int)), .int .i64 (((widenUpto t g 4).2 : Int)), .slice sad ((spansMake fun n => (t g).getLsbD n).length) scap] 52) :: (cb, blk [.int .i64 (((widenUpto t g 4).1 : Int)), .int .i64 (((widenUpto t g 4).2 : Int))] 49) :: (tg, blk [.int .i64 (g : Int)] 3) :: (dn, blk (boolV (bxUpto t (g + 1)).2) 80) :: (tb, blk (tabV t) 69) :: (Lx' ++ Lf)) (by rw [hup, mixB_all (by omega)]; rfl) ?_
            refine HL.quiet (y_add rfl rfl (by omega)) rfl ?_
            refine HL.quiet (y_move rfl) rfl ?_
            refine HL.nil ?_
            exact HQ.again (g + 1, _, Lx', Ii9) (show (fun (g : Nat) (v : Value) (Lx : Own) (J : PHeap) => g ≤ 16 ∧ PLe I J ∧ ∃ ys, OwnS 52 3 v (bxUpto t g).1.length ys Lx ∧ Flat J (bxUpto t g).1 ys) (g + 1) (_) Lx' Ii9 from ⟨by omega, (hJ).trans hi9, hmore⟩) (show 16 - (g + 1) < 16 - g from by omega) ⟨rfl, rfl, rfl, rfl, trivial⟩ (List.Sublist.cons _ (List.Sublist.cons _ (List.Sublist.cons _ (List.Sublist.cons_cons _ (List.Sublist.cons_cons _ (List.Sublist.refl _)))))) (PLe.refl _)
  · try simp only [Bool.and_eq_true, Bool.and_eq_false_iff, Bool.or_eq_true, Bool.or_eq_false_iff, decide_eq_true_eq, decide_eq_false_iff_not, Int.not_lt, Int.not_le, beq_iff_eq, bne_iff_ne, ne_eq, Decidable.not_not, beq_eq_false_iff_ne, bne_eq_false_iff_eq, Bool.not_eq_true', Bool.not_eq_false'] at hc0
    refine HC.exit ?_
    refine HQ.then_exit ?_
    refine HQ.then_exit ?_
    refine HQ.inb_exit ?_
    refine HQ.next ?_
    refine HC.sub (E' := [(3, _)]) ⟨rfl, trivial⟩ ?_
    refine HC.seq ?_
    refine HC.region ?_
    have hg16 : g = 16 := by omega
    subst hg16
    refine HL.freezeV ho hF permF_2 (fun I9 hI9 hV => ?_)
    refine HL.quiet (y_move rfl) rfl ?_
    refine HL.quiet (y_assign rfl) rfl ?_
    refine HL.nil ?_
    refine HQ.next ?_
    refine HC.sub (E' := [(2, _)]) ⟨rfl, trivial⟩ ?_
    refine HC.ret ?_
    refine HQ.doneP (Res.one Tryd.results31 rfl) (List.Sublist.cons _ (List.Sublist.cons _ (List.Sublist.refl _))) ((hJ).trans hI9) ?_
    exact hV

end Go.Rm
