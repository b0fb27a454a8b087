/- What this text holds: the contract of formula.Filter, printed by a program of mine (wip/tools/walk.py) from plans of mine. -/
import Derived.Test.YtpcgfadcojaceaaDoorRmSpec6
import Derived.Test.YtpcgfadcojaceaaDoorRmNodes
set_option linter.unusedVariables false
set_option linter.unusedSimpArgs false
set_option linter.unusedSectionVars false
namespace Go.Rm
open Go Go.Proofs
set_option maxRecDepth 100000

theorem formula_Filter (I : PHeap) (v : Value) (l : List Node) (h : Val I v l) : Pure Tryd.prog 7 [v] I (fun r I' => ∃ u, r = .tuple #[u, .int .i64 (filterOf l).1] ∧ Val I' u (filterOf l).2) := by
  obtain ⟨ad, cap, rfl, hcap, hE⟩ := h.slice
  refine Pure.of_body Tryd.func7 rfl Tryd.ntmps7 rfl (fun W Lf => ?_)
  refine HC.seq ?_
  refine HC.region ?_
  refine HL.quiet (y_assign rfl) rfl ?_
  refine HL.quiet (y_assign rfl) rfl ?_
  refine HL.nil ?_
  refine HQ.next ?_
  refine HC.sub (E' := [(0, _)]) ⟨rfl, trivial⟩ ?_
  refine HC.seq ?_
  refine HC.seq ?_
  refine HC.region ?_
  refine HL.quiet (y_move rfl) rfl ?_
  refine HL.callP Tryd.call16 (.cons rfl (.nil)) rfl (nodes_Check _ _ l h) ?_
  rintro _ Ii1 hi1 rfl
  refine HL.quiet (y_assign rfl) rfl ?_
  refine HL.nil ?_
  refine HQ.next ?_
  refine HC.sub (E' := [(0, _), (4, _)]) ⟨rfl, rfl, trivial⟩ ?_
  refine HC.seq ?_
  refine HC.region ?_
  refine HL.quiet (y_move rfl) rfl ?_
  refine HL.quiet (y_neq rfl rfl) rfl ?_
  refine HL.nil ?_
  refine HQ.next ?_
  refine HC.sub (E' := [(0, _), (4, _), (11, _)]) ⟨rfl, rfl, rfl, trivial⟩ ?_
  refine HC.cond rfl (fun hc0 => ?_) (fun hc0 => ?_)
  · try simp only [Bool.and_eq_true, Bool.and_eq_false_iff, Bool.or_eq_true, Bool.or_eq_false_iff, decide_eq_true_eq, decide_eq_false_iff_not, Int.not_lt, Int.not_le, beq_iff_eq, bne_iff_ne, ne_eq, Decidable.not_not, beq_eq_false_iff_ne, bne_eq_false_iff_eq, Bool.not_eq_true', Bool.not_eq_false'] at hc0
    refine HC.seq ?_
    refine HC.region ?_
    refine HL.quiet (y_move rfl) rfl ?_
    refine HL.quiet (y_assign rfl) rfl ?_
    refine HL.quiet (y_assign rfl) rfl ?_
    refine HL.nil ?_
    refine HQ.next ?_
    refine HC.sub (E' := [(2, _), (3, _)]) ⟨rfl, rfl, trivial⟩ ?_
    refine HC.ret ?_
    refine HQ.then_ret ?_
    refine HQ.doneP (Res.two Tryd.results7 rfl rfl) (List.Sublist.refl _) (hi1) ?_
    rw [filterOf, if_pos (by omega)]; exact ⟨_, rfl, Val.nil⟩
  · try simp only [Bool.and_eq_true, Bool.and_eq_false_iff, Bool.or_eq_true, Bool.or_eq_false_iff, decide_eq_true_eq, decide_eq_false_iff_not, Int.not_lt, Int.not_le, beq_iff_eq, bne_iff_ne, ne_eq, Decidable.not_not, beq_eq_false_iff_ne, bne_eq_false_iff_eq, Bool.not_eq_true', Bool.not_eq_false'] at hc0
    refine HC.skip ?_
    refine HQ.next ?_
    refine HC.sub (E' := [(0, _)]) ⟨rfl, trivial⟩ ?_
    refine HC.seq ?_
    refine HC.region ?_
    have hlen : 0 < l.length ∧ l.length ≤ 30 := nodesCheck_len (by omega)
    have hok : nodesGo 0 l = 0 := nodesCheck_go (by omega)
    refine HL.quiet (y_move rfl) rfl ?_
    refine HL.quiet (y_len_slice Tryd.underlying22 rfl) rfl ?_
    refine HL.makeSlice (e := 27) (size := 1) (z := .slice none 0 0) (bytes := 24) (m := l.length) (c := l.length) Tryd.underlying47 (by kernel_rfl) rfl rfl (Nat.le_refl _) (by omega) (by omega) (by omega) rfl (fun al _ => ?_)
    refine HL.ownEq (L' := (al, blk ([] ++ List.replicate (l.length - 0) (.slice none 0 0)) 27) :: Lf) (by rw [Nat.mul_one]; exact congrArg (fun c => (al, blk c 27) :: _) (madeCells_one _ _)) ?_
    refine HL.quiet (y_assign rfl) rfl ?_
    refine HL.nil ?_
    refine HQ.next ?_
    refine HC.sub (E' := [(0, _), (5, _)]) ⟨rfl, rfl, trivial⟩ ?_
    refine HC.seq ?_
    refine HC.seq ?_
    refine HC.region ?_
    refine HL.quiet (y_move rfl) rfl ?_
    refine HL.quiet (y_len_slice Tryd.underlying22 rfl) rfl ?_
    refine HL.quiet (y_move rfl) rfl ?_
    refine HL.nil ?_
    refine HQ.next ?_
    refine HC.block ?_
    refine HC.sub (E' := (fun (i : Nat) (vs : List Value) (J : PHeap) => [(0, .slice ad l.length cap), (5, .slice (some ⟨al, 0, none⟩) l.length l.length), (16, .slice ad l.length cap), (17, .int .i64 (l.length : Int)), (18, .int .i64 (i : Int))]) 0 ([]) Ii1) ⟨rfl, rfl, rfl, rfl, rfl, trivial⟩ ?_
    refine HC.loop3 (fun (i : Nat) (vs : List Value) (J : PHeap) => l.length - i) (fun (i : Nat) (vs : List Value) (J : PHeap) => i ≤ l.length ∧ PLe I J ∧ RowOk J l i vs) (fun (i : Nat) (vs : List Value) (J : PHeap) => [(0, .slice ad l.length cap), (5, .slice (some ⟨al, 0, none⟩) l.length l.length), (16, .slice ad l.length cap), (17, .int .i64 (l.length : Int)), (18, .int .i64 (i : Int))]) (fun (i : Nat) (vs : List Value) (J : PHeap) => (al, blk (vs ++ List.replicate (l.length - i) (.slice none 0 0)) 27) :: Lf) (fun (i : Nat) (vs : List Value) (J : PHeap) => J) 0 ([]) Ii1 (⟨by omega, hi1, RowOk.start _ _⟩) (fun i vs J hC => ?_)
    obtain ⟨hi, hJ, hvs⟩ := hC
    have hvl := hvs.1
    have hE2 := hE.le hJ
    refine HC.seq ?_
    refine HC.region ?_
    refine HL.quiet (y_lss rfl rfl) rfl ?_
    refine HL.nil ?_
    refine HQ.next ?_
    refine HC.seq ?_
    refine HC.cond rfl (fun hc1 => ?_) (fun hc1 => ?_)
    · try simp only [Bool.and_eq_true, Bool.and_eq_false_iff, Bool.or_eq_true, Bool.or_eq_false_iff, decide_eq_true_eq, decide_eq_false_iff_not, Int.not_lt, Int.not_le, beq_iff_eq, bne_iff_ne, ne_eq, Decidable.not_not, beq_eq_false_iff_ne, bne_eq_false_iff_eq, Bool.not_eq_true', Bool.not_eq_false'] at hc1
      refine HC.skip ?_
      refine HQ.next ?_
      refine HC.sub (E' := [(0, _), (5, _), (16, _), (17, _), (18, _)]) ⟨rfl, rfl, rfl, rfl, rfl, trivial⟩ ?_
      refine HC.seq ?_
      refine HC.block ?_
      refine HC.seq ?_
      refine HC.region ?_
      refine HL.quiet (y_move rfl) rfl ?_
      obtain ⟨b, off, rfl, hel⟩ := hE2.at_ (show i < l.length by omega)
      obtain ⟨x, hx⟩ : ∃ x, l[i]? = some x := ⟨l[i]'(by omega), List.getElem?_eq_getElem _⟩
      have hc := (hel i x hx).node
      have hbad := nodesGo_each hok hx
      refine HL.quiet (y_indexAddr (j := i) Tryd.underlying22 Tryd.sizeOf37 rfl rfl (by first | rfl | omega) (by omega)) rfl ?_
      refine HL.quiet (y_loadI_agg (cs := [.int .i64 x.kind, .int .i64 x.a, .int .i64 x.b]) Tryd.isAgg37 Tryd.sizeOf37 rfl rfl hc) rfl ?_
      refine HL.alloc_agg Tryd.zeroValue37 rfl (fun nb _ => ?_)
      refine HL.quiet (y_assign rfl) rfl ?_
      refine HL.store_all_0 Tryd.sizeOf37 rfl rfl rfl rfl rfl ?_
      refine HL.nil ?_
      refine HQ.next ?_
      refine HC.sub (E' := [(0, _), (5, _), (16, _), (17, _), (18, _), (7, _), (6, _)]) ⟨rfl, rfl, rfl, rfl, rfl, rfl, rfl, trivial⟩ ?_
      refine HC.seq ?_
      refine HC.region ?_
      refine HL.quiet (y_fieldAddr (o := 0) (t := 3) Tryd.underlying37 rfl Tryd.sizeOf3 (by decide) rfl) rfl ?_
      refine HL.quiet (y_loadL (k := 0) Tryd.isAgg3 rfl rfl rfl) rfl ?_
      refine HL.nil ?_
      refine HQ.next ?_
      refine HC.sub (E' := [(0, _), (5, _), (16, _), (17, _), (18, _), (7, _), (6, _), (24, _)]) ⟨rfl, rfl, rfl, rfl, rfl, rfl, rfl, rfl, trivial⟩ ?_
      refine HC.block ?_
      refine HC.seq ?_
      refine HC.region ?_
      refine HL.quiet (y_eql rfl rfl) rfl ?_
      refine HL.quiet (y_assign rfl) rfl ?_
      refine HL.nil ?_
      refine HQ.next ?_
      refine HC.sub (E' := [(0, _), (5, _), (16, _), (17, _), (18, _), (7, _), (6, _), (24, _), (25, _)]) ⟨rfl, rfl, rfl, rfl, rfl, rfl, rfl, rfl, rfl, trivial⟩ ?_
      refine HC.cond rfl (fun hc2 => ?_) (fun hc2 => ?_)
      · try simp only [Bool.and_eq_true, Bool.and_eq_false_iff, Bool.or_eq_true, Bool.or_eq_false_iff, decide_eq_true_eq, decide_eq_false_iff_not, Int.not_lt, Int.not_le, beq_iff_eq, bne_iff_ne, ne_eq, Decidable.not_not, beq_eq_false_iff_ne, bne_eq_false_iff_eq, Bool.not_eq_true', Bool.not_eq_false'] at hc2
        refine HC.region ?_
        have hk : x.kind = 1 := by omega
        refine HL.quiet (y_move rfl) rfl ?_
        refine HL.quiet (y_move rfl) rfl ?_
        refine HL.call (Lp := []) Tryd.call9 .nil (List.Perm.refl _) rfl (filter_Every _) ?_
        rintro _ _ _ _ ⟨b1, b2, rfl, rfl, rfl⟩
        refine HL.quiet (y_indexAddr (j := i) Tryd.underlying47 Tryd.sizeOf27 rfl rfl (by first | rfl | omega) (by omega)) rfl ?_
        refine HL.store1s_3 (c' := ((vs ++ [.slice (some ⟨b1, 0, none⟩) 1 1]) ++ List.replicate (l.length - (i + 1)) (.slice none 0 0))) Tryd.sizeOf27 rfl rfl (by simp only [List.length_append, List.length_replicate]; omega) rfl (row_set hvl (by omega)) ?_
        refine HL.nil ?_
        refine HQ.inb_normal ?_
        refine HQ.inb_normal ?_
        refine HQ.next ?_
        refine HC.sub (E' := [(0, _), (5, _), (16, _), (17, _), (18, _)]) ⟨rfl, rfl, rfl, rfl, rfl, trivial⟩ ?_
        refine HC.region ?_
        refine HL.freezeBox (fun J3 hJ3 hnew => ?_)
        have hnext : RowOk J3 l (i + 1) (vs ++ [.slice (some ⟨b1, 0, none⟩) 1 1]) := hvs.next hx (by omega) (hJ3) (by rw [nodeFilter, if_pos hk]; exact hnew)
        refine HL.quiet (y_add rfl rfl (by omega)) rfl ?_
        refine HL.quiet (y_move rfl) rfl ?_
        refine HL.nil ?_
        exact HQ.again (i + 1, vs ++ [.slice (some ⟨b1, 0, none⟩) 1 1], J3) (show (fun (i : Nat) (vs : List Value) (J : PHeap) => i ≤ l.length ∧ PLe I J ∧ RowOk J l i vs) (i + 1) (vs ++ [.slice (some ⟨b1, 0, none⟩) 1 1]) J3 from ⟨by omega, (hJ).trans hJ3, hnext⟩) (show l.length - (i + 1) < l.length - i from by omega) ⟨rfl, rfl, rfl, rfl, rfl, trivial⟩ (List.Sublist.cons _ (List.Sublist.cons_cons _ (List.Sublist.refl _))) (PLe.refl _)
      · try simp only [Bool.and_eq_true, Bool.and_eq_false_iff, Bool.or_eq_true, Bool.or_eq_false_iff, decide_eq_true_eq, decide_eq_false_iff_not, Int.not_lt, Int.not_le, beq_iff_eq, bne_iff_ne, ne_eq, Decidable.not_not, beq_eq_false_iff_ne, bne_eq_false_iff_eq, Bool.not_eq_true', Bool.not_eq_false'] at hc2
        refine HC.seq ?_
        refine HC.region ?_
        refine HL.quiet (y_eql rfl rfl) rfl ?_
        refine HL.quiet (y_assign rfl) rfl ?_
        refine HL.nil ?_
        refine HQ.next ?_
        refine HC.sub (E' := [(0, _), (5, _), (16, _), (17, _), (18, _), (7, _), (6, _), (24, _), (31, _)]) ⟨rfl, rfl, rfl, rfl, rfl, rfl, rfl, rfl, rfl, trivial⟩ ?_
        refine HC.cond rfl (fun hc3 => ?_) (fun hc3 => ?_)
        · try simp only [Bool.and_eq_true, Bool.and_eq_false_iff, Bool.or_eq_true, Bool.or_eq_false_iff, decide_eq_true_eq, decide_eq_false_iff_not, Int.not_lt, Int.not_le, beq_iff_eq, bne_iff_ne, ne_eq, Decidable.not_not, beq_eq_false_iff_ne, bne_eq_false_iff_eq, Bool.not_eq_true', Bool.not_eq_false'] at hc3
          refine HC.seq ?_
          refine HC.region ?_
          have hk : x.kind = 2 := by omega
          refine HL.quiet (y_move rfl) rfl ?_
          refine HL.quiet (y_move rfl) rfl ?_
          refine HL.call (Lp := []) Tryd.call9 .nil (List.Perm.refl _) rfl (filter_Every _) ?_
          rintro _ _ _ _ ⟨b1, b2, rfl, rfl, rfl⟩
          refine HL.quiet (y_indexAddr (j := i) Tryd.underlying47 Tryd.sizeOf27 rfl rfl (by first | rfl | omega) (by omega)) rfl ?_
          refine HL.store1s_3 (c' := ((vs ++ [.slice (some ⟨b1, 0, none⟩) 1 1]) ++ List.replicate (l.length - (i + 1)) (.slice none 0 0))) Tryd.sizeOf27 rfl rfl (by simp only [List.length_append, List.length_replicate]; omega) rfl (row_set hvl (by omega)) ?_
          refine HL.nil ?_
          refine HQ.next ?_
          refine HC.sub (E' := [(0, _), (5, _), (16, _), (17, _), (18, _), (7, _), (6, _)]) ⟨rfl, rfl, rfl, rfl, rfl, rfl, rfl, trivial⟩ ?_
          refine HC.drawn ([]) 10 Tryd.mixed ?_
          obtain ⟨ha0, ha1⟩ := bad_tag hbad hk
          refine HG.take (i := 0) ([]) rfl (by kernel_rfl) (by kernel_rfl) (by kernel_rfl) (PanicOk.inb (PanicOk.inb (PanicOk.then (PanicOk.then (PanicOk.inb (PanicOk.then (PanicOk.bodyQ))))))) rfl (.inl ⟨List.nil_sublist _, List.nil_sublist _⟩) (fun I' hI' => (y_move rfl)) rfl ?_
          refine HG.take (i := 1) ([]) rfl (by kernel_rfl) (by kernel_rfl) (by kernel_rfl) (PanicOk.inb (PanicOk.inb (PanicOk.then (PanicOk.then (PanicOk.inb (PanicOk.then (PanicOk.bodyQ))))))) rfl (.inl ⟨List.nil_sublist _, List.nil_sublist _⟩) (fun I' hI' => (y_move rfl)) rfl ?_
          refine HG.take (i := 2) ([]) rfl (by kernel_rfl) (by kernel_rfl) (by kernel_rfl) (PanicOk.inb (PanicOk.inb (PanicOk.then (PanicOk.then (PanicOk.inb (PanicOk.then (PanicOk.bodyQ))))))) rfl (.inl ⟨List.nil_sublist _, List.nil_sublist _⟩) (fun I' hI' => (y_indexAddr (j := i) Tryd.underlying47 Tryd.sizeOf27 rfl rfl (by first | rfl | omega) (by omega))) rfl ?_
          refine HG.take (i := 3) ((b1, blk [.int .i64 0, .int .i64 0, .slice (some ⟨b2, 0, none⟩) 1 1] 52) :: (b2, blk [.int .i64 0, .int .i64 32] 54) :: (nb, blk [.int .i64 x.kind, .int .i64 x.a, .int .i64 x.b] 37) :: (al, blk ((vs ++ [.slice (some ⟨b1, 0, none⟩) 1 1]) ++ List.replicate (l.length - (i + 1)) (.slice none 0 0)) 27) :: Lf) rfl (by kernel_rfl) (by kernel_rfl) (by kernel_rfl) (PanicOk.inb (PanicOk.inb (PanicOk.then (PanicOk.then (PanicOk.inb (PanicOk.then (PanicOk.bodyQ))))))) rfl (.inr ⟨by kernel_rfl, List.Sublist.refl _⟩) (fun I' hI' => (y_loadL (k := 3) (v := .slice (some ⟨b1, 0, none⟩) 1 1) Tryd.isAgg27 rfl rfl (row_last hvl))) rfl ?_
          refine HG.take (i := 4) ([]) rfl (by kernel_rfl) (by kernel_rfl) (by kernel_rfl) (PanicOk.inb (PanicOk.inb (PanicOk.then (PanicOk.then (PanicOk.inb (PanicOk.then (PanicOk.bodyQ))))))) rfl (.inl ⟨List.nil_sublist _, List.nil_sublist _⟩) (fun I' hI' => (y_fieldAddr (o := 1) (t := 3) Tryd.underlying37 rfl Tryd.sizeOf3 (by decide) rfl)) rfl ?_
          refine HG.take (i := 5) ((b1, blk [.int .i64 0, .int .i64 0, .slice (some ⟨b2, 0, none⟩) 1 1] 52) :: (b2, blk [.int .i64 0, .int .i64 32] 54) :: (nb, blk [.int .i64 x.kind, .int .i64 x.a, .int .i64 x.b] 37) :: (al, blk ((vs ++ [.slice (some ⟨b1, 0, none⟩) 1 1]) ++ List.replicate (l.length - (i + 1)) (.slice none 0 0)) 27) :: Lf) rfl (by kernel_rfl) (by kernel_rfl) (by kernel_rfl) (PanicOk.inb (PanicOk.inb (PanicOk.then (PanicOk.then (PanicOk.inb (PanicOk.then (PanicOk.bodyQ))))))) rfl (.inr ⟨by kernel_rfl, List.Sublist.refl _⟩) (fun I' hI' => (y_loadL (k := 2) Tryd.isAgg3 rfl rfl rfl)) rfl ?_
          refine HG.take (i := 6) ([]) rfl (by kernel_rfl) (by kernel_rfl) (by kernel_rfl) (PanicOk.inb (PanicOk.inb (PanicOk.then (PanicOk.then (PanicOk.inb (PanicOk.then (PanicOk.bodyQ))))))) rfl (.inl ⟨List.nil_sublist _, List.nil_sublist _⟩) (fun I' hI' => (y_shl (r := ((2 ^ x.a.toNat : Nat) : Int)) rfl rfl (by omega) (by simp only [IntKind.bits]; omega) (shl_a ha0 ha1))) rfl ?_
          refine HG.take (i := 7) ([]) rfl (by kernel_rfl) (by kernel_rfl) (by kernel_rfl) (PanicOk.inb (PanicOk.inb (PanicOk.then (PanicOk.then (PanicOk.inb (PanicOk.then (PanicOk.bodyQ))))))) rfl (.inl ⟨List.nil_sublist _, List.nil_sublist _⟩) (fun I' hI' => (y_indexAddr (j := 0) Tryd.underlying27 Tryd.sizeOf52 rfl rfl (by first | rfl | omega) (by omega))) rfl ?_
          refine HG.take (i := 8) ([]) rfl (by kernel_rfl) (by kernel_rfl) (by kernel_rfl) (PanicOk.inb (PanicOk.inb (PanicOk.then (PanicOk.then (PanicOk.inb (PanicOk.then (PanicOk.bodyQ))))))) rfl (.inl ⟨List.nil_sublist _, List.nil_sublist _⟩) (fun I' hI' => (y_fieldAddr (o := 0) (t := 49) Tryd.underlying52 rfl Tryd.sizeOf49 (by decide) rfl)) rfl ?_
          refine HG.take (i := 9) ([]) rfl (by kernel_rfl) (by kernel_rfl) (by kernel_rfl) (PanicOk.inb (PanicOk.inb (PanicOk.then (PanicOk.then (PanicOk.inb (PanicOk.then (PanicOk.bodyQ))))))) rfl (.inl ⟨List.nil_sublist _, List.nil_sublist _⟩) (fun I' hI' => (y_fieldAddr (o := 0) (t := 3) Tryd.underlying49 rfl Tryd.sizeOf3 (by decide) rfl)) rfl ?_
          refine HG.one (i := 10) (by kernel_rfl) rfl (fun hcl hsz => ?_)
          refine HL.store1_0 (c' := [.int .i64 (((2 ^ x.a.toNat : Nat) : Int)), .int .i64 0, .slice (some ⟨b2, 0, none⟩) 1 1]) Tryd.sizeOf3 rfl rfl rfl rfl rfl ?_
          refine HL.nil ?_
          refine HQ.goOn_tail hcl hsz (by kernel_rfl) (List.nil_sublist _) (PLe.refl _) ?_
          clear hcl hsz
          refine HG.done (by kernel_rfl) ?_
          refine HQ.inb_normal ?_
          refine HQ.inb_normal ?_
          refine HQ.next ?_
          refine HC.sub (E' := [(0, _), (5, _), (16, _), (17, _), (18, _)]) ⟨rfl, rfl, rfl, rfl, rfl, trivial⟩ ?_
          refine HC.region ?_
          refine HL.freezeBox (fun J3 hJ3 hnew => ?_)
          have hnext : RowOk J3 l (i + 1) (vs ++ [.slice (some ⟨b1, 0, none⟩) 1 1]) := hvs.next hx (by omega) (hJ3) (by rw [nodeFilter, if_neg (by omega), if_pos hk]; exact hnew)
          refine HL.quiet (y_add rfl rfl (by omega)) rfl ?_
          refine HL.quiet (y_move rfl) rfl ?_
          refine HL.nil ?_
          exact HQ.again (i + 1, vs ++ [.slice (some ⟨b1, 0, none⟩) 1 1], J3) (show (fun (i : Nat) (vs : List Value) (J : PHeap) => i ≤ l.length ∧ PLe I J ∧ RowOk J l i vs) (i + 1) (vs ++ [.slice (some ⟨b1, 0, none⟩) 1 1]) J3 from ⟨by omega, (hJ).trans hJ3, hnext⟩) (show l.length - (i + 1) < l.length - i from by omega) ⟨rfl, rfl, rfl, rfl, rfl, trivial⟩ (List.Sublist.cons _ (List.Sublist.cons_cons _ (List.Sublist.refl _))) (PLe.refl _)
        · try simp only [Bool.and_eq_true, Bool.and_eq_false_iff, Bool.or_eq_true, Bool.or_eq_false_iff, decide_eq_true_eq, decide_eq_false_iff_not, Int.not_lt, Int.not_le, beq_iff_eq, bne_iff_ne, ne_eq, Decidable.not_not, beq_eq_false_iff_ne, bne_eq_false_iff_eq, Bool.not_eq_true', Bool.not_eq_false'] at hc3
          refine HC.seq ?_
          refine HC.region ?_
          refine HL.quiet (y_eql rfl rfl) rfl ?_
          refine HL.quiet (y_assign rfl) rfl ?_
          refine HL.nil ?_
          refine HQ.next ?_
          refine HC.sub (E' := [(0, _), (5, _), (16, _), (17, _), (18, _), (7, _), (6, _), (24, _), (47, _)]) ⟨rfl, rfl, rfl, rfl, rfl, rfl, rfl, rfl, rfl, trivial⟩ ?_
          refine HC.cond rfl (fun hc4 => ?_) (fun hc4 => ?_)
          · try simp only [Bool.and_eq_true, Bool.and_eq_false_iff, Bool.or_eq_true, Bool.or_eq_false_iff, decide_eq_true_eq, decide_eq_false_iff_not, Int.not_lt, Int.not_le, beq_iff_eq, bne_iff_ne, ne_eq, Decidable.not_not, beq_eq_false_iff_ne, bne_eq_false_iff_eq, Bool.not_eq_true', Bool.not_eq_false'] at hc4
            refine HC.region ?_
            have hk : x.kind = 3 := by omega
            refine HL.quiet (y_move rfl) rfl ?_
            refine HL.quiet (y_move rfl) rfl ?_
            refine HL.quiet (y_fieldAddr (o := 1) (t := 3) Tryd.underlying37 rfl Tryd.sizeOf3 (by decide) rfl) rfl ?_
            refine HL.quiet (y_loadL (k := 0) Tryd.isAgg3 rfl rfl rfl) rfl ?_
            refine HL.quiet (y_fieldAddr (o := 2) (t := 3) Tryd.underlying37 rfl Tryd.sizeOf3 (by decide) rfl) rfl ?_
            refine HL.quiet (y_loadL (k := 0) Tryd.isAgg3 rfl rfl rfl) rfl ?_
            refine HL.quiet (y_build (vs := [(0, .int .i64 x.a), (1, .int .i64 x.b)]) (v := .agg #[.int .i64 x.a, .int .i64 x.b]) (.cons rfl (.cons rfl (.nil))) (fun w => by kernel_rfl)) rfl ?_
            refine HL.buildSlice (vs := [(0, .agg #[.int .i64 x.a, .int .i64 x.b])]) (cs := [.int .i64 x.a, .int .i64 x.b]) (.cons rfl (.nil)) Tryd.underlying50 Tryd.sizeOf54 Tryd.zeroValue54 rfl rfl (by kernel_rfl) rfl (fun b2 _ => ?_)
            refine HL.quiet (y_build (vs := [(1, .slice (some ⟨b2, 0, none⟩) 1 1)]) (v := .agg #[.int .i64 0, .int .i64 0, .slice (some ⟨b2, 0, none⟩) 1 1]) (.cons rfl (.nil)) (fun w => by kernel_rfl)) rfl ?_
            refine HL.buildSlice (vs := [(0, .agg #[.int .i64 0, .int .i64 0, .slice (some ⟨b2, 0, none⟩) 1 1])]) (cs := [.int .i64 0, .int .i64 0, .slice (some ⟨b2, 0, none⟩) 1 1]) (.cons rfl (.nil)) Tryd.underlying27 Tryd.sizeOf52 Tryd.zeroValue52 rfl rfl (by kernel_rfl) rfl (fun b1 _ => ?_)
            refine HL.quiet (y_indexAddr (j := i) Tryd.underlying47 Tryd.sizeOf27 rfl rfl (by first | rfl | omega) (by omega)) rfl ?_
            refine HL.store1s_3 (c' := ((vs ++ [.slice (some ⟨b1, 0, none⟩) 1 1]) ++ List.replicate (l.length - (i + 1)) (.slice none 0 0))) Tryd.sizeOf27 rfl rfl (by simp only [List.length_append, List.length_replicate]; omega) rfl (row_set hvl (by omega)) ?_
            refine HL.nil ?_
            refine HQ.inb_normal ?_
            refine HQ.inb_normal ?_
            refine HQ.next ?_
            refine HC.sub (E' := [(0, _), (5, _), (16, _), (17, _), (18, _)]) ⟨rfl, rfl, rfl, rfl, rfl, trivial⟩ ?_
            refine HC.region ?_
            refine HL.freezeBox (fun J3 hJ3 hnew => ?_)
            have hnext : RowOk J3 l (i + 1) (vs ++ [.slice (some ⟨b1, 0, none⟩) 1 1]) := hvs.next hx (by omega) (hJ3) (by rw [nodeFilter, if_neg (by omega), if_neg (by omega), if_pos hk]; exact hnew)
            refine HL.quiet (y_add rfl rfl (by omega)) rfl ?_
            refine HL.quiet (y_move rfl) rfl ?_
            refine HL.nil ?_
            exact HQ.again (i + 1, vs ++ [.slice (some ⟨b1, 0, none⟩) 1 1], J3) (show (fun (i : Nat) (vs : List Value) (J : PHeap) => i ≤ l.length ∧ PLe I J ∧ RowOk J l i vs) (i + 1) (vs ++ [.slice (some ⟨b1, 0, none⟩) 1 1]) J3 from ⟨by omega, (hJ).trans hJ3, hnext⟩) (show l.length - (i + 1) < l.length - i from by omega) ⟨rfl, rfl, rfl, rfl, rfl, trivial⟩ (List.Sublist.cons _ (List.Sublist.cons_cons _ (List.Sublist.refl _))) (PLe.refl _)
          · try simp only [Bool.and_eq_true, Bool.and_eq_false_iff, Bool.or_eq_true, Bool.or_eq_false_iff, decide_eq_true_eq, decide_eq_false_iff_not, Int.not_lt, Int.not_le, beq_iff_eq, bne_iff_ne, ne_eq, Decidable.not_not, beq_eq_false_iff_ne, bne_eq_false_iff_eq, Bool.not_eq_true', Bool.not_eq_false'] at hc4
            refine HC.seq ?_
            refine HC.region ?_
            refine HL.quiet (y_eql rfl rfl) rfl ?_
            refine HL.quiet (y_assign rfl) rfl ?_
            refine HL.nil ?_
            refine HQ.next ?_
            refine HC.sub (E' := [(0, _), (5, _), (16, _), (17, _), (18, _), (7, _), (6, _), (24, _), (60, _)]) ⟨rfl, rfl, rfl, rfl, rfl, rfl, rfl, rfl, rfl, trivial⟩ ?_
            refine HC.cond rfl (fun hc5 => ?_) (fun hc5 => ?_)
            · try simp only [Bool.and_eq_true, Bool.and_eq_false_iff, Bool.or_eq_true, Bool.or_eq_false_iff, decide_eq_true_eq, decide_eq_false_iff_not, Int.not_lt, Int.not_le, beq_iff_eq, bne_iff_ne, ne_eq, Decidable.not_not, beq_eq_false_iff_ne, bne_eq_false_iff_eq, Bool.not_eq_true', Bool.not_eq_false'] at hc5
              refine HC.drawn ([]) 13 Tryd.mixed ?_
              have hk : x.kind = 4 := by omega
              have hbba := bad_not hbad hk
              obtain ⟨pada, pcapa, hcella, hvala⟩ := hvs.2 x.a.toNat (by omega)
              refine HG.take (i := 0) ([]) rfl (by kernel_rfl) (by kernel_rfl) (by kernel_rfl) (PanicOk.inb (PanicOk.inb (PanicOk.then (PanicOk.then (PanicOk.inb (PanicOk.then (PanicOk.bodyQ))))))) rfl (.inl ⟨List.nil_sublist _, List.nil_sublist _⟩) (fun I' hI' => (y_move rfl)) rfl ?_
              refine HG.take (i := 1) ([]) rfl (by kernel_rfl) (by kernel_rfl) (by kernel_rfl) (PanicOk.inb (PanicOk.inb (PanicOk.then (PanicOk.then (PanicOk.inb (PanicOk.then (PanicOk.bodyQ))))))) rfl (.inl ⟨List.nil_sublist _, List.nil_sublist _⟩) (fun I' hI' => (y_move rfl)) rfl ?_
              refine HG.take (i := 3) ([]) rfl (by kernel_rfl) (by kernel_rfl) (by kernel_rfl) (PanicOk.inb (PanicOk.inb (PanicOk.then (PanicOk.then (PanicOk.inb (PanicOk.then (PanicOk.bodyQ))))))) rfl (.inl ⟨List.nil_sublist _, List.nil_sublist _⟩) (fun I' hI' => (y_move rfl)) rfl ?_
              refine HG.take (i := 4) ([]) rfl (by kernel_rfl) (by kernel_rfl) (by kernel_rfl) (PanicOk.inb (PanicOk.inb (PanicOk.then (PanicOk.then (PanicOk.inb (PanicOk.then (PanicOk.bodyQ))))))) rfl (.inl ⟨List.nil_sublist _, List.nil_sublist _⟩) (fun I' hI' => (y_fieldAddr (o := 1) (t := 3) Tryd.underlying37 rfl Tryd.sizeOf3 (by decide) rfl)) rfl ?_
              refine HG.take (i := 5) ((nb, blk [.int .i64 x.kind, .int .i64 x.a, .int .i64 x.b] 37) :: (al, blk (vs ++ List.replicate (l.length - i) (.slice none 0 0)) 27) :: Lf) rfl (by kernel_rfl) (by kernel_rfl) (by kernel_rfl) (PanicOk.inb (PanicOk.inb (PanicOk.then (PanicOk.then (PanicOk.inb (PanicOk.then (PanicOk.bodyQ))))))) rfl (.inr ⟨by kernel_rfl, List.Sublist.refl _⟩) (fun I' hI' => (y_loadL (k := 0) Tryd.isAgg3 rfl rfl rfl)) rfl ?_
              refine HG.take (i := 6) ([]) rfl (by kernel_rfl) (by kernel_rfl) (by kernel_rfl) (PanicOk.inb (PanicOk.inb (PanicOk.then (PanicOk.then (PanicOk.inb (PanicOk.then (PanicOk.bodyQ))))))) rfl (.inl ⟨List.nil_sublist _, List.nil_sublist _⟩) (fun I' hI' => (y_indexAddr (j := x.a.toNat) Tryd.underlying47 Tryd.sizeOf27 rfl rfl (by omega) (by omega))) rfl ?_
              refine HG.take (i := 7) ((nb, blk [.int .i64 x.kind, .int .i64 x.a, .int .i64 x.b] 37) :: (al, blk (vs ++ List.replicate (l.length - i) (.slice none 0 0)) 27) :: Lf) rfl (by kernel_rfl) (by kernel_rfl) (by kernel_rfl) (PanicOk.inb (PanicOk.inb (PanicOk.then (PanicOk.then (PanicOk.inb (PanicOk.then (PanicOk.bodyQ))))))) rfl (.inr ⟨by kernel_rfl, List.Sublist.refl _⟩) (fun I' hI' => (y_loadL (k := 1) (v := .slice pada (((filtersOf (l.take i)).getD x.a.toNat []).length) pcapa) Tryd.isAgg27 rfl rfl (row_get hvl (by omega) hcella))) rfl ?_
              refine HG.one (i := 2) (by kernel_rfl) rfl (fun hcl hsz => ?_)
              refine HL.call (Lp := []) Tryd.call9 .nil (List.Perm.refl _) rfl (filter_Every _) ?_
              rintro _ _ _ _ ⟨b1, b2, rfl, rfl, rfl⟩
              refine HL.nil ?_
              refine HQ.goOn hcl hsz (by kernel_rfl) (List.Sublist.cons _ (List.Sublist.cons _ (List.Sublist.refl _))) (PLe.refl _) ?_
              clear hcl hsz
              refine HG.one (i := 8) (by kernel_rfl) rfl (fun hcl hsz => ?_)
              refine HL.freezeBox (fun J2 hJ2 hev => ?_)
              refine HL.callP Tryd.call8 (.cons rfl (.cons rfl (.nil))) rfl (filter_Less _ _ _ _ _ (hev) (hvala.le hJ2)) ?_
              rintro _ Ii2 hi2 ⟨ru, rfl, hres⟩
              obtain ⟨rad, rcap, rfl, _⟩ := hres.slice
              refine HL.nil ?_
              refine HQ.goOn hcl hsz (by kernel_rfl) (List.Sublist.refl _) ((hJ2).trans hi2) ?_
              clear hcl hsz
              refine HG.take (i := 9) ([]) rfl (by kernel_rfl) (by kernel_rfl) (by kernel_rfl) (PanicOk.inb (PanicOk.inb (PanicOk.then (PanicOk.then (PanicOk.inb (PanicOk.then (PanicOk.bodyQ))))))) rfl (.inl ⟨List.nil_sublist _, List.nil_sublist _⟩) (fun I' hI' => (y_move rfl)) rfl ?_
              refine HG.take (i := 10) ([]) rfl (by kernel_rfl) (by kernel_rfl) (by kernel_rfl) (PanicOk.inb (PanicOk.inb (PanicOk.then (PanicOk.then (PanicOk.inb (PanicOk.then (PanicOk.bodyQ))))))) rfl (.inl ⟨List.nil_sublist _, List.nil_sublist _⟩) (fun I' hI' => (y_extract rfl rfl)) rfl ?_
              refine HG.take (i := 11) ([]) rfl (by kernel_rfl) (by kernel_rfl) (by kernel_rfl) (PanicOk.inb (PanicOk.inb (PanicOk.then (PanicOk.then (PanicOk.inb (PanicOk.then (PanicOk.bodyQ))))))) rfl (.inl ⟨List.nil_sublist _, List.nil_sublist _⟩) (fun I' hI' => (y_extract rfl rfl)) rfl ?_
              refine HG.take (i := 12) ([]) rfl (by kernel_rfl) (by kernel_rfl) (by kernel_rfl) (PanicOk.inb (PanicOk.inb (PanicOk.then (PanicOk.then (PanicOk.inb (PanicOk.then (PanicOk.bodyQ))))))) rfl (.inl ⟨List.nil_sublist _, List.nil_sublist _⟩) (fun I' hI' => (y_indexAddr (j := i) Tryd.underlying47 Tryd.sizeOf27 rfl rfl (by first | rfl | omega) (by omega))) rfl ?_
              refine HG.one (i := 13) (by kernel_rfl) rfl (fun hcl hsz => ?_)
              refine HL.store1s_1 (c' := ((vs ++ [.slice rad ((lessOf every ((filtersOf (l.take i)).getD x.a.toNat [])).2.length) rcap]) ++ List.replicate (l.length - (i + 1)) (.slice none 0 0))) Tryd.sizeOf27 rfl rfl (by simp only [List.length_append, List.length_replicate]; omega) rfl (row_set hvl (by omega)) ?_
              refine HL.nil ?_
              refine HQ.goOn_tail hcl hsz (by kernel_rfl) (List.nil_sublist _) ((hJ2).trans hi2) ?_
              clear hcl hsz
              refine HG.done (by kernel_rfl) ?_
              refine HQ.inb_normal ?_
              refine HQ.inb_normal ?_
              refine HQ.next ?_
              refine HC.sub (E' := [(0, _), (5, _), (16, _), (17, _), (18, _)]) ⟨rfl, rfl, rfl, rfl, rfl, trivial⟩ ?_
              refine HC.region ?_
              have hnext : RowOk Ii2 l (i + 1) (vs ++ [.slice rad ((lessOf every ((filtersOf (l.take i)).getD x.a.toNat [])).2.length) rcap]) := hvs.next hx (by omega) ((hJ2).trans hi2) (by rw [nodeFilter, if_neg (by omega), if_neg (by omega), if_neg (by omega), if_pos hk]; exact hres)
              refine HL.quiet (y_add rfl rfl (by omega)) rfl ?_
              refine HL.quiet (y_move rfl) rfl ?_
              refine HL.nil ?_
              exact HQ.again (i + 1, vs ++ [.slice rad ((lessOf every ((filtersOf (l.take i)).getD x.a.toNat [])).2.length) rcap], Ii2) (show (fun (i : Nat) (vs : List Value) (J : PHeap) => i ≤ l.length ∧ PLe I J ∧ RowOk J l i vs) (i + 1) (vs ++ [.slice rad ((lessOf every ((filtersOf (l.take i)).getD x.a.toNat [])).2.length) rcap]) Ii2 from ⟨by omega, ((hJ).trans hJ2).trans hi2, hnext⟩) (show l.length - (i + 1) < l.length - i from by omega) ⟨rfl, rfl, rfl, rfl, rfl, trivial⟩ (List.Sublist.cons _ (List.Sublist.cons_cons _ (List.Sublist.refl _))) (PLe.refl _)
            · try simp only [Bool.and_eq_true, Bool.and_eq_false_iff, Bool.or_eq_true, Bool.or_eq_false_iff, decide_eq_true_eq, decide_eq_false_iff_not, Int.not_lt, Int.not_le, beq_iff_eq, bne_iff_ne, ne_eq, Decidable.not_not, beq_eq_false_iff_ne, bne_eq_false_iff_eq, Bool.not_eq_true', Bool.not_eq_false'] at hc5
              refine HC.seq ?_
              refine HC.region ?_
              refine HL.quiet (y_eql rfl rfl) rfl ?_
              refine HL.quiet (y_assign rfl) rfl ?_
              refine HL.nil ?_
              refine HQ.next ?_
              refine HC.sub (E' := [(0, _), (5, _), (16, _), (17, _), (18, _), (7, _), (6, _), (24, _), (75, _)]) ⟨rfl, rfl, rfl, rfl, rfl, rfl, rfl, rfl, rfl, trivial⟩ ?_
              refine HC.cond rfl (fun hc6 => ?_) (fun hc6 => ?_)
              · try simp only [Bool.and_eq_true, Bool.and_eq_false_iff, Bool.or_eq_true, Bool.or_eq_false_iff, decide_eq_true_eq, decide_eq_false_iff_not, Int.not_lt, Int.not_le, beq_iff_eq, bne_iff_ne, ne_eq, Decidable.not_not, beq_eq_false_iff_ne, bne_eq_false_iff_eq, Bool.not_eq_true', Bool.not_eq_false'] at hc6
                refine HC.drawn ([]) 17 Tryd.mixed ?_
                have hk : x.kind = 5 := by omega
                have hbba := bad_two hbad (.inl hk)
                obtain ⟨pada, pcapa, hcella, hvala⟩ := hvs.2 x.a.toNat (by omega)
                have hbbb := bad_two hbad (.inl hk)
                obtain ⟨padb, pcapb, hcellb, hvalb⟩ := hvs.2 x.b.toNat (by omega)
                refine HG.take (i := 0) ([]) rfl (by kernel_rfl) (by kernel_rfl) (by kernel_rfl) (PanicOk.inb (PanicOk.inb (PanicOk.then (PanicOk.then (PanicOk.inb (PanicOk.then (PanicOk.bodyQ))))))) rfl (.inl ⟨List.nil_sublist _, List.nil_sublist _⟩) (fun I' hI' => (y_move rfl)) rfl ?_
                refine HG.take (i := 1) ([]) rfl (by kernel_rfl) (by kernel_rfl) (by kernel_rfl) (PanicOk.inb (PanicOk.inb (PanicOk.then (PanicOk.then (PanicOk.inb (PanicOk.then (PanicOk.bodyQ))))))) rfl (.inl ⟨List.nil_sublist _, List.nil_sublist _⟩) (fun I' hI' => (y_move rfl)) rfl ?_
                refine HG.take (i := 2) ([]) rfl (by kernel_rfl) (by kernel_rfl) (by kernel_rfl) (PanicOk.inb (PanicOk.inb (PanicOk.then (PanicOk.then (PanicOk.inb (PanicOk.then (PanicOk.bodyQ))))))) rfl (.inl ⟨List.nil_sublist _, List.nil_sublist _⟩) (fun I' hI' => (y_move rfl)) rfl ?_
                refine HG.take (i := 3) ([]) rfl (by kernel_rfl) (by kernel_rfl) (by kernel_rfl) (PanicOk.inb (PanicOk.inb (PanicOk.then (PanicOk.then (PanicOk.inb (PanicOk.then (PanicOk.bodyQ))))))) rfl (.inl ⟨List.nil_sublist _, List.nil_sublist _⟩) (fun I' hI' => (y_fieldAddr (o := 1) (t := 3) Tryd.underlying37 rfl Tryd.sizeOf3 (by decide) rfl)) rfl ?_
                refine HG.take (i := 4) ((nb, blk [.int .i64 x.kind, .int .i64 x.a, .int .i64 x.b] 37) :: (al, blk (vs ++ List.replicate (l.length - i) (.slice none 0 0)) 27) :: Lf) rfl (by kernel_rfl) (by kernel_rfl) (by kernel_rfl) (PanicOk.inb (PanicOk.inb (PanicOk.then (PanicOk.then (PanicOk.inb (PanicOk.then (PanicOk.bodyQ))))))) rfl (.inr ⟨by kernel_rfl, List.Sublist.refl _⟩) (fun I' hI' => (y_loadL (k := 0) Tryd.isAgg3 rfl rfl rfl)) rfl ?_
                refine HG.take (i := 5) ([]) rfl (by kernel_rfl) (by kernel_rfl) (by kernel_rfl) (PanicOk.inb (PanicOk.inb (PanicOk.then (PanicOk.then (PanicOk.inb (PanicOk.then (PanicOk.bodyQ))))))) rfl (.inl ⟨List.nil_sublist _, List.nil_sublist _⟩) (fun I' hI' => (y_indexAddr (j := x.a.toNat) Tryd.underlying47 Tryd.sizeOf27 rfl rfl (by omega) (by omega))) rfl ?_
                refine HG.take (i := 6) ((nb, blk [.int .i64 x.kind, .int .i64 x.a, .int .i64 x.b] 37) :: (al, blk (vs ++ List.replicate (l.length - i) (.slice none 0 0)) 27) :: Lf) rfl (by kernel_rfl) (by kernel_rfl) (by kernel_rfl) (PanicOk.inb (PanicOk.inb (PanicOk.then (PanicOk.then (PanicOk.inb (PanicOk.then (PanicOk.bodyQ))))))) rfl (.inr ⟨by kernel_rfl, List.Sublist.refl _⟩) (fun I' hI' => (y_loadL (k := 1) (v := .slice pada (((filtersOf (l.take i)).getD x.a.toNat []).length) pcapa) Tryd.isAgg27 rfl rfl (row_get hvl (by omega) hcella))) rfl ?_
                refine HG.take (i := 7) ([]) rfl (by kernel_rfl) (by kernel_rfl) (by kernel_rfl) (PanicOk.inb (PanicOk.inb (PanicOk.then (PanicOk.then (PanicOk.inb (PanicOk.then (PanicOk.bodyQ))))))) rfl (.inl ⟨List.nil_sublist _, List.nil_sublist _⟩) (fun I' hI' => (y_move rfl)) rfl ?_
                refine HG.take (i := 8) ([]) rfl (by kernel_rfl) (by kernel_rfl) (by kernel_rfl) (PanicOk.inb (PanicOk.inb (PanicOk.then (PanicOk.then (PanicOk.inb (PanicOk.then (PanicOk.bodyQ))))))) rfl (.inl ⟨List.nil_sublist _, List.nil_sublist _⟩) (fun I' hI' => (y_fieldAddr (o := 2) (t := 3) Tryd.underlying37 rfl Tryd.sizeOf3 (by decide) rfl)) rfl ?_
                refine HG.take (i := 9) ((nb, blk [.int .i64 x.kind, .int .i64 x.a, .int .i64 x.b] 37) :: (al, blk (vs ++ List.replicate (l.length - i) (.slice none 0 0)) 27) :: Lf) rfl (by kernel_rfl) (by kernel_rfl) (by kernel_rfl) (PanicOk.inb (PanicOk.inb (PanicOk.then (PanicOk.then (PanicOk.inb (PanicOk.then (PanicOk.bodyQ))))))) rfl (.inr ⟨by kernel_rfl, List.Sublist.refl _⟩) (fun I' hI' => (y_loadL (k := 0) Tryd.isAgg3 rfl rfl rfl)) rfl ?_
                refine HG.take (i := 10) ([]) rfl (by kernel_rfl) (by kernel_rfl) (by kernel_rfl) (PanicOk.inb (PanicOk.inb (PanicOk.then (PanicOk.then (PanicOk.inb (PanicOk.then (PanicOk.bodyQ))))))) rfl (.inl ⟨List.nil_sublist _, List.nil_sublist _⟩) (fun I' hI' => (y_indexAddr (j := x.b.toNat) Tryd.underlying47 Tryd.sizeOf27 rfl rfl (by omega) (by omega))) rfl ?_
                refine HG.take (i := 11) ((nb, blk [.int .i64 x.kind, .int .i64 x.a, .int .i64 x.b] 37) :: (al, blk (vs ++ List.replicate (l.length - i) (.slice none 0 0)) 27) :: Lf) rfl (by kernel_rfl) (by kernel_rfl) (by kernel_rfl) (PanicOk.inb (PanicOk.inb (PanicOk.then (PanicOk.then (PanicOk.inb (PanicOk.then (PanicOk.bodyQ))))))) rfl (.inr ⟨by kernel_rfl, List.Sublist.refl _⟩) (fun I' hI' => (y_loadL (k := 1) (v := .slice padb (((filtersOf (l.take i)).getD x.b.toNat []).length) pcapb) Tryd.isAgg27 rfl rfl (row_get hvl (by omega) hcellb))) rfl ?_
                refine HG.one (i := 12) (by kernel_rfl) rfl (fun hcl hsz => ?_)
                refine HL.callP Tryd.call11 (.cons rfl (.cons rfl (.nil))) rfl (filter_Meet _ _ _ _ _ (hvala) (hvalb)) ?_
                rintro _ Ii3 hi3 ⟨ru, rfl, hres⟩
                obtain ⟨rad, rcap, rfl, _⟩ := hres.slice
                refine HL.nil ?_
                refine HQ.goOn hcl hsz (by kernel_rfl) (List.Sublist.refl _) (hi3) ?_
                clear hcl hsz
                refine HG.take (i := 13) ([]) rfl (by kernel_rfl) (by kernel_rfl) (by kernel_rfl) (PanicOk.inb (PanicOk.inb (PanicOk.then (PanicOk.then (PanicOk.inb (PanicOk.then (PanicOk.bodyQ))))))) rfl (.inl ⟨List.nil_sublist _, List.nil_sublist _⟩) (fun I' hI' => (y_move rfl)) rfl ?_
                refine HG.take (i := 14) ([]) rfl (by kernel_rfl) (by kernel_rfl) (by kernel_rfl) (PanicOk.inb (PanicOk.inb (PanicOk.then (PanicOk.then (PanicOk.inb (PanicOk.then (PanicOk.bodyQ))))))) rfl (.inl ⟨List.nil_sublist _, List.nil_sublist _⟩) (fun I' hI' => (y_extract rfl rfl)) rfl ?_
                refine HG.take (i := 15) ([]) rfl (by kernel_rfl) (by kernel_rfl) (by kernel_rfl) (PanicOk.inb (PanicOk.inb (PanicOk.then (PanicOk.then (PanicOk.inb (PanicOk.then (PanicOk.bodyQ))))))) rfl (.inl ⟨List.nil_sublist _, List.nil_sublist _⟩) (fun I' hI' => (y_extract rfl rfl)) rfl ?_
                refine HG.take (i := 16) ([]) rfl (by kernel_rfl) (by kernel_rfl) (by kernel_rfl) (PanicOk.inb (PanicOk.inb (PanicOk.then (PanicOk.then (PanicOk.inb (PanicOk.then (PanicOk.bodyQ))))))) rfl (.inl ⟨List.nil_sublist _, List.nil_sublist _⟩) (fun I' hI' => (y_indexAddr (j := i) Tryd.underlying47 Tryd.sizeOf27 rfl rfl (by first | rfl | omega) (by omega))) rfl ?_
                refine HG.one (i := 17) (by kernel_rfl) rfl (fun hcl hsz => ?_)
                refine HL.store1s_1 (c' := ((vs ++ [.slice rad ((meetOf ((filtersOf (l.take i)).getD x.a.toNat []) ((filtersOf (l.take i)).getD x.b.toNat [])).2.length) rcap]) ++ List.replicate (l.length - (i + 1)) (.slice none 0 0))) Tryd.sizeOf27 rfl rfl (by simp only [List.length_append, List.length_replicate]; omega) rfl (row_set hvl (by omega)) ?_
                refine HL.nil ?_
                refine HQ.goOn_tail hcl hsz (by kernel_rfl) (List.nil_sublist _) (hi3) ?_
                clear hcl hsz
                refine HG.done (by kernel_rfl) ?_
                refine HQ.inb_normal ?_
                refine HQ.inb_normal ?_
                refine HQ.next ?_
                refine HC.sub (E' := [(0, _), (5, _), (16, _), (17, _), (18, _)]) ⟨rfl, rfl, rfl, rfl, rfl, trivial⟩ ?_
                refine HC.region ?_
                have hnext : RowOk Ii3 l (i + 1) (vs ++ [.slice rad ((meetOf ((filtersOf (l.take i)).getD x.a.toNat []) ((filtersOf (l.take i)).getD x.b.toNat [])).2.length) rcap]) := hvs.next hx (by omega) (hi3) (by rw [nodeFilter, if_neg (by omega), if_neg (by omega), if_neg (by omega), if_neg (by omega), if_pos hk]; exact hres)
                refine HL.quiet (y_add rfl rfl (by omega)) rfl ?_
                refine HL.quiet (y_move rfl) rfl ?_
                refine HL.nil ?_
                exact HQ.again (i + 1, vs ++ [.slice rad ((meetOf ((filtersOf (l.take i)).getD x.a.toNat []) ((filtersOf (l.take i)).getD x.b.toNat [])).2.length) rcap], Ii3) (show (fun (i : Nat) (vs : List Value) (J : PHeap) => i ≤ l.length ∧ PLe I J ∧ RowOk J l i vs) (i + 1) (vs ++ [.slice rad ((meetOf ((filtersOf (l.take i)).getD x.a.toNat []) ((filtersOf (l.take i)).getD x.b.toNat [])).2.length) rcap]) Ii3 from ⟨by omega, (hJ).trans hi3, hnext⟩) (show l.length - (i + 1) < l.length - i from by omega) ⟨rfl, rfl, rfl, rfl, rfl, trivial⟩ (List.Sublist.cons _ (List.Sublist.cons_cons _ (List.Sublist.refl _))) (PLe.refl _)
              · try simp only [Bool.and_eq_true, Bool.and_eq_false_iff, Bool.or_eq_true, Bool.or_eq_false_iff, decide_eq_true_eq, decide_eq_false_iff_not, Int.not_lt, Int.not_le, beq_iff_eq, bne_iff_ne, ne_eq, Decidable.not_not, beq_eq_false_iff_ne, bne_eq_false_iff_eq, Bool.not_eq_true', Bool.not_eq_false'] at hc6
                refine HC.seq ?_
                refine HC.region ?_
                refine HL.quiet (y_eql rfl rfl) rfl ?_
                refine HL.quiet (y_assign rfl) rfl ?_
                refine HL.nil ?_
                refine HQ.next ?_
                refine HC.sub (E' := [(0, _), (5, _), (16, _), (17, _), (18, _), (7, _), (6, _), (94, _)]) ⟨rfl, rfl, rfl, rfl, rfl, rfl, rfl, rfl, trivial⟩ ?_
                refine HC.cond rfl (fun hc7 => ?_) (fun hc7 => ?_)
                · try simp only [Bool.and_eq_true, Bool.and_eq_false_iff, Bool.or_eq_true, Bool.or_eq_false_iff, decide_eq_true_eq, decide_eq_false_iff_not, Int.not_lt, Int.not_le, beq_iff_eq, bne_iff_ne, ne_eq, Decidable.not_not, beq_eq_false_iff_ne, bne_eq_false_iff_eq, Bool.not_eq_true', Bool.not_eq_false'] at hc7
                  refine HC.drawn ([]) 17 Tryd.mixed ?_
                  have hk : x.kind = 6 := by omega
                  have hbba := bad_two hbad (.inr hk)
                  obtain ⟨pada, pcapa, hcella, hvala⟩ := hvs.2 x.a.toNat (by omega)
                  have hbbb := bad_two hbad (.inr hk)
                  obtain ⟨padb, pcapb, hcellb, hvalb⟩ := hvs.2 x.b.toNat (by omega)
                  refine HG.take (i := 0) ([]) rfl (by kernel_rfl) (by kernel_rfl) (by kernel_rfl) (PanicOk.inb (PanicOk.inb (PanicOk.then (PanicOk.then (PanicOk.inb (PanicOk.then (PanicOk.bodyQ))))))) rfl (.inl ⟨List.nil_sublist _, List.nil_sublist _⟩) (fun I' hI' => (y_move rfl)) rfl ?_
                  refine HG.take (i := 1) ([]) rfl (by kernel_rfl) (by kernel_rfl) (by kernel_rfl) (PanicOk.inb (PanicOk.inb (PanicOk.then (PanicOk.then (PanicOk.inb (PanicOk.then (PanicOk.bodyQ))))))) rfl (.inl ⟨List.nil_sublist _, List.nil_sublist _⟩) (fun I' hI' => (y_move rfl)) rfl ?_
                  refine HG.take (i := 2) ([]) rfl (by kernel_rfl) (by kernel_rfl) (by kernel_rfl) (PanicOk.inb (PanicOk.inb (PanicOk.then (PanicOk.then (PanicOk.inb (PanicOk.then (PanicOk.bodyQ))))))) rfl (.inl ⟨List.nil_sublist _, List.nil_sublist _⟩) (fun I' hI' => (y_move rfl)) rfl ?_
                  refine HG.take (i := 3) ([]) rfl (by kernel_rfl) (by kernel_rfl) (by kernel_rfl) (PanicOk.inb (PanicOk.inb (PanicOk.then (PanicOk.then (PanicOk.inb (PanicOk.then (PanicOk.bodyQ))))))) rfl (.inl ⟨List.nil_sublist _, List.nil_sublist _⟩) (fun I' hI' => (y_fieldAddr (o := 1) (t := 3) Tryd.underlying37 rfl Tryd.sizeOf3 (by decide) rfl)) rfl ?_
                  refine HG.take (i := 4) ((nb, blk [.int .i64 x.kind, .int .i64 x.a, .int .i64 x.b] 37) :: (al, blk (vs ++ List.replicate (l.length - i) (.slice none 0 0)) 27) :: Lf) rfl (by kernel_rfl) (by kernel_rfl) (by kernel_rfl) (PanicOk.inb (PanicOk.inb (PanicOk.then (PanicOk.then (PanicOk.inb (PanicOk.then (PanicOk.bodyQ))))))) rfl (.inr ⟨by kernel_rfl, List.Sublist.refl _⟩) (fun I' hI' => (y_loadL (k := 0) Tryd.isAgg3 rfl rfl rfl)) rfl ?_
                  refine HG.take (i := 5) ([]) rfl (by kernel_rfl) (by kernel_rfl) (by kernel_rfl) (PanicOk.inb (PanicOk.inb (PanicOk.then (PanicOk.then (PanicOk.inb (PanicOk.then (PanicOk.bodyQ))))))) rfl (.inl ⟨List.nil_sublist _, List.nil_sublist _⟩) (fun I' hI' => (y_indexAddr (j := x.a.toNat) Tryd.underlying47 Tryd.sizeOf27 rfl rfl (by omega) (by omega))) rfl ?_
                  refine HG.take (i := 6) ((nb, blk [.int .i64 x.kind, .int .i64 x.a, .int .i64 x.b] 37) :: (al, blk (vs ++ List.replicate (l.length - i) (.slice none 0 0)) 27) :: Lf) rfl (by kernel_rfl) (by kernel_rfl) (by kernel_rfl) (PanicOk.inb (PanicOk.inb (PanicOk.then (PanicOk.then (PanicOk.inb (PanicOk.then (PanicOk.bodyQ))))))) rfl (.inr ⟨by kernel_rfl, List.Sublist.refl _⟩) (fun I' hI' => (y_loadL (k := 1) (v := .slice pada (((filtersOf (l.take i)).getD x.a.toNat []).length) pcapa) Tryd.isAgg27 rfl rfl (row_get hvl (by omega) hcella))) rfl ?_
                  refine HG.take (i := 7) ([]) rfl (by kernel_rfl) (by kernel_rfl) (by kernel_rfl) (PanicOk.inb (PanicOk.inb (PanicOk.then (PanicOk.then (PanicOk.inb (PanicOk.then (PanicOk.bodyQ))))))) rfl (.inl ⟨List.nil_sublist _, List.nil_sublist _⟩) (fun I' hI' => (y_move rfl)) rfl ?_
                  refine HG.take (i := 8) ([]) rfl (by kernel_rfl) (by kernel_rfl) (by kernel_rfl) (PanicOk.inb (PanicOk.inb (PanicOk.then (PanicOk.then (PanicOk.inb (PanicOk.then (PanicOk.bodyQ))))))) rfl (.inl ⟨List.nil_sublist _, List.nil_sublist _⟩) (fun I' hI' => (y_fieldAddr (o := 2) (t := 3) Tryd.underlying37 rfl Tryd.sizeOf3 (by decide) rfl)) rfl ?_
                  refine HG.take (i := 9) ((nb, blk [.int .i64 x.kind, .int .i64 x.a, .int .i64 x.b] 37) :: (al, blk (vs ++ List.replicate (l.length - i) (.slice none 0 0)) 27) :: Lf) rfl (by kernel_rfl) (by kernel_rfl) (by kernel_rfl) (PanicOk.inb (PanicOk.inb (PanicOk.then (PanicOk.then (PanicOk.inb (PanicOk.then (PanicOk.bodyQ))))))) rfl (.inr ⟨by kernel_rfl, List.Sublist.refl _⟩) (fun I' hI' => (y_loadL (k := 0) Tryd.isAgg3 rfl rfl rfl)) rfl ?_
                  refine HG.take (i := 10) ([]) rfl (by kernel_rfl) (by kernel_rfl) (by kernel_rfl) (PanicOk.inb (PanicOk.inb (PanicOk.then (PanicOk.then (PanicOk.inb (PanicOk.then (PanicOk.bodyQ))))))) rfl (.inl ⟨List.nil_sublist _, List.nil_sublist _⟩) (fun I' hI' => (y_indexAddr (j := x.b.toNat) Tryd.underlying47 Tryd.sizeOf27 rfl rfl (by omega) (by omega))) rfl ?_
                  refine HG.take (i := 11) ((nb, blk [.int .i64 x.kind, .int .i64 x.a, .int .i64 x.b] 37) :: (al, blk (vs ++ List.replicate (l.length - i) (.slice none 0 0)) 27) :: Lf) rfl (by kernel_rfl) (by kernel_rfl) (by kernel_rfl) (PanicOk.inb (PanicOk.inb (PanicOk.then (PanicOk.then (PanicOk.inb (PanicOk.then (PanicOk.bodyQ))))))) rfl (.inr ⟨by kernel_rfl, List.Sublist.refl _⟩) (fun I' hI' => (y_loadL (k := 1) (v := .slice padb (((filtersOf (l.take i)).getD x.b.toNat []).length) pcapb) Tryd.isAgg27 rfl rfl (row_get hvl (by omega) hcellb))) rfl ?_
                  refine HG.one (i := 12) (by kernel_rfl) rfl (fun hcl hsz => ?_)
                  refine HL.callP Tryd.call12 (.cons rfl (.cons rfl (.nil))) rfl (filter_Join _ _ _ _ _ (hvala) (hvalb)) ?_
                  rintro _ Ii4 hi4 ⟨ru, rfl, hres⟩
                  obtain ⟨rad, rcap, rfl, _⟩ := hres.slice
                  refine HL.nil ?_
                  refine HQ.goOn hcl hsz (by kernel_rfl) (List.Sublist.refl _) (hi4) ?_
                  clear hcl hsz
                  refine HG.take (i := 13) ([]) rfl (by kernel_rfl) (by kernel_rfl) (by kernel_rfl) (PanicOk.inb (PanicOk.inb (PanicOk.then (PanicOk.then (PanicOk.inb (PanicOk.then (PanicOk.bodyQ))))))) rfl (.inl ⟨List.nil_sublist _, List.nil_sublist _⟩) (fun I' hI' => (y_move rfl)) rfl ?_
                  refine HG.take (i := 14) ([]) rfl (by kernel_rfl) (by kernel_rfl) (by kernel_rfl) (PanicOk.inb (PanicOk.inb (PanicOk.then (PanicOk.then (PanicOk.inb (PanicOk.then (PanicOk.bodyQ))))))) rfl (.inl ⟨List.nil_sublist _, List.nil_sublist _⟩) (fun I' hI' => (y_extract rfl rfl)) rfl ?_
                  refine HG.take (i := 15) ([]) rfl (by kernel_rfl) (by kernel_rfl) (by kernel_rfl) (PanicOk.inb (PanicOk.inb (PanicOk.then (PanicOk.then (PanicOk.inb (PanicOk.then (PanicOk.bodyQ))))))) rfl (.inl ⟨List.nil_sublist _, List.nil_sublist _⟩) (fun I' hI' => (y_extract rfl rfl)) rfl ?_
                  refine HG.take (i := 16) ([]) rfl (by kernel_rfl) (by kernel_rfl) (by kernel_rfl) (PanicOk.inb (PanicOk.inb (PanicOk.then (PanicOk.then (PanicOk.inb (PanicOk.then (PanicOk.bodyQ))))))) rfl (.inl ⟨List.nil_sublist _, List.nil_sublist _⟩) (fun I' hI' => (y_indexAddr (j := i) Tryd.underlying47 Tryd.sizeOf27 rfl rfl (by first | rfl | omega) (by omega))) rfl ?_
                  refine HG.one (i := 17) (by kernel_rfl) rfl (fun hcl hsz => ?_)
                  refine HL.store1s_1 (c' := ((vs ++ [.slice rad ((joinOf ((filtersOf (l.take i)).getD x.a.toNat []) ((filtersOf (l.take i)).getD x.b.toNat [])).2.length) rcap]) ++ List.replicate (l.length - (i + 1)) (.slice none 0 0))) Tryd.sizeOf27 rfl rfl (by simp only [List.length_append, List.length_replicate]; omega) rfl (row_set hvl (by omega)) ?_
                  refine HL.nil ?_
                  refine HQ.goOn_tail hcl hsz (by kernel_rfl) (List.nil_sublist _) (hi4) ?_
                  clear hcl hsz
                  refine HG.done (by kernel_rfl) ?_
                  refine HQ.inb_normal ?_
                  refine HQ.inb_normal ?_
                  refine HQ.next ?_
                  refine HC.sub (E' := [(0, _), (5, _), (16, _), (17, _), (18, _)]) ⟨rfl, rfl, rfl, rfl, rfl, trivial⟩ ?_
                  refine HC.region ?_
                  have hnext : RowOk Ii4 l (i + 1) (vs ++ [.slice rad ((joinOf ((filtersOf (l.take i)).getD x.a.toNat []) ((filtersOf (l.take i)).getD x.b.toNat [])).2.length) rcap]) := hvs.next hx (by omega) (hi4) (by rw [nodeFilter, if_neg (by omega), if_neg (by omega), if_neg (by omega), if_neg (by omega), if_neg (by omega)]; exact hres)
                  refine HL.quiet (y_add rfl rfl (by omega)) rfl ?_
                  refine HL.quiet (y_move rfl) rfl ?_
                  refine HL.nil ?_
                  exact HQ.again (i + 1, vs ++ [.slice rad ((joinOf ((filtersOf (l.take i)).getD x.a.toNat []) ((filtersOf (l.take i)).getD x.b.toNat [])).2.length) rcap], Ii4) (show (fun (i : Nat) (vs : List Value) (J : PHeap) => i ≤ l.length ∧ PLe I J ∧ RowOk J l i vs) (i + 1) (vs ++ [.slice rad ((joinOf ((filtersOf (l.take i)).getD x.a.toNat []) ((filtersOf (l.take i)).getD x.b.toNat [])).2.length) rcap]) Ii4 from ⟨by omega, (hJ).trans hi4, hnext⟩) (show l.length - (i + 1) < l.length - i from by omega) ⟨rfl, rfl, rfl, rfl, rfl, trivial⟩ (List.Sublist.cons _ (List.Sublist.cons_cons _ (List.Sublist.refl _))) (PLe.refl _)
                · try simp only [Bool.and_eq_true, Bool.and_eq_false_iff, Bool.or_eq_true, Bool.or_eq_false_iff, decide_eq_true_eq, decide_eq_false_iff_not, Int.not_lt, Int.not_le, beq_iff_eq, bne_iff_ne, ne_eq, Decidable.not_not, beq_eq_false_iff_ne, bne_eq_false_iff_eq, Bool.not_eq_true', Bool.not_eq_false'] at hc7
                  refine HC.skip ?_
                  refine HQ.inb_normal ?_
                  refine HQ.inb_normal ?_
                  refine HQ.next ?_
                  refine HC.sub (E' := [(0, _), (5, _), (16, _), (17, _), (18, _)]) ⟨rfl, rfl, rfl, rfl, rfl, trivial⟩ ?_
                  refine HC.region ?_
                  exfalso
                  have := bad_kind hbad
                  omega
    · try simp only [Bool.and_eq_true, Bool.and_eq_false_iff, Bool.or_eq_true, Bool.or_eq_false_iff, decide_eq_true_eq, decide_eq_false_iff_not, Int.not_lt, Int.not_le, beq_iff_eq, bne_iff_ne, ne_eq, Decidable.not_not, beq_eq_false_iff_ne, bne_eq_false_iff_eq, Bool.not_eq_true', Bool.not_eq_false'] at hc1
      refine HC.exit ?_
      refine HQ.then_exit ?_
      refine HQ.then_exit ?_
      refine HQ.inb_exit ?_
      refine HQ.next ?_
      refine HC.sub (E' := [(0, _), (5, _)]) ⟨rfl, rfl, trivial⟩ ?_
      refine HC.seq ?_
      refine HC.region ?_
      have hil : i = l.length := by omega
      subst hil
      obtain ⟨padz, pcapz, hcellz, hvalz⟩ := hvs.2 (l.length - 1) (by omega)
      rw [List.take_length] at hcellz hvalz
      have hzok : FilterOk ((filtersOf l).getD (l.length - 1) []) := by
        have := filtersOf_ok hok l.length (Nat.le_refl _) ((filtersOf l).getD (l.length - 1) [])
        rw [List.take_length] at this
        refine this ?_
        rw [List.getD_eq_getElem?_getD, List.getElem?_eq_getElem (by rw [filtersOf_len]; omega), Option.getD_some]; exact List.getElem_mem _
      refine HL.quiet (y_move rfl) rfl ?_
      refine HL.quiet (y_move rfl) rfl ?_
      refine HL.quiet (y_len_slice Tryd.underlying22 rfl) rfl ?_
      refine HL.quiet (y_sub rfl rfl (by omega)) rfl ?_
      refine HL.quiet (y_indexAddr (j := (l.length - 1)) Tryd.underlying47 Tryd.sizeOf27 rfl rfl (by omega) (by omega)) rfl ?_
      refine HL.quiet (y_loadL (k := 0) (v := .slice padz (((filtersOf l).getD (l.length - 1) []).length) pcapz) Tryd.isAgg27 rfl rfl (row_get hvl (by omega) hcellz)) rfl ?_
      refine HL.callP Tryd.call17 (.cons rfl (.nil)) rfl (filter_Copied _ _ _ hvalz (by have := hzok.len; omega) (fun b hb => by have := spanCheck_len (hzok.spans b hb); omega)) ?_
      rintro fu Ii5 hi5 hfin
      refine HL.quiet (y_assign rfl) rfl ?_
      refine HL.quiet (y_assign rfl) rfl ?_
      refine HL.nil ?_
      refine HQ.next ?_
      refine HC.sub (E' := [(2, _), (3, _)]) ⟨rfl, rfl, trivial⟩ ?_
      refine HC.ret ?_
      refine HQ.doneP (Res.two Tryd.results7 rfl rfl) (List.Sublist.cons _ (List.Sublist.refl _)) ((hJ).trans hi5) ?_
      rw [filterOf, if_neg (by omega)]; exact ⟨_, rfl, hfin⟩

end Go.Rm
