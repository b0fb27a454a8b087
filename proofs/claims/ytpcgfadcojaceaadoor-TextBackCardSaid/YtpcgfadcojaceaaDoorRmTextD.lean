/- What this text holds: contracts of text.Read and of its deferred closure, printed by a program of mine (wip/tools/walk.py) from plans of mine. -/
import Derived.Test.YtpcgfadcojaceaaDoorRmTextC
import Derived.Test.YtpcgfadcojaceaaDoorRmNodes
import Derived.Test.YtpcgfadcojaceaaDoorRmDefer
set_option linter.unusedVariables false
set_option linter.unusedSimpArgs false
set_option linter.unusedSectionVars false
namespace Go.Rm
open Go Go.Proofs
set_option maxRecDepth 100000

theorem read_quiet (I : PHeap) (p q : Value) : SpecD Tryd.prog 14 [p, q] .returning .returning [] [] I := by
  refine SpecD.of_recover (v := .nilIface) Tryd.func14 rfl rfl rfl Tryd.results14 rfl rfl (fun c cs hc => .inr ⟨by simp [recoverD, hc], rfl, rfl⟩) (fun W Lf => ?_)
  refine HC.seq ?_
  refine HC.region ?_
  refine HL.quiet (y_move rfl) rfl ?_
  refine HL.quiet (y_neq_nil_nil Tryd.underlying20 rfl) rfl ?_
  refine HL.nil ?_
  refine HQ.next ?_
  refine HC.sub (E' := [(0, _), (1, _), (2, _), (7, _)]) ⟨rfl, rfl, rfl, rfl, trivial⟩ ?_
  refine HC.cond_false rfl ?_
  refine HC.skip ?_
  exact HQ.endD (List.Sublist.refl _)

theorem read_loud (I : PHeap) (rb eb : Nat) (rv ev : Value) (e : Int) : SpecD Tryd.prog 14 [.pointer (some ⟨rb, 0, none⟩), .pointer (some ⟨eb, 0, none⟩)] (.panicking (faultOf e)) (.panicking [{ v := .iface 40 (.agg #[.int .i64 e]), recovered := true }]) [(eb, blk [ev] 23), (rb, blk [rv] 22)] [(eb, blk [.int .i64 e] 23), (rb, blk [.slice none 0 0] 22)] I := by
  refine SpecD.of_recover (v := .iface 40 (.agg #[.int .i64 e])) Tryd.func14 rfl rfl rfl Tryd.results14 rfl rfl (fun c cs hc => .inl (by simp [recoverD, hc])) (fun W Lf => ?_)
  refine HC.seq ?_
  refine HC.region ?_
  refine HL.quiet (y_move rfl) rfl ?_
  refine HL.quiet (y_neq_nil_iface Tryd.underlying20 rfl) rfl ?_
  refine HL.nil ?_
  refine HQ.next ?_
  refine HC.sub (E' := [(0, _), (1, _), (2, _), (7, _)]) ⟨rfl, rfl, rfl, rfl, trivial⟩ ?_
  refine HC.cond_true rfl ?_
  refine HC.seq ?_
  refine HC.region ?_
  refine HL.quiet (y_move rfl) rfl ?_
  refine HL.quiet (y_assert Tryd.underlying40 rfl) rfl ?_
  refine HL.quiet (y_move rfl) rfl ?_
  refine HL.quiet (y_extract rfl rfl) rfl ?_
  refine HL.quiet (y_extract rfl rfl) rfl ?_
  refine HL.alloc_agg Tryd.zeroValue40 rfl (fun b1 _ => ?_)
  refine HL.store_all_0 Tryd.sizeOf40 rfl rfl rfl rfl rfl ?_
  refine HL.quiet (y_assign rfl) rfl ?_
  refine HL.nil ?_
  refine HQ.next ?_
  refine HC.sub (E' := [(0, _), (1, _), (2, _), (3, _), (4, _)]) ⟨rfl, rfl, rfl, rfl, rfl, trivial⟩ ?_
  refine HC.seq ?_
  refine HC.seq ?_
  refine HC.region ?_
  refine HL.quiet (y_move rfl) rfl ?_
  refine HL.quiet (y_not rfl) rfl ?_
  refine HL.nil ?_
  refine HQ.next ?_
  refine HC.sub (E' := [(0, _), (1, _), (2, _), (3, _), (14, _)]) ⟨rfl, rfl, rfl, rfl, rfl, trivial⟩ ?_
  refine HC.cond_false rfl ?_
  refine HC.skip ?_
  refine HQ.next ?_
  refine HC.sub (E' := [(0, _), (1, _), (3, _)]) ⟨rfl, rfl, rfl, trivial⟩ ?_
  refine HC.drawn ([(b1, blk [.int .i64 e] 40)]) 2 Tryd.mixed ?_
  refine HG.take (i := 0) ([]) rfl (by kernel_rfl) (by kernel_rfl) (by kernel_rfl) (PanicOk.endQ) rfl (.inl ⟨List.nil_sublist _, List.nil_sublist _⟩) (fun I' hI' => (y_fieldAddr (o := 0) (t := 23) Tryd.underlying40 rfl Tryd.sizeOf23 (by decide) rfl)) rfl ?_
  refine HG.take (i := 1) ([(b1, blk [.int .i64 e] 40)]) rfl (by kernel_rfl) (by kernel_rfl) (by kernel_rfl) (PanicOk.endQ) rfl (.inl ⟨List.Sublist.refl _, List.Sublist.cons_cons _ (List.Sublist.cons _ (List.Sublist.cons _ (List.nil_sublist _)))⟩) (fun I' hI' => (y_loadL (k := 0) Tryd.isAgg23 rfl rfl rfl)) rfl ?_
  refine HG.one (i := 2) (by kernel_rfl) rfl (fun hcl hsz => ?_)
  refine HL.store1_2 (c' := [.slice none 0 0]) Tryd.sizeOf22 rfl rfl rfl rfl rfl ?_
  refine HL.nil ?_
  refine HQ.goOn_tail hcl hsz (by kernel_rfl) (List.Sublist.cons_cons _ (List.Sublist.cons _ (List.Sublist.cons _ (List.nil_sublist _)))) (PLe.refl _) ?_
  clear hcl hsz
  refine HG.one (i := 3) (by kernel_rfl) rfl (fun hcl hsz => ?_)
  refine HL.store1_1 (c' := [.int .i64 e]) Tryd.sizeOf23 rfl rfl rfl rfl rfl ?_
  refine HL.nil ?_
  refine HQ.goOn_tail hcl hsz (by kernel_rfl) (List.Sublist.cons_cons _ (List.Sublist.cons _ (List.Sublist.cons _ (List.nil_sublist _)))) (PLe.refl _) ?_
  clear hcl hsz
  refine HG.done (by kernel_rfl) ?_
  exact HQ.endD (List.Sublist.cons _ (List.Sublist.cons_cons _ (List.Sublist.cons_cons _ (List.Sublist.refl _))))

/-- text.Read never panics; it answers as readText says. -/
theorem text_Read (I : PHeap) (hG : Globs I) (s : ByteArray) : Pure Tryd.prog 6 [.string s] I (fun u I' => ∃ v, u = .tuple #[v, .int .i64 (readText s).1] ∧ Val I' v (readText s).2) := by
  suffices h : SpecX Tryd.prog 6 [.string s] [] I (fun e L' I' => ∃ u, e = .returned u ∧ L' = [] ∧ ∃ v, u = .tuple #[v, .int .i64 (readText s).1] ∧ Val I' v (readText s).2) from SpecX.mono h fun e L' I' _ ⟨u, he, hL, hq⟩ => ⟨u, he, hL, hq⟩
  refine SpecX.of_bodyD Tryd.func6 rfl Tryd.ntmps6 rfl (fun W Lf => ?_)
  refine HC.seq ?_
  refine HC.region ?_
  refine HL.alloc1 Tryd.zeroValue22 rfl rfl (fun rb _ => ?_)
  refine HL.alloc1 Tryd.zeroValue23 rfl rfl (fun eb _ => ?_)
  refine HL.nil ?_
  refine HQ.next ?_
  refine HC.seq ?_
  refine HC.seq ?_
  refine HC.region ?_
  refine HL.quiet (y_move rfl) rfl ?_
  refine HL.quiet (y_len_str Tryd.underlying9 rfl) rfl ?_
  refine HL.quiet (y_gtr rfl rfl) rfl ?_
  refine HL.nil ?_
  refine HQ.next ?_
  refine HC.sub (E' := [(0, _), (2, _), (3, _), (8, _)]) ⟨rfl, rfl, rfl, rfl, trivial⟩ ?_
  refine HC.cond rfl (fun hc0 => ?_) (fun hc0 => ?_)
  · try simp only [Bool.and_eq_true, Bool.and_eq_false_iff, Bool.or_eq_true, Bool.or_eq_false_iff, decide_eq_true_eq, decide_eq_false_iff_not, Int.not_lt, Int.not_le, beq_iff_eq, bne_iff_ne, ne_eq, Decidable.not_not, beq_eq_false_iff_ne, bne_eq_false_iff_eq, Bool.not_eq_true', Bool.not_eq_false'] at hc0
    refine HC.seq ?_
    refine HC.region ?_
    refine HL.store1_1 (c' := [.slice none 0 0]) Tryd.sizeOf22 rfl rfl rfl rfl rfl ?_
    refine HL.store1_0 (c' := [.int .i64 2]) Tryd.sizeOf23 rfl rfl rfl rfl rfl ?_
    refine HL.nil ?_
    refine HQ.next ?_
    refine HC.sub (E' := [(2, _), (3, _)]) ⟨rfl, rfl, trivial⟩ ?_
    refine HC.ret ?_
    refine HQ.then_ret ?_
    refine HQ.leave0 (L' := []) (Res.cell2 Tryd.results6 Tryd.isAgg22 Tryd.isAgg23 rfl rfl (k := 1) (k' := 0) rfl rfl) (List.Sublist.cons _ (List.Sublist.cons _ (List.Sublist.refl _))) (PLe.refl _) ?_
    exact ⟨_, rfl, rfl, _, by rw [readText_long (by omega)], by rw [readText_long (by omega)]; exact Val.nil⟩
  · try simp only [Bool.and_eq_true, Bool.and_eq_false_iff, Bool.or_eq_true, Bool.or_eq_false_iff, decide_eq_true_eq, decide_eq_false_iff_not, Int.not_lt, Int.not_le, beq_iff_eq, bne_iff_ne, ne_eq, Decidable.not_not, beq_eq_false_iff_ne, bne_eq_false_iff_eq, Bool.not_eq_true', Bool.not_eq_false'] at hc0
    refine HC.skip ?_
    refine HQ.next ?_
    refine HC.sub (E' := [(0, _), (2, _), (3, _)]) ⟨rfl, rfl, rfl, trivial⟩ ?_
    refine HC.seq ?_
    refine HC.region ?_
    refine HL.quiet (y_makeFunc2 .nil (.cons rfl (.cons rfl (.nil)))) rfl ?_
    refine HL.defer rfl .nil ?_
    refine HL.nil ?_
    refine HQ.next ?_
    refine HC.sub (E' := [(0, _), (2, _), (3, _)]) ⟨rfl, rfl, rfl, trivial⟩ ?_
    refine HC.seq ?_
    refine HC.region ?_
    refine HL.quiet (y_move rfl) rfl ?_
    refine HL.quiet (y_build (vs := [(0, .string s)]) (v := .agg #[.string s, .int .i64 0, .slice none 0 0]) (.cons rfl (.nil)) (fun w => by kernel_rfl)) rfl ?_
    refine HL.box_agg rfl rfl (fun r _ => ?_)
    refine HL.quiet (y_assign rfl) rfl ?_
    refine HL.nil ?_
    refine HQ.next ?_
    refine HC.sub (E' := [(0, _), (2, _), (3, _), (4, _)]) ⟨rfl, rfl, rfl, rfl, trivial⟩ ?_
    refine HC.seq ?_
    refine HC.region ?_
    refine HL.quiet (y_move rfl) rfl ?_
    refine HL.callX0 (Lp := [(r, rdr s 0 _)]) Tryd.call15 (.cons rfl (.nil)) (List.Perm.refl _) rfl (text_one s (by omega) (s.size + 1) _ hG 0 _ (Pos.start s) (by show s.size < _; omega) r _ [] _ (OwnS.nil _ _) (by simp)) ?_ ?_ ?_
    rotate_left
    · rintro _ _ I1 hI1 (⟨_, _, _, _, _, _, h, _⟩ | ⟨h1, h, q, v1, Lx, rfl⟩); cases h; cases h
      refine HQ.then_panic ?_
      refine HQ.own (L' := (eb, blk [.int .i64 0] 23) :: (rb, blk [.slice none 0 0] 22) :: Lf) (List.Sublist.cons _ (List.sublist_append_right _ _)) ?_
      refine HQ.leave_panic (dargs := []) (cv := [.pointer (some ⟨rb, 0, none⟩), .pointer (some ⟨eb, 0, none⟩)]) (L1 := [(eb, _), (rb, _)]) (L2 := [(eb, _), (rb, _)]) (Lr := Lf) (L' := []) Tryd.call14 rfl (read_loud _ _ _ _ _ _) rfl (List.Perm.refl _) (Res.cell2 Tryd.results6 Tryd.isAgg22 Tryd.isAgg23 rfl rfl (k := 1) (k' := 0) rfl rfl) (List.Sublist.cons _ (List.Sublist.cons _ (List.Sublist.refl _))) hI1 ?_
      exact ⟨_, rfl, rfl, _, by rw [readText_none (by omega) h1], by rw [readText_none (by omega) h1]; exact Val.nil⟩
    · rintro _ _ _ (⟨_, _, _, _, _, _, h, _⟩ | ⟨_, h, _⟩) <;> cases h
    rintro _ _ I1 hI1 (⟨ns, rn, q, v1, Lx, h1, h, hp, hq, hpos, ho, rfl⟩ | ⟨_, h, _⟩); rotate_left; cases h
    cases h
    obtain ⟨ad, cap, rfl, _⟩ := ho.shape
    simp only [List.length_nil, List.nil_append, Nat.zero_add] at h1 ho
    have hlen := hp.len
    refine HL.freezeV ho (flat_Flat _ _) permF_1 (fun I2 hI2 hV => ?_)
    refine HL.nil ?_
    refine HQ.next ?_
    refine HC.sub (E' := [(0, _), (2, _), (3, _), (4, _)]) ⟨rfl, rfl, rfl, rfl, trivial⟩ ?_
    refine HC.seq ?_
    refine HC.seq ?_
    refine HC.region ?_
    refine HL.quiet (y_move rfl) rfl ?_
    refine HL.quiet (y_nilCheck rfl) rfl ?_
    refine HL.quiet (y_fieldAddr (o := 1) (t := 3) Tryd.underlying44 rfl Tryd.sizeOf3 (by decide) rfl) rfl ?_
    refine HL.quiet (y_loadL (k := 0) Tryd.isAgg3 rfl rfl rfl) rfl ?_
    refine HL.quiet (y_move rfl) rfl ?_
    refine HL.quiet (y_len_str Tryd.underlying9 rfl) rfl ?_
    refine HL.quiet (y_lss rfl rfl) rfl ?_
    refine HL.nil ?_
    refine HQ.next ?_
    refine HC.sub (E' := [(2, _), (3, _), (4, _), (21, _)]) ⟨rfl, rfl, rfl, rfl, trivial⟩ ?_
    refine HC.cond rfl (fun hc1 => ?_) (fun hc1 => ?_)
    · try simp only [Bool.and_eq_true, Bool.and_eq_false_iff, Bool.or_eq_true, Bool.or_eq_false_iff, decide_eq_true_eq, decide_eq_false_iff_not, Int.not_lt, Int.not_le, beq_iff_eq, bne_iff_ne, ne_eq, Decidable.not_not, beq_eq_false_iff_ne, bne_eq_false_iff_eq, Bool.not_eq_true', Bool.not_eq_false'] at hc1
      refine HC.seq ?_
      refine HC.region ?_
      refine HL.store1_2 (c' := [.slice none 0 0]) Tryd.sizeOf22 rfl rfl rfl rfl rfl ?_
      refine HL.store1_1 (c' := [.int .i64 9]) Tryd.sizeOf23 rfl rfl rfl rfl rfl ?_
      refine HL.nil ?_
      refine HQ.next ?_
      refine HC.sub (E' := [(2, _), (3, _)]) ⟨rfl, rfl, trivial⟩ ?_
      refine HC.ret ?_
      refine HQ.then_ret ?_
      refine HQ.leave (dargs := []) (cv := [.pointer (some ⟨rb, 0, none⟩), .pointer (some ⟨eb, 0, none⟩)]) (L1 := []) (L2 := []) (Lr := _) (L' := []) Tryd.call14 rfl (read_quiet _ _ _) (List.Perm.refl _) (Res.cell2 Tryd.results6 Tryd.isAgg22 Tryd.isAgg23 rfl rfl (k := 2) (k' := 1) rfl rfl) (List.Sublist.cons _ (List.Sublist.cons _ (List.Sublist.cons _ (List.Sublist.refl _)))) (hI1.trans hI2) ?_
      have hmore := readText_more (s := s) (by omega) h1 (by rintro rfl; simp at hlen; omega)
      exact ⟨_, rfl, rfl, _, by rw [hmore], by rw [hmore]; exact Val.nil⟩
    · try simp only [Bool.and_eq_true, Bool.and_eq_false_iff, Bool.or_eq_true, Bool.or_eq_false_iff, decide_eq_true_eq, decide_eq_false_iff_not, Int.not_lt, Int.not_le, beq_iff_eq, bne_iff_ne, ne_eq, Decidable.not_not, beq_eq_false_iff_ne, bne_eq_false_iff_eq, Bool.not_eq_true', Bool.not_eq_false'] at hc1
      refine HC.skip ?_
      refine HQ.next ?_
      refine HC.sub (E' := [(2, _), (3, _), (4, _)]) ⟨rfl, rfl, rfl, trivial⟩ ?_
      refine HC.seq ?_
      refine HC.seq ?_
      refine HC.region ?_
      refine HL.quiet (y_move rfl) rfl ?_
      refine HL.quiet (y_nilCheck rfl) rfl ?_
      refine HL.quiet (y_fieldAddr (o := 2) (t := 22) Tryd.underlying44 rfl Tryd.sizeOf22 (by decide) rfl) rfl ?_
      refine HL.quiet (y_loadL (k := 0) Tryd.isAgg22 rfl rfl rfl) rfl ?_
      refine HL.callP Tryd.call16 (.cons rfl (.nil)) rfl (nodes_Check _ _ ns hV) ?_
      rintro _ I3 hI3 rfl
      have hrn : rn = [] := List.eq_nil_of_length_eq_zero (by have : s.data.toList.length = s.size := rfl; omega)
      subst hrn
      have hok := readText_ok (s := s) (by omega) h1
      have hV3 := hV.le hI3
      refine HL.quiet (y_assign rfl) rfl ?_
      refine HL.nil ?_
      refine HQ.next ?_
      refine HC.sub (E' := [(2, _), (3, _), (4, _), (5, _)]) ⟨rfl, rfl, rfl, rfl, trivial⟩ ?_
      refine HC.seq ?_
      refine HC.region ?_
      refine HL.quiet (y_move rfl) rfl ?_
      refine HL.quiet (y_neq rfl rfl) rfl ?_
      refine HL.nil ?_
      refine HQ.next ?_
      refine HC.sub (E' := [(2, _), (3, _), (4, _), (5, _), (28, _)]) ⟨rfl, rfl, rfl, rfl, rfl, trivial⟩ ?_
      refine HC.cond rfl (fun hc2 => ?_) (fun hc2 => ?_)
      · try simp only [Bool.and_eq_true, Bool.and_eq_false_iff, Bool.or_eq_true, Bool.or_eq_false_iff, decide_eq_true_eq, decide_eq_false_iff_not, Int.not_lt, Int.not_le, beq_iff_eq, bne_iff_ne, ne_eq, Decidable.not_not, beq_eq_false_iff_ne, bne_eq_false_iff_eq, Bool.not_eq_true', Bool.not_eq_false'] at hc2
        refine HC.seq ?_
        refine HC.region ?_
        refine HL.quiet (y_move rfl) rfl ?_
        refine HL.store1_2 (c' := [.slice none 0 0]) Tryd.sizeOf22 rfl rfl rfl rfl rfl ?_
        refine HL.store1_1 (c' := [.int .i64 (nodesCheck ns)]) Tryd.sizeOf23 rfl rfl rfl rfl rfl ?_
        refine HL.nil ?_
        refine HQ.next ?_
        refine HC.sub (E' := [(2, _), (3, _)]) ⟨rfl, rfl, trivial⟩ ?_
        refine HC.ret ?_
        refine HQ.then_ret ?_
        refine HQ.leave (dargs := []) (cv := [.pointer (some ⟨rb, 0, none⟩), .pointer (some ⟨eb, 0, none⟩)]) (L1 := []) (L2 := []) (Lr := _) (L' := []) Tryd.call14 rfl (read_quiet _ _ _) (List.Perm.refl _) (Res.cell2 Tryd.results6 Tryd.isAgg22 Tryd.isAgg23 rfl rfl (k := 2) (k' := 1) rfl rfl) (List.Sublist.cons _ (List.Sublist.cons _ (List.Sublist.cons _ (List.Sublist.refl _)))) ((hI1.trans hI2).trans hI3) ?_
        rw [if_neg (by omega)] at hok
        exact ⟨_, rfl, rfl, _, by rw [hok], by rw [hok]; exact Val.nil⟩
      · try simp only [Bool.and_eq_true, Bool.and_eq_false_iff, Bool.or_eq_true, Bool.or_eq_false_iff, decide_eq_true_eq, decide_eq_false_iff_not, Int.not_lt, Int.not_le, beq_iff_eq, bne_iff_ne, ne_eq, Decidable.not_not, beq_eq_false_iff_ne, bne_eq_false_iff_eq, Bool.not_eq_true', Bool.not_eq_false'] at hc2
        refine HC.skip ?_
        refine HQ.next ?_
        refine HC.sub (E' := [(2, _), (3, _), (4, _)]) ⟨rfl, rfl, rfl, trivial⟩ ?_
        refine HC.seq ?_
        refine HC.region ?_
        refine HL.quiet (y_move rfl) rfl ?_
        refine HL.quiet (y_nilCheck rfl) rfl ?_
        refine HL.quiet (y_fieldAddr (o := 2) (t := 22) Tryd.underlying44 rfl Tryd.sizeOf22 (by decide) rfl) rfl ?_
        refine HL.quiet (y_loadL (k := 0) Tryd.isAgg22 rfl rfl rfl) rfl ?_
        refine HL.store1_2 (c' := [.slice ad ns.length cap]) Tryd.sizeOf22 rfl rfl rfl rfl rfl ?_
        refine HL.store1_1 (c' := [.int .i64 0]) Tryd.sizeOf23 rfl rfl rfl rfl rfl ?_
        refine HL.nil ?_
        refine HQ.next ?_
        refine HC.sub (E' := [(2, _), (3, _)]) ⟨rfl, rfl, trivial⟩ ?_
        refine HC.ret ?_
        refine HQ.leave (dargs := []) (cv := [.pointer (some ⟨rb, 0, none⟩), .pointer (some ⟨eb, 0, none⟩)]) (L1 := []) (L2 := []) (Lr := _) (L' := []) Tryd.call14 rfl (read_quiet _ _ _) (List.Perm.refl _) (Res.cell2 Tryd.results6 Tryd.isAgg22 Tryd.isAgg23 rfl rfl (k := 2) (k' := 1) rfl rfl) (List.Sublist.cons _ (List.Sublist.cons _ (List.Sublist.cons _ (List.Sublist.refl _)))) ((hI1.trans hI2).trans hI3) ?_
        rw [if_pos (by omega)] at hok
        exact ⟨_, rfl, rfl, _, by rw [hok], by rw [hok]; exact hV3⟩

end Go.Rm
