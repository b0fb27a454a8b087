/- What this text holds: the contract of text.Show, printed by a program of mine (wip/tools/walk.py) from plans of mine. -/
import Derived.Test.YtpcgfadcojaceaaDoorRmShow1
import Derived.Test.YtpcgfadcojaceaaDoorRmNodes
set_option linter.unusedVariables false
set_option linter.unusedSimpArgs false
set_option linter.unusedSectionVars false
namespace Go.Rm
open Go Go.Proofs
set_option maxRecDepth 100000

theorem bad_in {i : Nat} {n : Node} (h : nodeBad i n = 0) (hk : n.kind = 3) : 0 ≤ n.a ∧ n.a < n.b ∧ n.b ≤ 32 := by
  rw [nodeBad, if_neg (by omega), if_neg (by omega), if_pos hk] at h
  split at h
  · cases h
  · omega
theorem row_again {vs r : List Value} {i : Nat} {u v : Value} (h : vs.length = i) : ((vs ++ [u]) ++ r).set (0 + i * 1) v = (vs ++ [v]) ++ r := by
  rw [Nat.zero_add, Nat.mul_one, List.append_assoc, List.set_append_right _ _ (by omega), h, Nat.sub_self, List.append_assoc]; rfl

theorem text_Show (I : PHeap) (v : Value) (l : List Node) (h : Val I v l) : Pure Tryd.prog 13 [v] I (fun r _ => r = .tuple #[.string (bs (showText l).2), .int .i64 (showText l).1]) := by
  obtain ⟨ad, cap, rfl, hcap, hE⟩ := h.slice
  refine Pure.of_body Tryd.func13 rfl Tryd.ntmps13 rfl (fun W Lf => ?_)
  refine HC.seq ?_
  refine HC.region ?_
  refine HL.quiet (y_assign rfl) rfl ?_
  refine HL.quiet (y_assign rfl) rfl ?_
  refine HL.nil ?_
  refine HQ.next ?_
  refine HC.sub (E' := [(0, _)]) ⟨rfl, trivial⟩ ?_
  refine HC.seq ?_
  refine HC.seq ?_
  refine HC.region ?_
  refine HL.quiet (y_move rfl) rfl ?_
  refine HL.callP Tryd.call16 (.cons rfl (.nil)) rfl (nodes_Check _ _ l h) ?_
  rintro _ Ii1 hi1 rfl
  refine HL.quiet (y_assign rfl) rfl ?_
  refine HL.nil ?_
  refine HQ.next ?_
  refine HC.sub (E' := [(0, _), (4, _)]) ⟨rfl, rfl, trivial⟩ ?_
  refine HC.seq ?_
  refine HC.region ?_
  refine HL.quiet (y_move rfl) rfl ?_
  refine HL.quiet (y_neq rfl rfl) rfl ?_
  refine HL.nil ?_
  refine HQ.next ?_
  refine HC.sub (E' := [(0, _), (4, _), (12, _)]) ⟨rfl, rfl, rfl, trivial⟩ ?_
  refine HC.cond rfl (fun hc0 => ?_) (fun hc0 => ?_)
  · try simp only [Bool.and_eq_true, Bool.and_eq_false_iff, Bool.or_eq_true, Bool.or_eq_false_iff, decide_eq_true_eq, decide_eq_false_iff_not, Int.not_lt, Int.not_le, beq_iff_eq, bne_iff_ne, ne_eq, Decidable.not_not, beq_eq_false_iff_ne, bne_eq_false_iff_eq, Bool.not_eq_true', Bool.not_eq_false'] at hc0
    refine HC.seq ?_
    refine HC.region ?_
    refine HL.quiet (y_move rfl) rfl ?_
    refine HL.quiet (y_assign rfl) rfl ?_
    refine HL.quiet (y_assign rfl) rfl ?_
    refine HL.nil ?_
    refine HQ.next ?_
    refine HC.sub (E' := [(2, _), (3, _)]) ⟨rfl, rfl, trivial⟩ ?_
    refine HC.ret ?_
    refine HQ.then_ret ?_
    refine HQ.doneP (Res.two Tryd.results13 rfl rfl) (List.Sublist.refl _) (hi1) ?_
    rw [showText, if_pos (by omega)]; rfl
  · try simp only [Bool.and_eq_true, Bool.and_eq_false_iff, Bool.or_eq_true, Bool.or_eq_false_iff, decide_eq_true_eq, decide_eq_false_iff_not, Int.not_lt, Int.not_le, beq_iff_eq, bne_iff_ne, ne_eq, Decidable.not_not, beq_eq_false_iff_ne, bne_eq_false_iff_eq, Bool.not_eq_true', Bool.not_eq_false'] at hc0
    refine HC.skip ?_
    refine HQ.next ?_
    refine HC.sub (E' := [(0, _)]) ⟨rfl, trivial⟩ ?_
    refine HC.seq ?_
    refine HC.region ?_
    have hlen : 0 < l.length ∧ l.length ≤ 30 := nodesCheck_len (by omega)
    have hok : nodesGo 0 l = 0 := nodesCheck_go (by omega)
    refine HL.quiet (y_move rfl) rfl ?_
    refine HL.quiet (y_len_slice Tryd.underlying22 rfl) rfl ?_
    refine HL.makeSlice (e := 9) (size := 1) (z := .string (⟨#[]⟩)) (bytes := 16) (m := l.length) (c := l.length) Tryd.underlying61 (by kernel_rfl) rfl rfl (Nat.le_refl _) (by omega) (by omega) (by omega) rfl (fun al _ => ?_)
    refine HL.ownEq (L' := (al, blk (((textsOf (l.take 0)).map strV) ++ List.replicate (l.length - 0) (.string ⟨#[]⟩)) 9) :: Lf) (by rw [Nat.mul_one]; exact congrArg (fun c => (al, blk c 9) :: _) (madeCells_one _ _)) ?_
    refine HL.quiet (y_assign rfl) rfl ?_
    refine HL.nil ?_
    refine HQ.next ?_
    refine HC.sub (E' := [(0, _), (5, _)]) ⟨rfl, rfl, trivial⟩ ?_
    refine HC.seq ?_
    refine HC.seq ?_
    refine HC.region ?_
    refine HL.quiet (y_move rfl) rfl ?_
    refine HL.quiet (y_len_slice Tryd.underlying22 rfl) rfl ?_
    refine HL.quiet (y_move rfl) rfl ?_
    refine HL.nil ?_
    refine HQ.next ?_
    refine HC.block ?_
    refine HC.sub (E' := (fun (i : Nat) (J : PHeap) => [(0, .slice ad l.length cap), (5, .slice (some ⟨al, 0, none⟩) l.length l.length), (17, .slice ad l.length cap), (18, .int .i64 (l.length : Int)), (19, .int .i64 (i : Int))]) 0 Ii1) ⟨rfl, rfl, rfl, rfl, rfl, trivial⟩ ?_
    refine HC.loop2 (fun (i : Nat) (J : PHeap) => l.length - i) (fun (i : Nat) (J : PHeap) => i ≤ l.length ∧ PLe I J) (fun (i : Nat) (J : PHeap) => [(0, .slice ad l.length cap), (5, .slice (some ⟨al, 0, none⟩) l.length l.length), (17, .slice ad l.length cap), (18, .int .i64 (l.length : Int)), (19, .int .i64 (i : Int))]) (fun (i : Nat) (J : PHeap) => (al, blk (((textsOf (l.take i)).map strV) ++ List.replicate (l.length - i) (.string ⟨#[]⟩)) 9) :: Lf) (fun (i : Nat) (J : PHeap) => J) 0 Ii1 (⟨by omega, hi1⟩) (fun i J hC => ?_)
    obtain ⟨hi, hJ⟩ := hC
    have hvl := textsV_len hi
    have hE2 := hE.le hJ
    refine HC.seq ?_
    refine HC.region ?_
    refine HL.quiet (y_lss rfl rfl) rfl ?_
    refine HL.nil ?_
    refine HQ.next ?_
    refine HC.seq ?_
    refine HC.cond rfl (fun hc1 => ?_) (fun hc1 => ?_)
    · try simp only [Bool.and_eq_true, Bool.and_eq_false_iff, Bool.or_eq_true, Bool.or_eq_false_iff, decide_eq_true_eq, decide_eq_false_iff_not, Int.not_lt, Int.not_le, beq_iff_eq, bne_iff_ne, ne_eq, Decidable.not_not, beq_eq_false_iff_ne, bne_eq_false_iff_eq, Bool.not_eq_true', Bool.not_eq_false'] at hc1
      refine HC.skip ?_
      refine HQ.next ?_
      refine HC.sub (E' := [(0, _), (5, _), (17, _), (18, _), (19, _)]) ⟨rfl, rfl, rfl, rfl, rfl, trivial⟩ ?_
      refine HC.seq ?_
      refine HC.block ?_
      refine HC.seq ?_
      refine HC.region ?_
      refine HL.quiet (y_move rfl) rfl ?_
      obtain ⟨b, off, rfl, hel⟩ := hE2.at_ (show i < l.length by omega)
      obtain ⟨x, hx⟩ : ∃ x, l[i]? = some x := ⟨l[i]'(by omega), List.getElem?_eq_getElem _⟩
      have hc := (hel i x hx).node
      have hbad := nodesGo_each hok hx
      refine HL.quiet (y_indexAddr (j := i) Tryd.underlying22 Tryd.sizeOf37 rfl rfl (by first | rfl | omega) (by omega)) rfl ?_
      refine HL.quiet (y_loadI_agg (cs := [.int .i64 x.kind, .int .i64 x.a, .int .i64 x.b]) Tryd.isAgg37 Tryd.sizeOf37 rfl rfl hc) rfl ?_
      refine HL.alloc_agg Tryd.zeroValue37 rfl (fun nb _ => ?_)
      refine HL.quiet (y_assign rfl) rfl ?_
      refine HL.store_all_0 Tryd.sizeOf37 rfl rfl rfl rfl rfl ?_
      refine HL.nil ?_
      refine HQ.next ?_
      refine HC.sub (E' := [(0, _), (5, _), (17, _), (18, _), (19, _), (7, _), (6, _)]) ⟨rfl, rfl, rfl, rfl, rfl, rfl, rfl, trivial⟩ ?_
      refine HC.seq ?_
      refine HC.seq ?_
      refine HC.region ?_
      refine HL.quiet (y_fieldAddr (o := 0) (t := 3) Tryd.underlying37 rfl Tryd.sizeOf3 (by decide) rfl) rfl ?_
      refine HL.quiet (y_loadL (k := 0) Tryd.isAgg3 rfl rfl rfl) rfl ?_
      refine HL.nil ?_
      refine HQ.next ?_
      refine HC.sub (E' := [(0, _), (5, _), (17, _), (18, _), (19, _), (7, _), (6, _), (25, _)]) ⟨rfl, rfl, rfl, rfl, rfl, rfl, rfl, rfl, trivial⟩ ?_
      refine HC.block ?_
      refine HC.seq ?_
      refine HC.region ?_
      refine HL.quiet (y_eql rfl rfl) rfl ?_
      refine HL.quiet (y_assign rfl) rfl ?_
      refine HL.nil ?_
      refine HQ.next ?_
      refine HC.sub (E' := [(0, _), (5, _), (17, _), (18, _), (19, _), (7, _), (6, _), (25, _), (26, _)]) ⟨rfl, rfl, rfl, rfl, rfl, rfl, rfl, rfl, rfl, trivial⟩ ?_
      refine HC.cond rfl (fun hc2 => ?_) (fun hc2 => ?_)
      · try simp only [Bool.and_eq_true, Bool.and_eq_false_iff, Bool.or_eq_true, Bool.or_eq_false_iff, decide_eq_true_eq, decide_eq_false_iff_not, Int.not_lt, Int.not_le, beq_iff_eq, bne_iff_ne, ne_eq, Decidable.not_not, beq_eq_false_iff_ne, bne_eq_false_iff_eq, Bool.not_eq_true', Bool.not_eq_false'] at hc2
        refine HC.region ?_
        have hk : x.kind = 1 := by omega
        have hla := getD_texts (l.take i) x.a.toNat
        have hlb := getD_texts (l.take i) x.b.toNat
        refine HL.quiet (y_move rfl) rfl ?_
        refine HL.quiet (y_move rfl) rfl ?_
        refine HL.quiet (y_indexAddr (j := i) Tryd.underlying61 Tryd.sizeOf9 rfl rfl (by first | rfl | omega) (by omega)) rfl ?_
        have hnew : (⟨#[42]⟩ : ByteArray) = bs (nodeText (textsOf (l.take i)) x) := by rw [nodeText, if_pos hk]; simp only [bs_one, bs_append]; (try simp)
        rw [hnew]
        refine HL.store1s_1 (c' := (((textsOf (l.take i)).map strV ++ [.string (bs (nodeText (textsOf (l.take i)) x))]) ++ List.replicate (l.length - (i + 1)) (.string ⟨#[]⟩))) Tryd.sizeOf9 rfl rfl (by simp only [List.length_append, List.length_replicate, hvl]; omega) rfl (row_set hvl (by omega)) ?_
        refine HL.nil ?_
        refine HQ.inb_normal ?_
        refine HQ.next ?_
        refine HC.sub (E' := [(0, _), (5, _), (17, _), (18, _), (19, _), (6, _)]) ⟨rfl, rfl, rfl, rfl, rfl, rfl, trivial⟩ ?_
        refine HC.seq ?_
        refine HC.region ?_
        refine HL.quiet (y_move rfl) rfl ?_
        refine HL.quiet (y_move rfl) rfl ?_
        refine HL.quiet (y_indexAddr (j := i) Tryd.underlying61 Tryd.sizeOf9 rfl rfl (by first | rfl | omega) (by omega)) rfl ?_
        refine HL.quiet (y_loadL (k := 1) (v := .string (bs (nodeText (textsOf (l.take i)) x))) Tryd.isAgg9 rfl rfl (row_last hvl)) rfl ?_
        refine HL.quiet (y_len_str Tryd.underlying9 rfl) rfl ?_
        refine HL.quiet (y_gtr rfl rfl) rfl ?_
        refine HL.nil ?_
        refine HQ.next ?_
        refine HC.sub (E' := [(0, _), (5, _), (17, _), (18, _), (19, _), (6, _), (109, _)]) ⟨rfl, rfl, rfl, rfl, rfl, rfl, rfl, trivial⟩ ?_
        refine HC.cond rfl (fun hc3 => ?_) (fun hc3 => ?_)
        · try simp only [Bool.and_eq_true, Bool.and_eq_false_iff, Bool.or_eq_true, Bool.or_eq_false_iff, decide_eq_true_eq, decide_eq_false_iff_not, Int.not_lt, Int.not_le, beq_iff_eq, bne_iff_ne, ne_eq, Decidable.not_not, beq_eq_false_iff_ne, bne_eq_false_iff_eq, Bool.not_eq_true', Bool.not_eq_false'] at hc3
          refine HC.region ?_
          refine HL.quiet (y_move rfl) rfl ?_
          refine HL.quiet (y_move rfl) rfl ?_
          refine HL.quiet (y_move rfl) rfl ?_
          refine HL.quiet (y_move rfl) rfl ?_
          refine HL.quiet (y_indexAddr (j := i) Tryd.underlying61 Tryd.sizeOf9 rfl rfl (by first | rfl | omega) (by omega)) rfl ?_
          refine HL.quiet (y_loadL (k := 1) (v := .string (bs (nodeText (textsOf (l.take i)) x))) Tryd.isAgg9 rfl rfl (row_last hvl)) rfl ?_
          refine HL.quiet (y_slice_str_hi (q := 401) Tryd.underlying9 rfl rfl (by omega)) rfl ?_
          refine HL.quiet (y_indexAddr (j := i) Tryd.underlying61 Tryd.sizeOf9 rfl rfl (by first | rfl | omega) (by omega)) rfl ?_
          refine HL.store1s_1 (c' := (((textsOf (l.take i)).map strV ++ [.string ((bs (nodeText (textsOf (l.take i)) x)).extract 0 401)]) ++ List.replicate (l.length - (i + 1)) (.string ⟨#[]⟩))) Tryd.sizeOf9 rfl rfl (by simp only [List.length_append, List.length_replicate, List.length_cons, List.length_nil, hvl]; omega) rfl (row_again hvl) ?_
          refine HL.nil ?_
          refine HQ.inb_normal ?_
          refine HQ.next ?_
          refine HC.sub (E' := [(0, _), (5, _), (17, _), (18, _), (19, _)]) ⟨rfl, rfl, rfl, rfl, rfl, trivial⟩ ?_
          refine HC.region ?_
          have hrow := textsV_next_cut hx (by omega)
          refine HL.quiet (y_add rfl rfl (by omega)) rfl ?_
          refine HL.quiet (y_move rfl) rfl ?_
          refine HL.nil ?_
          exact HQ.again (i + 1, J) (show (fun (i : Nat) (J : PHeap) => i ≤ l.length ∧ PLe I J) (i + 1) J from ⟨by omega, hJ⟩) (show l.length - (i + 1) < l.length - i from by omega) ⟨rfl, rfl, rfl, rfl, rfl, trivial⟩ (by simp only []; rw [hrow]; exact List.Sublist.cons _ (List.Sublist.cons_cons _ (List.Sublist.refl _))) (PLe.refl _)
        · try simp only [Bool.and_eq_true, Bool.and_eq_false_iff, Bool.or_eq_true, Bool.or_eq_false_iff, decide_eq_true_eq, decide_eq_false_iff_not, Int.not_lt, Int.not_le, beq_iff_eq, bne_iff_ne, ne_eq, Decidable.not_not, beq_eq_false_iff_ne, bne_eq_false_iff_eq, Bool.not_eq_true', Bool.not_eq_false'] at hc3
          refine HC.skip ?_
          refine HQ.inb_normal ?_
          refine HQ.next ?_
          refine HC.sub (E' := [(0, _), (5, _), (17, _), (18, _), (19, _)]) ⟨rfl, rfl, rfl, rfl, rfl, trivial⟩ ?_
          refine HC.region ?_
          have hrow := textsV_next hx (by omega)
          refine HL.quiet (y_add rfl rfl (by omega)) rfl ?_
          refine HL.quiet (y_move rfl) rfl ?_
          refine HL.nil ?_
          exact HQ.again (i + 1, J) (show (fun (i : Nat) (J : PHeap) => i ≤ l.length ∧ PLe I J) (i + 1) J from ⟨by omega, hJ⟩) (show l.length - (i + 1) < l.length - i from by omega) ⟨rfl, rfl, rfl, rfl, rfl, trivial⟩ (by simp only []; rw [hrow]; exact List.Sublist.cons _ (List.Sublist.cons_cons _ (List.Sublist.refl _))) (PLe.refl _)
      · try simp only [Bool.and_eq_true, Bool.and_eq_false_iff, Bool.or_eq_true, Bool.or_eq_false_iff, decide_eq_true_eq, decide_eq_false_iff_not, Int.not_lt, Int.not_le, beq_iff_eq, bne_iff_ne, ne_eq, Decidable.not_not, beq_eq_false_iff_ne, bne_eq_false_iff_eq, Bool.not_eq_true', Bool.not_eq_false'] at hc2
        refine HC.seq ?_
        refine HC.region ?_
        refine HL.quiet (y_eql rfl rfl) rfl ?_
        refine HL.quiet (y_assign rfl) rfl ?_
        refine HL.nil ?_
        refine HQ.next ?_
        refine HC.sub (E' := [(0, _), (5, _), (17, _), (18, _), (19, _), (7, _), (6, _), (25, _), (31, _)]) ⟨rfl, rfl, rfl, rfl, rfl, rfl, rfl, rfl, rfl, trivial⟩ ?_
        refine HC.cond rfl (fun hc4 => ?_) (fun hc4 => ?_)
        · try simp only [Bool.and_eq_true, Bool.and_eq_false_iff, Bool.or_eq_true, Bool.or_eq_false_iff, decide_eq_true_eq, decide_eq_false_iff_not, Int.not_lt, Int.not_le, beq_iff_eq, bne_iff_ne, ne_eq, Decidable.not_not, beq_eq_false_iff_ne, bne_eq_false_iff_eq, Bool.not_eq_true', Bool.not_eq_false'] at hc4
          refine HC.region ?_
          have hk : x.kind = 2 := by omega
          obtain ⟨ha0, ha1⟩ := bad_tag hbad hk
          have hla := getD_texts (l.take i) x.a.toNat
          have hlb := getD_texts (l.take i) x.b.toNat
          refine HL.quiet (y_move rfl) rfl ?_
          refine HL.quiet (y_move rfl) rfl ?_
          refine HL.quiet (y_fieldAddr (o := 1) (t := 3) Tryd.underlying37 rfl Tryd.sizeOf3 (by decide) rfl) rfl ?_
          refine HL.quiet (y_loadL (k := 0) Tryd.isAgg3 rfl rfl rfl) rfl ?_
          refine HL.callP Tryd.call23 (.cons rfl (.nil)) rfl (strconv_Itoa2 _ x.a (by omega) (by omega)) ?_
          rintro _ Ii2 hi2 rfl
          refine HL.quiet (y_strcat rfl rfl (by (try simp only [ByteArray.size_append]); (try simp only [sz1, bs_size]); (try have hda := dec_len (n := x.a) (by omega)); (try have hdb := dec_len (n := x.b) (by omega)); omega)) rfl ?_
          refine HL.quiet (y_indexAddr (j := i) Tryd.underlying61 Tryd.sizeOf9 rfl rfl (by first | rfl | omega) (by omega)) rfl ?_
          have hnew : (⟨#[35]⟩) ++ (bs (dec x.a)) = bs (nodeText (textsOf (l.take i)) x) := by rw [nodeText, if_neg (by omega), if_pos hk]; simp only [bs_one, bs_append]; (try simp)
          rw [hnew]
          refine HL.store1s_1 (c' := (((textsOf (l.take i)).map strV ++ [.string (bs (nodeText (textsOf (l.take i)) x))]) ++ List.replicate (l.length - (i + 1)) (.string ⟨#[]⟩))) Tryd.sizeOf9 rfl rfl (by simp only [List.length_append, List.length_replicate, hvl]; omega) rfl (row_set hvl (by omega)) ?_
          refine HL.nil ?_
          refine HQ.inb_normal ?_
          refine HQ.next ?_
          refine HC.sub (E' := [(0, _), (5, _), (17, _), (18, _), (19, _), (6, _)]) ⟨rfl, rfl, rfl, rfl, rfl, rfl, trivial⟩ ?_
          refine HC.seq ?_
          refine HC.region ?_
          refine HL.quiet (y_move rfl) rfl ?_
          refine HL.quiet (y_move rfl) rfl ?_
          refine HL.quiet (y_indexAddr (j := i) Tryd.underlying61 Tryd.sizeOf9 rfl rfl (by first | rfl | omega) (by omega)) rfl ?_
          refine HL.quiet (y_loadL (k := 1) (v := .string (bs (nodeText (textsOf (l.take i)) x))) Tryd.isAgg9 rfl rfl (row_last hvl)) rfl ?_
          refine HL.quiet (y_len_str Tryd.underlying9 rfl) rfl ?_
          refine HL.quiet (y_gtr rfl rfl) rfl ?_
          refine HL.nil ?_
          refine HQ.next ?_
          refine HC.sub (E' := [(0, _), (5, _), (17, _), (18, _), (19, _), (6, _), (109, _)]) ⟨rfl, rfl, rfl, rfl, rfl, rfl, rfl, trivial⟩ ?_
          refine HC.cond rfl (fun hc5 => ?_) (fun hc5 => ?_)
          · try simp only [Bool.and_eq_true, Bool.and_eq_false_iff, Bool.or_eq_true, Bool.or_eq_false_iff, decide_eq_true_eq, decide_eq_false_iff_not, Int.not_lt, Int.not_le, beq_iff_eq, bne_iff_ne, ne_eq, Decidable.not_not, beq_eq_false_iff_ne, bne_eq_false_iff_eq, Bool.not_eq_true', Bool.not_eq_false'] at hc5
            refine HC.region ?_
            refine HL.quiet (y_move rfl) rfl ?_
            refine HL.quiet (y_move rfl) rfl ?_
            refine HL.quiet (y_move rfl) rfl ?_
            refine HL.quiet (y_move rfl) rfl ?_
            refine HL.quiet (y_indexAddr (j := i) Tryd.underlying61 Tryd.sizeOf9 rfl rfl (by first | rfl | omega) (by omega)) rfl ?_
            refine HL.quiet (y_loadL (k := 1) (v := .string (bs (nodeText (textsOf (l.take i)) x))) Tryd.isAgg9 rfl rfl (row_last hvl)) rfl ?_
            refine HL.quiet (y_slice_str_hi (q := 401) Tryd.underlying9 rfl rfl (by omega)) rfl ?_
            refine HL.quiet (y_indexAddr (j := i) Tryd.underlying61 Tryd.sizeOf9 rfl rfl (by first | rfl | omega) (by omega)) rfl ?_
            refine HL.store1s_1 (c' := (((textsOf (l.take i)).map strV ++ [.string ((bs (nodeText (textsOf (l.take i)) x)).extract 0 401)]) ++ List.replicate (l.length - (i + 1)) (.string ⟨#[]⟩))) Tryd.sizeOf9 rfl rfl (by simp only [List.length_append, List.length_replicate, List.length_cons, List.length_nil, hvl]; omega) rfl (row_again hvl) ?_
            refine HL.nil ?_
            refine HQ.inb_normal ?_
            refine HQ.next ?_
            refine HC.sub (E' := [(0, _), (5, _), (17, _), (18, _), (19, _)]) ⟨rfl, rfl, rfl, rfl, rfl, trivial⟩ ?_
            refine HC.region ?_
            have hrow := textsV_next_cut hx (by omega)
            refine HL.quiet (y_add rfl rfl (by omega)) rfl ?_
            refine HL.quiet (y_move rfl) rfl ?_
            refine HL.nil ?_
            exact HQ.again (i + 1, Ii2) (show (fun (i : Nat) (J : PHeap) => i ≤ l.length ∧ PLe I J) (i + 1) Ii2 from ⟨by omega, (hJ).trans hi2⟩) (show l.length - (i + 1) < l.length - i from by omega) ⟨rfl, rfl, rfl, rfl, rfl, trivial⟩ (by simp only []; rw [hrow]; exact List.Sublist.cons _ (List.Sublist.cons_cons _ (List.Sublist.refl _))) (PLe.refl _)
          · try simp only [Bool.and_eq_true, Bool.and_eq_false_iff, Bool.or_eq_true, Bool.or_eq_false_iff, decide_eq_true_eq, decide_eq_false_iff_not, Int.not_lt, Int.not_le, beq_iff_eq, bne_iff_ne, ne_eq, Decidable.not_not, beq_eq_false_iff_ne, bne_eq_false_iff_eq, Bool.not_eq_true', Bool.not_eq_false'] at hc5
            refine HC.skip ?_
            refine HQ.inb_normal ?_
            refine HQ.next ?_
            refine HC.sub (E' := [(0, _), (5, _), (17, _), (18, _), (19, _)]) ⟨rfl, rfl, rfl, rfl, rfl, trivial⟩ ?_
            refine HC.region ?_
            have hrow := textsV_next hx (by omega)
            refine HL.quiet (y_add rfl rfl (by omega)) rfl ?_
            refine HL.quiet (y_move rfl) rfl ?_
            refine HL.nil ?_
            exact HQ.again (i + 1, Ii2) (show (fun (i : Nat) (J : PHeap) => i ≤ l.length ∧ PLe I J) (i + 1) Ii2 from ⟨by omega, (hJ).trans hi2⟩) (show l.length - (i + 1) < l.length - i from by omega) ⟨rfl, rfl, rfl, rfl, rfl, trivial⟩ (by simp only []; rw [hrow]; exact List.Sublist.cons _ (List.Sublist.cons_cons _ (List.Sublist.refl _))) (PLe.refl _)
        · try simp only [Bool.and_eq_true, Bool.and_eq_false_iff, Bool.or_eq_true, Bool.or_eq_false_iff, decide_eq_true_eq, decide_eq_false_iff_not, Int.not_lt, Int.not_le, beq_iff_eq, bne_iff_ne, ne_eq, Decidable.not_not, beq_eq_false_iff_ne, bne_eq_false_iff_eq, Bool.not_eq_true', Bool.not_eq_false'] at hc4
          refine HC.seq ?_
          refine HC.region ?_
          refine HL.quiet (y_eql rfl rfl) rfl ?_
          refine HL.quiet (y_assign rfl) rfl ?_
          refine HL.nil ?_
          refine HQ.next ?_
          refine HC.sub (E' := [(0, _), (5, _), (17, _), (18, _), (19, _), (7, _), (6, _), (25, _), (40, _)]) ⟨rfl, rfl, rfl, rfl, rfl, rfl, rfl, rfl, rfl, trivial⟩ ?_
          refine HC.cond rfl (fun hc6 => ?_) (fun hc6 => ?_)
          · try simp only [Bool.and_eq_true, Bool.and_eq_false_iff, Bool.or_eq_true, Bool.or_eq_false_iff, decide_eq_true_eq, decide_eq_false_iff_not, Int.not_lt, Int.not_le, beq_iff_eq, bne_iff_ne, ne_eq, Decidable.not_not, beq_eq_false_iff_ne, bne_eq_false_iff_eq, Bool.not_eq_true', Bool.not_eq_false'] at hc6
            refine HC.drawn ([]) 13 Tryd.mixed ?_
            have hk : x.kind = 3 := by omega
            obtain ⟨ha0, ha1, ha2⟩ := bad_in hbad hk
            have hla := getD_texts (l.take i) x.a.toNat
            have hlb := getD_texts (l.take i) x.b.toNat
            refine HG.take (i := 0) ([]) rfl (by kernel_rfl) (by kernel_rfl) (by kernel_rfl) (PanicOk.inb (PanicOk.then (PanicOk.inb (PanicOk.then (PanicOk.then (PanicOk.inb (PanicOk.then (PanicOk.bodyQ)))))))) rfl (.inl ⟨List.nil_sublist _, List.nil_sublist _⟩) (fun I' hI' => (y_move rfl)) rfl ?_
            refine HG.take (i := 1) ([]) rfl (by kernel_rfl) (by kernel_rfl) (by kernel_rfl) (PanicOk.inb (PanicOk.then (PanicOk.inb (PanicOk.then (PanicOk.then (PanicOk.inb (PanicOk.then (PanicOk.bodyQ)))))))) rfl (.inl ⟨List.nil_sublist _, List.nil_sublist _⟩) (fun I' hI' => (y_move rfl)) rfl ?_
            refine HG.take (i := 2) ([]) rfl (by kernel_rfl) (by kernel_rfl) (by kernel_rfl) (PanicOk.inb (PanicOk.then (PanicOk.inb (PanicOk.then (PanicOk.then (PanicOk.inb (PanicOk.then (PanicOk.bodyQ)))))))) rfl (.inl ⟨List.nil_sublist _, List.nil_sublist _⟩) (fun I' hI' => (y_fieldAddr (o := 1) (t := 3) Tryd.underlying37 rfl Tryd.sizeOf3 (by decide) rfl)) rfl ?_
            refine HG.take (i := 3) ((nb, blk [.int .i64 x.kind, .int .i64 x.a, .int .i64 x.b] 37) :: (al, blk (((textsOf (l.take i)).map strV) ++ List.replicate (l.length - i) (.string ⟨#[]⟩)) 9) :: Lf) rfl (by kernel_rfl) (by kernel_rfl) (by kernel_rfl) (PanicOk.inb (PanicOk.then (PanicOk.inb (PanicOk.then (PanicOk.then (PanicOk.inb (PanicOk.then (PanicOk.bodyQ)))))))) rfl (.inr ⟨by kernel_rfl, List.Sublist.refl _⟩) (fun I' hI' => (y_loadL (k := 0) Tryd.isAgg3 rfl rfl rfl)) rfl ?_
            refine HG.take (i := 7) ([]) rfl (by kernel_rfl) (by kernel_rfl) (by kernel_rfl) (PanicOk.inb (PanicOk.then (PanicOk.inb (PanicOk.then (PanicOk.then (PanicOk.inb (PanicOk.then (PanicOk.bodyQ)))))))) rfl (.inl ⟨List.nil_sublist _, List.nil_sublist _⟩) (fun I' hI' => (y_fieldAddr (o := 2) (t := 3) Tryd.underlying37 rfl Tryd.sizeOf3 (by decide) rfl)) rfl ?_
            refine HG.take (i := 8) ((nb, blk [.int .i64 x.kind, .int .i64 x.a, .int .i64 x.b] 37) :: (al, blk (((textsOf (l.take i)).map strV) ++ List.replicate (l.length - i) (.string ⟨#[]⟩)) 9) :: Lf) rfl (by kernel_rfl) (by kernel_rfl) (by kernel_rfl) (PanicOk.inb (PanicOk.then (PanicOk.inb (PanicOk.then (PanicOk.then (PanicOk.inb (PanicOk.then (PanicOk.bodyQ)))))))) rfl (.inr ⟨by kernel_rfl, List.Sublist.refl _⟩) (fun I' hI' => (y_loadL (k := 0) Tryd.isAgg3 rfl rfl rfl)) rfl ?_
            refine HG.one (i := 4) (by kernel_rfl) rfl (fun hcl hsz => ?_)
            refine HL.callP Tryd.call23 (.cons rfl (.nil)) rfl (strconv_Itoa2 _ x.a (by omega) (by omega)) ?_
            rintro _ Ii3 hi3 rfl
            refine HL.nil ?_
            refine HQ.goOn hcl hsz (by kernel_rfl) (List.Sublist.refl _) (hi3) ?_
            clear hcl hsz
            refine HG.take (i := 5) ([]) rfl (by kernel_rfl) (by kernel_rfl) (by kernel_rfl) (PanicOk.inb (PanicOk.then (PanicOk.inb (PanicOk.then (PanicOk.then (PanicOk.inb (PanicOk.then (PanicOk.bodyQ)))))))) rfl (.inl ⟨List.nil_sublist _, List.nil_sublist _⟩) (fun I' hI' => (y_strcat rfl rfl (by (try simp only [ByteArray.size_append]); (try simp only [sz1, bs_size]); (try have hda := dec_len (n := x.a) (by omega)); (try have hdb := dec_len (n := x.b) (by omega)); omega))) rfl ?_
            refine HG.take (i := 6) ([]) rfl (by kernel_rfl) (by kernel_rfl) (by kernel_rfl) (PanicOk.inb (PanicOk.then (PanicOk.inb (PanicOk.then (PanicOk.then (PanicOk.inb (PanicOk.then (PanicOk.bodyQ)))))))) rfl (.inl ⟨List.nil_sublist _, List.nil_sublist _⟩) (fun I' hI' => (y_strcat rfl rfl (by (try simp only [ByteArray.size_append]); (try simp only [sz1, bs_size]); (try have hda := dec_len (n := x.a) (by omega)); (try have hdb := dec_len (n := x.b) (by omega)); omega))) rfl ?_
            refine HG.one (i := 9) (by kernel_rfl) rfl (fun hcl hsz => ?_)
            refine HL.callP Tryd.call23 (.cons rfl (.nil)) rfl (strconv_Itoa2 _ x.b (by omega) (by omega)) ?_
            rintro _ Ii4 hi4 rfl
            refine HL.nil ?_
            refine HQ.goOn hcl hsz (by kernel_rfl) (List.Sublist.refl _) ((hi3).trans hi4) ?_
            clear hcl hsz
            refine HG.take (i := 10) ([]) rfl (by kernel_rfl) (by kernel_rfl) (by kernel_rfl) (PanicOk.inb (PanicOk.then (PanicOk.inb (PanicOk.then (PanicOk.then (PanicOk.inb (PanicOk.then (PanicOk.bodyQ)))))))) rfl (.inl ⟨List.nil_sublist _, List.nil_sublist _⟩) (fun I' hI' => (y_strcat rfl rfl (by (try simp only [ByteArray.size_append]); (try simp only [sz1, bs_size]); (try have hda := dec_len (n := x.a) (by omega)); (try have hdb := dec_len (n := x.b) (by omega)); omega))) rfl ?_
            refine HG.take (i := 11) ([]) rfl (by kernel_rfl) (by kernel_rfl) (by kernel_rfl) (PanicOk.inb (PanicOk.then (PanicOk.inb (PanicOk.then (PanicOk.then (PanicOk.inb (PanicOk.then (PanicOk.bodyQ)))))))) rfl (.inl ⟨List.nil_sublist _, List.nil_sublist _⟩) (fun I' hI' => (y_strcat rfl rfl (by (try simp only [ByteArray.size_append]); (try simp only [sz1, bs_size]); (try have hda := dec_len (n := x.a) (by omega)); (try have hdb := dec_len (n := x.b) (by omega)); omega))) rfl ?_
            refine HG.take (i := 12) ([]) rfl (by kernel_rfl) (by kernel_rfl) (by kernel_rfl) (PanicOk.inb (PanicOk.then (PanicOk.inb (PanicOk.then (PanicOk.then (PanicOk.inb (PanicOk.then (PanicOk.bodyQ)))))))) rfl (.inl ⟨List.nil_sublist _, List.nil_sublist _⟩) (fun I' hI' => (y_indexAddr (j := i) Tryd.underlying61 Tryd.sizeOf9 rfl rfl (by first | rfl | omega) (by omega))) rfl ?_
            refine HG.one (i := 13) (by kernel_rfl) rfl (fun hcl hsz => ?_)
            have hnew : ((((⟨#[91]⟩) ++ (bs (dec x.a))) ++ (⟨#[44]⟩)) ++ (bs (dec x.b))) ++ (⟨#[41]⟩) = bs (nodeText (textsOf (l.take i)) x) := by rw [nodeText, if_neg (by omega), if_neg (by omega), if_pos hk]; simp only [bs_one, bs_append]; (try simp)
            rw [hnew]
            refine HL.store1s_1 (c' := (((textsOf (l.take i)).map strV ++ [.string (bs (nodeText (textsOf (l.take i)) x))]) ++ List.replicate (l.length - (i + 1)) (.string ⟨#[]⟩))) Tryd.sizeOf9 rfl rfl (by simp only [List.length_append, List.length_replicate, hvl]; omega) rfl (row_set hvl (by omega)) ?_
            refine HL.nil ?_
            refine HQ.goOn_tail hcl hsz (by kernel_rfl) (List.nil_sublist _) ((hi3).trans hi4) ?_
            clear hcl hsz
            refine HG.done (by kernel_rfl) ?_
            refine HQ.inb_normal ?_
            refine HQ.next ?_
            refine HC.sub (E' := [(0, _), (5, _), (17, _), (18, _), (19, _), (6, _)]) ⟨rfl, rfl, rfl, rfl, rfl, rfl, trivial⟩ ?_
            refine HC.seq ?_
            refine HC.region ?_
            refine HL.quiet (y_move rfl) rfl ?_
            refine HL.quiet (y_move rfl) rfl ?_
            refine HL.quiet (y_indexAddr (j := i) Tryd.underlying61 Tryd.sizeOf9 rfl rfl (by first | rfl | omega) (by omega)) rfl ?_
            refine HL.quiet (y_loadL (k := 1) (v := .string (bs (nodeText (textsOf (l.take i)) x))) Tryd.isAgg9 rfl rfl (row_last hvl)) rfl ?_
            refine HL.quiet (y_len_str Tryd.underlying9 rfl) rfl ?_
            refine HL.quiet (y_gtr rfl rfl) rfl ?_
            refine HL.nil ?_
            refine HQ.next ?_
            refine HC.sub (E' := [(0, _), (5, _), (17, _), (18, _), (19, _), (6, _), (109, _)]) ⟨rfl, rfl, rfl, rfl, rfl, rfl, rfl, trivial⟩ ?_
            refine HC.cond rfl (fun hc7 => ?_) (fun hc7 => ?_)
            · try simp only [Bool.and_eq_true, Bool.and_eq_false_iff, Bool.or_eq_true, Bool.or_eq_false_iff, decide_eq_true_eq, decide_eq_false_iff_not, Int.not_lt, Int.not_le, beq_iff_eq, bne_iff_ne, ne_eq, Decidable.not_not, beq_eq_false_iff_ne, bne_eq_false_iff_eq, Bool.not_eq_true', Bool.not_eq_false'] at hc7
              refine HC.region ?_
              refine HL.quiet (y_move rfl) rfl ?_
              refine HL.quiet (y_move rfl) rfl ?_
              refine HL.quiet (y_move rfl) rfl ?_
              refine HL.quiet (y_move rfl) rfl ?_
              refine HL.quiet (y_indexAddr (j := i) Tryd.underlying61 Tryd.sizeOf9 rfl rfl (by first | rfl | omega) (by omega)) rfl ?_
              refine HL.quiet (y_loadL (k := 1) (v := .string (bs (nodeText (textsOf (l.take i)) x))) Tryd.isAgg9 rfl rfl (row_last hvl)) rfl ?_
              refine HL.quiet (y_slice_str_hi (q := 401) Tryd.underlying9 rfl rfl (by omega)) rfl ?_
              refine HL.quiet (y_indexAddr (j := i) Tryd.underlying61 Tryd.sizeOf9 rfl rfl (by first | rfl | omega) (by omega)) rfl ?_
              refine HL.store1s_1 (c' := (((textsOf (l.take i)).map strV ++ [.string ((bs (nodeText (textsOf (l.take i)) x)).extract 0 401)]) ++ List.replicate (l.length - (i + 1)) (.string ⟨#[]⟩))) Tryd.sizeOf9 rfl rfl (by simp only [List.length_append, List.length_replicate, List.length_cons, List.length_nil, hvl]; omega) rfl (row_again hvl) ?_
              refine HL.nil ?_
              refine HQ.inb_normal ?_
              refine HQ.next ?_
              refine HC.sub (E' := [(0, _), (5, _), (17, _), (18, _), (19, _)]) ⟨rfl, rfl, rfl, rfl, rfl, trivial⟩ ?_
              refine HC.region ?_
              have hrow := textsV_next_cut hx (by omega)
              refine HL.quiet (y_add rfl rfl (by omega)) rfl ?_
              refine HL.quiet (y_move rfl) rfl ?_
              refine HL.nil ?_
              exact HQ.again (i + 1, Ii4) (show (fun (i : Nat) (J : PHeap) => i ≤ l.length ∧ PLe I J) (i + 1) Ii4 from ⟨by omega, ((hJ).trans hi3).trans hi4⟩) (show l.length - (i + 1) < l.length - i from by omega) ⟨rfl, rfl, rfl, rfl, rfl, trivial⟩ (by simp only []; rw [hrow]; exact List.Sublist.cons _ (List.Sublist.cons_cons _ (List.Sublist.refl _))) (PLe.refl _)
            · try simp only [Bool.and_eq_true, Bool.and_eq_false_iff, Bool.or_eq_true, Bool.or_eq_false_iff, decide_eq_true_eq, decide_eq_false_iff_not, Int.not_lt, Int.not_le, beq_iff_eq, bne_iff_ne, ne_eq, Decidable.not_not, beq_eq_false_iff_ne, bne_eq_false_iff_eq, Bool.not_eq_true', Bool.not_eq_false'] at hc7
              refine HC.skip ?_
              refine HQ.inb_normal ?_
              refine HQ.next ?_
              refine HC.sub (E' := [(0, _), (5, _), (17, _), (18, _), (19, _)]) ⟨rfl, rfl, rfl, rfl, rfl, trivial⟩ ?_
              refine HC.region ?_
              have hrow := textsV_next hx (by omega)
              refine HL.quiet (y_add rfl rfl (by omega)) rfl ?_
              refine HL.quiet (y_move rfl) rfl ?_
              refine HL.nil ?_
              exact HQ.again (i + 1, Ii4) (show (fun (i : Nat) (J : PHeap) => i ≤ l.length ∧ PLe I J) (i + 1) Ii4 from ⟨by omega, ((hJ).trans hi3).trans hi4⟩) (show l.length - (i + 1) < l.length - i from by omega) ⟨rfl, rfl, rfl, rfl, rfl, trivial⟩ (by simp only []; rw [hrow]; exact List.Sublist.cons _ (List.Sublist.cons_cons _ (List.Sublist.refl _))) (PLe.refl _)
          · try simp only [Bool.and_eq_true, Bool.and_eq_false_iff, Bool.or_eq_true, Bool.or_eq_false_iff, decide_eq_true_eq, decide_eq_false_iff_not, Int.not_lt, Int.not_le, beq_iff_eq, bne_iff_ne, ne_eq, Decidable.not_not, beq_eq_false_iff_ne, bne_eq_false_iff_eq, Bool.not_eq_true', Bool.not_eq_false'] at hc6
            refine HC.seq ?_
            refine HC.region ?_
            refine HL.quiet (y_eql rfl rfl) rfl ?_
            refine HL.quiet (y_assign rfl) rfl ?_
            refine HL.nil ?_
            refine HQ.next ?_
            refine HC.sub (E' := [(0, _), (5, _), (17, _), (18, _), (19, _), (7, _), (6, _), (25, _), (55, _)]) ⟨rfl, rfl, rfl, rfl, rfl, rfl, rfl, rfl, rfl, trivial⟩ ?_
            refine HC.cond rfl (fun hc8 => ?_) (fun hc8 => ?_)
            · try simp only [Bool.and_eq_true, Bool.and_eq_false_iff, Bool.or_eq_true, Bool.or_eq_false_iff, decide_eq_true_eq, decide_eq_false_iff_not, Int.not_lt, Int.not_le, beq_iff_eq, bne_iff_ne, ne_eq, Decidable.not_not, beq_eq_false_iff_ne, bne_eq_false_iff_eq, Bool.not_eq_true', Bool.not_eq_false'] at hc8
              refine HC.region ?_
              have hk : x.kind = 4 := by omega
              have hbb := bad_not hbad hk
              have hla := getD_texts (l.take i) x.a.toNat
              have hlb := getD_texts (l.take i) x.b.toNat
              refine HL.quiet (y_move rfl) rfl ?_
              refine HL.quiet (y_move rfl) rfl ?_
              refine HL.quiet (y_move rfl) rfl ?_
              refine HL.quiet (y_fieldAddr (o := 1) (t := 3) Tryd.underlying37 rfl Tryd.sizeOf3 (by decide) rfl) rfl ?_
              refine HL.quiet (y_loadL (k := 0) Tryd.isAgg3 rfl rfl rfl) rfl ?_
              refine HL.quiet (y_indexAddr (j := x.a.toNat) Tryd.underlying61 Tryd.sizeOf9 rfl rfl (by omega) (by omega)) rfl ?_
              refine HL.quiet (y_loadL (k := 1) (v := .string (bs ((textsOf (l.take i)).getD x.a.toNat []))) Tryd.isAgg9 rfl rfl (textsV_get (by omega) (by omega))) rfl ?_
              refine HL.quiet (y_strcat rfl rfl (by (try simp only [ByteArray.size_append]); (try simp only [sz1, bs_size]); (try have hda := dec_len (n := x.a) (by omega)); (try have hdb := dec_len (n := x.b) (by omega)); omega)) rfl ?_
              refine HL.quiet (y_indexAddr (j := i) Tryd.underlying61 Tryd.sizeOf9 rfl rfl (by first | rfl | omega) (by omega)) rfl ?_
              have hnew : (⟨#[33]⟩) ++ (bs ((textsOf (l.take i)).getD x.a.toNat [])) = bs (nodeText (textsOf (l.take i)) x) := by rw [nodeText, if_neg (by omega), if_neg (by omega), if_neg (by omega), if_pos hk]; simp only [bs_one, bs_append]; (try simp)
              rw [hnew]
              refine HL.store1s_1 (c' := (((textsOf (l.take i)).map strV ++ [.string (bs (nodeText (textsOf (l.take i)) x))]) ++ List.replicate (l.length - (i + 1)) (.string ⟨#[]⟩))) Tryd.sizeOf9 rfl rfl (by simp only [List.length_append, List.length_replicate, hvl]; omega) rfl (row_set hvl (by omega)) ?_
              refine HL.nil ?_
              refine HQ.inb_normal ?_
              refine HQ.next ?_
              refine HC.sub (E' := [(0, _), (5, _), (17, _), (18, _), (19, _), (6, _)]) ⟨rfl, rfl, rfl, rfl, rfl, rfl, trivial⟩ ?_
              refine HC.seq ?_
              refine HC.region ?_
              refine HL.quiet (y_move rfl) rfl ?_
              refine HL.quiet (y_move rfl) rfl ?_
              refine HL.quiet (y_indexAddr (j := i) Tryd.underlying61 Tryd.sizeOf9 rfl rfl (by first | rfl | omega) (by omega)) rfl ?_
              refine HL.quiet (y_loadL (k := 1) (v := .string (bs (nodeText (textsOf (l.take i)) x))) Tryd.isAgg9 rfl rfl (row_last hvl)) rfl ?_
              refine HL.quiet (y_len_str Tryd.underlying9 rfl) rfl ?_
              refine HL.quiet (y_gtr rfl rfl) rfl ?_
              refine HL.nil ?_
              refine HQ.next ?_
              refine HC.sub (E' := [(0, _), (5, _), (17, _), (18, _), (19, _), (6, _), (109, _)]) ⟨rfl, rfl, rfl, rfl, rfl, rfl, rfl, trivial⟩ ?_
              refine HC.cond rfl (fun hc9 => ?_) (fun hc9 => ?_)
              · try simp only [Bool.and_eq_true, Bool.and_eq_false_iff, Bool.or_eq_true, Bool.or_eq_false_iff, decide_eq_true_eq, decide_eq_false_iff_not, Int.not_lt, Int.not_le, beq_iff_eq, bne_iff_ne, ne_eq, Decidable.not_not, beq_eq_false_iff_ne, bne_eq_false_iff_eq, Bool.not_eq_true', Bool.not_eq_false'] at hc9
                refine HC.region ?_
                refine HL.quiet (y_move rfl) rfl ?_
                refine HL.quiet (y_move rfl) rfl ?_
                refine HL.quiet (y_move rfl) rfl ?_
                refine HL.quiet (y_move rfl) rfl ?_
                refine HL.quiet (y_indexAddr (j := i) Tryd.underlying61 Tryd.sizeOf9 rfl rfl (by first | rfl | omega) (by omega)) rfl ?_
                refine HL.quiet (y_loadL (k := 1) (v := .string (bs (nodeText (textsOf (l.take i)) x))) Tryd.isAgg9 rfl rfl (row_last hvl)) rfl ?_
                refine HL.quiet (y_slice_str_hi (q := 401) Tryd.underlying9 rfl rfl (by omega)) rfl ?_
                refine HL.quiet (y_indexAddr (j := i) Tryd.underlying61 Tryd.sizeOf9 rfl rfl (by first | rfl | omega) (by omega)) rfl ?_
                refine HL.store1s_1 (c' := (((textsOf (l.take i)).map strV ++ [.string ((bs (nodeText (textsOf (l.take i)) x)).extract 0 401)]) ++ List.replicate (l.length - (i + 1)) (.string ⟨#[]⟩))) Tryd.sizeOf9 rfl rfl (by simp only [List.length_append, List.length_replicate, List.length_cons, List.length_nil, hvl]; omega) rfl (row_again hvl) ?_
                refine HL.nil ?_
                refine HQ.inb_normal ?_
                refine HQ.next ?_
                refine HC.sub (E' := [(0, _), (5, _), (17, _), (18, _), (19, _)]) ⟨rfl, rfl, rfl, rfl, rfl, trivial⟩ ?_
                refine HC.region ?_
                have hrow := textsV_next_cut hx (by omega)
                refine HL.quiet (y_add rfl rfl (by omega)) rfl ?_
                refine HL.quiet (y_move rfl) rfl ?_
                refine HL.nil ?_
                exact HQ.again (i + 1, J) (show (fun (i : Nat) (J : PHeap) => i ≤ l.length ∧ PLe I J) (i + 1) J from ⟨by omega, hJ⟩) (show l.length - (i + 1) < l.length - i from by omega) ⟨rfl, rfl, rfl, rfl, rfl, trivial⟩ (by simp only []; rw [hrow]; exact List.Sublist.cons _ (List.Sublist.cons_cons _ (List.Sublist.refl _))) (PLe.refl _)
              · try simp only [Bool.and_eq_true, Bool.and_eq_false_iff, Bool.or_eq_true, Bool.or_eq_false_iff, decide_eq_true_eq, decide_eq_false_iff_not, Int.not_lt, Int.not_le, beq_iff_eq, bne_iff_ne, ne_eq, Decidable.not_not, beq_eq_false_iff_ne, bne_eq_false_iff_eq, Bool.not_eq_true', Bool.not_eq_false'] at hc9
                refine HC.skip ?_
                refine HQ.inb_normal ?_
                refine HQ.next ?_
                refine HC.sub (E' := [(0, _), (5, _), (17, _), (18, _), (19, _)]) ⟨rfl, rfl, rfl, rfl, rfl, trivial⟩ ?_
                refine HC.region ?_
                have hrow := textsV_next hx (by omega)
                refine HL.quiet (y_add rfl rfl (by omega)) rfl ?_
                refine HL.quiet (y_move rfl) rfl ?_
                refine HL.nil ?_
                exact HQ.again (i + 1, J) (show (fun (i : Nat) (J : PHeap) => i ≤ l.length ∧ PLe I J) (i + 1) J from ⟨by omega, hJ⟩) (show l.length - (i + 1) < l.length - i from by omega) ⟨rfl, rfl, rfl, rfl, rfl, trivial⟩ (by simp only []; rw [hrow]; exact List.Sublist.cons _ (List.Sublist.cons_cons _ (List.Sublist.refl _))) (PLe.refl _)
            · try simp only [Bool.and_eq_true, Bool.and_eq_false_iff, Bool.or_eq_true, Bool.or_eq_false_iff, decide_eq_true_eq, decide_eq_false_iff_not, Int.not_lt, Int.not_le, beq_iff_eq, bne_iff_ne, ne_eq, Decidable.not_not, beq_eq_false_iff_ne, bne_eq_false_iff_eq, Bool.not_eq_true', Bool.not_eq_false'] at hc8
              refine HC.seq ?_
              refine HC.region ?_
              refine HL.quiet (y_eql rfl rfl) rfl ?_
              refine HL.quiet (y_assign rfl) rfl ?_
              refine HL.nil ?_
              refine HQ.next ?_
              refine HC.sub (E' := [(0, _), (5, _), (17, _), (18, _), (19, _), (7, _), (6, _), (25, _), (66, _)]) ⟨rfl, rfl, rfl, rfl, rfl, rfl, rfl, rfl, rfl, trivial⟩ ?_
              refine HC.cond rfl (fun hc10 => ?_) (fun hc10 => ?_)
              · try simp only [Bool.and_eq_true, Bool.and_eq_false_iff, Bool.or_eq_true, Bool.or_eq_false_iff, decide_eq_true_eq, decide_eq_false_iff_not, Int.not_lt, Int.not_le, beq_iff_eq, bne_iff_ne, ne_eq, Decidable.not_not, beq_eq_false_iff_ne, bne_eq_false_iff_eq, Bool.not_eq_true', Bool.not_eq_false'] at hc10
                refine HC.drawn ([]) 17 Tryd.mixed ?_
                have hk : x.kind = 5 := by omega
                have hbb := bad_two hbad (.inl hk)
                have hla := getD_texts (l.take i) x.a.toNat
                have hlb := getD_texts (l.take i) x.b.toNat
                refine HG.take (i := 0) ([]) rfl (by kernel_rfl) (by kernel_rfl) (by kernel_rfl) (PanicOk.inb (PanicOk.then (PanicOk.inb (PanicOk.then (PanicOk.then (PanicOk.inb (PanicOk.then (PanicOk.bodyQ)))))))) rfl (.inl ⟨List.nil_sublist _, List.nil_sublist _⟩) (fun I' hI' => (y_move rfl)) rfl ?_
                refine HG.take (i := 1) ([]) rfl (by kernel_rfl) (by kernel_rfl) (by kernel_rfl) (PanicOk.inb (PanicOk.then (PanicOk.inb (PanicOk.then (PanicOk.then (PanicOk.inb (PanicOk.then (PanicOk.bodyQ)))))))) rfl (.inl ⟨List.nil_sublist _, List.nil_sublist _⟩) (fun I' hI' => (y_move rfl)) rfl ?_
                refine HG.take (i := 2) ([]) rfl (by kernel_rfl) (by kernel_rfl) (by kernel_rfl) (PanicOk.inb (PanicOk.then (PanicOk.inb (PanicOk.then (PanicOk.then (PanicOk.inb (PanicOk.then (PanicOk.bodyQ)))))))) rfl (.inl ⟨List.nil_sublist _, List.nil_sublist _⟩) (fun I' hI' => (y_move rfl)) rfl ?_
                refine HG.take (i := 3) ([]) rfl (by kernel_rfl) (by kernel_rfl) (by kernel_rfl) (PanicOk.inb (PanicOk.then (PanicOk.inb (PanicOk.then (PanicOk.then (PanicOk.inb (PanicOk.then (PanicOk.bodyQ)))))))) rfl (.inl ⟨List.nil_sublist _, List.nil_sublist _⟩) (fun I' hI' => (y_fieldAddr (o := 1) (t := 3) Tryd.underlying37 rfl Tryd.sizeOf3 (by decide) rfl)) rfl ?_
                refine HG.take (i := 4) ((nb, blk [.int .i64 x.kind, .int .i64 x.a, .int .i64 x.b] 37) :: (al, blk (((textsOf (l.take i)).map strV) ++ List.replicate (l.length - i) (.string ⟨#[]⟩)) 9) :: Lf) rfl (by kernel_rfl) (by kernel_rfl) (by kernel_rfl) (PanicOk.inb (PanicOk.then (PanicOk.inb (PanicOk.then (PanicOk.then (PanicOk.inb (PanicOk.then (PanicOk.bodyQ)))))))) rfl (.inr ⟨by kernel_rfl, List.Sublist.refl _⟩) (fun I' hI' => (y_loadL (k := 0) Tryd.isAgg3 rfl rfl rfl)) rfl ?_
                refine HG.take (i := 5) ([]) rfl (by kernel_rfl) (by kernel_rfl) (by kernel_rfl) (PanicOk.inb (PanicOk.then (PanicOk.inb (PanicOk.then (PanicOk.then (PanicOk.inb (PanicOk.then (PanicOk.bodyQ)))))))) rfl (.inl ⟨List.nil_sublist _, List.nil_sublist _⟩) (fun I' hI' => (y_indexAddr (j := x.a.toNat) Tryd.underlying61 Tryd.sizeOf9 rfl rfl (by omega) (by omega))) rfl ?_
                refine HG.take (i := 6) ((nb, blk [.int .i64 x.kind, .int .i64 x.a, .int .i64 x.b] 37) :: (al, blk (((textsOf (l.take i)).map strV) ++ List.replicate (l.length - i) (.string ⟨#[]⟩)) 9) :: Lf) rfl (by kernel_rfl) (by kernel_rfl) (by kernel_rfl) (PanicOk.inb (PanicOk.then (PanicOk.inb (PanicOk.then (PanicOk.then (PanicOk.inb (PanicOk.then (PanicOk.bodyQ)))))))) rfl (.inr ⟨by kernel_rfl, List.Sublist.refl _⟩) (fun I' hI' => (y_loadL (k := 1) (v := .string (bs ((textsOf (l.take i)).getD x.a.toNat []))) Tryd.isAgg9 rfl rfl (textsV_get (by omega) (by omega)))) rfl ?_
                refine HG.take (i := 7) ([]) rfl (by kernel_rfl) (by kernel_rfl) (by kernel_rfl) (PanicOk.inb (PanicOk.then (PanicOk.inb (PanicOk.then (PanicOk.then (PanicOk.inb (PanicOk.then (PanicOk.bodyQ)))))))) rfl (.inl ⟨List.nil_sublist _, List.nil_sublist _⟩) (fun I' hI' => (y_strcat rfl rfl (by (try simp only [ByteArray.size_append]); (try simp only [sz1, bs_size]); (try have hda := dec_len (n := x.a) (by omega)); (try have hdb := dec_len (n := x.b) (by omega)); omega))) rfl ?_
                refine HG.take (i := 8) ([]) rfl (by kernel_rfl) (by kernel_rfl) (by kernel_rfl) (PanicOk.inb (PanicOk.then (PanicOk.inb (PanicOk.then (PanicOk.then (PanicOk.inb (PanicOk.then (PanicOk.bodyQ)))))))) rfl (.inl ⟨List.nil_sublist _, List.nil_sublist _⟩) (fun I' hI' => (y_strcat rfl rfl (by (try simp only [ByteArray.size_append]); (try simp only [sz1, bs_size]); (try have hda := dec_len (n := x.a) (by omega)); (try have hdb := dec_len (n := x.b) (by omega)); omega))) rfl ?_
                refine HG.take (i := 9) ([]) rfl (by kernel_rfl) (by kernel_rfl) (by kernel_rfl) (PanicOk.inb (PanicOk.then (PanicOk.inb (PanicOk.then (PanicOk.then (PanicOk.inb (PanicOk.then (PanicOk.bodyQ)))))))) rfl (.inl ⟨List.nil_sublist _, List.nil_sublist _⟩) (fun I' hI' => (y_move rfl)) rfl ?_
                refine HG.take (i := 10) ([]) rfl (by kernel_rfl) (by kernel_rfl) (by kernel_rfl) (PanicOk.inb (PanicOk.then (PanicOk.inb (PanicOk.then (PanicOk.then (PanicOk.inb (PanicOk.then (PanicOk.bodyQ)))))))) rfl (.inl ⟨List.nil_sublist _, List.nil_sublist _⟩) (fun I' hI' => (y_fieldAddr (o := 2) (t := 3) Tryd.underlying37 rfl Tryd.sizeOf3 (by decide) rfl)) rfl ?_
                refine HG.take (i := 11) ((nb, blk [.int .i64 x.kind, .int .i64 x.a, .int .i64 x.b] 37) :: (al, blk (((textsOf (l.take i)).map strV) ++ List.replicate (l.length - i) (.string ⟨#[]⟩)) 9) :: Lf) rfl (by kernel_rfl) (by kernel_rfl) (by kernel_rfl) (PanicOk.inb (PanicOk.then (PanicOk.inb (PanicOk.then (PanicOk.then (PanicOk.inb (PanicOk.then (PanicOk.bodyQ)))))))) rfl (.inr ⟨by kernel_rfl, List.Sublist.refl _⟩) (fun I' hI' => (y_loadL (k := 0) Tryd.isAgg3 rfl rfl rfl)) rfl ?_
                refine HG.take (i := 12) ([]) rfl (by kernel_rfl) (by kernel_rfl) (by kernel_rfl) (PanicOk.inb (PanicOk.then (PanicOk.inb (PanicOk.then (PanicOk.then (PanicOk.inb (PanicOk.then (PanicOk.bodyQ)))))))) rfl (.inl ⟨List.nil_sublist _, List.nil_sublist _⟩) (fun I' hI' => (y_indexAddr (j := x.b.toNat) Tryd.underlying61 Tryd.sizeOf9 rfl rfl (by omega) (by omega))) rfl ?_
                refine HG.take (i := 13) ((nb, blk [.int .i64 x.kind, .int .i64 x.a, .int .i64 x.b] 37) :: (al, blk (((textsOf (l.take i)).map strV) ++ List.replicate (l.length - i) (.string ⟨#[]⟩)) 9) :: Lf) rfl (by kernel_rfl) (by kernel_rfl) (by kernel_rfl) (PanicOk.inb (PanicOk.then (PanicOk.inb (PanicOk.then (PanicOk.then (PanicOk.inb (PanicOk.then (PanicOk.bodyQ)))))))) rfl (.inr ⟨by kernel_rfl, List.Sublist.refl _⟩) (fun I' hI' => (y_loadL (k := 1) (v := .string (bs ((textsOf (l.take i)).getD x.b.toNat []))) Tryd.isAgg9 rfl rfl (textsV_get (by omega) (by omega)))) rfl ?_
                refine HG.take (i := 14) ([]) rfl (by kernel_rfl) (by kernel_rfl) (by kernel_rfl) (PanicOk.inb (PanicOk.then (PanicOk.inb (PanicOk.then (PanicOk.then (PanicOk.inb (PanicOk.then (PanicOk.bodyQ)))))))) rfl (.inl ⟨List.nil_sublist _, List.nil_sublist _⟩) (fun I' hI' => (y_strcat rfl rfl (by (try simp only [ByteArray.size_append]); (try simp only [sz1, bs_size]); (try have hda := dec_len (n := x.a) (by omega)); (try have hdb := dec_len (n := x.b) (by omega)); omega))) rfl ?_
                refine HG.take (i := 15) ([]) rfl (by kernel_rfl) (by kernel_rfl) (by kernel_rfl) (PanicOk.inb (PanicOk.then (PanicOk.inb (PanicOk.then (PanicOk.then (PanicOk.inb (PanicOk.then (PanicOk.bodyQ)))))))) rfl (.inl ⟨List.nil_sublist _, List.nil_sublist _⟩) (fun I' hI' => (y_strcat rfl rfl (by (try simp only [ByteArray.size_append]); (try simp only [sz1, bs_size]); (try have hda := dec_len (n := x.a) (by omega)); (try have hdb := dec_len (n := x.b) (by omega)); omega))) rfl ?_
                refine HG.take (i := 16) ([]) rfl (by kernel_rfl) (by kernel_rfl) (by kernel_rfl) (PanicOk.inb (PanicOk.then (PanicOk.inb (PanicOk.then (PanicOk.then (PanicOk.inb (PanicOk.then (PanicOk.bodyQ)))))))) rfl (.inl ⟨List.nil_sublist _, List.nil_sublist _⟩) (fun I' hI' => (y_indexAddr (j := i) Tryd.underlying61 Tryd.sizeOf9 rfl rfl (by first | rfl | omega) (by omega))) rfl ?_
                refine HG.one (i := 17) (by kernel_rfl) rfl (fun hcl hsz => ?_)
                have hnew : ((((⟨#[40]⟩) ++ (bs ((textsOf (l.take i)).getD x.a.toNat []))) ++ (⟨#[38]⟩)) ++ (bs ((textsOf (l.take i)).getD x.b.toNat []))) ++ (⟨#[41]⟩) = bs (nodeText (textsOf (l.take i)) x) := by rw [nodeText, if_neg (by omega), if_neg (by omega), if_neg (by omega), if_neg (by omega), if_pos hk]; simp only [bs_one, bs_append]; (try simp)
                rw [hnew]
                refine HL.store1s_1 (c' := (((textsOf (l.take i)).map strV ++ [.string (bs (nodeText (textsOf (l.take i)) x))]) ++ List.replicate (l.length - (i + 1)) (.string ⟨#[]⟩))) Tryd.sizeOf9 rfl rfl (by simp only [List.length_append, List.length_replicate, hvl]; omega) rfl (row_set hvl (by omega)) ?_
                refine HL.nil ?_
                refine HQ.goOn_tail hcl hsz (by kernel_rfl) (List.nil_sublist _) (PLe.refl _) ?_
                clear hcl hsz
                refine HG.done (by kernel_rfl) ?_
                refine HQ.inb_normal ?_
                refine HQ.next ?_
                refine HC.sub (E' := [(0, _), (5, _), (17, _), (18, _), (19, _), (6, _)]) ⟨rfl, rfl, rfl, rfl, rfl, rfl, trivial⟩ ?_
                refine HC.seq ?_
                refine HC.region ?_
                refine HL.quiet (y_move rfl) rfl ?_
                refine HL.quiet (y_move rfl) rfl ?_
                refine HL.quiet (y_indexAddr (j := i) Tryd.underlying61 Tryd.sizeOf9 rfl rfl (by first | rfl | omega) (by omega)) rfl ?_
                refine HL.quiet (y_loadL (k := 1) (v := .string (bs (nodeText (textsOf (l.take i)) x))) Tryd.isAgg9 rfl rfl (row_last hvl)) rfl ?_
                refine HL.quiet (y_len_str Tryd.underlying9 rfl) rfl ?_
                refine HL.quiet (y_gtr rfl rfl) rfl ?_
                refine HL.nil ?_
                refine HQ.next ?_
                refine HC.sub (E' := [(0, _), (5, _), (17, _), (18, _), (19, _), (6, _), (109, _)]) ⟨rfl, rfl, rfl, rfl, rfl, rfl, rfl, trivial⟩ ?_
                refine HC.cond rfl (fun hc11 => ?_) (fun hc11 => ?_)
                · try simp only [Bool.and_eq_true, Bool.and_eq_false_iff, Bool.or_eq_true, Bool.or_eq_false_iff, decide_eq_true_eq, decide_eq_false_iff_not, Int.not_lt, Int.not_le, beq_iff_eq, bne_iff_ne, ne_eq, Decidable.not_not, beq_eq_false_iff_ne, bne_eq_false_iff_eq, Bool.not_eq_true', Bool.not_eq_false'] at hc11
                  refine HC.region ?_
                  refine HL.quiet (y_move rfl) rfl ?_
                  refine HL.quiet (y_move rfl) rfl ?_
                  refine HL.quiet (y_move rfl) rfl ?_
                  refine HL.quiet (y_move rfl) rfl ?_
                  refine HL.quiet (y_indexAddr (j := i) Tryd.underlying61 Tryd.sizeOf9 rfl rfl (by first | rfl | omega) (by omega)) rfl ?_
                  refine HL.quiet (y_loadL (k := 1) (v := .string (bs (nodeText (textsOf (l.take i)) x))) Tryd.isAgg9 rfl rfl (row_last hvl)) rfl ?_
                  refine HL.quiet (y_slice_str_hi (q := 401) Tryd.underlying9 rfl rfl (by omega)) rfl ?_
                  refine HL.quiet (y_indexAddr (j := i) Tryd.underlying61 Tryd.sizeOf9 rfl rfl (by first | rfl | omega) (by omega)) rfl ?_
                  refine HL.store1s_1 (c' := (((textsOf (l.take i)).map strV ++ [.string ((bs (nodeText (textsOf (l.take i)) x)).extract 0 401)]) ++ List.replicate (l.length - (i + 1)) (.string ⟨#[]⟩))) Tryd.sizeOf9 rfl rfl (by simp only [List.length_append, List.length_replicate, List.length_cons, List.length_nil, hvl]; omega) rfl (row_again hvl) ?_
                  refine HL.nil ?_
                  refine HQ.inb_normal ?_
                  refine HQ.next ?_
                  refine HC.sub (E' := [(0, _), (5, _), (17, _), (18, _), (19, _)]) ⟨rfl, rfl, rfl, rfl, rfl, trivial⟩ ?_
                  refine HC.region ?_
                  have hrow := textsV_next_cut hx (by omega)
                  refine HL.quiet (y_add rfl rfl (by omega)) rfl ?_
                  refine HL.quiet (y_move rfl) rfl ?_
                  refine HL.nil ?_
                  exact HQ.again (i + 1, J) (show (fun (i : Nat) (J : PHeap) => i ≤ l.length ∧ PLe I J) (i + 1) J from ⟨by omega, hJ⟩) (show l.length - (i + 1) < l.length - i from by omega) ⟨rfl, rfl, rfl, rfl, rfl, trivial⟩ (by simp only []; rw [hrow]; exact List.Sublist.cons _ (List.Sublist.cons_cons _ (List.Sublist.refl _))) (PLe.refl _)
                · try simp only [Bool.and_eq_true, Bool.and_eq_false_iff, Bool.or_eq_true, Bool.or_eq_false_iff, decide_eq_true_eq, decide_eq_false_iff_not, Int.not_lt, Int.not_le, beq_iff_eq, bne_iff_ne, ne_eq, Decidable.not_not, beq_eq_false_iff_ne, bne_eq_false_iff_eq, Bool.not_eq_true', Bool.not_eq_false'] at hc11
                  refine HC.skip ?_
                  refine HQ.inb_normal ?_
                  refine HQ.next ?_
                  refine HC.sub (E' := [(0, _), (5, _), (17, _), (18, _), (19, _)]) ⟨rfl, rfl, rfl, rfl, rfl, trivial⟩ ?_
                  refine HC.region ?_
                  have hrow := textsV_next hx (by omega)
                  refine HL.quiet (y_add rfl rfl (by omega)) rfl ?_
                  refine HL.quiet (y_move rfl) rfl ?_
                  refine HL.nil ?_
                  exact HQ.again (i + 1, J) (show (fun (i : Nat) (J : PHeap) => i ≤ l.length ∧ PLe I J) (i + 1) J from ⟨by omega, hJ⟩) (show l.length - (i + 1) < l.length - i from by omega) ⟨rfl, rfl, rfl, rfl, rfl, trivial⟩ (by simp only []; rw [hrow]; exact List.Sublist.cons _ (List.Sublist.cons_cons _ (List.Sublist.refl _))) (PLe.refl _)
              · try simp only [Bool.and_eq_true, Bool.and_eq_false_iff, Bool.or_eq_true, Bool.or_eq_false_iff, decide_eq_true_eq, decide_eq_false_iff_not, Int.not_lt, Int.not_le, beq_iff_eq, bne_iff_ne, ne_eq, Decidable.not_not, beq_eq_false_iff_ne, bne_eq_false_iff_eq, Bool.not_eq_true', Bool.not_eq_false'] at hc10
                refine HC.seq ?_
                refine HC.region ?_
                refine HL.quiet (y_eql rfl rfl) rfl ?_
                refine HL.quiet (y_assign rfl) rfl ?_
                refine HL.nil ?_
                refine HQ.next ?_
                refine HC.sub (E' := [(0, _), (5, _), (17, _), (18, _), (19, _), (7, _), (6, _), (85, _)]) ⟨rfl, rfl, rfl, rfl, rfl, rfl, rfl, rfl, trivial⟩ ?_
                refine HC.cond rfl (fun hc12 => ?_) (fun hc12 => ?_)
                · try simp only [Bool.and_eq_true, Bool.and_eq_false_iff, Bool.or_eq_true, Bool.or_eq_false_iff, decide_eq_true_eq, decide_eq_false_iff_not, Int.not_lt, Int.not_le, beq_iff_eq, bne_iff_ne, ne_eq, Decidable.not_not, beq_eq_false_iff_ne, bne_eq_false_iff_eq, Bool.not_eq_true', Bool.not_eq_false'] at hc12
                  refine HC.drawn ([]) 17 Tryd.mixed ?_
                  have hk : x.kind = 6 := by omega
                  have hbb := bad_two hbad (.inr hk)
                  have hla := getD_texts (l.take i) x.a.toNat
                  have hlb := getD_texts (l.take i) x.b.toNat
                  refine HG.take (i := 0) ([]) rfl (by kernel_rfl) (by kernel_rfl) (by kernel_rfl) (PanicOk.inb (PanicOk.then (PanicOk.inb (PanicOk.then (PanicOk.then (PanicOk.inb (PanicOk.then (PanicOk.bodyQ)))))))) rfl (.inl ⟨List.nil_sublist _, List.nil_sublist _⟩) (fun I' hI' => (y_move rfl)) rfl ?_
                  refine HG.take (i := 1) ([]) rfl (by kernel_rfl) (by kernel_rfl) (by kernel_rfl) (PanicOk.inb (PanicOk.then (PanicOk.inb (PanicOk.then (PanicOk.then (PanicOk.inb (PanicOk.then (PanicOk.bodyQ)))))))) rfl (.inl ⟨List.nil_sublist _, List.nil_sublist _⟩) (fun I' hI' => (y_move rfl)) rfl ?_
                  refine HG.take (i := 2) ([]) rfl (by kernel_rfl) (by kernel_rfl) (by kernel_rfl) (PanicOk.inb (PanicOk.then (PanicOk.inb (PanicOk.then (PanicOk.then (PanicOk.inb (PanicOk.then (PanicOk.bodyQ)))))))) rfl (.inl ⟨List.nil_sublist _, List.nil_sublist _⟩) (fun I' hI' => (y_move rfl)) rfl ?_
                  refine HG.take (i := 3) ([]) rfl (by kernel_rfl) (by kernel_rfl) (by kernel_rfl) (PanicOk.inb (PanicOk.then (PanicOk.inb (PanicOk.then (PanicOk.then (PanicOk.inb (PanicOk.then (PanicOk.bodyQ)))))))) rfl (.inl ⟨List.nil_sublist _, List.nil_sublist _⟩) (fun I' hI' => (y_fieldAddr (o := 1) (t := 3) Tryd.underlying37 rfl Tryd.sizeOf3 (by decide) rfl)) rfl ?_
                  refine HG.take (i := 4) ((nb, blk [.int .i64 x.kind, .int .i64 x.a, .int .i64 x.b] 37) :: (al, blk (((textsOf (l.take i)).map strV) ++ List.replicate (l.length - i) (.string ⟨#[]⟩)) 9) :: Lf) rfl (by kernel_rfl) (by kernel_rfl) (by kernel_rfl) (PanicOk.inb (PanicOk.then (PanicOk.inb (PanicOk.then (PanicOk.then (PanicOk.inb (PanicOk.then (PanicOk.bodyQ)))))))) rfl (.inr ⟨by kernel_rfl, List.Sublist.refl _⟩) (fun I' hI' => (y_loadL (k := 0) Tryd.isAgg3 rfl rfl rfl)) rfl ?_
                  refine HG.take (i := 5) ([]) rfl (by kernel_rfl) (by kernel_rfl) (by kernel_rfl) (PanicOk.inb (PanicOk.then (PanicOk.inb (PanicOk.then (PanicOk.then (PanicOk.inb (PanicOk.then (PanicOk.bodyQ)))))))) rfl (.inl ⟨List.nil_sublist _, List.nil_sublist _⟩) (fun I' hI' => (y_indexAddr (j := x.a.toNat) Tryd.underlying61 Tryd.sizeOf9 rfl rfl (by omega) (by omega))) rfl ?_
                  refine HG.take (i := 6) ((nb, blk [.int .i64 x.kind, .int .i64 x.a, .int .i64 x.b] 37) :: (al, blk (((textsOf (l.take i)).map strV) ++ List.replicate (l.length - i) (.string ⟨#[]⟩)) 9) :: Lf) rfl (by kernel_rfl) (by kernel_rfl) (by kernel_rfl) (PanicOk.inb (PanicOk.then (PanicOk.inb (PanicOk.then (PanicOk.then (PanicOk.inb (PanicOk.then (PanicOk.bodyQ)))))))) rfl (.inr ⟨by kernel_rfl, List.Sublist.refl _⟩) (fun I' hI' => (y_loadL (k := 1) (v := .string (bs ((textsOf (l.take i)).getD x.a.toNat []))) Tryd.isAgg9 rfl rfl (textsV_get (by omega) (by omega)))) rfl ?_
                  refine HG.take (i := 7) ([]) rfl (by kernel_rfl) (by kernel_rfl) (by kernel_rfl) (PanicOk.inb (PanicOk.then (PanicOk.inb (PanicOk.then (PanicOk.then (PanicOk.inb (PanicOk.then (PanicOk.bodyQ)))))))) rfl (.inl ⟨List.nil_sublist _, List.nil_sublist _⟩) (fun I' hI' => (y_strcat rfl rfl (by (try simp only [ByteArray.size_append]); (try simp only [sz1, bs_size]); (try have hda := dec_len (n := x.a) (by omega)); (try have hdb := dec_len (n := x.b) (by omega)); omega))) rfl ?_
                  refine HG.take (i := 8) ([]) rfl (by kernel_rfl) (by kernel_rfl) (by kernel_rfl) (PanicOk.inb (PanicOk.then (PanicOk.inb (PanicOk.then (PanicOk.then (PanicOk.inb (PanicOk.then (PanicOk.bodyQ)))))))) rfl (.inl ⟨List.nil_sublist _, List.nil_sublist _⟩) (fun I' hI' => (y_strcat rfl rfl (by (try simp only [ByteArray.size_append]); (try simp only [sz1, bs_size]); (try have hda := dec_len (n := x.a) (by omega)); (try have hdb := dec_len (n := x.b) (by omega)); omega))) rfl ?_
                  refine HG.take (i := 9) ([]) rfl (by kernel_rfl) (by kernel_rfl) (by kernel_rfl) (PanicOk.inb (PanicOk.then (PanicOk.inb (PanicOk.then (PanicOk.then (PanicOk.inb (PanicOk.then (PanicOk.bodyQ)))))))) rfl (.inl ⟨List.nil_sublist _, List.nil_sublist _⟩) (fun I' hI' => (y_move rfl)) rfl ?_
                  refine HG.take (i := 10) ([]) rfl (by kernel_rfl) (by kernel_rfl) (by kernel_rfl) (PanicOk.inb (PanicOk.then (PanicOk.inb (PanicOk.then (PanicOk.then (PanicOk.inb (PanicOk.then (PanicOk.bodyQ)))))))) rfl (.inl ⟨List.nil_sublist _, List.nil_sublist _⟩) (fun I' hI' => (y_fieldAddr (o := 2) (t := 3) Tryd.underlying37 rfl Tryd.sizeOf3 (by decide) rfl)) rfl ?_
                  refine HG.take (i := 11) ((nb, blk [.int .i64 x.kind, .int .i64 x.a, .int .i64 x.b] 37) :: (al, blk (((textsOf (l.take i)).map strV) ++ List.replicate (l.length - i) (.string ⟨#[]⟩)) 9) :: Lf) rfl (by kernel_rfl) (by kernel_rfl) (by kernel_rfl) (PanicOk.inb (PanicOk.then (PanicOk.inb (PanicOk.then (PanicOk.then (PanicOk.inb (PanicOk.then (PanicOk.bodyQ)))))))) rfl (.inr ⟨by kernel_rfl, List.Sublist.refl _⟩) (fun I' hI' => (y_loadL (k := 0) Tryd.isAgg3 rfl rfl rfl)) rfl ?_
                  refine HG.take (i := 12) ([]) rfl (by kernel_rfl) (by kernel_rfl) (by kernel_rfl) (PanicOk.inb (PanicOk.then (PanicOk.inb (PanicOk.then (PanicOk.then (PanicOk.inb (PanicOk.then (PanicOk.bodyQ)))))))) rfl (.inl ⟨List.nil_sublist _, List.nil_sublist _⟩) (fun I' hI' => (y_indexAddr (j := x.b.toNat) Tryd.underlying61 Tryd.sizeOf9 rfl rfl (by omega) (by omega))) rfl ?_
                  refine HG.take (i := 13) ((nb, blk [.int .i64 x.kind, .int .i64 x.a, .int .i64 x.b] 37) :: (al, blk (((textsOf (l.take i)).map strV) ++ List.replicate (l.length - i) (.string ⟨#[]⟩)) 9) :: Lf) rfl (by kernel_rfl) (by kernel_rfl) (by kernel_rfl) (PanicOk.inb (PanicOk.then (PanicOk.inb (PanicOk.then (PanicOk.then (PanicOk.inb (PanicOk.then (PanicOk.bodyQ)))))))) rfl (.inr ⟨by kernel_rfl, List.Sublist.refl _⟩) (fun I' hI' => (y_loadL (k := 1) (v := .string (bs ((textsOf (l.take i)).getD x.b.toNat []))) Tryd.isAgg9 rfl rfl (textsV_get (by omega) (by omega)))) rfl ?_
                  refine HG.take (i := 14) ([]) rfl (by kernel_rfl) (by kernel_rfl) (by kernel_rfl) (PanicOk.inb (PanicOk.then (PanicOk.inb (PanicOk.then (PanicOk.then (PanicOk.inb (PanicOk.then (PanicOk.bodyQ)))))))) rfl (.inl ⟨List.nil_sublist _, List.nil_sublist _⟩) (fun I' hI' => (y_strcat rfl rfl (by (try simp only [ByteArray.size_append]); (try simp only [sz1, bs_size]); (try have hda := dec_len (n := x.a) (by omega)); (try have hdb := dec_len (n := x.b) (by omega)); omega))) rfl ?_
                  refine HG.take (i := 15) ([]) rfl (by kernel_rfl) (by kernel_rfl) (by kernel_rfl) (PanicOk.inb (PanicOk.then (PanicOk.inb (PanicOk.then (PanicOk.then (PanicOk.inb (PanicOk.then (PanicOk.bodyQ)))))))) rfl (.inl ⟨List.nil_sublist _, List.nil_sublist _⟩) (fun I' hI' => (y_strcat rfl rfl (by (try simp only [ByteArray.size_append]); (try simp only [sz1, bs_size]); (try have hda := dec_len (n := x.a) (by omega)); (try have hdb := dec_len (n := x.b) (by omega)); omega))) rfl ?_
                  refine HG.take (i := 16) ([]) rfl (by kernel_rfl) (by kernel_rfl) (by kernel_rfl) (PanicOk.inb (PanicOk.then (PanicOk.inb (PanicOk.then (PanicOk.then (PanicOk.inb (PanicOk.then (PanicOk.bodyQ)))))))) rfl (.inl ⟨List.nil_sublist _, List.nil_sublist _⟩) (fun I' hI' => (y_indexAddr (j := i) Tryd.underlying61 Tryd.sizeOf9 rfl rfl (by first | rfl | omega) (by omega))) rfl ?_
                  refine HG.one (i := 17) (by kernel_rfl) rfl (fun hcl hsz => ?_)
                  have hnew : ((((⟨#[40]⟩) ++ (bs ((textsOf (l.take i)).getD x.a.toNat []))) ++ (⟨#[124]⟩)) ++ (bs ((textsOf (l.take i)).getD x.b.toNat []))) ++ (⟨#[41]⟩) = bs (nodeText (textsOf (l.take i)) x) := by rw [nodeText, if_neg (by omega), if_neg (by omega), if_neg (by omega), if_neg (by omega), if_neg (by omega)]; simp only [bs_one, bs_append]; (try simp)
                  rw [hnew]
                  refine HL.store1s_1 (c' := (((textsOf (l.take i)).map strV ++ [.string (bs (nodeText (textsOf (l.take i)) x))]) ++ List.replicate (l.length - (i + 1)) (.string ⟨#[]⟩))) Tryd.sizeOf9 rfl rfl (by simp only [List.length_append, List.length_replicate, hvl]; omega) rfl (row_set hvl (by omega)) ?_
                  refine HL.nil ?_
                  refine HQ.goOn_tail hcl hsz (by kernel_rfl) (List.nil_sublist _) (PLe.refl _) ?_
                  clear hcl hsz
                  refine HG.done (by kernel_rfl) ?_
                  refine HQ.inb_normal ?_
                  refine HQ.next ?_
                  refine HC.sub (E' := [(0, _), (5, _), (17, _), (18, _), (19, _), (6, _)]) ⟨rfl, rfl, rfl, rfl, rfl, rfl, trivial⟩ ?_
                  refine HC.seq ?_
                  refine HC.region ?_
                  refine HL.quiet (y_move rfl) rfl ?_
                  refine HL.quiet (y_move rfl) rfl ?_
                  refine HL.quiet (y_indexAddr (j := i) Tryd.underlying61 Tryd.sizeOf9 rfl rfl (by first | rfl | omega) (by omega)) rfl ?_
                  refine HL.quiet (y_loadL (k := 1) (v := .string (bs (nodeText (textsOf (l.take i)) x))) Tryd.isAgg9 rfl rfl (row_last hvl)) rfl ?_
                  refine HL.quiet (y_len_str Tryd.underlying9 rfl) rfl ?_
                  refine HL.quiet (y_gtr rfl rfl) rfl ?_
                  refine HL.nil ?_
                  refine HQ.next ?_
                  refine HC.sub (E' := [(0, _), (5, _), (17, _), (18, _), (19, _), (6, _), (109, _)]) ⟨rfl, rfl, rfl, rfl, rfl, rfl, rfl, trivial⟩ ?_
                  refine HC.cond rfl (fun hc13 => ?_) (fun hc13 => ?_)
                  · try simp only [Bool.and_eq_true, Bool.and_eq_false_iff, Bool.or_eq_true, Bool.or_eq_false_iff, decide_eq_true_eq, decide_eq_false_iff_not, Int.not_lt, Int.not_le, beq_iff_eq, bne_iff_ne, ne_eq, Decidable.not_not, beq_eq_false_iff_ne, bne_eq_false_iff_eq, Bool.not_eq_true', Bool.not_eq_false'] at hc13
                    refine HC.region ?_
                    refine HL.quiet (y_move rfl) rfl ?_
                    refine HL.quiet (y_move rfl) rfl ?_
                    refine HL.quiet (y_move rfl) rfl ?_
                    refine HL.quiet (y_move rfl) rfl ?_
                    refine HL.quiet (y_indexAddr (j := i) Tryd.underlying61 Tryd.sizeOf9 rfl rfl (by first | rfl | omega) (by omega)) rfl ?_
                    refine HL.quiet (y_loadL (k := 1) (v := .string (bs (nodeText (textsOf (l.take i)) x))) Tryd.isAgg9 rfl rfl (row_last hvl)) rfl ?_
                    refine HL.quiet (y_slice_str_hi (q := 401) Tryd.underlying9 rfl rfl (by omega)) rfl ?_
                    refine HL.quiet (y_indexAddr (j := i) Tryd.underlying61 Tryd.sizeOf9 rfl rfl (by first | rfl | omega) (by omega)) rfl ?_
                    refine HL.store1s_1 (c' := (((textsOf (l.take i)).map strV ++ [.string ((bs (nodeText (textsOf (l.take i)) x)).extract 0 401)]) ++ List.replicate (l.length - (i + 1)) (.string ⟨#[]⟩))) Tryd.sizeOf9 rfl rfl (by simp only [List.length_append, List.length_replicate, List.length_cons, List.length_nil, hvl]; omega) rfl (row_again hvl) ?_
                    refine HL.nil ?_
                    refine HQ.inb_normal ?_
                    refine HQ.next ?_
                    refine HC.sub (E' := [(0, _), (5, _), (17, _), (18, _), (19, _)]) ⟨rfl, rfl, rfl, rfl, rfl, trivial⟩ ?_
                    refine HC.region ?_
                    have hrow := textsV_next_cut hx (by omega)
                    refine HL.quiet (y_add rfl rfl (by omega)) rfl ?_
                    refine HL.quiet (y_move rfl) rfl ?_
                    refine HL.nil ?_
                    exact HQ.again (i + 1, J) (show (fun (i : Nat) (J : PHeap) => i ≤ l.length ∧ PLe I J) (i + 1) J from ⟨by omega, hJ⟩) (show l.length - (i + 1) < l.length - i from by omega) ⟨rfl, rfl, rfl, rfl, rfl, trivial⟩ (by simp only []; rw [hrow]; exact List.Sublist.cons _ (List.Sublist.cons_cons _ (List.Sublist.refl _))) (PLe.refl _)
                  · try simp only [Bool.and_eq_true, Bool.and_eq_false_iff, Bool.or_eq_true, Bool.or_eq_false_iff, decide_eq_true_eq, decide_eq_false_iff_not, Int.not_lt, Int.not_le, beq_iff_eq, bne_iff_ne, ne_eq, Decidable.not_not, beq_eq_false_iff_ne, bne_eq_false_iff_eq, Bool.not_eq_true', Bool.not_eq_false'] at hc13
                    refine HC.skip ?_
                    refine HQ.inb_normal ?_
                    refine HQ.next ?_
                    refine HC.sub (E' := [(0, _), (5, _), (17, _), (18, _), (19, _)]) ⟨rfl, rfl, rfl, rfl, rfl, trivial⟩ ?_
                    refine HC.region ?_
                    have hrow := textsV_next hx (by omega)
                    refine HL.quiet (y_add rfl rfl (by omega)) rfl ?_
                    refine HL.quiet (y_move rfl) rfl ?_
                    refine HL.nil ?_
                    exact HQ.again (i + 1, J) (show (fun (i : Nat) (J : PHeap) => i ≤ l.length ∧ PLe I J) (i + 1) J from ⟨by omega, hJ⟩) (show l.length - (i + 1) < l.length - i from by omega) ⟨rfl, rfl, rfl, rfl, rfl, trivial⟩ (by simp only []; rw [hrow]; exact List.Sublist.cons _ (List.Sublist.cons_cons _ (List.Sublist.refl _))) (PLe.refl _)
                · try simp only [Bool.and_eq_true, Bool.and_eq_false_iff, Bool.or_eq_true, Bool.or_eq_false_iff, decide_eq_true_eq, decide_eq_false_iff_not, Int.not_lt, Int.not_le, beq_iff_eq, bne_iff_ne, ne_eq, Decidable.not_not, beq_eq_false_iff_ne, bne_eq_false_iff_eq, Bool.not_eq_true', Bool.not_eq_false'] at hc12
                  refine HC.skip ?_
                  refine HQ.inb_normal ?_
                  refine HQ.next ?_
                  refine HC.sub (E' := [(0, _), (5, _), (17, _), (18, _), (19, _), (6, _)]) ⟨rfl, rfl, rfl, rfl, rfl, rfl, trivial⟩ ?_
                  refine HC.seq ?_
                  refine HC.region ?_
                  exfalso
                  have := bad_kind hbad
                  omega
    · try simp only [Bool.and_eq_true, Bool.and_eq_false_iff, Bool.or_eq_true, Bool.or_eq_false_iff, decide_eq_true_eq, decide_eq_false_iff_not, Int.not_lt, Int.not_le, beq_iff_eq, bne_iff_ne, ne_eq, Decidable.not_not, beq_eq_false_iff_ne, bne_eq_false_iff_eq, Bool.not_eq_true', Bool.not_eq_false'] at hc1
      refine HC.exit ?_
      refine HQ.then_exit ?_
      refine HQ.then_exit ?_
      refine HQ.inb_exit ?_
      refine HQ.next ?_
      refine HC.sub (E' := [(0, _), (5, _)]) ⟨rfl, rfl, trivial⟩ ?_
      refine HC.seq ?_
      refine HC.region ?_
      have hil : i = l.length := by omega
      subst hil
      refine HL.quiet (y_move rfl) rfl ?_
      refine HL.quiet (y_move rfl) rfl ?_
      refine HL.quiet (y_len_slice Tryd.underlying22 rfl) rfl ?_
      refine HL.quiet (y_sub rfl rfl (by omega)) rfl ?_
      refine HL.quiet (y_indexAddr (j := (l.length - 1)) Tryd.underlying61 Tryd.sizeOf9 rfl rfl (by omega) (by omega)) rfl ?_
      refine HL.quiet (y_loadL (k := 0) (v := .string (bs (lastT l))) Tryd.isAgg9 rfl rfl (textsV_all (by omega))) rfl ?_
      refine HL.quiet (y_assign rfl) rfl ?_
      refine HL.nil ?_
      refine HQ.next ?_
      refine HC.sub (E' := [(8, _)]) ⟨rfl, trivial⟩ ?_
      refine HC.seq ?_
      refine HC.seq ?_
      refine HC.region ?_
      refine HL.quiet (y_move rfl) rfl ?_
      refine HL.quiet (y_len_str Tryd.underlying9 rfl) rfl ?_
      refine HL.quiet (y_gtr rfl rfl) rfl ?_
      refine HL.nil ?_
      refine HQ.next ?_
      refine HC.sub (E' := [(8, _), (127, _)]) ⟨rfl, rfl, trivial⟩ ?_
      refine HC.cond rfl (fun hc14 => ?_) (fun hc14 => ?_)
      · try simp only [Bool.and_eq_true, Bool.and_eq_false_iff, Bool.or_eq_true, Bool.or_eq_false_iff, decide_eq_true_eq, decide_eq_false_iff_not, Int.not_lt, Int.not_le, beq_iff_eq, bne_iff_ne, ne_eq, Decidable.not_not, beq_eq_false_iff_ne, bne_eq_false_iff_eq, Bool.not_eq_true', Bool.not_eq_false'] at hc14
        refine HC.seq ?_
        refine HC.region ?_
        refine HL.quiet (y_assign rfl) rfl ?_
        refine HL.quiet (y_assign rfl) rfl ?_
        refine HL.nil ?_
        refine HQ.next ?_
        refine HC.sub (E' := [(2, _), (3, _)]) ⟨rfl, rfl, trivial⟩ ?_
        refine HC.ret ?_
        refine HQ.then_ret ?_
        refine HQ.doneP (Res.two Tryd.results13 rfl rfl) (List.Sublist.cons _ (List.Sublist.refl _)) (hJ) ?_
        rw [showText, if_neg (by omega), if_pos (by rw [bs_size] at *; omega)]; rfl
      · try simp only [Bool.and_eq_true, Bool.and_eq_false_iff, Bool.or_eq_true, Bool.or_eq_false_iff, decide_eq_true_eq, decide_eq_false_iff_not, Int.not_lt, Int.not_le, beq_iff_eq, bne_iff_ne, ne_eq, Decidable.not_not, beq_eq_false_iff_ne, bne_eq_false_iff_eq, Bool.not_eq_true', Bool.not_eq_false'] at hc14
        refine HC.skip ?_
        refine HQ.next ?_
        refine HC.sub (E' := [(8, _)]) ⟨rfl, trivial⟩ ?_
        refine HC.seq ?_
        refine HC.region ?_
        refine HL.quiet (y_move rfl) rfl ?_
        refine HL.quiet (y_assign rfl) rfl ?_
        refine HL.quiet (y_assign rfl) rfl ?_
        refine HL.nil ?_
        refine HQ.next ?_
        refine HC.sub (E' := [(2, _), (3, _)]) ⟨rfl, rfl, trivial⟩ ?_
        refine HC.ret ?_
        refine HQ.doneP (Res.two Tryd.results13 rfl rfl) (List.Sublist.cons _ (List.Sublist.refl _)) (hJ) ?_
        rw [showText, if_neg (by omega), if_neg (by rw [bs_size] at *; omega)]

end Go.Rm
