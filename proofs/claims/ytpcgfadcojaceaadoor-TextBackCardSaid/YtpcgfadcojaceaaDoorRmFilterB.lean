/- What this text holds: contracts of filter.both, Join, Meet, Less, Same, Every, Copied and reedkeep.same, printed by a program of mine (wip/tools/walk.py) from plans of mine. -/
import Derived.Test.YtpcgfadcojaceaaDoorRmBoxes
import Derived.Test.YtpcgfadcojaceaaDoorRmFilterA
import Derived.Test.YtpcgfadcojaceaaDoorRmClone
set_option linter.unusedVariables false
set_option linter.unusedSimpArgs false
set_option linter.unusedSectionVars false
namespace Go.Rm
open Go Go.Proofs
set_option maxRecDepth 100000

/-- Of two filters, row by row. -/
def bothOf (op : BitVec 32 → BitVec 32 → BitVec 32) (f g : List Box) : Int × List Box :=
  if filterCheck f ≠ 0 then (filterCheck f, []) else if filterCheck g ≠ 0 then (filterCheck g, []) else (0, boxesOf fun i => op (tabOf f i) (tabOf g i))
def joinOf := bothOf (fun a b => a ||| b)
def meetOf := bothOf (fun a b => a &&& b)
def lessOf := bothOf (fun a b => a &&& ~~~b)
def sameOf (f g : List Box) : Bool := (bothOf (fun a b => a ^^^ b) f g).1 == 0 && (bothOf (fun a b => a ^^^ b) f g).2.length == 0
theorem sameOf_yes {f g : List Box} (h : (bothOf (fun a b => a ^^^ b) f g).1 = 0) : sameOf f g = (((bothOf (fun a b => a ^^^ b) f g).2.length : Int) == 0) := by
  rw [Bool.eq_iff_iff]; simp only [sameOf, h, Bool.and_eq_true, beq_iff_eq, true_and]; omega
theorem sameOf_no {f g : List Box} (h : ¬ (bothOf (fun a b => a ^^^ b) f g).1 = 0) : sameOf f g = false := by
  simp only [sameOf, Bool.and_eq_false_iff, beq_eq_false_iff_ne]; exact .inl h

theorem do_Join (I : PHeap) (a b : BitVec 32) : Pure Tryd.prog 22 [.int .u32 (a.toNat : Int), .int .u32 (b.toNat : Int)] I (fun r _ => r = .int .u32 (((fun a b => a ||| b) a b).toNat : Int)) := by
  refine Pure.of_body Tryd.func22 rfl Tryd.ntmps22 rfl (fun W Lf => ?_)
  refine HC.seq ?_
  refine HC.region ?_
  refine HL.quiet (y_assign rfl) rfl ?_
  refine HL.nil ?_
  refine HQ.next ?_
  refine HC.sub (E' := [(0, _), (1, _)]) ⟨rfl, rfl, trivial⟩ ?_
  refine HC.seq ?_
  refine HC.region ?_
  refine HL.quiet (y_move rfl) rfl ?_
  refine HL.quiet (y_move rfl) rfl ?_
  refine HL.quiet (y_bits (bo := .or) (r := (((fun a b => a ||| b) a b).toNat : Int)) rfl rfl rfl (or_u32 a b)) rfl ?_
  refine HL.quiet (y_assign rfl) rfl ?_
  refine HL.nil ?_
  refine HQ.next ?_
  refine HC.sub (E' := [(4, _)]) ⟨rfl, trivial⟩ ?_
  refine HC.ret ?_
  refine HQ.doneP (Res.one Tryd.results22 rfl) (List.Sublist.refl _) (PLe.refl _) ?_
  rfl

theorem do_Meet (I : PHeap) (a b : BitVec 32) : Pure Tryd.prog 21 [.int .u32 (a.toNat : Int), .int .u32 (b.toNat : Int)] I (fun r _ => r = .int .u32 (((fun a b => a &&& b) a b).toNat : Int)) := by
  refine Pure.of_body Tryd.func21 rfl Tryd.ntmps21 rfl (fun W Lf => ?_)
  refine HC.seq ?_
  refine HC.region ?_
  refine HL.quiet (y_assign rfl) rfl ?_
  refine HL.nil ?_
  refine HQ.next ?_
  refine HC.sub (E' := [(0, _), (1, _)]) ⟨rfl, rfl, trivial⟩ ?_
  refine HC.seq ?_
  refine HC.region ?_
  refine HL.quiet (y_move rfl) rfl ?_
  refine HL.quiet (y_move rfl) rfl ?_
  refine HL.quiet (y_bits (bo := .and) (r := (((fun a b => a &&& b) a b).toNat : Int)) rfl rfl rfl (and_u32 a b)) rfl ?_
  refine HL.quiet (y_assign rfl) rfl ?_
  refine HL.nil ?_
  refine HQ.next ?_
  refine HC.sub (E' := [(4, _)]) ⟨rfl, trivial⟩ ?_
  refine HC.ret ?_
  refine HQ.doneP (Res.one Tryd.results21 rfl) (List.Sublist.refl _) (PLe.refl _) ?_
  rfl

theorem do_Less (I : PHeap) (a b : BitVec 32) : Pure Tryd.prog 19 [.int .u32 (a.toNat : Int), .int .u32 (b.toNat : Int)] I (fun r _ => r = .int .u32 (((fun a b => a &&& ~~~b) a b).toNat : Int)) := by
  refine Pure.of_body Tryd.func19 rfl Tryd.ntmps19 rfl (fun W Lf => ?_)
  refine HC.seq ?_
  refine HC.region ?_
  refine HL.quiet (y_assign rfl) rfl ?_
  refine HL.nil ?_
  refine HQ.next ?_
  refine HC.sub (E' := [(0, _), (1, _)]) ⟨rfl, rfl, trivial⟩ ?_
  refine HC.seq ?_
  refine HC.region ?_
  refine HL.quiet (y_move rfl) rfl ?_
  refine HL.quiet (y_move rfl) rfl ?_
  refine HL.quiet (y_bits (bo := .andNot) (r := (((fun a b => a &&& ~~~b) a b).toNat : Int)) rfl rfl rfl (andNot_u32 a b)) rfl ?_
  refine HL.quiet (y_assign rfl) rfl ?_
  refine HL.nil ?_
  refine HQ.next ?_
  refine HC.sub (E' := [(4, _)]) ⟨rfl, trivial⟩ ?_
  refine HC.ret ?_
  refine HQ.doneP (Res.one Tryd.results19 rfl) (List.Sublist.refl _) (PLe.refl _) ?_
  rfl

theorem do_Same (I : PHeap) (a b : BitVec 32) : Pure Tryd.prog 32 [.int .u32 (a.toNat : Int), .int .u32 (b.toNat : Int)] I (fun r _ => r = .int .u32 (((fun a b => a ^^^ b) a b).toNat : Int)) := by
  refine Pure.of_body Tryd.func32 rfl Tryd.ntmps32 rfl (fun W Lf => ?_)
  refine HC.seq ?_
  refine HC.region ?_
  refine HL.quiet (y_assign rfl) rfl ?_
  refine HL.nil ?_
  refine HQ.next ?_
  refine HC.sub (E' := [(0, _), (1, _)]) ⟨rfl, rfl, trivial⟩ ?_
  refine HC.seq ?_
  refine HC.region ?_
  refine HL.quiet (y_move rfl) rfl ?_
  refine HL.quiet (y_move rfl) rfl ?_
  refine HL.quiet (y_bits (bo := .xor) (r := (((fun a b => a ^^^ b) a b).toNat : Int)) rfl rfl rfl (xor_u32 a b)) rfl ?_
  refine HL.quiet (y_assign rfl) rfl ?_
  refine HL.nil ?_
  refine HQ.next ?_
  refine HC.sub (E' := [(4, _)]) ⟨rfl, trivial⟩ ?_
  refine HC.ret ?_
  refine HQ.doneP (Res.one Tryd.results32 rfl) (List.Sublist.refl _) (PLe.refl _) ?_
  rfl

theorem filter_both (I : PHeap) (vf vg : Value) (lf lg : List Box) (hf : Val I vf lf) (hg : Val I vg lg) (c : FuncId) (op : BitVec 32 → BitVec 32 → BitVec 32) (hc : ∀ args w, (callFunc c args).run Tryd.prog w = .ok (.enter c args) w)
    (hop : ∀ (J : PHeap) (a b : BitVec 32), Pure Tryd.prog c [.int .u32 (a.toNat : Int), .int .u32 (b.toNat : Int)] J (fun r _ => r = .int .u32 ((op a b).toNat : Int))) : Pure Tryd.prog 18 [vf, vg, .func (.func c) #[] #[]] I (fun r I' => ∃ v e, r = .tuple #[v, .int .i64 e] ∧ e = (bothOf op lf lg).1 ∧ Val I' v (bothOf op lf lg).2) := by
  obtain ⟨fad, fcap, rfl, _⟩ := hf.slice
  obtain ⟨gad, gcap, rfl, _⟩ := hg.slice
  refine Pure.of_body Tryd.func18 rfl Tryd.ntmps18 rfl (fun W Lf => ?_)
  refine HC.seq ?_
  refine HC.region ?_
  refine HL.quiet (y_assign rfl) rfl ?_
  refine HL.quiet (y_assign rfl) rfl ?_
  refine HL.nil ?_
  refine HQ.next ?_
  refine HC.sub (E' := [(0, _), (1, _), (2, _)]) ⟨rfl, rfl, rfl, trivial⟩ ?_
  refine HC.seq ?_
  refine HC.seq ?_
  refine HC.region ?_
  refine HL.quiet (y_move rfl) rfl ?_
  refine HL.callP Tryd.call29 (.cons rfl (.nil)) rfl (filter_Check _ _ lf (hf.le (PLe.refl _))) ?_
  rintro _ Ii1 hi1 rfl
  refine HL.quiet (y_assign rfl) rfl ?_
  refine HL.nil ?_
  refine HQ.next ?_
  refine HC.sub (E' := [(0, _), (1, _), (2, _), (8, _)]) ⟨rfl, rfl, rfl, rfl, trivial⟩ ?_
  refine HC.seq ?_
  refine HC.region ?_
  refine HL.quiet (y_move rfl) rfl ?_
  refine HL.quiet (y_neq rfl rfl) rfl ?_
  refine HL.nil ?_
  refine HQ.next ?_
  refine HC.sub (E' := [(0, _), (1, _), (2, _), (8, _), (16, _)]) ⟨rfl, rfl, rfl, rfl, rfl, trivial⟩ ?_
  refine HC.cond rfl (fun hc0 => ?_) (fun hc0 => ?_)
  · try simp only [Bool.and_eq_true, Bool.and_eq_false_iff, Bool.or_eq_true, Bool.or_eq_false_iff, decide_eq_true_eq, decide_eq_false_iff_not, Int.not_lt, Int.not_le, beq_iff_eq, bne_iff_ne, ne_eq, Decidable.not_not, beq_eq_false_iff_ne, bne_eq_false_iff_eq, Bool.not_eq_true', Bool.not_eq_false'] at hc0
    refine HC.seq ?_
    refine HC.region ?_
    refine HL.quiet (y_move rfl) rfl ?_
    refine HL.quiet (y_assign rfl) rfl ?_
    refine HL.quiet (y_assign rfl) rfl ?_
    refine HL.nil ?_
    refine HQ.next ?_
    refine HC.sub (E' := [(6, _), (7, _)]) ⟨rfl, rfl, trivial⟩ ?_
    refine HC.ret ?_
    refine HQ.then_ret ?_
    refine HQ.doneP (Res.two Tryd.results18 rfl rfl) (List.Sublist.refl _) (hi1) ?_
    refine ⟨_, _, rfl, ?_⟩
    rw [bothOf, if_pos (by omega)]; exact ⟨rfl, Val.nil⟩
  · try simp only [Bool.and_eq_true, Bool.and_eq_false_iff, Bool.or_eq_true, Bool.or_eq_false_iff, decide_eq_true_eq, decide_eq_false_iff_not, Int.not_lt, Int.not_le, beq_iff_eq, bne_iff_ne, ne_eq, Decidable.not_not, beq_eq_false_iff_ne, bne_eq_false_iff_eq, Bool.not_eq_true', Bool.not_eq_false'] at hc0
    refine HC.skip ?_
    refine HQ.next ?_
    refine HC.sub (E' := [(0, _), (1, _), (2, _)]) ⟨rfl, rfl, rfl, trivial⟩ ?_
    refine HC.seq ?_
    refine HC.seq ?_
    refine HC.region ?_
    refine HL.quiet (y_move rfl) rfl ?_
    refine HL.callP Tryd.call29 (.cons rfl (.nil)) rfl (filter_Check _ _ lg (hg.le (hi1))) ?_
    rintro _ Ii2 hi2 rfl
    refine HL.quiet (y_assign rfl) rfl ?_
    refine HL.nil ?_
    refine HQ.next ?_
    refine HC.sub (E' := [(0, _), (1, _), (2, _), (9, _)]) ⟨rfl, rfl, rfl, rfl, trivial⟩ ?_
    refine HC.seq ?_
    refine HC.region ?_
    refine HL.quiet (y_move rfl) rfl ?_
    refine HL.quiet (y_neq rfl rfl) rfl ?_
    refine HL.nil ?_
    refine HQ.next ?_
    refine HC.sub (E' := [(0, _), (1, _), (2, _), (9, _), (21, _)]) ⟨rfl, rfl, rfl, rfl, rfl, trivial⟩ ?_
    refine HC.cond rfl (fun hc1 => ?_) (fun hc1 => ?_)
    · try simp only [Bool.and_eq_true, Bool.and_eq_false_iff, Bool.or_eq_true, Bool.or_eq_false_iff, decide_eq_true_eq, decide_eq_false_iff_not, Int.not_lt, Int.not_le, beq_iff_eq, bne_iff_ne, ne_eq, Decidable.not_not, beq_eq_false_iff_ne, bne_eq_false_iff_eq, Bool.not_eq_true', Bool.not_eq_false'] at hc1
      refine HC.seq ?_
      refine HC.region ?_
      refine HL.quiet (y_move rfl) rfl ?_
      refine HL.quiet (y_assign rfl) rfl ?_
      refine HL.quiet (y_assign rfl) rfl ?_
      refine HL.nil ?_
      refine HQ.next ?_
      refine HC.sub (E' := [(6, _), (7, _)]) ⟨rfl, rfl, trivial⟩ ?_
      refine HC.ret ?_
      refine HQ.then_ret ?_
      refine HQ.doneP (Res.two Tryd.results18 rfl rfl) (List.Sublist.refl _) ((hi1).trans hi2) ?_
      refine ⟨_, _, rfl, ?_⟩
      rw [bothOf, if_neg (by omega), if_pos (by omega)]; exact ⟨rfl, Val.nil⟩
    · try simp only [Bool.and_eq_true, Bool.and_eq_false_iff, Bool.or_eq_true, Bool.or_eq_false_iff, decide_eq_true_eq, decide_eq_false_iff_not, Int.not_lt, Int.not_le, beq_iff_eq, bne_iff_ne, ne_eq, Decidable.not_not, beq_eq_false_iff_ne, bne_eq_false_iff_eq, Bool.not_eq_true', Bool.not_eq_false'] at hc1
      refine HC.skip ?_
      refine HQ.next ?_
      refine HC.sub (E' := [(0, _), (1, _), (2, _)]) ⟨rfl, rfl, rfl, trivial⟩ ?_
      refine HC.seq ?_
      refine HC.region ?_
      refine HL.quiet (y_move rfl) rfl ?_
      refine HL.callP Tryd.call30 (.cons rfl (.nil)) rfl (filter_tabled _ _ lf (hf.le ((hi1).trans hi2)) (FilterOk.of (by omega))) ?_
      rintro _ Ii3 hi3 rfl
      refine HL.quiet (y_move rfl) rfl ?_
      refine HL.callP Tryd.call30 (.cons rfl (.nil)) rfl (filter_tabled _ _ lg (hg.le (((hi1).trans hi2).trans hi3)) (FilterOk.of (by omega))) ?_
      rintro _ Ii4 hi4 rfl
      refine HL.alloc_agg Tryd.zeroValue69 rfl (fun tb _ => ?_)
      refine HL.alloc_agg Tryd.zeroValue69 rfl (fun ub _ => ?_)
      refine HL.store_all_1 (vs := tabV (tabOf lf)) Tryd.sizeOf69 rfl rfl (tabV_len _) (rfl) (tabV_one _) ?_
      refine HL.store_all_0 (vs := tabV (tabOf lg)) Tryd.sizeOf69 rfl rfl (tabV_len _) (rfl) (tabV_one _) ?_
      refine HL.nil ?_
      refine HQ.next ?_
      refine HC.sub (E' := [(2, _), (10, _), (11, _)]) ⟨rfl, rfl, rfl, trivial⟩ ?_
      refine HC.seq ?_
      refine HC.seq ?_
      refine HC.region ?_
      refine HL.quiet (y_move rfl) rfl ?_
      refine HL.nil ?_
      refine HQ.next ?_
      refine HC.block ?_
      refine HC.ownEq (L' := (fun (i : Nat) => (ub, blk (tabV (tabOf lg)) 69) :: (tb, blk (tabV (mixT (fun i => op (tabOf lf i) (tabOf lg i)) (tabOf lf) i)) 69) :: Lf) 0) (by simp only [mixT_none]) ?_
      refine HC.sub (E' := (fun (i : Nat) => [(2, .func (.func c) #[] #[]), (10, .pointer (some ⟨tb, 0, none⟩)), (11, .pointer (some ⟨ub, 0, none⟩)), (27, .int .i64 (i : Int))]) 0) ⟨rfl, rfl, rfl, rfl, trivial⟩ ?_
      refine HC.loop (fun (i : Nat) => 16 - i) (fun (i : Nat) => i ≤ 16) (fun (i : Nat) => [(2, .func (.func c) #[] #[]), (10, .pointer (some ⟨tb, 0, none⟩)), (11, .pointer (some ⟨ub, 0, none⟩)), (27, .int .i64 (i : Int))]) (fun (i : Nat) => (ub, blk (tabV (tabOf lg)) 69) :: (tb, blk (tabV (mixT (fun i => op (tabOf lf i) (tabOf lg i)) (tabOf lf) i)) 69) :: Lf) (fun (i : Nat) => Ii4) 0 (by omega) (fun i hC => ?_)
      refine HC.seq ?_
      refine HC.region ?_
      refine HL.quiet (y_lss rfl rfl) rfl ?_
      refine HL.nil ?_
      refine HQ.next ?_
      refine HC.seq ?_
      refine HC.cond rfl (fun hc2 => ?_) (fun hc2 => ?_)
      · try simp only [Bool.and_eq_true, Bool.and_eq_false_iff, Bool.or_eq_true, Bool.or_eq_false_iff, decide_eq_true_eq, decide_eq_false_iff_not, Int.not_lt, Int.not_le, beq_iff_eq, bne_iff_ne, ne_eq, Decidable.not_not, beq_eq_false_iff_ne, bne_eq_false_iff_eq, Bool.not_eq_true', Bool.not_eq_false'] at hc2
        refine HC.skip ?_
        refine HQ.next ?_
        refine HC.sub (E' := [(2, _), (10, _), (11, _), (27, _)]) ⟨rfl, rfl, rfl, rfl, trivial⟩ ?_
        refine HC.seq ?_
        refine HC.block ?_
        refine HC.seq ?_
        refine HC.region ?_
        refine HL.quiet (y_move rfl) rfl ?_
        refine HL.quiet (y_assign rfl) rfl ?_
        refine HL.nil ?_
        refine HQ.next ?_
        refine HC.sub (E' := [(2, _), (10, _), (11, _), (27, _), (12, _)]) ⟨rfl, rfl, rfl, rfl, rfl, trivial⟩ ?_
        refine HC.drawn ([]) 10 Tryd.mixed ?_
        refine HG.take (i := 0) ([]) rfl (by kernel_rfl) (by kernel_rfl) (by kernel_rfl) (PanicOk.inb (PanicOk.then (PanicOk.then (PanicOk.inb (PanicOk.then (PanicOk.bodyQ)))))) rfl (.inl ⟨List.nil_sublist _, List.nil_sublist _⟩) (fun I' hI' => (y_move rfl)) rfl ?_
        refine HG.take (i := 1) ([]) rfl (by kernel_rfl) (by kernel_rfl) (by kernel_rfl) (PanicOk.inb (PanicOk.then (PanicOk.then (PanicOk.inb (PanicOk.then (PanicOk.bodyQ)))))) rfl (.inl ⟨List.nil_sublist _, List.nil_sublist _⟩) (fun I' hI' => (y_move rfl)) rfl ?_
        refine HG.take (i := 2) ([]) rfl (by kernel_rfl) (by kernel_rfl) (by kernel_rfl) (PanicOk.inb (PanicOk.then (PanicOk.then (PanicOk.inb (PanicOk.then (PanicOk.bodyQ)))))) rfl (.inl ⟨List.nil_sublist _, List.nil_sublist _⟩) (fun I' hI' => (y_move rfl)) rfl ?_
        refine HG.take (i := 3) ([]) rfl (by kernel_rfl) (by kernel_rfl) (by kernel_rfl) (PanicOk.inb (PanicOk.then (PanicOk.then (PanicOk.inb (PanicOk.then (PanicOk.bodyQ)))))) rfl (.inl ⟨List.nil_sublist _, List.nil_sublist _⟩) (fun I' hI' => (y_indexArr (j := i) Tryd.underlying69 Tryd.sizeOf57 rfl rfl (by first | rfl | omega) (by omega))) rfl ?_
        refine HG.take (i := 4) ((ub, blk (tabV (tabOf lg)) 69) :: (tb, blk (tabV (mixT (fun i => op (tabOf lf i) (tabOf lg i)) (tabOf lf) i)) 69) :: Lf) rfl (by kernel_rfl) (by kernel_rfl) (by kernel_rfl) (PanicOk.inb (PanicOk.then (PanicOk.then (PanicOk.inb (PanicOk.then (PanicOk.bodyQ)))))) rfl (.inr ⟨by kernel_rfl, List.Sublist.refl _⟩) (fun I' hI' => (y_loadL (k := 1) (v := .int .u32 (((tabOf lf i).toNat : Int))) Tryd.isAgg57 rfl rfl (mixT_get _ _ (by omega)))) rfl ?_
        refine HG.take (i := 5) ([]) rfl (by kernel_rfl) (by kernel_rfl) (by kernel_rfl) (PanicOk.inb (PanicOk.then (PanicOk.then (PanicOk.inb (PanicOk.then (PanicOk.bodyQ)))))) rfl (.inl ⟨List.nil_sublist _, List.nil_sublist _⟩) (fun I' hI' => (y_move rfl)) rfl ?_
        refine HG.take (i := 6) ([]) rfl (by kernel_rfl) (by kernel_rfl) (by kernel_rfl) (PanicOk.inb (PanicOk.then (PanicOk.then (PanicOk.inb (PanicOk.then (PanicOk.bodyQ)))))) rfl (.inl ⟨List.nil_sublist _, List.nil_sublist _⟩) (fun I' hI' => (y_indexArr (j := i) Tryd.underlying69 Tryd.sizeOf57 rfl rfl (by first | rfl | omega) (by omega))) rfl ?_
        refine HG.take (i := 7) ((ub, blk (tabV (tabOf lg)) 69) :: (tb, blk (tabV (mixT (fun i => op (tabOf lf i) (tabOf lg i)) (tabOf lf) i)) 69) :: Lf) rfl (by kernel_rfl) (by kernel_rfl) (by kernel_rfl) (PanicOk.inb (PanicOk.then (PanicOk.then (PanicOk.inb (PanicOk.then (PanicOk.bodyQ)))))) rfl (.inr ⟨by kernel_rfl, List.Sublist.refl _⟩) (fun I' hI' => (y_loadL (k := 0) (v := .int .u32 (((tabOf lg i).toNat : Int))) Tryd.isAgg57 rfl rfl (by rw [Nat.zero_add, Nat.mul_one]; exact tabV_get _ (by omega)))) rfl ?_
        refine HG.one (i := 8) (by kernel_rfl) rfl (fun hcl hsz => ?_)
        refine HL.callCP (fv := []) (cv := []) hc rfl (.cons rfl (.cons rfl (.nil))) rfl rfl (hop _ (tabOf lf i) (tabOf lg i)) ?_
        rintro _ Ii5 hi5 rfl
        refine HL.nil ?_
        refine HQ.goOn hcl hsz (by kernel_rfl) (List.Sublist.refl _) (hi5) ?_
        clear hcl hsz
        refine HG.take (i := 9) ([]) rfl (by kernel_rfl) (by kernel_rfl) (by kernel_rfl) (PanicOk.inb (PanicOk.then (PanicOk.then (PanicOk.inb (PanicOk.then (PanicOk.bodyQ)))))) rfl (.inl ⟨List.nil_sublist _, List.nil_sublist _⟩) (fun I' hI' => (y_indexArr (j := i) Tryd.underlying69 Tryd.sizeOf57 rfl rfl (by first | rfl | omega) (by omega))) rfl ?_
        refine HG.one (i := 10) (by kernel_rfl) rfl (fun hcl hsz => ?_)
        refine HL.store1s_1 (c' := (tabV (mixT (fun i => op (tabOf lf i) (tabOf lg i)) (tabOf lf) (i + 1)))) Tryd.sizeOf57 rfl rfl (by rw [tabV_len]; omega) rfl (mixT_set _ _ _) ?_
        refine HL.nil ?_
        refine HQ.goOn_tail hcl hsz (by kernel_rfl) (List.nil_sublist _) (hi5) ?_
        clear hcl hsz
        refine HG.done (by kernel_rfl) ?_
        refine HQ.inb_normal ?_
        refine HQ.next ?_
        refine HC.sub (E' := [(2, _), (10, _), (11, _), (27, _)]) ⟨rfl, rfl, rfl, rfl, trivial⟩ ?_
        refine HC.region ?_
        refine HL.quiet (y_add rfl rfl (by omega)) rfl ?_
        refine HL.quiet (y_move rfl) rfl ?_
        refine HL.nil ?_
        exact HQ.again (i + 1) (by omega) (by omega) ⟨rfl, rfl, rfl, rfl, trivial⟩ (List.Sublist.cons_cons _ (List.Sublist.cons_cons _ (List.Sublist.refl _))) (hi5)
      · try simp only [Bool.and_eq_true, Bool.and_eq_false_iff, Bool.or_eq_true, Bool.or_eq_false_iff, decide_eq_true_eq, decide_eq_false_iff_not, Int.not_lt, Int.not_le, beq_iff_eq, bne_iff_ne, ne_eq, Decidable.not_not, beq_eq_false_iff_ne, bne_eq_false_iff_eq, Bool.not_eq_true', Bool.not_eq_false'] at hc2
        refine HC.exit ?_
        refine HQ.then_exit ?_
        refine HQ.then_exit ?_
        refine HQ.inb_exit ?_
        refine HQ.next ?_
        refine HC.sub (E' := [(10, _)]) ⟨rfl, trivial⟩ ?_
        refine HC.seq ?_
        refine HC.region ?_
        refine HL.ownEq (L' := (ub, blk (tabV (tabOf lg)) 69) :: (tb, blk (tabV (fun i => op (tabOf lf i) (tabOf lg i))) 69) :: Lf) (by rw [mixT_all (by omega)]) ?_
        refine HL.quiet (y_loadL_agg (k := 1) (cs := tabV (fun i => op (tabOf lf i) (tabOf lg i))) Tryd.isAgg69 Tryd.sizeOf69 rfl rfl (by rw [List.drop_zero]; exact List.take_of_length_le (by rw [tabV_len]; omega)) (tabV_len _)) rfl ?_
        refine HL.callP Tryd.call31 (.cons rfl (.nil)) rfl (filter_boxes _ (fun i => op (tabOf lf i) (tabOf lg i))) ?_
        rintro rv Ii6 hi6 hV
        refine HL.quiet (y_assign rfl) rfl ?_
        refine HL.quiet (y_assign rfl) rfl ?_
        refine HL.nil ?_
        refine HQ.next ?_
        refine HC.sub (E' := [(6, _), (7, _)]) ⟨rfl, rfl, trivial⟩ ?_
        refine HC.ret ?_
        refine HQ.doneP (Res.two Tryd.results18 rfl rfl) (List.Sublist.cons _ (List.Sublist.cons _ (List.Sublist.refl _))) (((((hi1).trans hi2).trans hi3).trans hi4).trans hi6) ?_
        refine ⟨_, _, rfl, ?_⟩
        rw [bothOf, if_neg (by omega), if_neg (by omega)]; exact ⟨rfl, hV⟩

theorem filter_Join (I : PHeap) (vf vg : Value) (lf lg : List Box) (hf : Val I vf lf) (hg : Val I vg lg) : Pure Tryd.prog 12 [vf, vg] I (fun r I' => ∃ v, r = .tuple #[v, .int .i64 (joinOf lf lg).1] ∧ Val I' v (joinOf lf lg).2) := by
  obtain ⟨fad, fcap, rfl, _⟩ := hf.slice
  obtain ⟨gad, gcap, rfl, _⟩ := hg.slice
  refine Pure.of_body Tryd.func12 rfl Tryd.ntmps12 rfl (fun W Lf => ?_)
  refine HC.seq ?_
  refine HC.region ?_
  refine HL.quiet (y_assign rfl) rfl ?_
  refine HL.quiet (y_assign rfl) rfl ?_
  refine HL.nil ?_
  refine HQ.next ?_
  refine HC.sub (E' := [(0, _), (1, _)]) ⟨rfl, rfl, trivial⟩ ?_
  refine HC.seq ?_
  refine HC.region ?_
  refine HL.quiet (y_move rfl) rfl ?_
  refine HL.quiet (y_move rfl) rfl ?_
  refine HL.callP Tryd.call18 (.cons rfl (.cons rfl (.cons rfl (.nil)))) rfl (filter_both _ _ _ lf lg (hf.le (PLe.refl _)) (hg.le (PLe.refl _)) 22 (fun a b => a ||| b) Tryd.call22 (fun J a b => do_Join J a b)) ?_
  rintro _ Ii1 hi1 ⟨bv, be, rfl, rfl, hV⟩
  obtain ⟨bad, bcap, rfl, _⟩ := hV.slice
  refine HL.quiet (y_extract rfl rfl) rfl ?_
  refine HL.quiet (y_extract rfl rfl) rfl ?_
  refine HL.quiet (y_assign rfl) rfl ?_
  refine HL.quiet (y_assign rfl) rfl ?_
  refine HL.nil ?_
  refine HQ.next ?_
  refine HC.sub (E' := [(4, _), (5, _)]) ⟨rfl, rfl, trivial⟩ ?_
  refine HC.ret ?_
  refine HQ.doneP (Res.two Tryd.results12 rfl rfl) (List.Sublist.refl _) (hi1) ?_
  exact ⟨_, rfl, hV⟩

theorem filter_Meet (I : PHeap) (vf vg : Value) (lf lg : List Box) (hf : Val I vf lf) (hg : Val I vg lg) : Pure Tryd.prog 11 [vf, vg] I (fun r I' => ∃ v, r = .tuple #[v, .int .i64 (meetOf lf lg).1] ∧ Val I' v (meetOf lf lg).2) := by
  obtain ⟨fad, fcap, rfl, _⟩ := hf.slice
  obtain ⟨gad, gcap, rfl, _⟩ := hg.slice
  refine Pure.of_body Tryd.func11 rfl Tryd.ntmps11 rfl (fun W Lf => ?_)
  refine HC.seq ?_
  refine HC.region ?_
  refine HL.quiet (y_assign rfl) rfl ?_
  refine HL.quiet (y_assign rfl) rfl ?_
  refine HL.nil ?_
  refine HQ.next ?_
  refine HC.sub (E' := [(0, _), (1, _)]) ⟨rfl, rfl, trivial⟩ ?_
  refine HC.seq ?_
  refine HC.region ?_
  refine HL.quiet (y_move rfl) rfl ?_
  refine HL.quiet (y_move rfl) rfl ?_
  refine HL.callP Tryd.call18 (.cons rfl (.cons rfl (.cons rfl (.nil)))) rfl (filter_both _ _ _ lf lg (hf.le (PLe.refl _)) (hg.le (PLe.refl _)) 21 (fun a b => a &&& b) Tryd.call21 (fun J a b => do_Meet J a b)) ?_
  rintro _ Ii1 hi1 ⟨bv, be, rfl, rfl, hV⟩
  obtain ⟨bad, bcap, rfl, _⟩ := hV.slice
  refine HL.quiet (y_extract rfl rfl) rfl ?_
  refine HL.quiet (y_extract rfl rfl) rfl ?_
  refine HL.quiet (y_assign rfl) rfl ?_
  refine HL.quiet (y_assign rfl) rfl ?_
  refine HL.nil ?_
  refine HQ.next ?_
  refine HC.sub (E' := [(4, _), (5, _)]) ⟨rfl, rfl, trivial⟩ ?_
  refine HC.ret ?_
  refine HQ.doneP (Res.two Tryd.results11 rfl rfl) (List.Sublist.refl _) (hi1) ?_
  exact ⟨_, rfl, hV⟩

theorem filter_Less (I : PHeap) (vf vg : Value) (lf lg : List Box) (hf : Val I vf lf) (hg : Val I vg lg) : Pure Tryd.prog 8 [vf, vg] I (fun r I' => ∃ v, r = .tuple #[v, .int .i64 (lessOf lf lg).1] ∧ Val I' v (lessOf lf lg).2) := by
  obtain ⟨fad, fcap, rfl, _⟩ := hf.slice
  obtain ⟨gad, gcap, rfl, _⟩ := hg.slice
  refine Pure.of_body Tryd.func8 rfl Tryd.ntmps8 rfl (fun W Lf => ?_)
  refine HC.seq ?_
  refine HC.region ?_
  refine HL.quiet (y_assign rfl) rfl ?_
  refine HL.quiet (y_assign rfl) rfl ?_
  refine HL.nil ?_
  refine HQ.next ?_
  refine HC.sub (E' := [(0, _), (1, _)]) ⟨rfl, rfl, trivial⟩ ?_
  refine HC.seq ?_
  refine HC.region ?_
  refine HL.quiet (y_move rfl) rfl ?_
  refine HL.quiet (y_move rfl) rfl ?_
  refine HL.callP Tryd.call18 (.cons rfl (.cons rfl (.cons rfl (.nil)))) rfl (filter_both _ _ _ lf lg (hf.le (PLe.refl _)) (hg.le (PLe.refl _)) 19 (fun a b => a &&& ~~~b) Tryd.call19 (fun J a b => do_Less J a b)) ?_
  rintro _ Ii1 hi1 ⟨bv, be, rfl, rfl, hV⟩
  obtain ⟨bad, bcap, rfl, _⟩ := hV.slice
  refine HL.quiet (y_extract rfl rfl) rfl ?_
  refine HL.quiet (y_extract rfl rfl) rfl ?_
  refine HL.quiet (y_assign rfl) rfl ?_
  refine HL.quiet (y_assign rfl) rfl ?_
  refine HL.nil ?_
  refine HQ.next ?_
  refine HC.sub (E' := [(4, _), (5, _)]) ⟨rfl, rfl, trivial⟩ ?_
  refine HC.ret ?_
  refine HQ.doneP (Res.two Tryd.results8 rfl rfl) (List.Sublist.refl _) (hi1) ?_
  exact ⟨_, rfl, hV⟩

theorem filter_Same (I : PHeap) (vf vg : Value) (lf lg : List Box) (hf : Val I vf lf) (hg : Val I vg lg) : Pure Tryd.prog 20 [vf, vg] I (fun r I' => r = .tuple #[.bool (sameOf lf lg), .int .i64 (bothOf (fun a b => a ^^^ b) lf lg).1]) := by
  obtain ⟨fad, fcap, rfl, _⟩ := hf.slice
  obtain ⟨gad, gcap, rfl, _⟩ := hg.slice
  refine Pure.of_body Tryd.func20 rfl Tryd.ntmps20 rfl (fun W Lf => ?_)
  refine HC.seq ?_
  refine HC.region ?_
  refine HL.quiet (y_assign rfl) rfl ?_
  refine HL.quiet (y_assign rfl) rfl ?_
  refine HL.nil ?_
  refine HQ.next ?_
  refine HC.sub (E' := [(0, _), (1, _)]) ⟨rfl, rfl, trivial⟩ ?_
  refine HC.seq ?_
  refine HC.region ?_
  refine HL.quiet (y_move rfl) rfl ?_
  refine HL.quiet (y_move rfl) rfl ?_
  refine HL.callP Tryd.call18 (.cons rfl (.cons rfl (.cons rfl (.nil)))) rfl (filter_both _ _ _ lf lg (hf.le (PLe.refl _)) (hg.le (PLe.refl _)) 32 (fun a b => a ^^^ b) Tryd.call32 (fun J a b => do_Same J a b)) ?_
  rintro _ Ii1 hi1 ⟨bv, be, rfl, rfl, hV⟩
  obtain ⟨bad, bcap, rfl, _⟩ := hV.slice
  refine HL.quiet (y_move rfl) rfl ?_
  refine HL.quiet (y_extract rfl rfl) rfl ?_
  refine HL.quiet (y_extract rfl rfl) rfl ?_
  refine HL.quiet (y_assign rfl) rfl ?_
  refine HL.quiet (y_assign rfl) rfl ?_
  refine HL.nil ?_
  refine HQ.next ?_
  refine HC.sub (E' := [(6, _), (7, _)]) ⟨rfl, rfl, trivial⟩ ?_
  refine HC.seq ?_
  refine HC.region ?_
  refine HL.quiet (y_move rfl) rfl ?_
  refine HL.quiet (y_eql rfl rfl) rfl ?_
  refine HL.quiet (y_move rfl) rfl ?_
  refine HL.split (t := 16) rfl (fun hg2 => ?_) (fun hg2 => ?_)
  · try simp only [Bool.and_eq_true, Bool.and_eq_false_iff, Bool.or_eq_true, Bool.or_eq_false_iff, decide_eq_true_eq, decide_eq_false_iff_not, Int.not_lt, Int.not_le, beq_iff_eq, bne_iff_ne, ne_eq, Decidable.not_not, beq_eq_false_iff_ne, bne_eq_false_iff_eq, Bool.not_eq_true', Bool.not_eq_false'] at hg2
    refine HL.quiet_guard (t := 16) rfl rfl (y_move rfl) rfl ?_
    refine HL.quiet_guard (t := 16) rfl rfl (y_len_slice Tryd.underlying27 rfl) rfl ?_
    refine HL.quiet_guard (t := 16) rfl rfl (y_eql rfl rfl) rfl ?_
    refine HL.quiet (y_pick_true rfl rfl) rfl ?_
    refine HL.quiet (y_move rfl) rfl ?_
    refine HL.quiet (y_assign rfl) rfl ?_
    refine HL.quiet (y_assign rfl) rfl ?_
    refine HL.nil ?_
    refine HQ.next ?_
    refine HC.sub (E' := [(4, _), (5, _)]) ⟨rfl, rfl, trivial⟩ ?_
    refine HC.ret ?_
    refine HQ.doneP (Res.two Tryd.results20 rfl rfl) (List.Sublist.refl _) (hi1) ?_
    rw [sameOf_yes hg2]; rfl
  · try simp only [Bool.and_eq_true, Bool.and_eq_false_iff, Bool.or_eq_true, Bool.or_eq_false_iff, decide_eq_true_eq, decide_eq_false_iff_not, Int.not_lt, Int.not_le, beq_iff_eq, bne_iff_ne, ne_eq, Decidable.not_not, beq_eq_false_iff_ne, bne_eq_false_iff_eq, Bool.not_eq_true', Bool.not_eq_false'] at hg2
    refine HL.pass (t := 16) rfl rfl rfl rfl ?_
    refine HL.pass (t := 16) rfl rfl rfl rfl ?_
    refine HL.pass (t := 16) rfl rfl rfl rfl ?_
    refine HL.quiet (y_pick_false rfl rfl) rfl ?_
    refine HL.quiet (y_move rfl) rfl ?_
    refine HL.quiet (y_assign rfl) rfl ?_
    refine HL.quiet (y_assign rfl) rfl ?_
    refine HL.nil ?_
    refine HQ.next ?_
    refine HC.sub (E' := [(4, _), (5, _)]) ⟨rfl, rfl, trivial⟩ ?_
    refine HC.ret ?_
    refine HQ.doneP (Res.two Tryd.results20 rfl rfl) (List.Sublist.refl _) (hi1) ?_
    rw [sameOf_no hg2]; rfl

theorem keep_same (I : PHeap) (vf vg : Value) (lf lg : List Box) (hf : Val I vf lf) (hg : Val I vg lg) : Pure Tryd.prog 10 [vf, vg] I (fun r _ => r = .bool (sameOf lf lg)) := by
  obtain ⟨fad, fcap, rfl, _⟩ := hf.slice
  obtain ⟨gad, gcap, rfl, _⟩ := hg.slice
  refine Pure.of_body Tryd.func10 rfl Tryd.ntmps10 rfl (fun W Lf => ?_)
  refine HC.seq ?_
  refine HC.region ?_
  refine HL.quiet (y_assign rfl) rfl ?_
  refine HL.nil ?_
  refine HQ.next ?_
  refine HC.sub (E' := [(0, _), (1, _)]) ⟨rfl, rfl, trivial⟩ ?_
  refine HC.seq ?_
  refine HC.region ?_
  refine HL.quiet (y_move rfl) rfl ?_
  refine HL.quiet (y_move rfl) rfl ?_
  refine HL.callP Tryd.call20 (.cons rfl (.cons rfl (.nil))) rfl (filter_Same _ _ _ lf lg (hf.le (PLe.refl _)) (hg.le (PLe.refl _))) ?_
  rintro _ Ii1 hi1 rfl
  refine HL.quiet (y_move rfl) rfl ?_
  refine HL.quiet (y_extract rfl rfl) rfl ?_
  refine HL.quiet (y_extract rfl rfl) rfl ?_
  refine HL.quiet (y_assign rfl) rfl ?_
  refine HL.quiet (y_assign rfl) rfl ?_
  refine HL.nil ?_
  refine HQ.next ?_
  refine HC.sub (E' := [(5, _), (6, _)]) ⟨rfl, rfl, trivial⟩ ?_
  refine HC.seq ?_
  refine HC.region ?_
  refine HL.quiet (y_move rfl) rfl ?_
  refine HL.quiet (y_eql rfl rfl) rfl ?_
  refine HL.quiet (y_move rfl) rfl ?_
  refine HL.split (t := 15) rfl (fun hg2 => ?_) (fun hg2 => ?_)
  · try simp only [Bool.and_eq_true, Bool.and_eq_false_iff, Bool.or_eq_true, Bool.or_eq_false_iff, decide_eq_true_eq, decide_eq_false_iff_not, Int.not_lt, Int.not_le, beq_iff_eq, bne_iff_ne, ne_eq, Decidable.not_not, beq_eq_false_iff_ne, bne_eq_false_iff_eq, Bool.not_eq_true', Bool.not_eq_false'] at hg2
    refine HL.quiet_guard (t := 15) rfl rfl (y_move rfl) rfl ?_
    refine HL.quiet (y_pick_true rfl rfl) rfl ?_
    refine HL.quiet (y_assign rfl) rfl ?_
    refine HL.nil ?_
    refine HQ.next ?_
    refine HC.sub (E' := [(4, _)]) ⟨rfl, trivial⟩ ?_
    refine HC.ret ?_
    refine HQ.doneP (Res.one Tryd.results10 rfl) (List.Sublist.refl _) (hi1) ?_
    first | rfl | (rw [sameOf_no (by assumption)])
  · try simp only [Bool.and_eq_true, Bool.and_eq_false_iff, Bool.or_eq_true, Bool.or_eq_false_iff, decide_eq_true_eq, decide_eq_false_iff_not, Int.not_lt, Int.not_le, beq_iff_eq, bne_iff_ne, ne_eq, Decidable.not_not, beq_eq_false_iff_ne, bne_eq_false_iff_eq, Bool.not_eq_true', Bool.not_eq_false'] at hg2
    refine HL.pass (t := 15) rfl rfl rfl rfl ?_
    refine HL.quiet (y_pick_false rfl rfl) rfl ?_
    refine HL.quiet (y_assign rfl) rfl ?_
    refine HL.nil ?_
    refine HQ.next ?_
    refine HC.sub (E' := [(4, _)]) ⟨rfl, trivial⟩ ?_
    refine HC.ret ?_
    refine HQ.doneP (Res.one Tryd.results10 rfl) (List.Sublist.refl _) (hi1) ?_
    first | rfl | (rw [sameOf_no (by assumption)])

theorem filter_Every (I : PHeap) : Spec Tryd.prog 9 [] [] I (fun r L' I' => ∃ b1 b2, r = .slice (some ⟨b1, 0, none⟩) 1 1 ∧ L' = [(b1, blk [.int .i64 0, .int .i64 0, .slice (some ⟨b2, 0, none⟩) 1 1] 52), (b2, blk [.int .i64 0, .int .i64 32] 54)] ∧ I = I') := by
  refine Spec.of_body Tryd.func9 rfl Tryd.ntmps9 rfl (fun W Lf => ?_)
  refine HC.seq ?_
  refine HC.region ?_
  refine HL.quiet (y_assign rfl) rfl ?_
  refine HL.nil ?_
  refine HQ.next ?_
  refine HC.sub (E' := []) trivial ?_
  refine HC.seq ?_
  refine HC.region ?_
  refine HL.quiet (y_build (vs := [(1, .int .i64 32)]) (v := .agg #[.int .i64 0, .int .i64 32]) (.cons rfl (.nil)) (fun w => by kernel_rfl)) rfl ?_
  refine HL.buildSlice (vs := [(0, .agg #[.int .i64 0, .int .i64 32])]) (cs := [.int .i64 0, .int .i64 32]) (.cons rfl (.nil)) Tryd.underlying50 Tryd.sizeOf54 Tryd.zeroValue54 rfl rfl (by kernel_rfl) rfl (fun b2 _ => ?_)
  refine HL.quiet (y_build (vs := [(1, .slice (some ⟨b2, 0, none⟩) 1 1)]) (v := .agg #[.int .i64 0, .int .i64 0, .slice (some ⟨b2, 0, none⟩) 1 1]) (.cons rfl (.nil)) (fun w => by kernel_rfl)) rfl ?_
  refine HL.buildSlice (vs := [(0, .agg #[.int .i64 0, .int .i64 0, .slice (some ⟨b2, 0, none⟩) 1 1])]) (cs := [.int .i64 0, .int .i64 0, .slice (some ⟨b2, 0, none⟩) 1 1]) (.cons rfl (.nil)) Tryd.underlying27 Tryd.sizeOf52 Tryd.zeroValue52 rfl rfl (by kernel_rfl) rfl (fun b1 _ => ?_)
  refine HL.quiet (y_assign rfl) rfl ?_
  refine HL.nil ?_
  refine HQ.next ?_
  refine HC.sub (E' := [(0, _)]) ⟨rfl, trivial⟩ ?_
  refine HC.ret ?_
  refine HQ.doneS (L' := (b1, blk [.int .i64 0, .int .i64 0, .slice (some ⟨b2, 0, none⟩) 1 1] 52) :: (b2, blk [.int .i64 0, .int .i64 32] 54) :: []) (Res.one Tryd.results9 rfl) (List.Sublist.cons_cons _ (List.Sublist.cons_cons _ (List.Sublist.refl _))) (PLe.refl _) ?_
  exact ⟨b1, b2, rfl, rfl, rfl⟩

theorem filter_Copied (I : PHeap) (v : Value) (l : List Box) (h : Val I v l) (hll : l.length ≤ 1000) (hlen : ∀ b ∈ l, b.spans.length ≤ 1000) : Pure Tryd.prog 17 [v] I (fun r I' => Val I' r l) := by
  obtain ⟨ad, cap, rfl, hcap, hE⟩ := h.slice
  refine Pure.of_body Tryd.func17 rfl Tryd.ntmps17 rfl (fun W Lf => ?_)
  refine HC.seq ?_
  refine HC.region ?_
  refine HL.quiet (y_assign rfl) rfl ?_
  refine HL.nil ?_
  refine HQ.next ?_
  refine HC.sub (E' := [(0, _)]) ⟨rfl, trivial⟩ ?_
  refine HC.seq ?_
  refine HC.region ?_
  refine HL.quiet (y_assign rfl) rfl ?_
  refine HL.nil ?_
  refine HQ.next ?_
  refine HC.seq ?_
  refine HC.seq ?_
  refine HC.region ?_
  refine HL.quiet (y_move rfl) rfl ?_
  refine HL.quiet (y_len_slice Tryd.underlying27 rfl) rfl ?_
  refine HL.quiet (y_move rfl) rfl ?_
  refine HL.nil ?_
  refine HQ.next ?_
  refine HC.sub (E' := [(3, _), (6, _), (7, _), (8, _)]) ⟨rfl, rfl, rfl, rfl, trivial⟩ ?_
  refine HC.block ?_
  refine HC.sub (E' := (fun (k : Nat) (u : Value) (Lx : Own) (J : PHeap) => [(3, u), (6, .slice ad l.length cap), (7, .int .i64 (l.length : Int)), (8, .int .i64 (k : Int))]) 0 (.slice none 0 0) ([]) I) ⟨rfl, rfl, rfl, rfl, trivial⟩ ?_
  refine HC.loop4 (fun (k : Nat) (u : Value) (Lx : Own) (J : PHeap) => l.length - k) (fun (k : Nat) (u : Value) (Lx : Own) (J : PHeap) => k ≤ l.length ∧ PLe I J ∧ ∃ ys, OwnS 52 3 u (l.take k).length ys Lx ∧ Flat J (l.take k) ys) (fun (k : Nat) (u : Value) (Lx : Own) (J : PHeap) => [(3, u), (6, .slice ad l.length cap), (7, .int .i64 (l.length : Int)), (8, .int .i64 (k : Int))]) (fun (k : Nat) (u : Value) (Lx : Own) (J : PHeap) => (Lx ++ Lf)) (fun (k : Nat) (u : Value) (Lx : Own) (J : PHeap) => J) 0 (.slice none 0 0) ([]) I (⟨by omega, PLe.refl _, [], OwnS.nil _ _, .nil⟩) (fun k u Lx J hC => ?_)
  obtain ⟨hk, hJ, ys, ho, hF⟩ := hC
  obtain ⟨uad, ucap, rfl, _⟩ := ho.shape
  refine HC.seq ?_
  refine HC.region ?_
  refine HL.quiet (y_lss rfl rfl) rfl ?_
  refine HL.nil ?_
  refine HQ.next ?_
  refine HC.seq ?_
  refine HC.cond rfl (fun hc0 => ?_) (fun hc0 => ?_)
  · try simp only [Bool.and_eq_true, Bool.and_eq_false_iff, Bool.or_eq_true, Bool.or_eq_false_iff, decide_eq_true_eq, decide_eq_false_iff_not, Int.not_lt, Int.not_le, beq_iff_eq, bne_iff_ne, ne_eq, Decidable.not_not, beq_eq_false_iff_ne, bne_eq_false_iff_eq, Bool.not_eq_true', Bool.not_eq_false'] at hc0
    refine HC.skip ?_
    refine HQ.next ?_
    refine HC.sub (E' := [(3, _), (6, _), (7, _), (8, _)]) ⟨rfl, rfl, rfl, rfl, trivial⟩ ?_
    refine HC.seq ?_
    refine HC.block ?_
    refine HC.seq ?_
    refine HC.region ?_
    have hE2 := hE.le hJ
    obtain ⟨b, off, rfl, hel⟩ := hE2.at_ (show k < l.length by omega)
    obtain ⟨x, hx⟩ : ∃ x, l[k]? = some x := ⟨l[k]'(by omega), List.getElem?_eq_getElem _⟩
    obtain ⟨xa, xc, hxe, hxs, hc⟩ := (hel k x hx).box
    refine HL.quiet (y_indexAddr (j := k) Tryd.underlying27 Tryd.sizeOf52 rfl rfl (by first | rfl | omega) (by omega)) rfl ?_
    refine HL.quiet (y_loadI_agg (cs := [.int .i64 x.cube.yes, .int .i64 x.cube.no, .slice xa x.spans.length xc]) Tryd.isAgg52 Tryd.sizeOf52 rfl rfl hc) rfl ?_
    refine HL.alloc_agg Tryd.zeroValue52 rfl (fun b1 _ => ?_)
    refine HL.store_all_0 Tryd.sizeOf52 rfl rfl rfl rfl rfl ?_
    refine HL.nil ?_
    refine HQ.next ?_
    refine HC.sub (E' := [(3, _), (6, _), (7, _), (8, _), (5, _)]) ⟨rfl, rfl, rfl, rfl, rfl, trivial⟩ ?_
    refine HC.seq ?_
    refine HC.region ?_
    refine HL.quiet (y_fieldAddr (o := 2) (t := 50) Tryd.underlying52 rfl Tryd.sizeOf50 (by decide) rfl) rfl ?_
    refine HL.quiet (y_loadL (k := 0) Tryd.isAgg50 rfl rfl rfl) rfl ?_
    refine HL.callP Tryd.call28 (.cons rfl (.nil)) rfl (clone_span _ _ x.spans (hxs.le (PLe.refl _)) (by have := hlen x (List.mem_of_getElem? hx); omega)) ?_
    rintro sv Ii2 hi2 hsv
    obtain ⟨sad, scap, rfl, _⟩ := hsv.slice
    refine HL.quiet (y_fieldAddr (o := 2) (t := 50) Tryd.underlying52 rfl Tryd.sizeOf50 (by decide) rfl) rfl ?_
    refine HL.store1_0 (c' := [.int .i64 x.cube.yes, .int .i64 x.cube.no, .slice sad x.spans.length scap]) Tryd.sizeOf50 rfl rfl rfl rfl rfl ?_
    refine HL.nil ?_
    refine HQ.next ?_
    refine HC.sub (E' := [(3, _), (6, _), (7, _), (8, _), (5, _)]) ⟨rfl, rfl, rfl, rfl, rfl, trivial⟩ ?_
    refine HC.region ?_
    refine HL.quiet (y_move rfl) rfl ?_
    refine HL.quiet (y_loadL_agg (k := 0) (cs := [.int .i64 x.cube.yes, .int .i64 x.cube.no, .slice sad x.spans.length scap]) Tryd.isAgg52 Tryd.sizeOf52 rfl rfl rfl rfl) rfl ?_
    refine HL.buildSlice (vs := [(0, .agg #[.int .i64 x.cube.yes, .int .i64 x.cube.no, .slice sad x.spans.length scap])]) (cs := [.int .i64 x.cube.yes, .int .i64 x.cube.no, .slice sad x.spans.length scap]) (.cons rfl (.nil)) Tryd.underlying27 Tryd.sizeOf52 Tryd.zeroValue52 rfl rfl (by kernel_rfl) rfl (fun b3 _ => ?_)
    refine HL.append (e := 52) (m := ((l.take k).length)) (xs := ys) (k := 1) (news := ([.int .i64 x.cube.yes, .int .i64 x.cube.no, .slice sad x.spans.length scap])) Tryd.underlying27 (z := .agg #[.int .i64 0, .int .i64 0, .slice none 0 0]) (bytes := 40) (by kernel_rfl) rfl rfl rfl rfl ho (rfl) permF_2 (Src.own (k := 0) rfl (fun _ _ h => h)) (by simp [Value.oneCell']) (by have := List.length_take_le k l; unfold maxLen; omega) (by have := List.length_take_le k l; omega) rfl ?_
    rintro v' Lx' ho'
    obtain ⟨ad', cap', rfl, _⟩ := ho'.shape
    refine HL.perm permF_2.symm ?_
    refine HL.quiet (y_assign rfl) rfl ?_
    refine HL.nil ?_
    refine HQ.inb_normal ?_
    refine HQ.next ?_
    refine HC.sub (E' := [(3, _), (6, _), (7, _), (8, _)]) ⟨rfl, rfl, rfl, rfl, trivial⟩ ?_
    refine HC.region ?_
    refine HL.quiet (y_add rfl rfl (by omega)) rfl ?_
    refine HL.quiet (y_move rfl) rfl ?_
    refine HL.nil ?_
    exact HQ.again (k + 1, _, Lx', Ii2) (show (fun (k : Nat) (u : Value) (Lx : Own) (J : PHeap) => k ≤ l.length ∧ PLe I J ∧ ∃ ys, OwnS 52 3 u (l.take k).length ys Lx ∧ Flat J (l.take k) ys) (k + 1) (_) Lx' Ii2 from ⟨by omega, (hJ).trans hi2, _, by rw [take_snoc hx, List.length_append]; exact ho', by rw [take_snoc hx]; exact (hF.le (hi2)).snoc ⟨_, rfl, hsv⟩⟩) (show l.length - (k + 1) < l.length - k from by omega) ⟨rfl, rfl, rfl, rfl, trivial⟩ (List.Sublist.cons _ (List.Sublist.cons _ (List.Sublist.refl _))) (PLe.refl _)
  · try simp only [Bool.and_eq_true, Bool.and_eq_false_iff, Bool.or_eq_true, Bool.or_eq_false_iff, decide_eq_true_eq, decide_eq_false_iff_not, Int.not_lt, Int.not_le, beq_iff_eq, bne_iff_ne, ne_eq, Decidable.not_not, beq_eq_false_iff_ne, bne_eq_false_iff_eq, Bool.not_eq_true', Bool.not_eq_false'] at hc0
    refine HC.exit ?_
    refine HQ.then_exit ?_
    refine HQ.then_exit ?_
    refine HQ.inb_exit ?_
    refine HQ.next ?_
    refine HC.sub (E' := [(3, _)]) ⟨rfl, trivial⟩ ?_
    refine HC.seq ?_
    refine HC.region ?_
    have hkl : k = l.length := by omega
    subst hkl
    refine HL.freezeV ho hF permF_0 (fun I9 hI9 hV => ?_)
    refine HL.quiet (y_move rfl) rfl ?_
    refine HL.quiet (y_assign rfl) rfl ?_
    refine HL.nil ?_
    refine HQ.next ?_
    refine HC.sub (E' := [(2, _)]) ⟨rfl, trivial⟩ ?_
    refine HC.ret ?_
    refine HQ.doneP (Res.one Tryd.results17 rfl) (List.Sublist.refl _) ((hJ).trans hI9) ?_
    rw [List.take_length] at hV ⊢; exact hV

end Go.Rm
