/- What this text holds: the contract of text.reader.one, printed by a program of mine (wip/tools/walk.py) from plans of mine. -/
import Derived.Test.YtpcgfadcojaceaaDoorRmTextB
set_option linter.unusedVariables false
set_option linter.unusedSimpArgs false
set_option linter.unusedSectionVars false
namespace Go.Rm
open Go Go.Proofs
set_option maxRecDepth 100000

theorem text_one (s : ByteArray) (hs : s.size ≤ 400) : ∀ (k : Nat) (I : PHeap) (hG : Globs I) (p : Nat) (rest : List UInt8) (hp : Pos s p rest) (hk : rest.length < k) (r : Nat) (v : Value) (ns : List Node) (Lx : Own) (ho : OwnS 37 3 v ns.length (flat ns) Lx) (hns : ns.length ≤ p), SpecX Tryd.prog 15 [.pointer (some ⟨r, 0, none⟩)] ((r, rdr s p v) :: Lx) I
    (fun e L' I' => (∃ ms rest' q v' Lx', one k ns.length rest = some (ms, rest') ∧ e = .returned (.int .i64 (((ns.length + ms.length : Nat) : Int) - 1)) ∧ Pos s q rest' ∧ p + ms.length ≤ q ∧ 0 < ms.length ∧ OwnS 37 3 v' (ns ++ ms).length (flat (ns ++ ms)) Lx' ∧ L' = (r, rdr s q v') :: Lx') ∨
      (one k ns.length rest = none ∧ e = .panicked (faultOf 9) ∧ ∃ q v' Lx', L' = (r, rdr s q v') :: Lx')) := by
  intro k
  induction k with
  | zero => intro I hG p rest hp hk; omega
  | succ k ih =>
  intro I hG p rest hp hk r v ns Lx ho hns
  obtain ⟨ad, cap, rfl, _⟩ := ho.shape
  refine SpecX.of_body Tryd.func15 rfl Tryd.ntmps15 rfl (fun W Lf => ?_)
  refine HC.seq ?_
  refine HC.region ?_
  refine HL.quiet (y_assign rfl) rfl ?_
  refine HL.nil ?_
  refine HQ.next ?_
  refine HC.sub (E' := [(0, _)]) ⟨rfl, trivial⟩ ?_
  refine HC.seq ?_
  refine HC.block ?_
  refine HC.seq ?_
  refine HC.region ?_
  refine HL.quiet (y_move rfl) rfl ?_
  refine HL.call (Lp := [(r, rdr s _ _)]) Tryd.call24 (.cons rfl (.cons rfl (.nil))) (List.Perm.refl _) rfl (text_take _ s hs _ _ hp r _ 42) ?_
  rintro _ _ _ _ ⟨rfl, rfl, rfl⟩
  cases hT1 : takes rest 42
  · skip
    refine HL.quiet (y_assign rfl) rfl ?_
    refine HL.nil ?_
    refine HQ.next ?_
    refine HC.sub (E' := [(0, _), (6, _)]) ⟨rfl, rfl, trivial⟩ ?_
    refine HC.cond_false rfl ?_
    refine HC.seq ?_
    refine HC.region ?_
    refine HL.quiet (y_move rfl) rfl ?_
    refine HL.call (Lp := [(r, rdr s _ _)]) Tryd.call24 (.cons rfl (.cons rfl (.nil))) (List.Perm.refl _) rfl (text_take _ s hs _ _ hp r _ 35) ?_
    rintro _ _ _ _ ⟨rfl, rfl, rfl⟩
    cases hT6 : takes rest 35
    · skip
      refine HL.quiet (y_assign rfl) rfl ?_
      refine HL.nil ?_
      refine HQ.next ?_
      refine HC.sub (E' := [(0, _), (12, _)]) ⟨rfl, rfl, trivial⟩ ?_
      refine HC.cond_false rfl ?_
      refine HC.seq ?_
      refine HC.region ?_
      refine HL.quiet (y_move rfl) rfl ?_
      refine HL.call (Lp := [(r, rdr s _ _)]) Tryd.call24 (.cons rfl (.cons rfl (.nil))) (List.Perm.refl _) rfl (text_take _ s hs _ _ hp r _ 91) ?_
      rintro _ _ _ _ ⟨rfl, rfl, rfl⟩
      cases hT11 : takes rest 91
      · skip
        refine HL.quiet (y_assign rfl) rfl ?_
        refine HL.nil ?_
        refine HQ.next ?_
        refine HC.sub (E' := [(0, _), (20, _)]) ⟨rfl, rfl, trivial⟩ ?_
        refine HC.cond_false rfl ?_
        refine HC.seq ?_
        refine HC.region ?_
        refine HL.quiet (y_move rfl) rfl ?_
        refine HL.call (Lp := [(r, rdr s _ _)]) Tryd.call24 (.cons rfl (.cons rfl (.nil))) (List.Perm.refl _) rfl (text_take _ s hs _ _ hp r _ 33) ?_
        rintro _ _ _ _ ⟨rfl, rfl, rfl⟩
        cases hT16 : takes rest 33
        · skip
          refine HL.quiet (y_assign rfl) rfl ?_
          refine HL.nil ?_
          refine HQ.next ?_
          refine HC.sub (E' := [(0, _), (36, _)]) ⟨rfl, rfl, trivial⟩ ?_
          refine HC.cond_false rfl ?_
          refine HC.skip ?_
          refine HQ.inb_normal ?_
          refine HQ.next ?_
          refine HC.sub (E' := [(0, _)]) ⟨rfl, trivial⟩ ?_
          refine HC.seq ?_
          refine HC.region ?_
          refine HL.quiet (y_move rfl) rfl ?_
          refine HL.callX0 (Lp := [(r, rdr s _ _)]) Tryd.call27 (.cons rfl (.cons rfl (.nil))) (List.Perm.refl _) rfl (text_must _ s hs _ _ hp r _ 40) ?_ ?_ ?_
          rotate_left
          · rintro _ _ _ hi (⟨h, _⟩ | ⟨h, hT, ⟨_, rfl⟩, rfl⟩); cases h; cases h
            refine HQ.then_panic ?_
            refine HQ.doneX_panic (L' := (r, rdr s _ _) :: Lx) (List.Sublist.refl _) (PLe.refl I) ?_
            exact .inr ⟨one_bad hT1 hT6 hT11 hT16 hT, rfl, _, _, _, rfl⟩
          · rintro _ _ _ (⟨h, _⟩ | ⟨h, _⟩) <;> cases h
          rintro _ _ _ hi (⟨_, hT, rfl, rfl⟩ | ⟨h, _⟩); rotate_left; cases h
          obtain ⟨x21, r22, rfl, hx23⟩ := takes_true hT
          obtain ⟨_, _, hp24⟩ := hp.cons
          refine HL.nil ?_
          refine HQ.next ?_
          refine HC.sub (E' := [(0, _)]) ⟨rfl, trivial⟩ ?_
          refine HC.seq ?_
          refine HC.region ?_
          refine HL.quiet (y_move rfl) rfl ?_
          have hlen_ms25 := hp24.len
          refine HL.callX0 (Lp := (r, rdr s _ _) :: Lx) Tryd.call15 (.cons rfl (.nil)) (List.Perm.refl _) rfl (ih _ (hG.le (PLe.refl I)) _ _ hp24 (by first | omega | (simp only [List.length_cons] at *; omega)) r _ (ns) _ ho (by first | omega | (simp only [List.length_append] at *; omega))) ?_ ?_ ?_
          rotate_left
          · rintro _ _ _ hi (⟨_, _, _, _, _, _, h, _⟩ | ⟨hN, h, _, _, _, rfl⟩); cases h; cases h
            refine HQ.then_panic ?_
            refine HQ.doneX_panic (L' := (r, rdr s _ _) :: _) (List.Sublist.refl _) ((PLe.refl I).trans hi) ?_
            exact .inr ⟨two_first hx23 hN, rfl, _, _, _, rfl⟩
          · rintro _ _ _ (⟨_, _, _, _, _, _, h, _⟩ | ⟨_, h, _⟩) <;> cases h
          rintro _ _ _ hi (⟨ms25, r26, q27, _, L33, h128, h, hp29, hlen30, hpos31, ho34, rfl⟩ | ⟨_, h, _⟩); rotate_left; cases h
          cases h
          obtain ⟨ad_ms25, cap_ms25, rfl, _⟩ := ho34.shape
          have hJ35 := (PLe.refl I).trans hi
          refine HL.quiet (y_build (vs := [(0, .int .i64 5), (1, .int .i64 (((ns.length + ms25.length : Nat) : Int) - 1))]) (v := .agg #[.int .i64 5, .int .i64 (((ns.length + ms25.length : Nat) : Int) - 1), .int .i64 0]) (.cons rfl (.cons rfl (.nil))) (fun w => by kernel_rfl)) rfl ?_
          refine HL.alloc_agg Tryd.zeroValue37 rfl (fun b36 _ => ?_)
          refine HL.store_all_0 Tryd.sizeOf37 rfl rfl rfl rfl rfl ?_
          refine HL.nil ?_
          refine HQ.next ?_
          refine HC.sub (E' := [(0, _), (5, _)]) ⟨rfl, rfl, trivial⟩ ?_
          refine HC.seq ?_
          refine HC.seq ?_
          refine HC.region ?_
          refine HL.quiet (y_move rfl) rfl ?_
          refine HL.call (Lp := [(r, rdr s _ _)]) Tryd.call24 (.cons rfl (.cons rfl (.nil))) (List.Perm.swap _ _ _) rfl (text_take _ s hs _ _ hp29 r _ 124) ?_
          rintro _ _ _ _ ⟨rfl, rfl, rfl⟩
          cases hT37 : takes r26 124
          · skip
            refine HL.nil ?_
            refine HQ.next ?_
            refine HC.sub (E' := [(0, _), (5, _), (50, _)]) ⟨rfl, rfl, rfl, trivial⟩ ?_
            refine HC.cond_false rfl ?_
            refine HC.region ?_
            refine HL.quiet (y_move rfl) rfl ?_
            refine HL.callX0 (Lp := [(r, rdr s _ _)]) Tryd.call27 (.cons rfl (.cons rfl (.nil))) (List.Perm.refl _) rfl (text_must _ s hs _ _ hp29 r _ 38) ?_ ?_ ?_
            rotate_left
            · rintro _ _ _ hi (⟨h, _⟩ | ⟨h, hT, ⟨_, rfl⟩, rfl⟩); cases h; cases h
              refine HQ.then_panic ?_
              refine HQ.doneX_panic (L' := (r, rdr s _ _) :: L33) (List.Sublist.cons_cons _ (List.Sublist.cons _ (List.Sublist.refl _))) (hJ35) ?_
              exact .inr ⟨two_sign hx23 h128 hT37 hT, rfl, _, _, _, rfl⟩
            · rintro _ _ _ (⟨h, _⟩ | ⟨h, _⟩) <;> cases h
            rintro _ _ _ hi (⟨_, hT, rfl, rfl⟩ | ⟨h, _⟩); rotate_left; cases h
            obtain ⟨x42, r43, rfl, hx44⟩ := takes_true hT
            obtain ⟨_, _, hp45⟩ := hp29.cons
            refine HL.nil ?_
            refine HQ.next ?_
            refine HC.sub (E' := [(0, _), (5, _)]) ⟨rfl, rfl, trivial⟩ ?_
            refine HC.seq ?_
            refine HC.region ?_
            refine HL.quiet (y_move rfl) rfl ?_
            have hlen_ms46 := hp45.len
            refine HL.callX0 (Lp := (r, rdr s _ _) :: L33) Tryd.call15 (.cons rfl (.nil)) (permA) rfl (ih _ (hG.le (hJ35)) _ _ hp45 (by first | omega | (simp only [List.length_cons] at *; omega)) r _ (ns ++ ms25) _ ho34 (by first | omega | (simp only [List.length_append] at *; omega))) ?_ ?_ ?_
            rotate_left
            · rintro _ _ _ hi (⟨_, _, _, _, _, _, h, _⟩ | ⟨hN, h, _, _, _, rfl⟩); cases h; cases h
              refine HQ.then_panic ?_
              refine HQ.doneX_panic (L' := (r, rdr s _ _) :: _) (List.Sublist.cons_cons _ ((List.Sublist.append_left (List.Sublist.cons _ (List.Sublist.refl _)) _))) ((hJ35).trans hi) ?_
              exact .inr ⟨two_second hx23 h128 (.inr hx44) (by have := hN; simpa using this), rfl, _, _, _, rfl⟩
            · rintro _ _ _ (⟨_, _, _, _, _, _, h, _⟩ | ⟨_, h, _⟩) <;> cases h
            rintro _ _ _ hi (⟨ms46, r47, q48, _, L54, h149, h, hp50, hlen51, hpos52, ho55, rfl⟩ | ⟨_, h, _⟩); rotate_left; cases h
            cases h
            obtain ⟨ad_ms46, cap_ms46, rfl, _⟩ := ho55.shape
            refine HL.perm permB.symm ?_
            have hJ56 := (hJ35).trans hi
            refine HL.quiet (y_fieldAddr (o := 2) (t := 3) Tryd.underlying37 rfl Tryd.sizeOf3 (by decide) rfl) rfl ?_
            refine HL.store1_0 (c' := [.int .i64 5, .int .i64 (((ns.length + ms25.length : Nat) : Int) - 1), .int .i64 ((((ns ++ ms25).length + ms46.length : Nat) : Int) - 1)]) Tryd.sizeOf3 rfl rfl rfl rfl rfl ?_
            refine HL.nil ?_
            refine HQ.next ?_
            refine HC.sub (E' := [(0, _), (5, _)]) ⟨rfl, rfl, trivial⟩ ?_
            refine HC.seq ?_
            refine HC.region ?_
            refine HL.quiet (y_move rfl) rfl ?_
            refine HL.callX0 (Lp := [(r, rdr s _ _)]) Tryd.call27 (.cons rfl (.cons rfl (.nil))) (List.Perm.swap _ _ _) rfl (text_must _ s hs _ _ hp50 r _ 41) ?_ ?_ ?_
            rotate_left
            · rintro _ _ _ hi (⟨h, _⟩ | ⟨h, hT, ⟨_, rfl⟩, rfl⟩); cases h; cases h
              refine HQ.then_panic ?_
              refine HQ.doneX_panic (L' := (r, rdr s _ _) :: L54) (List.Sublist.cons_cons _ (List.Sublist.cons _ (List.Sublist.refl _))) (hJ56) ?_
              exact .inr ⟨two_close hx23 h128 (.inr hx44) (by have := h149; simpa using this) hT, rfl, _, _, _, rfl⟩
            · rintro _ _ _ (⟨h, _⟩ | ⟨h, _⟩) <;> cases h
            rintro _ _ _ hi (⟨_, hT, rfl, rfl⟩ | ⟨h, _⟩); rotate_left; cases h
            obtain ⟨x57, r58, rfl, hx59⟩ := takes_true hT
            obtain ⟨_, _, hp60⟩ := hp50.cons
            refine HL.nil ?_
            refine HQ.next ?_
            refine HC.sub (E' := [(0, _), (5, _)]) ⟨rfl, rfl, trivial⟩ ?_
            refine HC.seq ?_
            refine HC.region ?_
            refine HL.quiet (y_move rfl) rfl ?_
            refine HL.quiet (y_loadL_agg (k := 1) (cs := [.int .i64 5, .int .i64 (((ns.length + ms25.length : Nat) : Int) - 1), .int .i64 ((((ns ++ ms25).length + ms46.length : Nat) : Int) - 1)]) Tryd.isAgg37 Tryd.sizeOf37 rfl rfl rfl rfl) rfl ?_
            have hlen_a := hp60.len
            refine HL.call (Lp := (r, rdr s _ _) :: L54) Tryd.call25 (.cons rfl (.cons rfl (.nil))) (permA) rfl (text_add _ s _ r _ (ns ++ ms25 ++ ms46) (by have := hp.le; first | omega | (simp only [List.length_append] at *; omega)) _ ho55 (⟨5, ((ns.length + ms25.length : Nat) : Int) - 1, (((ns ++ ms25).length + ms46.length : Nat) : Int) - 1⟩ : Node)) ?_
            rintro _ _ _ hi ⟨rfl, rfl, v9, L9, ho9, rfl⟩
            refine HL.quiet (y_assign rfl) rfl ?_
            refine HL.nil ?_
            refine HQ.next ?_
            refine HC.sub (E' := [(2, _)]) ⟨rfl, trivial⟩ ?_
            refine HC.ret ?_
            refine HQ.doneX (L' := (r, rdr s _ v9) :: L9) (Res.one Tryd.results15 rfl) (List.Sublist.cons_cons _ (List.Sublist.append_left (List.Sublist.cons _ (List.Sublist.refl _)) _)) (hJ56) ?_
            refine .inl ⟨_, _, _, _, _, two_ok hx23 h128 (.inr hx44) (by have := h149; simpa using this) hx59, ?_, hp60, ?_, ?_, ?_, rfl⟩
            · first | (simp only [List.length_append, List.length_cons, List.length_nil]; omega) | (congr 2; simp only [List.length_append, List.length_cons, List.length_nil]; omega)
            · simp only [List.length_append, List.length_cons, List.length_nil] at *; omega
            · simp only [List.length_append, List.length_cons, List.length_nil]; omega
            · first | exact ho9 | (have hif := hx44; simpa only [List.append_assoc, List.length_append, List.length_cons, List.length_nil, Nat.add_assoc, Nat.zero_add, hif, ite_true, ite_false, show ((38 : Nat) = 124) = False by decide, reduceIte] using ho9) | simpa only [List.append_assoc, List.length_append, List.length_cons, List.length_nil, Nat.add_assoc, Nat.zero_add] using ho9
          · skip
            obtain ⟨x38, r39, rfl, hx40⟩ := takes_true hT37
            obtain ⟨_, _, hp41⟩ := hp29.cons
            refine HL.nil ?_
            refine HQ.next ?_
            refine HC.sub (E' := [(0, _), (5, _), (50, _)]) ⟨rfl, rfl, rfl, trivial⟩ ?_
            refine HC.cond_true rfl ?_
            refine HC.region ?_
            refine HL.quiet (y_fieldAddr (o := 0) (t := 3) Tryd.underlying37 rfl Tryd.sizeOf3 (by decide) rfl) rfl ?_
            refine HL.store1_1 (c' := [.int .i64 6, .int .i64 (((ns.length + ms25.length : Nat) : Int) - 1), .int .i64 0]) Tryd.sizeOf3 rfl rfl rfl rfl rfl ?_
            refine HL.nil ?_
            refine HQ.next ?_
            refine HC.sub (E' := [(0, _), (5, _)]) ⟨rfl, rfl, trivial⟩ ?_
            refine HC.seq ?_
            refine HC.region ?_
            refine HL.quiet (y_move rfl) rfl ?_
            have hlen_ms61 := hp41.len
            refine HL.callX0 (Lp := (r, rdr s _ _) :: L33) Tryd.call15 (.cons rfl (.nil)) (permA) rfl (ih _ (hG.le (hJ35)) _ _ hp41 (by first | omega | (simp only [List.length_cons] at *; omega)) r _ (ns ++ ms25) _ ho34 (by first | omega | (simp only [List.length_append] at *; omega))) ?_ ?_ ?_
            rotate_left
            · rintro _ _ _ hi (⟨_, _, _, _, _, _, h, _⟩ | ⟨hN, h, _, _, _, rfl⟩); cases h; cases h
              refine HQ.then_panic ?_
              refine HQ.doneX_panic (L' := (r, rdr s _ _) :: _) (List.Sublist.cons_cons _ ((List.Sublist.append_left (List.Sublist.cons _ (List.Sublist.refl _)) _))) ((hJ35).trans hi) ?_
              exact .inr ⟨two_second hx23 h128 (.inl hx40) (by have := hN; simpa using this), rfl, _, _, _, rfl⟩
            · rintro _ _ _ (⟨_, _, _, _, _, _, h, _⟩ | ⟨_, h, _⟩) <;> cases h
            rintro _ _ _ hi (⟨ms61, r62, q63, _, L69, h164, h, hp65, hlen66, hpos67, ho70, rfl⟩ | ⟨_, h, _⟩); rotate_left; cases h
            cases h
            obtain ⟨ad_ms61, cap_ms61, rfl, _⟩ := ho70.shape
            refine HL.perm permB.symm ?_
            have hJ71 := (hJ35).trans hi
            refine HL.quiet (y_fieldAddr (o := 2) (t := 3) Tryd.underlying37 rfl Tryd.sizeOf3 (by decide) rfl) rfl ?_
            refine HL.store1_0 (c' := [.int .i64 6, .int .i64 (((ns.length + ms25.length : Nat) : Int) - 1), .int .i64 ((((ns ++ ms25).length + ms61.length : Nat) : Int) - 1)]) Tryd.sizeOf3 rfl rfl rfl rfl rfl ?_
            refine HL.nil ?_
            refine HQ.next ?_
            refine HC.sub (E' := [(0, _), (5, _)]) ⟨rfl, rfl, trivial⟩ ?_
            refine HC.seq ?_
            refine HC.region ?_
            refine HL.quiet (y_move rfl) rfl ?_
            refine HL.callX0 (Lp := [(r, rdr s _ _)]) Tryd.call27 (.cons rfl (.cons rfl (.nil))) (List.Perm.swap _ _ _) rfl (text_must _ s hs _ _ hp65 r _ 41) ?_ ?_ ?_
            rotate_left
            · rintro _ _ _ hi (⟨h, _⟩ | ⟨h, hT, ⟨_, rfl⟩, rfl⟩); cases h; cases h
              refine HQ.then_panic ?_
              refine HQ.doneX_panic (L' := (r, rdr s _ _) :: L69) (List.Sublist.cons_cons _ (List.Sublist.cons _ (List.Sublist.refl _))) (hJ71) ?_
              exact .inr ⟨two_close hx23 h128 (.inl hx40) (by have := h164; simpa using this) hT, rfl, _, _, _, rfl⟩
            · rintro _ _ _ (⟨h, _⟩ | ⟨h, _⟩) <;> cases h
            rintro _ _ _ hi (⟨_, hT, rfl, rfl⟩ | ⟨h, _⟩); rotate_left; cases h
            obtain ⟨x72, r73, rfl, hx74⟩ := takes_true hT
            obtain ⟨_, _, hp75⟩ := hp65.cons
            refine HL.nil ?_
            refine HQ.next ?_
            refine HC.sub (E' := [(0, _), (5, _)]) ⟨rfl, rfl, trivial⟩ ?_
            refine HC.seq ?_
            refine HC.region ?_
            refine HL.quiet (y_move rfl) rfl ?_
            refine HL.quiet (y_loadL_agg (k := 1) (cs := [.int .i64 6, .int .i64 (((ns.length + ms25.length : Nat) : Int) - 1), .int .i64 ((((ns ++ ms25).length + ms61.length : Nat) : Int) - 1)]) Tryd.isAgg37 Tryd.sizeOf37 rfl rfl rfl rfl) rfl ?_
            have hlen_a := hp75.len
            refine HL.call (Lp := (r, rdr s _ _) :: L69) Tryd.call25 (.cons rfl (.cons rfl (.nil))) (permA) rfl (text_add _ s _ r _ (ns ++ ms25 ++ ms61) (by have := hp.le; first | omega | (simp only [List.length_append] at *; omega)) _ ho70 (⟨6, ((ns.length + ms25.length : Nat) : Int) - 1, (((ns ++ ms25).length + ms61.length : Nat) : Int) - 1⟩ : Node)) ?_
            rintro _ _ _ hi ⟨rfl, rfl, v9, L9, ho9, rfl⟩
            refine HL.quiet (y_assign rfl) rfl ?_
            refine HL.nil ?_
            refine HQ.next ?_
            refine HC.sub (E' := [(2, _)]) ⟨rfl, trivial⟩ ?_
            refine HC.ret ?_
            refine HQ.doneX (L' := (r, rdr s _ v9) :: L9) (Res.one Tryd.results15 rfl) (List.Sublist.cons_cons _ (List.Sublist.append_left (List.Sublist.cons _ (List.Sublist.refl _)) _)) (hJ71) ?_
            refine .inl ⟨_, _, _, _, _, two_ok hx23 h128 (.inl hx40) (by have := h164; simpa using this) hx74, ?_, hp75, ?_, ?_, ?_, rfl⟩
            · first | (simp only [List.length_append, List.length_cons, List.length_nil]; omega) | (congr 2; simp only [List.length_append, List.length_cons, List.length_nil]; omega)
            · simp only [List.length_append, List.length_cons, List.length_nil] at *; omega
            · simp only [List.length_append, List.length_cons, List.length_nil]; omega
            · first | exact ho9 | (have hif := hx40; simpa only [List.append_assoc, List.length_append, List.length_cons, List.length_nil, Nat.add_assoc, Nat.zero_add, hif, ite_true, ite_false, show ((38 : Nat) = 124) = False by decide, reduceIte] using ho9) | simpa only [List.append_assoc, List.length_append, List.length_cons, List.length_nil, Nat.add_assoc, Nat.zero_add] using ho9
        · skip
          obtain ⟨x17, r18, rfl, hx19⟩ := takes_true hT16
          obtain ⟨_, _, hp20⟩ := hp.cons
          refine HL.quiet (y_assign rfl) rfl ?_
          refine HL.nil ?_
          refine HQ.next ?_
          refine HC.sub (E' := [(0, _), (36, _)]) ⟨rfl, rfl, trivial⟩ ?_
          refine HC.cond_true rfl ?_
          refine HC.seq ?_
          refine HC.region ?_
          refine HL.quiet (y_move rfl) rfl ?_
          refine HL.quiet (y_move rfl) rfl ?_
          have hlen_ms76 := hp20.len
          refine HL.callX0 (Lp := (r, rdr s _ _) :: Lx) Tryd.call15 (.cons rfl (.nil)) (List.Perm.refl _) rfl (ih _ (hG.le (PLe.refl I)) _ _ hp20 (by first | omega | (simp only [List.length_cons] at *; omega)) r _ (ns) _ ho (by first | omega | (simp only [List.length_append] at *; omega))) ?_ ?_ ?_
          rotate_left
          · rintro _ _ _ hi (⟨_, _, _, _, _, _, h, _⟩ | ⟨hN, h, _, _, _, rfl⟩); cases h; cases h
            refine HQ.then_panic ?_
            refine HQ.inb_panic ?_
            refine HQ.then_panic ?_
            refine HQ.doneX_panic (L' := (r, rdr s _ _) :: _) (List.Sublist.refl _) ((PLe.refl I).trans hi) ?_
            exact .inr ⟨by rw [one_not hx19, hN], rfl, _, _, _, rfl⟩
          · rintro _ _ _ (⟨_, _, _, _, _, _, h, _⟩ | ⟨_, h, _⟩) <;> cases h
          rintro _ _ _ hi (⟨ms76, r77, q78, _, L84, h179, h, hp80, hlen81, hpos82, ho85, rfl⟩ | ⟨_, h, _⟩); rotate_left; cases h
          cases h
          obtain ⟨ad_ms76, cap_ms76, rfl, _⟩ := ho85.shape
          have hJ86 := (PLe.refl I).trans hi
          refine HL.quiet (y_build (vs := [(0, .int .i64 4), (1, .int .i64 (((ns.length + ms76.length : Nat) : Int) - 1))]) (v := .agg #[.int .i64 4, .int .i64 (((ns.length + ms76.length : Nat) : Int) - 1), .int .i64 0]) (.cons rfl (.cons rfl (.nil))) (fun w => by kernel_rfl)) rfl ?_
          have hlen_a := hp80.len
          refine HL.call (Lp := (r, rdr s _ _) :: L84) Tryd.call25 (.cons rfl (.cons rfl (.nil))) (List.Perm.refl _) rfl (text_add _ s _ r _ (ns ++ ms76) (by have := hp.le; first | omega | (simp only [List.length_append] at *; omega)) _ ho85 (⟨4, ((ns.length + ms76.length : Nat) : Int) - 1, 0⟩ : Node)) ?_
          rintro _ _ _ hi ⟨rfl, rfl, v9, L9, ho9, rfl⟩
          refine HL.quiet (y_assign rfl) rfl ?_
          refine HL.nil ?_
          refine HQ.next ?_
          refine HC.sub (E' := [(2, _)]) ⟨rfl, trivial⟩ ?_
          refine HC.ret ?_
          refine HQ.inb_ret ?_
          refine HQ.then_ret ?_
          refine HQ.doneX (L' := (r, rdr s _ v9) :: L9) (Res.one Tryd.results15 rfl) (List.Sublist.refl _) (hJ86) ?_
          refine .inl ⟨_, _, _, _, _, (by rw [one_not hx19, h179]), ?_, hp80, ?_, ?_, ?_, rfl⟩
          · first | (simp only [List.length_append, List.length_cons, List.length_nil]; omega) | (congr 2; simp only [List.length_append, List.length_cons, List.length_nil]; omega)
          · simp only [List.length_append, List.length_cons, List.length_nil] at *; omega
          · simp only [List.length_append, List.length_cons, List.length_nil]; omega
          · first | exact ho9 | (have hif := trivial; simpa only [List.append_assoc, List.length_append, List.length_cons, List.length_nil, Nat.add_assoc, Nat.zero_add, hif, ite_true, ite_false, show ((38 : Nat) = 124) = False by decide, reduceIte] using ho9) | simpa only [List.append_assoc, List.length_append, List.length_cons, List.length_nil, Nat.add_assoc, Nat.zero_add] using ho9
      · skip
        obtain ⟨x12, r13, rfl, hx14⟩ := takes_true hT11
        obtain ⟨_, _, hp15⟩ := hp.cons
        refine HL.quiet (y_assign rfl) rfl ?_
        refine HL.nil ?_
        refine HQ.next ?_
        refine HC.sub (E' := [(0, _), (20, _)]) ⟨rfl, rfl, trivial⟩ ?_
        refine HC.cond_true rfl ?_
        refine HC.seq ?_
        refine HC.region ?_
        refine HL.quiet (y_move rfl) rfl ?_
        refine HL.callX0 (Lp := [(r, rdr s _ _)]) Tryd.call26 (.cons rfl (.nil)) (List.Perm.refl _) rfl (text_number _ (hG.le (PLe.refl I)) s hs _ _ hp15 r _) ?_ ?_ ?_
        rotate_left
        · rintro _ _ _ hi (⟨_, _, _, _, h, _⟩ | ⟨hN, h, _, rfl⟩); cases h; cases h
          refine HQ.then_panic ?_
          refine HQ.inb_panic ?_
          refine HQ.then_panic ?_
          refine HQ.doneX_panic (L' := (r, rdr s _ _) :: Lx) (List.Sublist.refl _) ((PLe.refl I).trans hi) ?_
          exact .inr ⟨by rw [one_in hx14, hN], rfl, _, _, _, rfl⟩
        · rintro _ _ _ (⟨_, _, _, _, h, _⟩ | ⟨_, h, _⟩) <;> cases h
        rintro _ _ _ hi (⟨n87, r88, q89, hn90, h, hp91, hq92, rfl⟩ | ⟨_, h, _⟩); rotate_left; cases h
        cases h
        have hJ93 := (PLe.refl I).trans hi
        refine HL.quiet (y_assign rfl) rfl ?_
        refine HL.nil ?_
        refine HQ.next ?_
        refine HC.sub (E' := [(0, _), (3, _)]) ⟨rfl, rfl, trivial⟩ ?_
        refine HC.seq ?_
        refine HC.region ?_
        refine HL.quiet (y_move rfl) rfl ?_
        refine HL.callX0 (Lp := [(r, rdr s _ _)]) Tryd.call27 (.cons rfl (.cons rfl (.nil))) (List.Perm.refl _) rfl (text_must _ s hs _ _ hp91 r _ 44) ?_ ?_ ?_
        rotate_left
        · rintro _ _ _ hi (⟨h, _⟩ | ⟨h, hT, ⟨_, rfl⟩, rfl⟩); cases h; cases h
          refine HQ.then_panic ?_
          refine HQ.inb_panic ?_
          refine HQ.then_panic ?_
          refine HQ.doneX_panic (L' := (r, rdr s _ _) :: Lx) (List.Sublist.refl _) (hJ93) ?_
          exact .inr ⟨in_comma hx14 hn90 hT, rfl, _, _, _, rfl⟩
        · rintro _ _ _ (⟨h, _⟩ | ⟨h, _⟩) <;> cases h
        rintro _ _ _ hi (⟨_, hT, rfl, rfl⟩ | ⟨h, _⟩); rotate_left; cases h
        obtain ⟨x94, r95, rfl, hx96⟩ := takes_true hT
        obtain ⟨_, _, hp97⟩ := hp91.cons
        refine HL.nil ?_
        refine HQ.next ?_
        refine HC.sub (E' := [(0, _), (3, _)]) ⟨rfl, rfl, trivial⟩ ?_
        refine HC.seq ?_
        refine HC.region ?_
        refine HL.quiet (y_move rfl) rfl ?_
        refine HL.callX0 (Lp := [(r, rdr s _ _)]) Tryd.call26 (.cons rfl (.nil)) (List.Perm.refl _) rfl (text_number _ (hG.le (hJ93)) s hs _ _ hp97 r _) ?_ ?_ ?_
        rotate_left
        · rintro _ _ _ hi (⟨_, _, _, _, h, _⟩ | ⟨hN, h, _, rfl⟩); cases h; cases h
          refine HQ.then_panic ?_
          refine HQ.inb_panic ?_
          refine HQ.then_panic ?_
          refine HQ.doneX_panic (L' := (r, rdr s _ _) :: Lx) (List.Sublist.refl _) ((hJ93).trans hi) ?_
          exact .inr ⟨in_second hx14 hn90 hx96 hN, rfl, _, _, _, rfl⟩
        · rintro _ _ _ (⟨_, _, _, _, h, _⟩ | ⟨_, h, _⟩) <;> cases h
        rintro _ _ _ hi (⟨n98, r99, q100, hn101, h, hp102, hq103, rfl⟩ | ⟨_, h, _⟩); rotate_left; cases h
        cases h
        have hJ104 := (hJ93).trans hi
        refine HL.quiet (y_assign rfl) rfl ?_
        refine HL.nil ?_
        refine HQ.next ?_
        refine HC.sub (E' := [(0, _), (3, _), (4, _)]) ⟨rfl, rfl, rfl, trivial⟩ ?_
        refine HC.seq ?_
        refine HC.region ?_
        refine HL.quiet (y_move rfl) rfl ?_
        refine HL.callX0 (Lp := [(r, rdr s _ _)]) Tryd.call27 (.cons rfl (.cons rfl (.nil))) (List.Perm.refl _) rfl (text_must _ s hs _ _ hp102 r _ 41) ?_ ?_ ?_
        rotate_left
        · rintro _ _ _ hi (⟨h, _⟩ | ⟨h, hT, ⟨_, rfl⟩, rfl⟩); cases h; cases h
          refine HQ.then_panic ?_
          refine HQ.inb_panic ?_
          refine HQ.then_panic ?_
          refine HQ.doneX_panic (L' := (r, rdr s _ _) :: Lx) (List.Sublist.refl _) (hJ104) ?_
          exact .inr ⟨in_close hx14 hn90 hx96 hn101 hT, rfl, _, _, _, rfl⟩
        · rintro _ _ _ (⟨h, _⟩ | ⟨h, _⟩) <;> cases h
        rintro _ _ _ hi (⟨_, hT, rfl, rfl⟩ | ⟨h, _⟩); rotate_left; cases h
        obtain ⟨x105, r106, rfl, hx107⟩ := takes_true hT
        obtain ⟨_, _, hp108⟩ := hp102.cons
        refine HL.nil ?_
        refine HQ.next ?_
        refine HC.sub (E' := [(0, _), (3, _), (4, _)]) ⟨rfl, rfl, rfl, trivial⟩ ?_
        refine HC.seq ?_
        refine HC.region ?_
        refine HL.quiet (y_move rfl) rfl ?_
        refine HL.quiet (y_move rfl) rfl ?_
        refine HL.quiet (y_move rfl) rfl ?_
        refine HL.quiet (y_build (vs := [(0, .int .i64 3), (1, .int .i64 (n87 : Int)), (2, .int .i64 (n98 : Int))]) (v := .agg #[.int .i64 3, .int .i64 (n87 : Int), .int .i64 (n98 : Int)]) (.cons rfl (.cons rfl (.cons rfl (.nil)))) (fun w => by kernel_rfl)) rfl ?_
        have hlen_a := hp108.len
        refine HL.call (Lp := (r, rdr s _ _) :: Lx) Tryd.call25 (.cons rfl (.cons rfl (.nil))) (List.Perm.refl _) rfl (text_add _ s _ r _ (ns) (by have := hp.le; first | omega | (simp only [List.length_append] at *; omega)) _ ho (⟨3, (n87 : Int), (n98 : Int)⟩ : Node)) ?_
        rintro _ _ _ hi ⟨rfl, rfl, v9, L9, ho9, rfl⟩
        refine HL.quiet (y_assign rfl) rfl ?_
        refine HL.nil ?_
        refine HQ.next ?_
        refine HC.sub (E' := [(2, _)]) ⟨rfl, trivial⟩ ?_
        refine HC.ret ?_
        refine HQ.inb_ret ?_
        refine HQ.then_ret ?_
        refine HQ.doneX (L' := (r, rdr s _ v9) :: L9) (Res.one Tryd.results15 rfl) (List.Sublist.refl _) (hJ104) ?_
        refine .inl ⟨_, _, _, _, _, in_ok hx14 hn90 hx96 hn101 hx107, ?_, hp108, ?_, ?_, ?_, rfl⟩
        · first | (simp only [List.length_append, List.length_cons, List.length_nil]; omega) | (congr 2; simp only [List.length_append, List.length_cons, List.length_nil]; omega)
        · simp only [List.length_append, List.length_cons, List.length_nil] at *; omega
        · simp only [List.length_append, List.length_cons, List.length_nil]; omega
        · first | exact ho9 | (have hif := trivial; simpa only [List.append_assoc, List.length_append, List.length_cons, List.length_nil, Nat.add_assoc, Nat.zero_add, hif, ite_true, ite_false, show ((38 : Nat) = 124) = False by decide, reduceIte] using ho9) | simpa only [List.append_assoc, List.length_append, List.length_cons, List.length_nil, Nat.add_assoc, Nat.zero_add] using ho9
    · skip
      obtain ⟨x7, r8, rfl, hx9⟩ := takes_true hT6
      obtain ⟨_, _, hp10⟩ := hp.cons
      refine HL.quiet (y_assign rfl) rfl ?_
      refine HL.nil ?_
      refine HQ.next ?_
      refine HC.sub (E' := [(0, _), (12, _)]) ⟨rfl, rfl, trivial⟩ ?_
      refine HC.cond_true rfl ?_
      refine HC.seq ?_
      refine HC.region ?_
      refine HL.quiet (y_move rfl) rfl ?_
      refine HL.quiet (y_move rfl) rfl ?_
      refine HL.callX0 (Lp := [(r, rdr s _ _)]) Tryd.call26 (.cons rfl (.nil)) (List.Perm.refl _) rfl (text_number _ (hG.le (PLe.refl I)) s hs _ _ hp10 r _) ?_ ?_ ?_
      rotate_left
      · rintro _ _ _ hi (⟨_, _, _, _, h, _⟩ | ⟨hN, h, _, rfl⟩); cases h; cases h
        refine HQ.then_panic ?_
        refine HQ.inb_panic ?_
        refine HQ.then_panic ?_
        refine HQ.doneX_panic (L' := (r, rdr s _ _) :: Lx) (List.Sublist.refl _) ((PLe.refl I).trans hi) ?_
        exact .inr ⟨by rw [one_tag hx9, hN], rfl, _, _, _, rfl⟩
      · rintro _ _ _ (⟨_, _, _, _, h, _⟩ | ⟨_, h, _⟩) <;> cases h
      rintro _ _ _ hi (⟨n109, r110, q111, hn112, h, hp113, hq114, rfl⟩ | ⟨_, h, _⟩); rotate_left; cases h
      cases h
      have hJ115 := (PLe.refl I).trans hi
      refine HL.quiet (y_build (vs := [(0, .int .i64 2), (1, .int .i64 (n109 : Int))]) (v := .agg #[.int .i64 2, .int .i64 (n109 : Int), .int .i64 0]) (.cons rfl (.cons rfl (.nil))) (fun w => by kernel_rfl)) rfl ?_
      have hlen_a := hp113.len
      refine HL.call (Lp := (r, rdr s _ _) :: Lx) Tryd.call25 (.cons rfl (.cons rfl (.nil))) (List.Perm.refl _) rfl (text_add _ s _ r _ (ns) (by have := hp.le; first | omega | (simp only [List.length_append] at *; omega)) _ ho (⟨2, (n109 : Int), 0⟩ : Node)) ?_
      rintro _ _ _ hi ⟨rfl, rfl, v9, L9, ho9, rfl⟩
      refine HL.quiet (y_assign rfl) rfl ?_
      refine HL.nil ?_
      refine HQ.next ?_
      refine HC.sub (E' := [(2, _)]) ⟨rfl, trivial⟩ ?_
      refine HC.ret ?_
      refine HQ.inb_ret ?_
      refine HQ.then_ret ?_
      refine HQ.doneX (L' := (r, rdr s _ v9) :: L9) (Res.one Tryd.results15 rfl) (List.Sublist.refl _) (hJ115) ?_
      refine .inl ⟨_, _, _, _, _, (by rw [one_tag hx9, hn112]), ?_, hp113, ?_, ?_, ?_, rfl⟩
      · first | (simp only [List.length_append, List.length_cons, List.length_nil]; omega) | (congr 2; simp only [List.length_append, List.length_cons, List.length_nil]; omega)
      · simp only [List.length_append, List.length_cons, List.length_nil] at *; omega
      · simp only [List.length_append, List.length_cons, List.length_nil]; omega
      · first | exact ho9 | (have hif := trivial; simpa only [List.append_assoc, List.length_append, List.length_cons, List.length_nil, Nat.add_assoc, Nat.zero_add, hif, ite_true, ite_false, show ((38 : Nat) = 124) = False by decide, reduceIte] using ho9) | simpa only [List.append_assoc, List.length_append, List.length_cons, List.length_nil, Nat.add_assoc, Nat.zero_add] using ho9
  · skip
    obtain ⟨x2, r3, rfl, hx4⟩ := takes_true hT1
    obtain ⟨_, _, hp5⟩ := hp.cons
    refine HL.quiet (y_assign rfl) rfl ?_
    refine HL.nil ?_
    refine HQ.next ?_
    refine HC.sub (E' := [(0, _), (6, _)]) ⟨rfl, rfl, trivial⟩ ?_
    refine HC.cond_true rfl ?_
    refine HC.seq ?_
    refine HC.region ?_
    refine HL.quiet (y_move rfl) rfl ?_
    refine HL.quiet (y_build (vs := [(0, .int .i64 1)]) (v := .agg #[.int .i64 1, .int .i64 0, .int .i64 0]) (.cons rfl (.nil)) (fun w => by kernel_rfl)) rfl ?_
    have hlen_a := hp5.len
    refine HL.call (Lp := (r, rdr s _ _) :: Lx) Tryd.call25 (.cons rfl (.cons rfl (.nil))) (List.Perm.refl _) rfl (text_add _ s _ r _ (ns) (by have := hp.le; first | omega | (simp only [List.length_append] at *; omega)) _ ho (⟨1, 0, 0⟩ : Node)) ?_
    rintro _ _ _ hi ⟨rfl, rfl, v9, L9, ho9, rfl⟩
    refine HL.quiet (y_assign rfl) rfl ?_
    refine HL.nil ?_
    refine HQ.next ?_
    refine HC.sub (E' := [(2, _)]) ⟨rfl, trivial⟩ ?_
    refine HC.ret ?_
    refine HQ.inb_ret ?_
    refine HQ.then_ret ?_
    refine HQ.doneX (L' := (r, rdr s _ v9) :: L9) (Res.one Tryd.results15 rfl) (List.Sublist.refl _) (PLe.refl I) ?_
    refine .inl ⟨_, _, _, _, _, one_star hx4, ?_, hp5, ?_, ?_, ?_, rfl⟩
    · first | (simp only [List.length_append, List.length_cons, List.length_nil]; omega) | (congr 2; simp only [List.length_append, List.length_cons, List.length_nil]; omega)
    · simp only [List.length_append, List.length_cons, List.length_nil] at *; omega
    · simp only [List.length_append, List.length_cons, List.length_nil]; omega
    · first | exact ho9 | (have hif := trivial; simpa only [List.append_assoc, List.length_append, List.length_cons, List.length_nil, Nat.add_assoc, Nat.zero_add, hif, ite_true, ite_false, show ((38 : Nat) = 124) = False by decide, reduceIte] using ho9) | simpa only [List.append_assoc, List.length_append, List.length_cons, List.length_nil, Nat.add_assoc, Nat.zero_add] using ho9

end Go.Rm
