/- What this text holds: the rules of my separation logic for one deferred closure and for recover, whatever the program. -/
import Derived.Test.YtpcgfadcojaceaaDoorRmRow
import Derived.Recover
set_option linter.unusedVariables false
set_option linter.unusedSimpArgs false
set_option linter.unusedSectionVars false
namespace Go.Rm
open Go

section
variable {P : Program} {ops : Array Oper} {Q : Exit → Act → World → Prop} {n : Nat} {ds : List Deferred} {E : Env} {W : World} {L Lr Lx : Own} {I : PHeap} {rest : List Oper} {v u z : Value} {d : Nat}
  {dst : Option Tmp} {ty : TypeId} {pos : String} {aft : Array Edge} {gu : Option (Nat × Bool)} {T S : TypeId} {x y : Operand}

/-- An assertion that holds, with its ok. -/
theorem y_assert {fs : Array Field} (hu : P.underlying T = some (.struct fs)) (hx : evalO E x = some (.iface T v)) : Yields P ⟨dst, .typeAssert x S T true, ty, pos, aft, gu⟩ E W L I (.tuple #[v, .bool true]) := fun a w _ _ ha _ => by
  simp only [execOp, ha.eval hx]
  simp [Instr.typeAssert, run_underlying hu]
/-- A closure is laid aside for the end. -/
theorem HL.defer {f : FuncId} {xs : List Operand} {as fv : List Value} {cv : Array Value} {pf : Operand} {tys : Array TypeId} (hf : evalO E pf = some (.func (.func f) fv.toArray cv)) (ha : evalL E xs as)
    (h : HL P ops Q rest n ({ target := .fn (.func f) cv, args := (fv ++ as).toArray } :: ds) E W L I) : HL P ops Q (⟨none, .defer ⟨.value pf, xs.toArray, tys⟩, ty, pos, aft, none⟩ :: rest) n ds E W L I := by
  intro a w ha' hw
  refine wpList_plain rfl fun K hK => ?_
  unfold Oper.wp
  have : (execOp a.eval ⟨none, .defer ⟨.value pf, xs.toArray, tys⟩, ty, pos, aft, none⟩).run P w = .ok (.defer { target := .fn (.func f) cv, args := (fv ++ as).toArray }) w := by
    simp only [execOp, resolve, List.map_toArray, evalL_map ha' ha, ha'.eval hf, Deferred.ofValue]; simp
  rw [this, Oper.upon_defer]
  exact hK _ _ (h _ _ ⟨by simp [Act.put, ha'.defers], ha'.size, ha'.at_⟩ hw)

/-- What a deferred closure does, called while the frame below leaves in mode u. -/
def SpecD (P : Program) (f : FuncId) (args : List Value) (u u' : FrameMode) (L L2 : Own) (I : PHeap) : Prop :=
  ∀ W Lf w, Holds W (L ++ Lf) I w → CallsD P f args.toArray u w fun e u1 w' => (∃ v, e = .returned v) ∧ u1 = u' ∧ Holds W (L2 ++ Lf) I w'
/-- The end of such a closure. -/
def endQ (W : World) (L2 : Own) (I : PHeap) : Exit → Act → World → Prop
  | .normal, a, w => a.defers = [] ∧ Holds W L2 I w
  | .ret, a, w => a.defers = [] ∧ Holds W L2 I w
  | _, _, _ => False
theorem PanicOk.endQ {L2 : Own} : PanicOk (endQ W L2 I) := fun _ _ _ _ _ h => h
theorem HQ.endD {L2 : Own} (hL : L2.Sublist L) : HQ (endQ W L2 I) .normal n [] E W L I := fun _ _ ha hw => ⟨ha.defers, hw.sublist hL⟩
theorem HQ.endD_ret {L2 : Own} (hL : L2.Sublist L) : HQ (endQ W L2 I) .ret n [] E W L I := fun _ _ ha hw => ⟨ha.defers, hw.sublist hL⟩

/-- A closure that begins with recover. -/
theorem SpecD.of_recover {f : FuncId} {fn : Func} {id d0 d1 m : Nat} {ty0 ty1 : TypeId} {pos0 pos1 : String} {aft0 aft1 : Array Edge} {rest : Code} {args : List Value} {u u' : FrameMode} {L2 : Own} (hf : P.funcs[f]? = some fn)
    (hb : fn.body = some (.seq (.region id #[⟨some d0, .call ⟨.builtin .recover, #[], #[]⟩, ty0, pos0, aft0, none⟩, ⟨some d1, .assign (.tmp d0), ty1, pos1, aft1, none⟩] false) rest)) (hn : fn.ntmps = m) (hm : Nat.ble args.length m = true) (hr : fn.results = #[]) (hd0 : Nat.blt d0 m = true) (hd1 : Nat.blt d1 m = true)
    (hrec : ∀ (c : Frame) cs, c.mode = u → recoverD (c :: cs) = some (v, { c with mode := u' } :: cs) ∨ (recoverD (c :: cs) = none ∧ v = .nilIface ∧ u' = u))
    (h : ∀ W Lf, HC P (endQ W (L2 ++ Lf) I) rest m [] ((d1, v) :: (d0, v) :: envOf args) W (L ++ Lf) I) : SpecD P f args u u' L L2 I := by
  intro W Lf w hw
  refine callsD_of_wpS hf hb fun c cs hc => ?_
  have ha : Has m [] (envOf args) { tmps := args.toArray ++ Array.replicate (fn.ntmps - args.toArray.size) undef, defers := [] } := by
    refine ⟨rfl, ?_, fun t v hv => ?_⟩
    · have : args.length ≤ m := by simpa using hm
      simp [hn]; omega
    · obtain ⟨_, h2⟩ := look_envAt args 0 t v hv
      simp only [Nat.sub_zero] at h2
      have hlt : t < args.length := by rcases Nat.lt_or_ge t args.length with h' | h'; exact h'; rw [List.getElem?_eq_none h'] at h2; cases h2
      rw [Array.getElem?_append_left (by simpa using hlt)]; simpa using h2
  generalize ({ tmps := args.toArray ++ Array.replicate (fn.ntmps - args.toArray.size) undef, defers := [] } : Act) = a at ha
  have key : ∀ cs', (∃ u1, cs' = { c with mode := u1 } :: cs ∧ u1 = u') → rest.wpS P (bodyPostS P fn c cs fun e u1 w' => (∃ v, e = .returned v) ∧ u1 = u' ∧ Holds W (L2 ++ Lf) I w') ((a.put (some d0) v).put (some d1) v) cs' w := by
    rintro cs' ⟨u1, rfl, rfl⟩
    refine wpS_of_wp (wp_mono (h W Lf _ w ((ha.put (by simpa using hd0)).put (by simpa using hd1)) hw) fun e a' w' q => ?_)
    cases e <;> first
      | exact ⟨q.1, u1, rfl, .tuple #[], results_none hr _ _ _, ⟨_, rfl⟩, rfl, q.2⟩
      | exact q.elim
  refine wpS_seq (wpS_region ?_)
  have hput : ∀ v : Value, (a.put (some d0) v).eval (.tmp d0) = v := fun v => (ha.put (d := d0) (v := v) (by simpa using hd0)).eval (by simp [evalO, look])
  have e0 : ∀ w, (execOp a.eval ⟨some d0, .call ⟨.builtin .recover, #[], #[]⟩, ty0, pos0, aft0, none⟩).run P w = .ok .recover w := fun w => by
    simp [execOp, resolve, invoke, builtin]
  have e1 : ∀ w, (execOp (a.put (some d0) v).eval ⟨some d1, .assign (.tmp d0), ty1, pos1, aft1, none⟩).run P w = .ok (.value v) w := fun w => by
    simp only [execOp, hput]; rfl
  have hrange : List.range (#[(⟨some d0, .call ⟨.builtin .recover, #[], #[]⟩, ty0, pos0, aft0, none⟩ : Oper), ⟨some d1, .assign (.tmp d0), ty1, pos1, aft1, none⟩]).size = [0, 1] := rfl
  rw [hrange]
  rcases hrec c cs hc with h1 | ⟨h1, rfl, rfl⟩
  · simp only [wpOpsS, List.getElem?_toArray, List.getElem?_cons_zero, List.getElem?_cons_succ, Region.wanted, if_true, e0, h1, e1, Oper.upon_value]
    exact key _ ⟨_, rfl, rfl⟩
  · simp only [wpOpsS, List.getElem?_toArray, List.getElem?_cons_zero, List.getElem?_cons_succ, Region.wanted, if_true, e0, h1, e1, Oper.upon_value]
    exact key _ ⟨_, by rw [← hc], rfl⟩

/-! ### a function with one deferred closure -/
def bodyQD (P : Program) (fn : Func) (W : World) (Lf : Own) (I : PHeap) (post : Ending → Own → PHeap → Prop) : Exit → Act → World → Prop :=
  bodyPostD P fn fun e w' => ∃ L' I', PLe I I' ∧ Holds W (L' ++ Lf) I' w' ∧ post e L' I'
theorem SpecX.of_bodyD {f : FuncId} {fn : Func} {c : Code} {m : Nat} {args : List Value} {post : Ending → Own → PHeap → Prop} (hf : P.funcs[f]? = some fn) (hb : fn.body = some c) (hn : fn.ntmps = m) (hm : Nat.ble args.length m = true)
    (h : ∀ W Lf, HC P (bodyQD P fn W Lf I post) c m [] (envOf args) W (L ++ Lf) I) : SpecX P f args L I post := by
  intro W Lf w hw
  refine calls_of_wp_defers hf hb (h W Lf _ w ⟨rfl, ?_, fun t v hv => ?_⟩ hw)
  · have : args.length ≤ m := by simpa using hm
    simp [hn]; omega
  · obtain ⟨_, h2⟩ := look_envAt args 0 t v hv
    simp only [Nat.sub_zero] at h2
    have hlt : t < args.length := by rcases Nat.lt_or_ge t args.length with h' | h'; exact h'; rw [List.getElem?_eq_none h'] at h2; cases h2
    rw [Array.getElem?_append_left (by simpa using hlt)]; simpa using h2
theorem Res.cell2 {fn : Func} {t s k b k' b' : Nat} {z : Value} {T' S' : TypeId} (h : fn.results = #[.cell t T, .cell s S]) (hag : ∀ w, (isAgg T).run P w = .ok false w) (hag' : ∀ w, (isAgg S).run P w = .ok false w) (ht : look E t = some (.pointer (some ⟨b, 0, none⟩))) (hs : look E s = some (.pointer (some ⟨b', 0, none⟩)))
    (hk : L[k]? = some (b, blk [v] T')) (hk' : L[k']? = some (b', blk [z] S')) : Res P fn E W L I (.tuple #[v, z]) := fun a w _ _ ha hw => by
  have h1 := run_loadVar1 (P := P) (w := w) (b := b) (off := 0) hag (cellL (c := [v]) hw hk rfl)
  have h2 := run_loadVar1 (P := P) (w := w) (b := b') (off := 0) hag' (cellL (c := [z]) hw hk' rfl)
  simp [results, h, ha.at_ _ _ ht, ha.at_ _ _ hs, asAddr, h1, h2]
/-- A result that is read when the closure has run. -/
theorem HQ.leave {fn : Func} {g : FuncId} {dargs cv all : List Value} {L1 L2 Lr Lf L' : Own} {I' : PHeap} {post : Ending → Own → PHeap → Prop} (hc : ∀ args w, (callFunc g args).run P w = .ok (.enter g args) w) (hall : dargs ++ cv = all) (hs : SpecD P g all .returning .returning L1 L2 I') (hp : L.Perm (L1 ++ Lr)) (hr : Res P fn E W (L2 ++ Lr) I' v)
    (hL : (L' ++ Lf).Sublist (L2 ++ Lr)) (hi : PLe I I') (hq : post (.returned v) L' I') : HQ (bodyQD P fn W Lf I post) .ret n [{ target := .fn (.func g) cv.toArray, args := dargs.toArray }] E W L I' := fun a w ha hw => by
  show Leaves P fn a.tmps _ a.defers .returning w
  rw [ha.defers]
  refine leaves_cons (f := g) (args := all.toArray) (by simp) (by simp [invoke, hc, ← hall]) ((hs W Lr w (hw.perm hp)).mono fun e u' w' ⟨⟨v', he⟩, hu, hh⟩ => ?_)
  subst he; subst hu
  exact ⟨v, hr a w' n _ ha hh, L', I', hi, hh.sublist hL, hq⟩
theorem HQ.leave_panic {fn : Func} {g : FuncId} {dargs cv all : List Value} {ch : List PanicEntry} {u1 : FrameMode} {L1 L2 Lr Lf L' : Own} {I' : PHeap} {post : Ending → Own → PHeap → Prop} (hc : ∀ args w, (callFunc g args).run P w = .ok (.enter g args) w) (hall : dargs ++ cv = all) (hs : SpecD P g all (.panicking ch) u1 L1 L2 I') (hset : settle u1 = .returning) (hp : L.Perm (L1 ++ Lr)) (hr : Res P fn E W (L2 ++ Lr) I' v)
    (hL : (L' ++ Lf).Sublist (L2 ++ Lr)) (hi : PLe I I') (hq : post (.returned v) L' I') : HQ (bodyQD P fn W Lf I post) (.panic ch) n [{ target := .fn (.func g) cv.toArray, args := dargs.toArray }] E W L I' := fun a w ha hw => by
  show Leaves P fn a.tmps _ a.defers (.panicking ch) w
  rw [ha.defers]
  refine leaves_cons (f := g) (args := all.toArray) (by simp) (by simp [invoke, hc, ← hall]) ((hs W Lr w (hw.perm hp)).mono fun e u' w' ⟨⟨v', he⟩, hu, hh⟩ => ?_)
  subst he; subst hu
  show Leaves P fn a.tmps _ [] (settle _) w'
  rw [hset]
  exact ⟨v, hr a w' n _ ha hh, L', I', hi, hh.sublist hL, hq⟩
/-- A return before anything was deferred. -/
theorem HQ.leave0 {fn : Func} {Lf L' : Own} {I' : PHeap} {post : Ending → Own → PHeap → Prop} (hr : Res P fn E W L I' v) (hL : (L' ++ Lf).Sublist L) (hi : PLe I I') (hq : post (.returned v) L' I') : HQ (bodyQD P fn W Lf I post) .ret n [] E W L I' := fun a w ha hw => by
  show Leaves P fn a.tmps _ a.defers .returning w
  rw [ha.defers]
  exact ⟨v, hr a w n _ ha hw, L', I', hi, hw.sublist hL, hq⟩
end
end Go.Rm
