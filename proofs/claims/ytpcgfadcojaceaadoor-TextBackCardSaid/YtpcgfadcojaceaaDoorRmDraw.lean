/- What this text holds: the rules of my separation logic for a region that draws its order and calls, makes or writes memory, whatever the program. -/
import Derived.Test.YtpcgfadcojaceaaDoorRmMem
import Derived.OrdersHeld
set_option linter.unusedVariables false
set_option linter.unusedSimpArgs false
set_option linter.unusedSectionVars false
namespace Go.Rm
open Go

section
variable {P : Program} {ops : Array Oper} {Q : Exit → Act → World → Prop} {md : Region.Mode}

/-- A panic's post does not look at the slots. -/
def PanicOk (Q : Exit → Act → World → Prop) : Prop := ∀ c a w d v, Q (.panic c) (a.put d v) w → Q (.panic c) a w
theorem PanicOk.body {fn : Func} {R : Ending → World → Prop} : PanicOk (bodyPost P fn R) := fun c a w d v h => by
  cases d <;> exact h
theorem PanicOk.bodyQ {fn : Func} {W : World} {Lf : Own} {I : PHeap} {post : Ending → Own → PHeap → Prop} : PanicOk (bodyQ P fn W Lf I post) := PanicOk.body
theorem PanicOk.then {K : Act → World → Prop} (h : PanicOk Q) : PanicOk (Exit.then K Q) := fun c a w d v hq => h c a w d v hq
theorem PanicOk.inb {id : Nat} (h : PanicOk Q) : PanicOk (Exit.inBlock id Q) := fun c a w d v hq => h c a w d v hq

def Closed (md : Region.Mode) (ops : Array Oper) (listed : Array Bool) : Prop := ∀ i o, listed.getD i false = true → ops[i]? = some o → ∀ e ∈ o.after, Region.binds md e = true → listed.getD e.on false = true
theorem Closed.start (n : Nat) : Closed md ops (Array.replicate n false) := fun i o h => by
  simp only [Array.getD_eq_getD_getElem?, Array.getElem?_replicate] at h
  split at h <;> simp at h
theorem Closed.step {listed : Array Bool} (h : Closed md ops listed) {j : Nat} (hj : j ∈ Region.ready md ops listed) : Closed md ops (listed.setIfInBounds j true) := by
  intro i o hi ho e he hb
  obtain ⟨_, oj, hoj, hall⟩ := mem_ready.1 hj
  by_cases hij : j = i
  · subst hij
    rw [hoj] at ho; cases ho
    exact getD_set_true (hall e he hb)
  · rw [getD_set_ne false hij] at hi
    exact getD_set_true (h i o hi ho e he hb)

def direct (md : Region.Mode) (ops : Array Oper) (t i : Nat) : Bool := match ops[t]? with
  | some o => o.after.any fun e => Region.binds md e && e.on == i
  | none => true
/-- t comes behind i. -/
def behind (md : Region.Mode) (ops : Array Oper) (t i : Nat) : Bool := direct md ops t i || (List.range ops.size).any fun k => direct md ops t k && direct md ops k i && decide (k < ops.size)
theorem direct_spec {listed : Array Bool} (hc : Closed md ops listed) (hsz : listed.size = ops.size) {t i : Nat} (hd : direct md ops t i = true) (ht : listed.getD t false = true) : listed.getD i false = true := by
  unfold direct at hd
  cases ho : ops[t]? with
  | none =>
    have : ops.size ≤ t := by
      rcases Nat.lt_or_ge t ops.size with h' | h'
      · rw [Array.getElem?_eq_getElem h'] at ho; cases ho
      · exact h'
    simp [Array.getElem?_eq_none (show listed.size ≤ t by omega)] at ht
  | some o =>
    rw [ho] at hd
    obtain ⟨e, he, hb⟩ := Array.any_eq_true'.1 hd
    simp only [Bool.and_eq_true, beq_iff_eq] at hb
    have := hc t o ht ho e he hb.1
    rw [hb.2] at this; exact this
theorem behind_spec {listed : Array Bool} (hc : Closed md ops listed) (hsz : listed.size = ops.size) {t i : Nat} (hd : behind md ops t i = true) (ht : listed.getD t false = true) : listed.getD i false = true := by
  simp only [behind, Bool.or_eq_true, List.any_eq_true, Bool.and_eq_true] at hd
  rcases hd with h | ⟨k, _, ⟨h1, h2⟩, _⟩
  · exact direct_spec hc hsz h ht
  · exact direct_spec hc hsz h2 (direct_spec hc hsz h1 ht)

/-- Whatever order is picked from here on, and S holds behind every operation. -/
def wpAnyG (P : Program) (md : Region.Mode) (ops : Array Oper) (Q : Exit → Act → World → Prop) (S : Array Bool → World → Prop) : Nat → Array Bool → Act → World → Prop
  | 0, listed, a, w => Region.ready md ops listed = [] ∧ Q .normal a w
  | fuel + 1, listed, a, w => (Region.ready md ops listed = [] → Q .normal a w) ∧
    ∀ i ∈ Region.ready md ops listed, wpOp P ops Q i (fun a' w' => S (listed.setIfInBounds i true) w' ∧ wpAnyG P md ops Q S fuel (listed.setIfInBounds i true) a' w') a w
theorem wpAny_of_G {S : Array Bool → World → Prop} : ∀ (fuel : Nat) (listed : Array Bool) (a : Act) (w : World), wpAnyG P md ops Q S fuel listed a w → wpAny P md ops Q fuel listed a w
  | 0, _, _, _, h => h
  | fuel + 1, _, _, _, h => ⟨h.1, fun i hi => wpOp_mono (fun a' w' h' => wpAny_of_G fuel _ a' w' h'.2) (h.2 i hi)⟩

theorem wpAnyG_first {S : Array Bool → World → Prop} {S₀ : World → Prop} {i : Nat} {oi : Oper} {v : Value} (hi : ops[i]? = some oi) (hsel : ∀ (j : Nat) (o : Oper) cs b, ops[j]? = some o → o.op ≠ .select cs b) (hQ : PanicOk Q)
    (hS : ∀ listed w, Closed md ops listed → listed.size = ops.size → listed.getD i true = false → S listed w → S₀ w) (hind : ∀ listed w, S (listed.setIfInBounds i true) w ↔ S listed w) :
    ∀ (fuel : Nat) (listed : Array Bool) (a : Act) (w : World), Closed md ops listed → listed.size = ops.size →
      (∀ j oj, ops[j]? = some oj → j ≠ i → listed.getD j true = false → (∀ e ∈ oj.after, Region.binds md e = true → e.on ≠ i) → oi.apart ops oj = true) →
      i ∈ Region.ready md ops listed → YieldsIf P ops S₀ oi v a → S listed w →
      wpAnyG P md ops Q S fuel (listed.setIfInBounds i true) (a.put oi.dst v) w → wpAnyG P md ops Q S (fuel + 1) listed a w := by
  intro fuel
  induction fuel with
  | zero =>
    intro listed a w hc hsz _ hr hy hSw H
    refine ⟨fun h => (by rw [h] at hr; cases hr), fun j hj => ?_⟩
    by_cases hji : j = i
    · subst hji; exact hy.wpOp hi (hS listed w hc hsz (mem_ready.1 hr).1 hSw) ⟨(hind _ _).2 hSw, H⟩
    · have := ready_mono hj hji
      rw [H.1] at this
      cases this
  | succ fuel ih =>
    intro listed a w hc hsz hfree hr hy hSw H
    refine ⟨fun h => (by rw [h] at hr; cases hr), fun j hj => ?_⟩
    by_cases hji : j = i
    · subst hji; exact hy.wpOp hi (hS listed w hc hsz (mem_ready.1 hr).1 hSw) ⟨(hind _ _).2 hSw, H⟩
    · have h1 := H.2 j (ready_mono hj hji)
      obtain ⟨hjun, oj, hoj, hall⟩ := mem_ready.1 hj
      have hnot : ∀ e ∈ oj.after, Region.binds md e = true → e.on ≠ i := fun e he hb heq => by
        have h1 := hall e he hb
        have h0 := (mem_ready.1 hr).1
        rw [heq] at h1
        rcases Nat.lt_or_ge i listed.size with h' | h'
        · simp [h'] at h0 h1; rw [h0] at h1; cases h1
        · simp [Array.getElem?_eq_none h'] at h1
      have h2 := wpOp_putIf hoj (hfree j oj hoj hji hjun hnot) (fun cs b => hsel i oi cs b hi) (fun cs b => hsel j oj cs b hoj) (fun c a w => hQ c a w _ _) hy h1
      have hfree' : ∀ k ok, ops[k]? = some ok → k ≠ i → (listed.setIfInBounds j true).getD k true = false →
          (∀ e ∈ ok.after, Region.binds md e = true → e.on ≠ i) → oi.apart ops ok = true := fun k ok hk hki hun hno => by
        refine hfree k ok hk hki ?_ hno
        by_cases hjk : j = k
        · subst hjk; exact hjun
        · rw [getD_set_ne true hjk] at hun; exact hun
      refine wpOp_mono (fun a' w' h3 => ?_) h2
      have h4 : S (listed.setIfInBounds j true) w' := by
        have := h3.2.1
        rw [Array.setIfInBounds_comm _ _ (Ne.symm hji)] at this
        exact (hind _ _).1 this
      refine ⟨h4, ih (listed.setIfInBounds j true) a' w' (hc.step hj) (by simpa using hsz) hfree' (ready_mono hr (Ne.symm hji)) h3.1 h4 ?_⟩
      rw [Array.setIfInBounds_comm _ _ hji]
      exact h3.2.2
end

/-- What a region's worlds keep: till operation t has come up the blocks Lp, from then on L2; always I. -/
def GS (W : World) (L2 Lp : Own) (t : Nat) (I : PHeap) (listed : Array Bool) (w : World) : Prop := ∃ I', PLe I I' ∧ Holds W (bif listed.getD t false then L2 else Lp) I' w

def HG (P : Program) (ops : Array Oper) (Q : Exit → Act → World → Prop) (L2 Lp : Own) (t : Nat) (Ip : PHeap) (fuel : Nat) (listed : Array Bool) (n : Nat) (ds : List Deferred) (E : Env) (W : World) (L : Own) (I : PHeap) : Prop :=
  Closed .any ops listed → listed.size = ops.size → ∀ a w, Has n ds E a → Holds W L I w → GS W L2 Lp t Ip listed w → wpAnyG P .any ops Q (GS W L2 Lp t Ip) fuel listed a w

section
variable {P : Program} {ops : Array Oper} {Q : Exit → Act → World → Prop} {n : Nat} {ds : List Deferred} {E : Env} {W : World} {L L2 Lp : Own} {I Ip : PHeap} {t fuel : Nat} {listed : Array Bool} {l : List Oper} {v : Value} {i d : Nat}
  {ty : TypeId} {pos : String} {aft : Array Edge}

theorem HC.drawn {id : Nat} (L2 : Own) (t : Nat) (hm : P.follows .mixedOrders = true) (h : HG P l.toArray Q L2 L t I l.length (Array.replicate l.length false) n ds E W L I) : HC P Q (.region id l.toArray true) n ds E W L I := by
  intro a w ha hw
  refine wp_region_any hm (wpAny_of_G (S := GS W L2 L t I) _ _ _ _ ?_)
  have hw' := hw.drew (w.drawn + 1)
  have := h (Closed.start _) (by simp) a _ ha hw' ⟨I, PLe.refl _, by
    have : (Array.replicate l.length false).getD t false = false := by
      simp only [Array.getD_eq_getD_getElem?, Array.getElem?_replicate]; split <;> rfl
    rw [this]; exact hw'⟩
  simpa using this

/-- An operation that only computes, or reads what nobody in the region writes, comes first. -/
theorem HG.take_any {oi : Oper} (Lc : Own) (hi : ops[i]? = some oi) (hs : Region.noSelect ops = true) (hf : Region.free .any ops listed i = true) (hr : (Region.ready .any ops listed).contains i = true) (hQ : PanicOk Q) 
    (hti : Nat.beq t i = false) (hLc : (Lc.Sublist L2 ∧ Lc.Sublist Lp) ∨ (behind .any ops t i = true ∧ Lc.Sublist Lp))
    (hy : ∀ a, Has n ds E a → YieldsIf P ops (fun w => ∃ I', PLe Ip I' ∧ Holds W Lc I' w) oi v a) (hd : oi.dst = some d) (hn : Nat.blt d n = true)
    (h : HG P ops Q L2 Lp t Ip fuel (listed.setIfInBounds i true) n ds ((d, v) :: E) W L I) : HG P ops Q L2 Lp t Ip (fuel + 1) listed n ds E W L I := by
  intro hcl hsz a w ha hw hS
  have hti' : i ≠ t := fun e => by subst e; simp at hti
  have hsame : ∀ (listed : Array Bool) w, GS W L2 Lp t Ip (listed.setIfInBounds i true) w ↔ GS W L2 Lp t Ip listed w := fun listed w => by
    unfold GS; rw [getD_set_ne false hti']
  refine wpAnyG_first (S₀ := fun w => ∃ I', PLe Ip I' ∧ Holds W Lc I' w) hi (Region.noSelect_spec hs) hQ ?_ hsame fuel listed a w hcl hsz (Region.free_spec hi hf) (by simpa using hr) (hy a ha) hS ?_
  · intro listed' w' hc' hsz' hun ⟨I', hI', hh⟩
    refine ⟨I', hI', ?_⟩
    rcases hLc with ⟨h1, h2⟩ | ⟨hb, h2⟩
    · cases hx : listed'.getD t false <;> rw [hx] at hh
      · exact hh.sublist h2
      · exact hh.sublist h1
    · cases hx : listed'.getD t false <;> rw [hx] at hh
      · exact hh.sublist h2
      · have := behind_spec hc' hsz' hb hx
        have hsz2 : i < listed'.size := by rcases Nat.lt_or_ge i listed'.size with h' | h'; exact h'; simp [Array.getElem?_eq_none h'] at this
        simp [hsz2] at this hun
        rw [hun] at this; cases this
  · rw [hd]; exact h (hcl.step (by simpa using hr)) (by simpa using hsz) _ _ (ha.put (by simpa using hn)) hw ((hsame _ _).2 hS)

theorem HG.take {op : Op} (Lc : Own) (hi : ops[i]? = some ⟨some d, op, ty, pos, aft, none⟩) (hs : Region.noSelect ops = true) (hf : Region.free .any ops listed i = true) (hr : (Region.ready .any ops listed).contains i = true) (hQ : PanicOk Q) 
    (hti : Nat.beq t i = false) (hLc : (Lc.Sublist L2 ∧ Lc.Sublist Lp) ∨ (behind .any ops t i = true ∧ Lc.Sublist Lp)) (hy : ∀ I', PLe Ip I' → Yields P ⟨some d, op, ty, pos, aft, none⟩ E W Lc I' v) (hn : Nat.blt d n = true)
    (h : HG P ops Q L2 Lp t Ip fuel (listed.setIfInBounds i true) n ds ((d, v) :: E) W L I) : HG P ops Q L2 Lp t Ip (fuel + 1) listed n ds E W L I :=
  HG.take_any Lc hi hs hf hr hQ hti hLc (fun a ha => .inl ⟨by simp [Region.wanted], fun w ⟨I', hI', hh⟩ => hy I' hI' a w n ds ha hh⟩) rfl hn h
theorem HG.take_guard {op : Op} {j : Nat} {want : Bool} {s : Tmp} (Lc : Own) (hi : ops[i]? = some ⟨some d, op, ty, pos, aft, some (j, want)⟩) (hs : Region.noSelect ops = true) (hf : Region.free .any ops listed i = true) (hr : (Region.ready .any ops listed).contains i = true) (hQ : PanicOk Q) 
    (hti : Nat.beq t i = false) (hLc : (Lc.Sublist L2 ∧ Lc.Sublist Lp) ∨ (behind .any ops t i = true ∧ Lc.Sublist Lp)) (hj : (ops[j]?).bind (·.dst) = some s) (hb : look E s = some (.bool want)) (hy : ∀ I', PLe Ip I' → Yields P ⟨some d, op, ty, pos, aft, some (j, want)⟩ E W Lc I' v) (hn : Nat.blt d n = true)
    (h : HG P ops Q L2 Lp t Ip fuel (listed.setIfInBounds i true) n ds ((d, v) :: E) W L I) : HG P ops Q L2 Lp t Ip (fuel + 1) listed n ds E W L I :=
  HG.take_any Lc hi hs hf hr hQ hti hLc (fun a ha => .inl ⟨by simp [Region.wanted, yielded_of hj ha hb], fun w ⟨I', hI', hh⟩ => hy I' hI' a w n ds ha hh⟩) rfl hn h
theorem HG.pass {op : Op} {j : Nat} {want : Bool} {u : Value} {s : Tmp} (hi : ops[i]? = some ⟨some d, op, ty, pos, aft, some (j, want)⟩) (hs : Region.noSelect ops = true) (hf : Region.free .any ops listed i = true) (hr : (Region.ready .any ops listed).contains i = true) (hQ : PanicOk Q) 
    (hti : Nat.beq t i = false) (hj : (ops[j]?).bind (·.dst) = some s) (hb : look E s = some u) (hne : gateOff u want = true) (hn : Nat.blt d n = true)
    (h : HG P ops Q L2 Lp t Ip fuel (listed.setIfInBounds i true) n ds ((d, undef) :: E) W L I) : HG P ops Q L2 Lp t Ip (fuel + 1) listed n ds E W L I :=
  HG.take_any [] hi hs hf hr hQ hti (.inl ⟨List.nil_sublist _, List.nil_sublist _⟩) (fun a ha => .inr ⟨by simp only [Region.wanted, gate_of hj ha hb hne], rfl⟩) rfl hn h
theorem HG.split {s : Tmp} {b : Bool} (hb : look E s = some (.bool b)) (ht : b = true → HG P ops Q L2 Lp t Ip fuel listed n ds ((s, .bool true) :: E) W L I) (hf : b = false → HG P ops Q L2 Lp t Ip fuel listed n ds ((s, .bool false) :: E) W L I) : HG P ops Q L2 Lp t Ip fuel listed n ds E W L I := by
  intro hcl hsz a w ha hw
  cases b
  · exact hf rfl hcl hsz a w (ha.push hb) hw
  · exact ht rfl hcl hsz a w (ha.push hb) hw

/-- Behind an operation: the game goes on. -/
def onward (P : Program) (ops : Array Oper) (Q : Exit → Act → World → Prop) (W : World) (L2 Lp : Own) (t : Nat) (Ip : PHeap) (fuel : Nat) (listed : Array Bool) : Act → World → Prop :=
  fun a w => GS W L2 Lp t Ip listed w ∧ wpAnyG P .any ops Q (GS W L2 Lp t Ip) fuel listed a w
/-- The operations that may come up now: each is carried out. -/
theorem HG.one {o : Oper} (hr : Region.ready .any ops listed = [i]) (ho : ops[i]? = some o) (h : Closed .any ops (listed.setIfInBounds i true) → (listed.setIfInBounds i true).size = ops.size → HL P ops (Exit.then (onward P ops Q W L2 Lp t Ip fuel (listed.setIfInBounds i true)) Q) [o] n ds E W L I) : HG P ops Q L2 Lp t Ip (fuel + 1) listed n ds E W L I := by
  intro hcl hsz a w ha hw hS
  refine ⟨fun h0 => (by rw [h0] at hr; cases hr), fun j hj => ?_⟩
  have h := h (hcl.step (by rw [hr]; simp)) (by simpa using hsz)
  rw [hr, List.mem_singleton] at hj
  subst hj
  have := h a w ha hw
  unfold wpOp
  simp only [ho]
  unfold wpList at this
  split
  · rename_i hwa
    rw [if_pos hwa] at this
    rcases this with h1 | ⟨h1, h2⟩
    · refine .inl ?_
      unfold Oper.wp at h1 ⊢
      generalize (execOp a.eval o).run P w = r at h1 ⊢
      cases r with
      | ok x w' =>
        cases x <;> simp only [Oper.upon] at h1 ⊢ <;> first
          | exact h1
          | exact h1.mono (fun e w'' he => by cases e <;> exact he)
      | halt x w' => cases x <;> simp only [Oper.upon] at h1 ⊢ <;> exact h1
    · exact .inr ⟨h1, h2⟩
  · rename_i hwa
    rw [if_neg hwa] at this
    exact this
theorem HG.two {o o' : Oper} {j : Nat} (hr : Region.ready .any ops listed = [i, j]) (ho : ops[i]? = some o) (ho' : ops[j]? = some o') (h : Closed .any ops (listed.setIfInBounds i true) → (listed.setIfInBounds i true).size = ops.size → HL P ops (Exit.then (onward P ops Q W L2 Lp t Ip fuel (listed.setIfInBounds i true)) Q) [o] n ds E W L I)
    (h' : Closed .any ops (listed.setIfInBounds j true) → (listed.setIfInBounds j true).size = ops.size → HL P ops (Exit.then (onward P ops Q W L2 Lp t Ip fuel (listed.setIfInBounds j true)) Q) [o'] n ds E W L I) : HG P ops Q L2 Lp t Ip (fuel + 1) listed n ds E W L I := by
  intro hcl hsz a w ha hw hS
  have h := h (hcl.step (by rw [hr]; simp)) (by simpa using hsz)
  have h' := h' (hcl.step (by rw [hr]; simp)) (by simpa using hsz)
  have key : ∀ (i : Nat) (o : Oper), ops[i]? = some o → HL P ops (Exit.then (onward P ops Q W L2 Lp t Ip fuel (listed.setIfInBounds i true)) Q) [o] n ds E W L I → wpOp P ops Q i (onward P ops Q W L2 Lp t Ip fuel (listed.setIfInBounds i true)) a w := by
    intro i o ho h
    have := h a w ha hw
    unfold wpOp
    simp only [ho]
    unfold wpList at this
    split
    · rename_i hwa
      rw [if_pos hwa] at this
      rcases this with h1 | ⟨h1, h2⟩
      · refine .inl ?_
        unfold Oper.wp at h1 ⊢
        generalize (execOp a.eval o).run P w = r at h1 ⊢
        cases r with
        | ok x w' =>
          cases x <;> simp only [Oper.upon] at h1 ⊢ <;> first
            | exact h1
            | exact h1.mono (fun e w'' he => by cases e <;> exact he)
        | halt x w' => cases x <;> simp only [Oper.upon] at h1 ⊢ <;> exact h1
      · exact .inr ⟨h1, h2⟩
    · rename_i hwa
      rw [if_neg hwa] at this
      exact this
  refine ⟨fun h0 => (by rw [h0] at hr; cases hr), fun k hk => ?_⟩
  rw [hr] at hk
  rcases List.mem_cons.1 hk with rfl | hk
  · exact key _ _ ho h
  · rw [List.mem_singleton] at hk; subst hk; exact key _ _ ho' h'

/-- On to the next one: t has not come up yet. -/
theorem HQ.goOn (hcl : Closed .any ops listed) (hsz : listed.size = ops.size) (ht : listed.getD t false = false) (hL : Lp.Sublist L) (hI : PLe Ip I) (h : HG P ops Q L2 Lp t Ip fuel listed n ds E W L I) : HQ (Exit.then (onward P ops Q W L2 Lp t Ip fuel listed) Q) .normal n ds E W L I :=
  fun a w ha hw => by
    have hS : GS W L2 Lp t Ip listed w := ⟨I, hI, by rw [ht]; exact hw.sublist hL⟩
    exact ⟨hS, h hcl hsz a w ha hw hS⟩
/-- On to the next one: t has come up. -/
theorem HQ.goOn_tail (hcl : Closed .any ops listed) (hsz : listed.size = ops.size) (ht : listed.getD t false = true) (hL : L2.Sublist L) (hI : PLe Ip I) (h : HG P ops Q L2 Lp t Ip fuel listed n ds E W L I) : HQ (Exit.then (onward P ops Q W L2 Lp t Ip fuel listed) Q) .normal n ds E W L I :=
  fun a w ha hw => by
    have hS : GS W L2 Lp t Ip listed w := ⟨I, hI, by rw [ht]; exact hw.sublist hL⟩
    exact ⟨hS, h hcl hsz a w ha hw hS⟩
theorem HG.done (hr : Region.ready .any ops listed = []) (h : HQ Q .normal n ds E W L I) : HG P ops Q L2 Lp t Ip fuel listed n ds E W L I := fun _ _ a w ha hw _ => by
  cases fuel with
  | zero => exact ⟨hr, h a w ha hw⟩
  | succ k => exact ⟨fun _ => h a w ha hw, by rw [hr]; simp⟩

/-- A guarded operation that is run is run as if it had no guard. -/
theorem HL.unguard {op : Op} {j : Nat} {want : Bool} {s : Tmp} {dst : Option Tmp} {rest : List Oper} (hj : (ops[j]?).bind (·.dst) = some s) (hb : look E s = some (.bool want)) (h : HL P ops Q (⟨dst, op, ty, pos, aft, none⟩ :: rest) n ds E W L I) :
    HL P ops Q (⟨dst, op, ty, pos, aft, some (j, want)⟩ :: rest) n ds E W L I := by
  intro a w ha hw
  have := h a w ha hw
  unfold wpList at this ⊢
  rw [if_pos (by simp [Region.wanted])] at this
  rw [if_pos (by simp [Region.wanted, yielded_of hj ha hb])]
  exact this
end
end Go.Rm
