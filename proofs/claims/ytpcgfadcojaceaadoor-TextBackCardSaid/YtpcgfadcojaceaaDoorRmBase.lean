/- What this text holds: a small separation logic over the machine's worlds (own blocks L, unchanging blocks I), whatever the program. -/
import Derived.WalkKit
import Derived.WalkLawsBesides
import Derived.Orders
import Derived.KernelRfl
set_option linter.unusedVariables false
set_option linter.unusedSimpArgs false
set_option linter.unusedSectionVars false
namespace Go.Rm
open Go

/-- Blocks that are not written any more. -/
abbrev PHeap := Nat → Option Obj
abbrev Env := List (Nat × Value)
abbrev Own := List (Nat × Obj)

def PLe (I J : PHeap) : Prop := ∀ b o, I b = some o → J b = some o
theorem PLe.refl (I : PHeap) : PLe I I := fun _ _ h => h
theorem PLe.trans {I J K : PHeap} (h : PLe I J) (k : PLe J K) : PLe I K := fun b o x => k b o (h b o x)

/-- World w (streams as in W) holds the call's own blocks L and the unchanging blocks I. -/
structure Holds (W : World) (L : Own) (I : PHeap) (w : World) : Prop where
  os : w.os = W.os
  tape : w.tape = W.tape
  output : w.output = W.output
  own : ∀ p, p ∈ L → w.heap[p.1]? = some p.2
  imm : ∀ b o, I b = some o → w.heap[b]? = some o
  sep : ∀ p, p ∈ L → I p.1 = none
  nodup : (L.map Prod.fst).Nodup

/-- A block of cells, none of them marked. -/
abbrev blk (c : List Value) (T : TypeId) : Obj := .cells c.toArray T (0, 0)

def look : Env → Nat → Option Value
  | [], _ => none
  | (k, v) :: E, t => bif Nat.beq k t then some v else look E t

theorem look_cons_same (E : Env) (t : Nat) (v : Value) : look ((t, v) :: E) t = some v := by simp [look]
theorem look_cons_ne (E : Env) {k t : Nat} (v : Value) (h : k ≠ t) : look ((k, v) :: E) t = look E t := by
  have : Nat.beq k t = false := by rw [Bool.eq_false_iff]; intro e; exact h (Nat.eq_of_beq_eq_true e)
  simp only [look, this, cond_false]
theorem look_cons {E : Env} {k t : Nat} {u v : Value} (h : look ((k, u) :: E) t = some v) : (k = t ∧ u = v) ∨ (k ≠ t ∧ look E t = some v) := by
  by_cases e : k = t
  · subst e; rw [look_cons_same] at h; exact .inl ⟨rfl, Option.some.inj h⟩
  · rw [look_cons_ne _ _ e] at h; exact .inr ⟨e, h⟩

/-- What is known of a frame. -/
structure Has (n : Nat) (ds : List Deferred) (E : Env) (a : Act) : Prop where
  defers : a.defers = ds
  size : a.tmps.size = n
  at_ : ∀ t v, look E t = some v → a.tmps[t]? = some v

theorem Has.put {n : Nat} {ds : List Deferred} {E : Env} {a : Act} (h : Has n ds E a) {d : Nat} {v : Value} (hd : d < n) : Has n ds ((d, v) :: E) (a.put (some d) v) := by
  refine ⟨h.defers, by simp [Act.put, h.size], fun t u hu => ?_⟩
  simp only [Act.put]
  rcases look_cons hu with ⟨rfl, rfl⟩ | ⟨hne, hl⟩
  · rw [Array.getElem?_setIfInBounds_self, if_pos (by rw [h.size]; exact hd)]
  · rw [Array.getElem?_setIfInBounds_ne hne]; exact h.at_ t u hl

def evalO (E : Env) : Operand → Option Value
  | .tmp t => look E t
  | .const v => some v
  | .func f => some (.func (.func f) #[] #[])
  | .global g => some (.pointer (some ⟨g, 0, none⟩))

theorem Has.eval {n : Nat} {ds : List Deferred} {E : Env} {a : Act} (h : Has n ds E a) {x : Operand} {v : Value} (hx : evalO E x = some v) : a.eval x = v := by
  cases x with
  | tmp t =>
    have := h.at_ t v hx
    simp only [Act.eval, Array.getD_eq_getD_getElem?, this, Option.getD_some]
  | const u => simp only [evalO, Option.some.injEq] at hx; exact hx
  | func f => simp only [evalO, Option.some.injEq] at hx; exact hx
  | global g => simp only [evalO, Option.some.injEq] at hx; exact hx

def SubE : Env → Env → Prop
  | [], _ => True
  | (t, v) :: r, E => look E t = some v ∧ SubE r E

theorem SubE.look : ∀ {E' E : Env}, SubE E' E → ∀ t v, look E' t = some v → look E t = some v
  | [], _, _, _, _, h => by cases h
  | (k, u) :: r, E, hs, t, v, h => by
    rcases look_cons h with ⟨rfl, rfl⟩ | ⟨_, hl⟩
    · exact hs.1
    · exact SubE.look hs.2 t v hl

theorem Has.sub {n : Nat} {ds : List Deferred} {E E' : Env} {a : Act} (h : Has n ds E a) (hs : SubE E' E) : Has n ds E' a :=
  ⟨h.defers, h.size, fun t v hv => h.at_ t v (hs.look t v hv)⟩

theorem Holds.sublist {W : World} {L L' : Own} {I : PHeap} {w : World} (h : Holds W L I w) (hs : L'.Sublist L) : Holds W L' I w :=
  ⟨h.os, h.tape, h.output, fun p hp => h.own p (hs.subset hp), h.imm, fun p hp => h.sep p (hs.subset hp), (hs.map _).nodup h.nodup⟩
theorem Holds.perm {W : World} {L L' : Own} {I : PHeap} {w : World} (h : Holds W L I w) (hs : L.Perm L') : Holds W L' I w :=
  ⟨h.os, h.tape, h.output, fun p hp => h.own p (hs.mem_iff.2 hp), h.imm, fun p hp => h.sep p (hs.mem_iff.2 hp), (hs.map Prod.fst).nodup_iff.1 h.nodup⟩
theorem Holds.le {W : World} {L : Own} {I I' : PHeap} {w : World} (h : Holds W L I w) (hi : PLe I' I) : Holds W L I' w :=
  ⟨h.os, h.tape, h.output, h.own, fun b o hb => h.imm b o (hi b o hb), fun p hp => by
    cases hq : I' p.1 with
    | none => rfl
    | some o => rw [← hi _ _ hq, h.sep p hp], h.nodup⟩
theorem Holds.drew {W : World} {L : Own} {I : PHeap} {w : World} (h : Holds W L I w) (n : Nat) : Holds W L I { w with drawn := n } :=
  ⟨h.os, h.tape, h.output, h.own, h.imm, h.sep, h.nodup⟩

/-- One block goes over to the unchanging ones. -/
def PHeap.set (I : PHeap) (b : Nat) (o : Obj) : PHeap := fun x => if x = b then some o else I x
theorem PHeap.set_same (I : PHeap) (b : Nat) (o : Obj) : I.set b o b = some o := by simp [PHeap.set]
theorem Holds.free {W : World} {L : Own} {I : PHeap} {w : World} {b : Nat} {o : Obj} (h : Holds W ((b, o) :: L) I w) : I b = none := h.sep (b, o) (by simp)
theorem PLe.set {I : PHeap} {b : Nat} (o : Obj) (h : I b = none) : PLe I (I.set b o) := fun x y hx => by
  unfold PHeap.set; split
  · rename_i e; subst e; rw [h] at hx; cases hx
  · exact hx
theorem Holds.freeze {W : World} {L : Own} {I : PHeap} {w : World} {b : Nat} {o : Obj} (h : Holds W ((b, o) :: L) I w) : Holds W L (I.set b o) w := by
  refine ⟨h.os, h.tape, h.output, fun p hp => h.own p (by simp [hp]), fun x y hx => ?_, fun p hp => ?_, by have := h.nodup; simp at this; exact this.2⟩
  · unfold PHeap.set at hx; split at hx
    · rename_i e; subst e; cases hx; exact h.own (x, o) (by simp)
    · exact h.imm x y hx
  · have hn := h.nodup
    simp only [List.map_cons, List.nodup_cons] at hn
    unfold PHeap.set; split
    · rename_i e; exact absurd (List.mem_map.2 ⟨p, hp, e⟩) hn.1
    · exact h.sep p (by simp [hp])

/-- A new block. -/
theorem Holds.alloc {W : World} {L : Own} {I : PHeap} {w : World} (h : Holds W L I w) (o : Obj) : Holds W ((w.heap.size, o) :: L) I { w with heap := w.heap.push o } := by
  have lt : ∀ b x, w.heap[b]? = some x → b < w.heap.size := fun b x hb => by
    rcases Nat.lt_or_ge b w.heap.size with h' | h'
    · exact h'
    · rw [Array.getElem?_eq_none h'] at hb; cases hb
  have old : ∀ b x, w.heap[b]? = some x → (w.heap.push o)[b]? = some x := fun b x hb => by
    rw [Array.getElem?_push, if_neg (by have := lt b x hb; omega)]; exact hb
  refine ⟨h.os, h.tape, h.output, fun p hp => ?_, fun b x hb => old b x (h.imm b x hb), fun p hp => ?_, ?_⟩
  · rcases List.mem_cons.1 hp with rfl | hp
    · simp
    · exact old _ _ (h.own p hp)
  · rcases List.mem_cons.1 hp with rfl | hp
    · cases hq : I w.heap.size with
      | none => rfl
      | some x => have := lt _ _ (h.imm _ _ hq); omega
    · exact h.sep p hp
  · simp only [List.map_cons, List.nodup_cons]
    refine ⟨fun hm => ?_, h.nodup⟩
    obtain ⟨p, hp, e⟩ := List.mem_map.1 hm
    have := lt _ _ (h.own p hp); omega

/-- A store into a block of the call's own. -/
theorem Holds.setAt {W : World} {L : Own} {I : PHeap} {w w' : World} (h : Holds W L I w) {k : Nat} {b : Nat} {o o' : Obj} (hk : L[k]? = some (b, o))
    (hos : w'.os = w.os) (ht : w'.tape = w.tape) (hout : w'.output = w.output) (hb : w'.heap[b]? = some o') (hne : ∀ x, x ≠ b → w'.heap[x]? = w.heap[x]?) : Holds W (L.set k (b, o')) I w' := by
  have hlt : k < L.length := by rcases Nat.lt_or_ge k L.length with h' | h'; exact h'; rw [List.getElem?_eq_none h'] at hk; cases hk
  have hkm : (b, o) ∈ L := List.mem_of_getElem? hk
  have hmap : (L.set k (b, o')).map Prod.fst = L.map Prod.fst := by
    rw [List.map_set]
    apply List.ext_getElem?
    intro i
    rw [List.getElem?_set]
    split
    · rename_i e; subst e
      rw [if_pos (by simpa using hlt), List.getElem?_map, hk]; rfl
    · rfl
  refine ⟨hos.trans h.os, ht.trans h.tape, hout.trans h.output, fun p hp => ?_, fun x y hx => ?_, fun p hp => ?_, by rw [hmap]; exact h.nodup⟩
  · obtain ⟨i, hi⟩ := List.mem_iff_getElem?.1 hp
    rw [List.getElem?_set] at hi
    split at hi
    · rename_i e; subst e
      first | (rw [if_pos hlt] at hi; cases hi; exact hb) | (cases hi; exact hb)
    · rename_i e
      have hpL : p ∈ L := List.mem_of_getElem? hi
      have hpb : p.1 ≠ b := by
        intro heq
        have h1 : (L.map Prod.fst)[k]? = some b := by rw [List.getElem?_map, hk]; rfl
        have h2 : (L.map Prod.fst)[i]? = some b := by rw [List.getElem?_map, hi]; simp [heq]
        have hil : i < (L.map Prod.fst).length := by rcases Nat.lt_or_ge i (L.map Prod.fst).length with h' | h'; exact h'; rw [List.getElem?_eq_none h'] at h2; cases h2
        have hkl : k < (L.map Prod.fst).length := by simpa using hlt
        have := (List.getElem_inj (h₀ := hil) (h₁ := hkl) h.nodup).1 (by
          have a1 := List.getElem?_eq_getElem hil; have a2 := List.getElem?_eq_getElem hkl
          rw [h2] at a1; rw [h1] at a2
          exact (Option.some.inj a1).symm.trans (Option.some.inj a2))
        exact e this.symm
      rw [hne _ hpb]; exact h.own p hpL
  · have hxb : x ≠ b := fun e => by subst e; rw [h.sep (x, o) hkm] at hx; cases hx
    rw [hne _ hxb]; exact h.imm x y hx
  · obtain ⟨i, hi⟩ := List.mem_iff_getElem?.1 hp
    rw [List.getElem?_set] at hi
    split at hi
    · rename_i e; subst e
      first | (rw [if_pos hlt] at hi; cases hi; exact h.sep (b, o) hkm) | (cases hi; exact h.sep (b, o) hkm)
    · exact h.sep p (List.mem_of_getElem? hi)

/-! ## Judgements -/
section
variable (P : Program) (ops : Array Oper) (Q : Exit → Act → World → Prop)
def HC (c : Code) (n : Nat) (ds : List Deferred) (E : Env) (W : World) (L : Own) (I : PHeap) : Prop := ∀ a w, Has n ds E a → Holds W L I w → c.wp P Q a w
def HL (l : List Oper) (n : Nat) (ds : List Deferred) (E : Env) (W : World) (L : Own) (I : PHeap) : Prop := ∀ a w, Has n ds E a → Holds W L I w → wpList P ops Q l a w
def HQ (Q : Exit → Act → World → Prop) (e : Exit) (n : Nat) (ds : List Deferred) (E : Env) (W : World) (L : Own) (I : PHeap) : Prop := ∀ a w, Has n ds E a → Holds W L I w → Q e a w
end

section
variable {P : Program} {ops : Array Oper} {Q : Exit → Act → World → Prop} {n : Nat} {ds : List Deferred} {E : Env} {W : World} {L : Own} {I : PHeap} {c x y rest : Code} {l : List Oper}

theorem HC.seq (h : HC P (Exit.then (rest.wp P Q) Q) c n ds E W L I) : HC P Q (.seq c rest) n ds E W L I := fun a w ha hw => wp_seq (h a w ha hw)
theorem HC.block {id : Nat} (h : HC P (Exit.inBlock id Q) c n ds E W L I) : HC P Q (.block id c) n ds E W L I := fun a w ha hw => wp_block (h a w ha hw)
theorem HC.skip (h : HQ Q .normal n ds E W L I) : HC P Q .skip n ds E W L I := fun a w ha hw => wp_skip (h a w ha hw)
theorem HC.exit {id : Nat} (h : HQ Q (.exit id) n ds E W L I) : HC P Q (.exit id) n ds E W L I := fun a w ha hw => wp_exit (h a w ha hw)
theorem HC.ret (h : HQ Q .ret n ds E W L I) : HC P Q .ret n ds E W L I := fun a w ha hw => wp_ret (h a w ha hw)
theorem HC.region {id : Nat} (h : HL P l.toArray Q l n ds E W L I) : HC P Q (.region id l.toArray false) n ds E W L I := fun a w ha hw => wp_region_lit (h a w ha hw)
theorem HC.cond {t : Operand} {b : Bool} (he : evalO E t = some (.bool b)) (ht : b = true → HC P Q x n ds E W L I) (hf : b = false → HC P Q y n ds E W L I) : HC P Q (.cond t x y) n ds E W L I :=
  fun a w ha hw => wp_cond_split (ha.eval he) (fun e => ht e a w ha hw) (fun e => hf e a w ha hw)
theorem HC.cond_true {t : Operand} (he : evalO E t = some (.bool true)) (ht : HC P Q x n ds E W L I) : HC P Q (.cond t x y) n ds E W L I :=
  fun a w ha hw => wp_cond_true (ha.eval he) (ht a w ha hw)
theorem HC.cond_false {t : Operand} (he : evalO E t = some (.bool false)) (hf : HC P Q y n ds E W L I) : HC P Q (.cond t x y) n ds E W L I :=
  fun a w ha hw => wp_cond_false (ha.eval he) (hf a w ha hw)
theorem HL.nil (h : HQ Q .normal n ds E W L I) : HL P ops Q [] n ds E W L I := fun a w ha hw => wpList_nil (h a w ha hw)
theorem HQ.next (h : HC P Q rest n ds E W L I) : HQ (Exit.then (rest.wp P Q) Q) .normal n ds E W L I := h
theorem HQ.then_exit {K : Act → World → Prop} {id : Nat} (h : HQ Q (.exit id) n ds E W L I) : HQ (Exit.then K Q) (.exit id) n ds E W L I := h
theorem HQ.then_ret {K : Act → World → Prop} (h : HQ Q .ret n ds E W L I) : HQ (Exit.then K Q) .ret n ds E W L I := h
theorem HQ.then_panic {K : Act → World → Prop} {ch : List PanicEntry} (h : HQ Q (.panic ch) n ds E W L I) : HQ (Exit.then K Q) (.panic ch) n ds E W L I := h
theorem HQ.inb_exit {id : Nat} (h : HQ Q .normal n ds E W L I) : HQ (Exit.inBlock id Q) (.exit id) n ds E W L I := fun a w ha hw => by
  simp only [Exit.inBlock, if_true]; exact h a w ha hw
theorem HQ.inb_exit_ne {id id' : Nat} (hne : Nat.beq id' id = false) (h : HQ Q (.exit id') n ds E W L I) : HQ (Exit.inBlock id Q) (.exit id') n ds E W L I := fun a w ha hw => by
  have : id' ≠ id := fun e => by subst e; simp at hne
  simp only [Exit.inBlock, this, if_false]; exact h a w ha hw
theorem HQ.inb_normal {id : Nat} (h : HQ Q .normal n ds E W L I) : HQ (Exit.inBlock id Q) .normal n ds E W L I := h
theorem HQ.inb_ret {id : Nat} (h : HQ Q .ret n ds E W L I) : HQ (Exit.inBlock id Q) .ret n ds E W L I := h
theorem HQ.inb_panic {id : Nat} {ch : List PanicEntry} (h : HQ Q (.panic ch) n ds E W L I) : HQ (Exit.inBlock id Q) (.panic ch) n ds E W L I := h

theorem HC.sub {E' : Env} (hs : SubE E' E) (h : HC P Q c n ds E' W L I) : HC P Q c n ds E W L I := fun a w ha hw => h a w (ha.sub hs) hw
theorem HQ.sub {e : Exit} {E' : Env} (hs : SubE E' E) (h : HQ Q e n ds E' W L I) : HQ Q e n ds E W L I := fun a w ha hw => h a w (ha.sub hs) hw
theorem HC.own {L' : Own} (hs : L'.Sublist L) (h : HC P Q c n ds E W L' I) : HC P Q c n ds E W L I := fun a w ha hw => h a w ha (hw.sublist hs)
theorem HC.perm {L' : Own} (hs : L.Perm L') (h : HC P Q c n ds E W L' I) : HC P Q c n ds E W L I := fun a w ha hw => h a w ha (hw.perm hs)
theorem HL.perm {L' : Own} (hs : L.Perm L') (h : HL P ops Q l n ds E W L' I) : HL P ops Q l n ds E W L I := fun a w ha hw => h a w ha (hw.perm hs)
theorem HL.own {L' : Own} (hs : L'.Sublist L) (h : HL P ops Q l n ds E W L' I) : HL P ops Q l n ds E W L I := fun a w ha hw => h a w ha (hw.sublist hs)
theorem HC.ownEq {L' : Own} (e : L = L') (h : HC P Q c n ds E W L' I) : HC P Q c n ds E W L I := e ▸ h
theorem HL.ownEq {L' : Own} (e : L = L') (h : HL P ops Q l n ds E W L' I) : HL P ops Q l n ds E W L I := e ▸ h
theorem HQ.own {e : Exit} {L' : Own} (hs : L'.Sublist L) (h : HQ Q e n ds E W L' I) : HQ Q e n ds E W L I := fun a w ha hw => h a w ha (hw.sublist hs)
theorem HQ.perm {e : Exit} {L' : Own} (hs : L.Perm L') (h : HQ Q e n ds E W L' I) : HQ Q e n ds E W L I := fun a w ha hw => h a w ha (hw.perm hs)
theorem HC.le {I' : PHeap} (hi : PLe I' I) (h : HC P Q c n ds E W L I') : HC P Q c n ds E W L I := fun a w ha hw => h a w ha (hw.le hi)
theorem HC.freeze {b : Nat} {o : Obj} (h : I b = none → HC P Q c n ds E W L (I.set b o)) : HC P Q c n ds E W ((b, o) :: L) I := fun a w ha hw => h hw.free a w ha hw.freeze
theorem HL.freeze {b : Nat} {o : Obj} (h : I b = none → HL P ops Q l n ds E W L (I.set b o)) : HL P ops Q l n ds E W ((b, o) :: L) I := fun a w ha hw => h hw.free a w ha hw.freeze

theorem least (p : Nat → Prop) (h : ∃ k, p k) : ∃ k, p k ∧ ∀ j, p j → k ≤ j := by
  obtain ⟨k, hk⟩ := h
  induction k using Nat.strongRecOn with
  | _ k ih =>
    by_cases hx : ∃ j, j < k ∧ p j
    · obtain ⟨j, hj, hp⟩ := hx; exact ih j hj hp
    · exact ⟨k, hk, fun j hp => by rcases Nat.lt_or_ge j k with h' | h'; exact absurd ⟨j, h', hp⟩ hx; exact h'⟩

/-- A loop: a family of states, and a measure. -/
theorem HC.loop {α : Type} (m : α → Nat) (C : α → Prop) (Ef : α → Env) (Lf : α → Own) (If : α → PHeap) (x₀ : α) (h₀ : C x₀)
    (round : ∀ x, C x → HC P (Exit.then (fun a' w' => ∃ x', C x' ∧ m x' < m x ∧ Has n ds (Ef x') a' ∧ Holds W (Lf x') (If x') w') Q) c n ds (Ef x) W (Lf x) (If x)) :
    HC P Q (.loop c) n ds (Ef x₀) W (Lf x₀) (If x₀) := by
  intro a w ha hw
  classical
  let S : Act → World → Nat → Prop := fun a w k => ∃ x, C x ∧ m x = k ∧ Has n ds (Ef x) a ∧ Holds W (Lf x) (If x) w
  refine wp_loop (fun a w => ∃ k, S a w k) (fun a w => if h : ∃ k, S a w k then Classical.choose (least _ h) else 0) ⟨_, x₀, h₀, rfl, ha, hw⟩ fun a w hI => ?_
  simp only [dif_pos hI]
  obtain ⟨x, hC, hm, hA, hH⟩ := (Classical.choose_spec (least _ hI)).1
  refine wp_mono (round x hC a w hA hH) fun e a' w' q => ?_
  cases e <;> try exact q
  obtain ⟨x', hC', hlt, hA', hH'⟩ := q
  have hex : ∃ k, S a' w' k := ⟨_, x', hC', rfl, hA', hH'⟩
  refine ⟨hex, ?_⟩
  simp only [dif_pos hex]
  have := (Classical.choose_spec (least _ hex)).2 (m x') ⟨x', hC', rfl, hA', hH'⟩
  omega
/-- What stands between two pieces of code: a family of states. -/
theorem HC.seq_mid {α : Type} (C : α → Prop) (Ef : α → Env) (Lf : α → Own) (If : α → PHeap) (h : HC P (Exit.then (fun a' w' => ∃ x', C x' ∧ Has n ds (Ef x') a' ∧ Holds W (Lf x') (If x') w') Q) c n ds E W L I) (h' : ∀ x, C x → HC P Q rest n ds (Ef x) W (Lf x) (If x)) : HC P Q (.seq c rest) n ds E W L I := by
  intro a w ha hw
  refine wp_seq (wp_mono (h a w ha hw) fun e a' w' q => ?_)
  cases e <;> try exact q
  obtain ⟨x, hC, hA, hH⟩ := q
  exact h' x hC a' w' hA hH
theorem HQ.mid {α : Type} {C : α → Prop} {Ef : α → Env} {Lf : α → Own} {If : α → PHeap} (x' : α) (hC : C x') (hE : SubE (Ef x') E) (hL : (Lf x').Sublist L) (hI : PLe (If x') I) :
    HQ (Exit.then (fun a' w' => ∃ x', C x' ∧ Has n ds (Ef x') a' ∧ Holds W (Lf x') (If x') w') Q) .normal n ds E W L I :=
  fun _ _ ha hw => ⟨x', hC, ha.sub hE, (hw.sublist hL).le hI⟩
theorem HQ.again {α : Type} {m : α → Nat} {C : α → Prop} {Ef : α → Env} {Lf : α → Own} {If : α → PHeap} {k : Nat} (x' : α) (hC : C x') (hm : m x' < k) (hE : SubE (Ef x') E) (hL : (Lf x').Sublist L) (hI : PLe (If x') I) :
    HQ (Exit.then (fun a' w' => ∃ x', C x' ∧ m x' < k ∧ Has n ds (Ef x') a' ∧ Holds W (Lf x') (If x') w') Q) .normal n ds E W L I :=
  fun _ _ ha hw => ⟨x', hC, hm, ha.sub hE, (hw.sublist hL).le hI⟩

theorem HC.loop2 {α β : Type} (m : α → β → Nat) (C : α → β → Prop) (Ef : α → β → Env) (Lf : α → β → Own) (If : α → β → PHeap) (x₀ : α) (y₀ : β) (h₀ : C x₀ y₀)
    (round : ∀ x y, C x y → HC P (Exit.then (fun a' w' => ∃ x' : α × β, C x'.1 x'.2 ∧ m x'.1 x'.2 < m x y ∧ Has n ds (Ef x'.1 x'.2) a' ∧ Holds W (Lf x'.1 x'.2) (If x'.1 x'.2) w') Q) c n ds (Ef x y) W (Lf x y) (If x y)) :
    HC P Q (.loop c) n ds (Ef x₀ y₀) W (Lf x₀ y₀) (If x₀ y₀) :=
  HC.loop (α := α × β) (fun X => m X.1 X.2) (fun X => C X.1 X.2) (fun X => Ef X.1 X.2) (fun X => Lf X.1 X.2) (fun X => If X.1 X.2) (x₀, y₀) h₀ (fun X hX => round X.1 X.2 hX)
theorem HQ.again2 {α β : Type} {m : α → β → Nat} {C : α → β → Prop} {Ef : α → β → Env} {Lf : α → β → Own} {If : α → β → PHeap} {N : Nat} (x' : α) (y' : β) (hC : C x' y') (hm : m x' y' < N) (hE : SubE (Ef x' y') E) (hL : (Lf x' y').Sublist L) (hI : PLe (If x' y') I) :
    HQ (Exit.then (fun a' w' => ∃ x' : α × β, C x'.1 x'.2 ∧ m x'.1 x'.2 < N ∧ Has n ds (Ef x'.1 x'.2) a' ∧ Holds W (Lf x'.1 x'.2) (If x'.1 x'.2) w') Q) .normal n ds E W L I :=
  fun _ _ ha hw => ⟨(x', y'), hC, hm, ha.sub hE, (hw.sublist hL).le hI⟩
theorem HC.seq_mid2 {α β : Type} (C : α → β → Prop) (Ef : α → β → Env) (Lf : α → β → Own) (If : α → β → PHeap) (h : HC P (Exit.then (fun a' w' => ∃ x' : α × β, C x'.1 x'.2 ∧ Has n ds (Ef x'.1 x'.2) a' ∧ Holds W (Lf x'.1 x'.2) (If x'.1 x'.2) w') Q) c n ds E W L I) (h' : ∀ x y, C x y → HC P Q rest n ds (Ef x y) W (Lf x y) (If x y)) : HC P Q (.seq c rest) n ds E W L I :=
  HC.seq_mid (α := α × β) (fun X => C X.1 X.2) (fun X => Ef X.1 X.2) (fun X => Lf X.1 X.2) (fun X => If X.1 X.2) h (fun X hX => h' X.1 X.2 hX)
theorem HQ.mid2 {α β : Type} {C : α → β → Prop} {Ef : α → β → Env} {Lf : α → β → Own} {If : α → β → PHeap} (x' : α) (y' : β) (hC : C x' y') (hE : SubE (Ef x' y') E) (hL : (Lf x' y').Sublist L) (hI : PLe (If x' y') I) :
    HQ (Exit.then (fun a' w' => ∃ x' : α × β, C x'.1 x'.2 ∧ Has n ds (Ef x'.1 x'.2) a' ∧ Holds W (Lf x'.1 x'.2) (If x'.1 x'.2) w') Q) .normal n ds E W L I :=
  fun _ _ ha hw => ⟨(x', y'), hC, ha.sub hE, (hw.sublist hL).le hI⟩

theorem HC.loop3 {α β γ : Type} (m : α → β → γ → Nat) (C : α → β → γ → Prop) (Ef : α → β → γ → Env) (Lf : α → β → γ → Own) (If : α → β → γ → PHeap) (x₀ : α) (y₀ : β) (z₀ : γ) (h₀ : C x₀ y₀ z₀)
    (round : ∀ x y z, C x y z → HC P (Exit.then (fun a' w' => ∃ x' : α × β × γ, C x'.1 x'.2.1 x'.2.2 ∧ m x'.1 x'.2.1 x'.2.2 < m x y z ∧ Has n ds (Ef x'.1 x'.2.1 x'.2.2) a' ∧ Holds W (Lf x'.1 x'.2.1 x'.2.2) (If x'.1 x'.2.1 x'.2.2) w') Q) c n ds (Ef x y z) W (Lf x y z) (If x y z)) :
    HC P Q (.loop c) n ds (Ef x₀ y₀ z₀) W (Lf x₀ y₀ z₀) (If x₀ y₀ z₀) :=
  HC.loop (α := α × β × γ) (fun X => m X.1 X.2.1 X.2.2) (fun X => C X.1 X.2.1 X.2.2) (fun X => Ef X.1 X.2.1 X.2.2) (fun X => Lf X.1 X.2.1 X.2.2) (fun X => If X.1 X.2.1 X.2.2) (x₀, y₀, z₀) h₀ (fun X hX => round X.1 X.2.1 X.2.2 hX)
theorem HQ.again3 {α β γ : Type} {m : α → β → γ → Nat} {C : α → β → γ → Prop} {Ef : α → β → γ → Env} {Lf : α → β → γ → Own} {If : α → β → γ → PHeap} {N : Nat} (x' : α) (y' : β) (z' : γ) (hC : C x' y' z') (hm : m x' y' z' < N) (hE : SubE (Ef x' y' z') E) (hL : (Lf x' y' z').Sublist L) (hI : PLe (If x' y' z') I) :
    HQ (Exit.then (fun a' w' => ∃ x' : α × β × γ, C x'.1 x'.2.1 x'.2.2 ∧ m x'.1 x'.2.1 x'.2.2 < N ∧ Has n ds (Ef x'.1 x'.2.1 x'.2.2) a' ∧ Holds W (Lf x'.1 x'.2.1 x'.2.2) (If x'.1 x'.2.1 x'.2.2) w') Q) .normal n ds E W L I :=
  fun _ _ ha hw => ⟨(x', y', z'), hC, hm, ha.sub hE, (hw.sublist hL).le hI⟩
theorem HC.seq_mid3 {α β γ : Type} (C : α → β → γ → Prop) (Ef : α → β → γ → Env) (Lf : α → β → γ → Own) (If : α → β → γ → PHeap) (h : HC P (Exit.then (fun a' w' => ∃ x' : α × β × γ, C x'.1 x'.2.1 x'.2.2 ∧ Has n ds (Ef x'.1 x'.2.1 x'.2.2) a' ∧ Holds W (Lf x'.1 x'.2.1 x'.2.2) (If x'.1 x'.2.1 x'.2.2) w') Q) c n ds E W L I) (h' : ∀ x y z, C x y z → HC P Q rest n ds (Ef x y z) W (Lf x y z) (If x y z)) : HC P Q (.seq c rest) n ds E W L I :=
  HC.seq_mid (α := α × β × γ) (fun X => C X.1 X.2.1 X.2.2) (fun X => Ef X.1 X.2.1 X.2.2) (fun X => Lf X.1 X.2.1 X.2.2) (fun X => If X.1 X.2.1 X.2.2) h (fun X hX => h' X.1 X.2.1 X.2.2 hX)
theorem HQ.mid3 {α β γ : Type} {C : α → β → γ → Prop} {Ef : α → β → γ → Env} {Lf : α → β → γ → Own} {If : α → β → γ → PHeap} (x' : α) (y' : β) (z' : γ) (hC : C x' y' z') (hE : SubE (Ef x' y' z') E) (hL : (Lf x' y' z').Sublist L) (hI : PLe (If x' y' z') I) :
    HQ (Exit.then (fun a' w' => ∃ x' : α × β × γ, C x'.1 x'.2.1 x'.2.2 ∧ Has n ds (Ef x'.1 x'.2.1 x'.2.2) a' ∧ Holds W (Lf x'.1 x'.2.1 x'.2.2) (If x'.1 x'.2.1 x'.2.2) w') Q) .normal n ds E W L I :=
  fun _ _ ha hw => ⟨(x', y', z'), hC, ha.sub hE, (hw.sublist hL).le hI⟩

theorem HC.loop4 {α β γ δ : Type} (m : α → β → γ → δ → Nat) (C : α → β → γ → δ → Prop) (Ef : α → β → γ → δ → Env) (Lf : α → β → γ → δ → Own) (If : α → β → γ → δ → PHeap) (x₀ : α) (y₀ : β) (z₀ : γ) (u₀ : δ) (h₀ : C x₀ y₀ z₀ u₀)
    (round : ∀ x y z u, C x y z u → HC P (Exit.then (fun a' w' => ∃ x' : α × β × γ × δ, C x'.1 x'.2.1 x'.2.2.1 x'.2.2.2 ∧ m x'.1 x'.2.1 x'.2.2.1 x'.2.2.2 < m x y z u ∧ Has n ds (Ef x'.1 x'.2.1 x'.2.2.1 x'.2.2.2) a' ∧ Holds W (Lf x'.1 x'.2.1 x'.2.2.1 x'.2.2.2) (If x'.1 x'.2.1 x'.2.2.1 x'.2.2.2) w') Q) c n ds (Ef x y z u) W (Lf x y z u) (If x y z u)) :
    HC P Q (.loop c) n ds (Ef x₀ y₀ z₀ u₀) W (Lf x₀ y₀ z₀ u₀) (If x₀ y₀ z₀ u₀) :=
  HC.loop (α := α × β × γ × δ) (fun X => m X.1 X.2.1 X.2.2.1 X.2.2.2) (fun X => C X.1 X.2.1 X.2.2.1 X.2.2.2) (fun X => Ef X.1 X.2.1 X.2.2.1 X.2.2.2) (fun X => Lf X.1 X.2.1 X.2.2.1 X.2.2.2) (fun X => If X.1 X.2.1 X.2.2.1 X.2.2.2) (x₀, y₀, z₀, u₀) h₀ (fun X hX => round X.1 X.2.1 X.2.2.1 X.2.2.2 hX)
theorem HQ.again4 {α β γ δ : Type} {m : α → β → γ → δ → Nat} {C : α → β → γ → δ → Prop} {Ef : α → β → γ → δ → Env} {Lf : α → β → γ → δ → Own} {If : α → β → γ → δ → PHeap} {N : Nat} (x' : α) (y' : β) (z' : γ) (u' : δ) (hC : C x' y' z' u') (hm : m x' y' z' u' < N) (hE : SubE (Ef x' y' z' u') E) (hL : (Lf x' y' z' u').Sublist L) (hI : PLe (If x' y' z' u') I) :
    HQ (Exit.then (fun a' w' => ∃ x' : α × β × γ × δ, C x'.1 x'.2.1 x'.2.2.1 x'.2.2.2 ∧ m x'.1 x'.2.1 x'.2.2.1 x'.2.2.2 < N ∧ Has n ds (Ef x'.1 x'.2.1 x'.2.2.1 x'.2.2.2) a' ∧ Holds W (Lf x'.1 x'.2.1 x'.2.2.1 x'.2.2.2) (If x'.1 x'.2.1 x'.2.2.1 x'.2.2.2) w') Q) .normal n ds E W L I :=
  fun _ _ ha hw => ⟨(x', y', z', u'), hC, hm, ha.sub hE, (hw.sublist hL).le hI⟩
theorem HC.seq_mid4 {α β γ δ : Type} (C : α → β → γ → δ → Prop) (Ef : α → β → γ → δ → Env) (Lf : α → β → γ → δ → Own) (If : α → β → γ → δ → PHeap) (h : HC P (Exit.then (fun a' w' => ∃ x' : α × β × γ × δ, C x'.1 x'.2.1 x'.2.2.1 x'.2.2.2 ∧ Has n ds (Ef x'.1 x'.2.1 x'.2.2.1 x'.2.2.2) a' ∧ Holds W (Lf x'.1 x'.2.1 x'.2.2.1 x'.2.2.2) (If x'.1 x'.2.1 x'.2.2.1 x'.2.2.2) w') Q) c n ds E W L I) (h' : ∀ x y z u, C x y z u → HC P Q rest n ds (Ef x y z u) W (Lf x y z u) (If x y z u)) : HC P Q (.seq c rest) n ds E W L I :=
  HC.seq_mid (α := α × β × γ × δ) (fun X => C X.1 X.2.1 X.2.2.1 X.2.2.2) (fun X => Ef X.1 X.2.1 X.2.2.1 X.2.2.2) (fun X => Lf X.1 X.2.1 X.2.2.1 X.2.2.2) (fun X => If X.1 X.2.1 X.2.2.1 X.2.2.2) h (fun X hX => h' X.1 X.2.1 X.2.2.1 X.2.2.2 hX)
theorem HQ.mid4 {α β γ δ : Type} {C : α → β → γ → δ → Prop} {Ef : α → β → γ → δ → Env} {Lf : α → β → γ → δ → Own} {If : α → β → γ → δ → PHeap} (x' : α) (y' : β) (z' : γ) (u' : δ) (hC : C x' y' z' u') (hE : SubE (Ef x' y' z' u') E) (hL : (Lf x' y' z' u').Sublist L) (hI : PLe (If x' y' z' u') I) :
    HQ (Exit.then (fun a' w' => ∃ x' : α × β × γ × δ, C x'.1 x'.2.1 x'.2.2.1 x'.2.2.2 ∧ Has n ds (Ef x'.1 x'.2.1 x'.2.2.1 x'.2.2.2) a' ∧ Holds W (Lf x'.1 x'.2.1 x'.2.2.1 x'.2.2.2) (If x'.1 x'.2.1 x'.2.2.1 x'.2.2.2) w') Q) .normal n ds E W L I :=
  fun _ _ ha hw => ⟨(x', y', z', u'), hC, ha.sub hE, (hw.sublist hL).le hI⟩
end

end Go.Rm
