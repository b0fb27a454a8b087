/- What this text holds: from a contract of my separation logic to what a row of a law asks, whatever the program. -/
import Derived.Test.YtpcgfadcojaceaaDoorRmData
import Derived.WalkKit
import Derived.ProofKit
import Derived.OpenShut
import Derived.Deep.DeepHandedRow
import Derived.LaidLaws
import Derived.FnData
import Derived.SizedLaws
set_option linter.unusedVariables false
set_option linter.unusedSimpArgs false
set_option linter.unusedSectionVars false
namespace Go.Rm
open Go Go.ChangeShapes Go.WideShapes Go.ChangeAt Go.RowKit

/-- The blocks of a world. -/
abbrev blocksOf (W : World) : PHeap := fun b => W.heap[b]?
theorem holds_self (W : World) : Holds W [] (blocksOf W) W := ⟨rfl, rfl, rfl, fun _ h => by simp at h, fun _ _ h => h, fun _ h => by simp at h, by simp⟩
theorem Holds.below_self {W w : World} {L : Own} {I : PHeap} (h : Holds W L I w) (hi : PLe (blocksOf W) I) : Below W.heap.size W w := by
  have hb : ∀ b o, W.heap[b]? = some o → w.heap[b]? = some o := fun b o hb => h.imm b o (hi b o hb)
  refine ⟨h.os, h.tape, h.output, ?_, fun k hk => ?_⟩
  · rcases Nat.eq_zero_or_pos W.heap.size with h0 | h0
    · omega
    · obtain ⟨o, ho⟩ : ∃ o, W.heap[W.heap.size - 1]? = some o := ⟨W.heap[W.heap.size - 1]'(by omega), Array.getElem?_eq_getElem _⟩
      have h1 := hb _ _ ho
      rcases Nat.lt_or_ge (W.heap.size - 1) w.heap.size with h' | h'
      · omega
      · rw [Array.getElem?_eq_none h'] at h1; cases h1
  · obtain ⟨o, ho⟩ : ∃ o, W.heap[k]? = some o := ⟨W.heap[k], Array.getElem?_eq_getElem _⟩
    rw [ho]; exact hb k o ho
/-- What a call by a contract does to the caller's world. -/
theorem Pure.row {P : Program} {f : FuncId} {args : List Value} {W : World} {v : Value} (h : Pure P f args (blocksOf W) (fun r _ => r = v)) : Calls P f args.toArray W fun e w' => e = .returned v ∧ Below W.heap.size W w' :=
  (h W [] W (holds_self W)).mono fun e w' ⟨L', I', hi, hh, u, he, hL, hu⟩ => ⟨by rw [he, hu], hh.below_self hi⟩

theorem cellsI_of_cell {W : World} {g off : Nat} {v : Value} (h : W.cell? ⟨g, off, none⟩ = some v) : CellsI (blocksOf W) g off [v] := by
  unfold World.cell? at h
  simp only at h
  cases hb : W.heap[g]? with
  | none => rw [hb] at h; simp at h
  | some o =>
    rw [hb] at h
    cases o with
    | cells c T fr =>
      refine ⟨c, T, fr, hb, fun i u hu => ?_⟩
      cases i with
      | zero =>
        simp only [List.getElem?_cons_zero, Option.some.injEq] at hu
        subst hu
        simpa using h
      | succ i => simp at hu
    | _ => simp at h

section
variable {H : Type} {enc : TypeId × Value → H} {P : Program}
theorem post_of_below {f : Func} {s : ChangeSpec} {apart fresh handsOn again : Bool} {W W' : World} {args : Array Value} {v : Value} {ds gs : List (DataW H)} {before pa pv : List MemPlace}
    (hW : DataW.Whole enc P f.params.toList s.vars apart W args.toList ds gs before)
    (hres : ∀ (b : Nat) (sp : Nat → Bool) (hd : Bool), DataW.TrodAll enc P W' b sp hd f.resultTypes.toList (v.resultList f.resultTypes.size) (s.fn H (ds ++ gs)).results [])
    (hargs : ∀ sp : Nat → Bool, (∀ p ∈ before, sp p.block = true) → DataW.TrodAll enc P W' 0 sp true f.params.toList args.toList (s.fn H (ds ++ gs)).args pa)
    (hvars : ∀ sp : Nat → Bool, (∀ p ∈ before, sp p.block = true) → DataW.TrodVars enc P W' sp s.vars (s.fn H (ds ++ gs)).vars pv)
    (hps : before = pa ++ pv) (hb : Below W.heap.size W W')
    (hok : ∀ (j : Nat) (t : TypeId) (r : Value), f.resultTypes[j]? = some t → (v.resultList f.resultTypes.size)[j]? = some r → Value.okWide P W' .any 0 t r) :
    s.post enc P f apart fresh handsOn again W args v W' := by
  have hold : ∀ p ∈ before, (fun b => decide (b < W.heap.size)) p.block = true := fun p hp => by simpa using hW.lt p hp
  refine ⟨ds, gs, before, [], pa, pv, hW, hres _ _ _, hargs _ hold, hvars _ hold, World.keptBut_mono (fun p hp => ⟨hp, ?_⟩) (hb.frame (· ∈ before)), fun _ => ?_⟩
  · rw [hps, List.mem_append] at hp
    exact Or.inr hp
  · have hlt := fun p hp => hW.lt p hp
    obtain ⟨_, _, _, _, _, hz, hn⟩ := hW
    refine ⟨hok, _, _, ([] ++ pa) ++ pv, ⟨[] ++ pa, pv, trodAll_append (hargs _ (fun _ _ => rfl)) (hres _ _ _), hvars _ (fun _ _ => rfl), rfl, ?_, ?_⟩, ?_⟩
    · intro b off hp
      have hp' : MemPlace.cell b off ∈ before := by rw [hps]; simpa using hp
      rw [hb.frozen (p := ⟨b, off, none⟩) (hlt _ hp')]
      exact hz b off hp'
    · intro ha
      have := hn ha
      rw [hps] at this
      simpa using this
    · intro p hp _
      rw [hps]
      simpa using hp

/-- A listed variable of an interface type that is laid with a value. -/
theorem laid_iface {W : World} : ∀ {laid : List (String × DataW Unit)} {ps : List MemPlace}, DataW.LaidVars P W laid ps → ∀ {n name : String} {d : DataW Unit}, (n, DataW.iface name d) ∈ laid →
    ∀ {g : Nat} {t : TypeId} {ms : Array (String × TypeId)}, P.globalNamed n = some g → (P.globals[g]?).map (·.type) = some t → P.underlying t = some (.interface ms) → ∃ u v, W.cell? ⟨g, 0, none⟩ = some (.iface u v)
  | [], _, _, _, _, _, hm => by simp at hm
  | (n0, d0) :: r, ps, h, n, name, d, hm => by
    intro hg ht hu
    obtain ⟨g', t', cs, fuel, p, q, hg', ht', hv, hd, hr, _⟩ := h
    rcases List.mem_cons.1 hm with he | hm
    · cases he
      obtain rfl := Option.some.inj (hg.symm.trans hg')
      obtain rfl := Option.some.inj (ht.symm.trans ht')
      obtain ⟨_, u, v, hcs, _⟩ := iface_of_trod hu hd
      have := World.var?_cell hg hv 0
      refine ⟨u, v, this.trans ?_⟩
      have h0 : cs.toList[0]? = some (.iface u v) := by rw [hcs]; rfl
      simpa using h0
    · exact laid_iface hr hm hg ht hu
end
end Go.Rm
