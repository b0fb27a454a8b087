/- What this text holds: strconv.Atoi and strconv.Itoa as contracts of my separation logic, out of the shelf's; comparisons with nil. -/
import Derived.Test.YtpcgfadcojaceaaDoorRmText1
import Derived.Test.YtpcgfadcojaceaaDoorRmRow
import Derived.Test.YtpcgfadcojaceaaDoorRmFacts
import Derived.Test.YtpcgfadcojaceaaDoorShelf
import Derived.Lib.SmallJoins
set_option linter.unusedVariables false
set_option linter.unusedSimpArgs false
set_option linter.unusedSectionVars false
namespace Go.Rm
open Go Go.Proofs Go.RowKit

theorem Holds.below {W : World} {L : Own} {I : PHeap} {w w' : World} (h : Holds W L I w) (hb : Below w.heap.size w w') : Holds W L I w' := by
  have lt : ∀ b (x : Obj), w.heap[b]? = some x → b < w.heap.size := fun b x hx => by
    rcases Nat.lt_or_ge b w.heap.size with h' | h'
    · exact h'
    · rw [Array.getElem?_eq_none h'] at hx; cases hx
  exact ⟨hb.os.trans h.os, hb.tape.trans h.tape, hb.output.trans h.output, fun p hp => by rw [hb.block _ (lt _ _ (h.own p hp))]; exact h.own p hp,
    fun b o hi => by rw [hb.block _ (lt _ _ (h.imm b o hi))]; exact h.imm b o hi, h.sep, h.nodup⟩
theorem Pure.of_calls {P : Program} {f : FuncId} {args : List Value} {I : PHeap} {post : Value → Prop} (h : ∀ w, (∀ b off cs, CellsI I b off cs → ∀ j v, cs[j]? = some v → w.cell? ⟨b, off + j, none⟩ = some v) → Calls P f args.toArray w fun e w' => ∃ v, e = .returned v ∧ Below w.heap.size w w' ∧ post v) :
    Pure P f args I (fun v _ => post v) := fun W Lf w hw => (h w (fun b off cs hc j v hv => cellI hw hc hv)).mono fun e w' ⟨v, he, hb, hp⟩ => ⟨[], I, PLe.refl _, hw.below hb, v, he, rfl, hp⟩

section
variable {P : Program} {E : Env} {W : World} {L : Own} {I : PHeap} {v : Value} {dst : Option Tmp} {ty : TypeId} {pos : String} {aft : Array Edge} {g : Option (Nat × Bool)} {T S : TypeId} {x : Operand}
theorem y_neq_nil_nil {ms : Array (String × TypeId)} (hu : P.underlying T = some (.interface ms)) (hx : evalO E x = some .nilIface) : Yields P ⟨dst, .binOp .neq T x (.const .nilIface) S, ty, pos, aft, g⟩ E W L I (.bool false) := fun a w _ _ ha _ => by
  have e : binOp .neq T .nilIface .nilIface = (do pure (.bool (!(← Op.equal T .nilIface .nilIface)))) := rfl
  have h1 : (Op.equal T .nilIface .nilIface).run P w = .ok true w := by
    unfold Op.equal
    rw [show Op.maxDepth = 9999 + 1 from rfl, Op.equalIn]
    simp [run_underlying hu]
  have e2 : a.eval (.const .nilIface) = .nilIface := rfl
  simp only [execOp, ha.eval hx, e2, e, eqGuard_nil_constR]
  simp [h1]
theorem y_neq_nil_iface {ms : Array (String × TypeId)} {t : TypeId} {u : Value} (hu : P.underlying T = some (.interface ms)) (hx : evalO E x = some (.iface t u)) : Yields P ⟨dst, .binOp .neq T x (.const .nilIface) S, ty, pos, aft, g⟩ E W L I (.bool true) := fun a w _ _ ha _ => by
  have e : binOp .neq T (.iface t u) .nilIface = (do pure (.bool (!(← Op.equal T (.iface t u) .nilIface)))) := rfl
  have h1 : (Op.equal T (.iface t u) .nilIface).run P w = .ok false w := by
    unfold Op.equal
    rw [show Op.maxDepth = 9999 + 1 from rfl, Op.equalIn]
    simp [run_underlying hu]
  have e2 : a.eval (.const .nilIface) = .nilIface := rfl
  simp only [execOp, ha.eval hx, e2, e, eqGuard_at_iface]
  simp [h1]
end

/-- The two errors of package strconv are what they may be. -/
def Globs (I : PHeap) : Prop := ∀ gl, gl = 1 ∨ gl = 2 → ∃ t p, CellsI I gl 0 [.iface t p]
theorem Globs.le {I J : PHeap} (h : Globs I) (hl : PLe I J) : Globs J := fun gl hg => let ⟨t, p, hc⟩ := h gl hg; ⟨t, p, hc.le hl⟩

def AtoiPost (s : ByteArray) (v : Value) : Prop := ∃ (n : Int) (ev : Value), v = .tuple #[.int .i64 n, ev] ∧ ((ev = .nilIface ∧ Lib.atoiAll s.data.toList = .ok n) ∨ ((∃ t p, ev = .iface t p) ∧ ∀ m, Lib.atoiAll s.data.toList ≠ .ok m))
theorem strconv_Atoi (I : PHeap) (hG : Globs I) (s : ByteArray) (hs : s.size ≤ 281474976710656) : Pure Tryd.prog 34 [.string s] I (fun v _ => AtoiPost s v) := Pure.of_calls fun w hc => by
  cases h : Lib.atoiAll s.data.toList
  · rename_i n
    refine (Tryd.strconv_Atoi_ok s (by omega) n h w).mono fun e w' ⟨he, hw⟩ => ⟨_, he, ?_, n, .nilIface, rfl, .inl ⟨rfl, h⟩⟩
    rcases hw with rfl | ⟨t, rfl⟩
    · exact Below.refl _ _
    · exact Go.Joins.below_bytesWorld _ _ _ _ (Nat.le_refl _)
  · obtain ⟨t, p, hcell⟩ := hG 1 (.inl rfl)
    have := hc _ _ _ hcell 0 _ rfl
    refine (Tryd.strconv_Atoi_syntax s hs (fun n e => by rw [h] at e; cases e) (fun e => by rw [h] at e; cases e) (.iface t p) w this (.inr ⟨t, p, rfl⟩)).mono fun e w' ⟨N, he, _, _, hb⟩ => ⟨_, he, hb, _, _, rfl, .inr ⟨⟨_, _, rfl⟩, fun m hm => by rw [h] at hm; cases hm⟩⟩
  · obtain ⟨t, p, hcell⟩ := hG 2 (.inr rfl)
    have := hc _ _ _ hcell 0 _ rfl
    refine (Tryd.strconv_Atoi_range s hs h (.iface t p) w this (.inr ⟨t, p, rfl⟩)).mono fun e w' ⟨N, he, _, _, hb⟩ => ⟨_, he, hb, _, _, rfl, .inr ⟨⟨_, _, rfl⟩, fun m hm => by rw [h] at hm; cases hm⟩⟩
theorem strconv_Itoa (I : PHeap) (i : Nat) (hi : i < 100) : Pure Tryd.prog 23 [.int .i64 i] I (fun v _ => v = .string ⟨(Lib.decDigits i).toArray⟩) := Pure.of_calls fun w _ =>
  (Tryd.strconv_Itoa_small i hi w).mono fun e w' ⟨he, hw⟩ => ⟨_, he, by rw [hw]; exact Below.refl _ _, rfl⟩
end Go.Rm
