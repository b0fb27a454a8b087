/- What this text holds: the rules of my separation logic for the operations that only compute or read, whatever the program. -/
import Derived.Test.YtpcgfadcojaceaaDoorRmBase
import Derived.Laws.StructEq
import Derived.OwnWalk
import Derived.Still
set_option linter.unusedVariables false
set_option linter.unusedSimpArgs false
set_option linter.unusedSectionVars false
namespace Go.Rm
open Go

/-- In every state that fits, the operation yields v and leaves the world as it is. -/
def Yields (P : Program) (o : Oper) (E : Env) (W : World) (L : Own) (I : PHeap) (v : Value) : Prop :=
  ∀ a w n ds, Has n ds E a → Holds W L I w → (execOp a.eval o).run P w = .ok (.value v) w

section
variable {P : Program} {ops : Array Oper} {Q : Exit → Act → World → Prop} {n : Nat} {ds : List Deferred} {E : Env} {W : World} {L : Own} {I : PHeap} {rest : List Oper} {o : Oper} {v u : Value} {d : Nat}
  {dst : Option Tmp} {ty : TypeId} {pos : String} {aft : Array Edge} {g : Option (Nat × Bool)} {T S : TypeId} {x y z : Operand}

theorem HL.quiet {op : Op} (hy : Yields P ⟨some d, op, ty, pos, aft, none⟩ E W L I v) (hd : Nat.blt d n = true) (h : HL P ops Q rest n ds ((d, v) :: E) W L I) : HL P ops Q (⟨some d, op, ty, pos, aft, none⟩ :: rest) n ds E W L I := by
  intro a w ha hw
  refine wpList_plain rfl fun K hK => ?_
  unfold Oper.wp
  rw [hy a w n ds ha hw, Oper.upon_value]
  exact hK _ _ (h _ _ (ha.put (by simpa using hd)) hw)

theorem yielded_of {j : Nat} {t : Tmp} {b : Bool} {a : Act} (hj : (ops[j]?).bind (·.dst) = some t) (ha : Has n ds E a) (hb : look E t = some (.bool b)) : yielded ops a.tmps j = some b := by
  simp only [yielded, hj, Option.bind_some, ha.at_ t _ hb]

/-- A guard's value that does not let the operation run. -/
def gateOff (u : Value) (want : Bool) : Bool := match u with
  | .bool b => b != want
  | _ => true
theorem gate_of {j : Nat} {t : Tmp} {u : Value} {want : Bool} {a : Act} (hj : (ops[j]?).bind (·.dst) = some t) (ha : Has n ds E a) (hb : look E t = some u) (hne : gateOff u want = true) : (yielded ops a.tmps j == some want) = false := by
  simp only [yielded, hj, Option.bind_some, ha.at_ t _ hb]
  cases u with
  | bool b => simp only [gateOff, bne_iff_ne, ne_eq] at hne; simpa using hne
  | _ => rfl

/-- A guarded operation that is run. -/
theorem HL.quiet_guard {op : Op} {j : Nat} {want : Bool} {t : Tmp} (hj : (ops[j]?).bind (·.dst) = some t) (hb : look E t = some (.bool want)) (hy : Yields P ⟨some d, op, ty, pos, aft, some (j, want)⟩ E W L I v) (hd : Nat.blt d n = true)
    (h : HL P ops Q rest n ds ((d, v) :: E) W L I) : HL P ops Q (⟨some d, op, ty, pos, aft, some (j, want)⟩ :: rest) n ds E W L I := by
  intro a w ha hw
  refine wpList_step fun K hK => ?_
  rw [if_pos (by simp [Region.wanted, yielded_of hj ha hb])]
  unfold Oper.wp
  rw [hy a w n ds ha hw, Oper.upon_value]
  exact hK _ _ (h _ _ (ha.put (by simpa using hd)) hw)
/-- A guarded operation that is passed over. -/
theorem HL.pass {op : Op} {j : Nat} {want : Bool} {u : Value} {t : Tmp} (hj : (ops[j]?).bind (·.dst) = some t) (hb : look E t = some u) (hne : gateOff u want = true) (hd : Nat.blt d n = true)
    (h : HL P ops Q rest n ds ((d, undef) :: E) W L I) : HL P ops Q (⟨some d, op, ty, pos, aft, some (j, want)⟩ :: rest) n ds E W L I := by
  intro a w ha hw
  refine wpList_step fun K hK => ?_
  have hw0 : Region.wanted ⟨some d, op, ty, pos, aft, some (j, want)⟩ (yielded ops a.tmps) = false := by
    simp only [Region.wanted, gate_of hj ha hb hne]
  rw [hw0, if_neg (by simp)]
  exact hK _ _ (h _ _ (ha.put (by simpa using hd)) hw)
theorem Has.push {a : Act} (ha : Has n ds E a) {t : Tmp} (h : look E t = some v) : Has n ds ((t, v) :: E) a :=
  ⟨ha.defers, ha.size, fun s u hu => by
    rcases look_cons hu with ⟨rfl, rfl⟩ | ⟨_, hl⟩
    · exact ha.at_ _ _ h
    · exact ha.at_ _ _ hl⟩
/-- A bool in a slot: two ways. -/
theorem HL.split {t : Tmp} {b : Bool} {l : List Oper} (hb : look E t = some (.bool b)) (ht : b = true → HL P ops Q l n ds ((t, .bool true) :: E) W L I) (hf : b = false → HL P ops Q l n ds ((t, .bool false) :: E) W L I) : HL P ops Q l n ds E W L I := by
  intro a w ha hw
  cases b
  · exact hf rfl a w (ha.push hb) hw
  · exact ht rfl a w (ha.push hb) hw

/-! ### a region that draws its order and only reads -/
def HS (P : Program) (ops : Array Oper) (Q : Exit → Act → World → Prop) (l : List Oper) (n : Nat) (ds : List Deferred) (E : Env) (W : World) (L : Own) (I : PHeap) : Prop :=
  ∀ a w, Has n ds E a → Holds W L I w → wpStill P ops w (fun a' => Q .normal a' w) l a
theorem HC.region_still {id : Nat} {l : List Oper} (hm : P.follows .mixedOrders = true) (hB : Region.lexB .any l.toArray = true) (h : HS P l.toArray Q l n ds E W L I) : HC P Q (.region id l.toArray true) n ds E W L I :=
  fun a w ha hw => wp_region_still_lit hm hB (h a _ ha (hw.drew _))
theorem HS.nil (h : HQ Q .normal n ds E W L I) : HS P ops Q [] n ds E W L I := fun a w ha hw => wpStill_nil (h a w ha hw)
theorem HS.quiet {op : Op} (hy : Yields P ⟨some d, op, ty, pos, aft, none⟩ E W L I v) (hd : Nat.blt d n = true) (h : HS P ops Q rest n ds ((d, v) :: E) W L I) : HS P ops Q (⟨some d, op, ty, pos, aft, none⟩ :: rest) n ds E W L I := by
  intro a w ha hw
  refine wpStill_step fun K hK => ?_
  rw [if_pos (by simp [Region.wanted])]
  unfold Oper.still
  rw [hy a w n ds ha hw, Oper.stillUpon_value]
  exact hK _ (h _ _ (ha.put (by simpa using hd)) hw)
theorem HS.quiet_guard {op : Op} {j : Nat} {want : Bool} {t : Tmp} (hj : (ops[j]?).bind (·.dst) = some t) (hb : look E t = some (.bool want)) (hy : Yields P ⟨some d, op, ty, pos, aft, some (j, want)⟩ E W L I v) (hd : Nat.blt d n = true)
    (h : HS P ops Q rest n ds ((d, v) :: E) W L I) : HS P ops Q (⟨some d, op, ty, pos, aft, some (j, want)⟩ :: rest) n ds E W L I := by
  intro a w ha hw
  refine wpStill_step fun K hK => ?_
  rw [if_pos (by simp [Region.wanted, yielded_of hj ha hb])]
  unfold Oper.still
  rw [hy a w n ds ha hw, Oper.stillUpon_value]
  exact hK _ (h _ _ (ha.put (by simpa using hd)) hw)
theorem HS.pass {op : Op} {j : Nat} {want : Bool} {u : Value} {t : Tmp} (hj : (ops[j]?).bind (·.dst) = some t) (hb : look E t = some u) (hne : gateOff u want = true) (hd : Nat.blt d n = true)
    (h : HS P ops Q rest n ds ((d, undef) :: E) W L I) : HS P ops Q (⟨some d, op, ty, pos, aft, some (j, want)⟩ :: rest) n ds E W L I := by
  intro a w ha hw
  refine wpStill_step fun K hK => ?_
  have hw0 : Region.wanted ⟨some d, op, ty, pos, aft, some (j, want)⟩ (yielded ops a.tmps) = false := by
    simp only [Region.wanted, gate_of hj ha hb hne]
  rw [hw0, if_neg (by simp)]
  exact hK _ (h _ _ (ha.put (by simpa using hd)) hw)
theorem HS.split {t : Tmp} {b : Bool} {l : List Oper} (hb : look E t = some (.bool b)) (ht : b = true → HS P ops Q l n ds ((t, .bool true) :: E) W L I) (hf : b = false → HS P ops Q l n ds ((t, .bool false) :: E) W L I) : HS P ops Q l n ds E W L I := by
  intro a w ha hw
  cases b
  · exact hf rfl a w (ha.push hb) hw
  · exact ht rfl a w (ha.push hb) hw

theorem toList_beq (s t : ByteArray) : (s.toList == t.toList) = decide (s = t) := by
  rw [Bool.eq_iff_iff]
  simp only [beq_iff_eq, decide_eq_true_eq]
  rw [ByteArray.toList_eq, ByteArray.toList_eq]
  constructor
  · intro h
    exact ByteArray.ext (Array.ext' (by simpa using h))
  · rintro rfl; rfl
/-! ### no memory -/
theorem y_move (h : evalO E x = some v) : Yields P ⟨dst, .move x, ty, pos, aft, g⟩ E W L I v := fun a w _ _ ha _ => by simp [execOp, ha.eval h]
theorem y_assign (h : evalO E x = some v) : Yields P ⟨dst, .assign x, ty, pos, aft, g⟩ E W L I v := fun a w _ _ ha _ => by simp [execOp, ha.eval h]
theorem y_pick_true (hc : evalO E x = some (.bool true)) (h : evalO E y = some v) : Yields P ⟨dst, .pick x y z, ty, pos, aft, g⟩ E W L I v := fun a w _ _ ha _ => by simp [execOp, ha.eval h, ha.eval hc, asBool]
theorem y_pick_false (hc : evalO E x = some (.bool false)) (h : evalO E z = some v) : Yields P ⟨dst, .pick x y z, ty, pos, aft, g⟩ E W L I v := fun a w _ _ ha _ => by simp [execOp, ha.eval h, ha.eval hc, asBool]
theorem y_extract {vs : Array Value} {i : Nat} (h : evalO E x = some (.tuple vs)) (hi : vs[i]? = some v) : Yields P ⟨dst, .extract x i, ty, pos, aft, g⟩ E W L I v := fun a w _ _ ha _ => by simp [execOp, ha.eval h, Instr.extract, hi]
theorem y_not {b : Bool} (h : evalO E x = some (.bool b)) : Yields P ⟨dst, .unOp .not T x, ty, pos, aft, g⟩ E W L I (.bool (!b)) := fun a w _ _ ha _ => by simp [execOp, ha.eval h, Op.unary]
theorem y_nilCheck {p : Addr} (h : evalO E x = some (.pointer (some p))) : Yields P ⟨dst, .nilCheck x, ty, pos, aft, g⟩ E W L I (.pointer (some p)) := fun a w _ _ ha _ => by simp [execOp, ha.eval h]
theorem y_makeFunc {fn : Fn} {fs cs : Array Operand} {fv cv : Array Value} (hf : ∀ a : Act, (∀ x v, evalO E x = some v → a.eval x = v) → fs.map a.eval = fv) (hc : ∀ a : Act, (∀ x v, evalO E x = some v → a.eval x = v) → cs.map a.eval = cv) :
    Yields P ⟨dst, .makeFunc fn fs cs, ty, pos, aft, g⟩ E W L I (.func fn fv cv) := fun a w _ _ ha _ => by
  simp [execOp, Instr.makeFunc, hf a (fun _ _ h => ha.eval h), hc a (fun _ _ h => ha.eval h)]

theorem y_lss {k : IntKind} {p q : Int} (hx : evalO E x = some (.int k p)) (hy : evalO E y = some (.int k q)) : Yields P ⟨dst, .binOp .lss T x y S, ty, pos, aft, g⟩ E W L I (.bool (decide (p < q))) := fun a w _ _ ha _ => by simp only [execOp, ha.eval hx, ha.eval hy]; simp [go_sem]
theorem y_leq {k : IntKind} {p q : Int} (hx : evalO E x = some (.int k p)) (hy : evalO E y = some (.int k q)) : Yields P ⟨dst, .binOp .leq T x y S, ty, pos, aft, g⟩ E W L I (.bool (decide (p ≤ q))) := fun a w _ _ ha _ => by simp only [execOp, ha.eval hx, ha.eval hy]; simp [go_sem]
theorem y_gtr {k : IntKind} {p q : Int} (hx : evalO E x = some (.int k p)) (hy : evalO E y = some (.int k q)) : Yields P ⟨dst, .binOp .gtr T x y S, ty, pos, aft, g⟩ E W L I (.bool (decide (q < p))) := fun a w _ _ ha _ => by simp only [execOp, ha.eval hx, ha.eval hy]; simp [go_sem]
theorem y_geq {k : IntKind} {p q : Int} (hx : evalO E x = some (.int k p)) (hy : evalO E y = some (.int k q)) : Yields P ⟨dst, .binOp .geq T x y S, ty, pos, aft, g⟩ E W L I (.bool (decide (q ≤ p))) := fun a w _ _ ha _ => by simp only [execOp, ha.eval hx, ha.eval hy]; simp [go_sem]
theorem y_eql {k : IntKind} {p q : Int} (hx : evalO E x = some (.int k p)) (hy : evalO E y = some (.int k q)) : Yields P ⟨dst, .binOp .eql T x y S, ty, pos, aft, g⟩ E W L I (.bool (p == q)) := fun a w _ _ ha _ => by simp only [execOp, ha.eval hx, ha.eval hy]; simp [go_sem]
theorem y_neq {k : IntKind} {p q : Int} (hx : evalO E x = some (.int k p)) (hy : evalO E y = some (.int k q)) : Yields P ⟨dst, .binOp .neq T x y S, ty, pos, aft, g⟩ E W L I (.bool (p != q)) := fun a w _ _ ha _ => by simp only [execOp, ha.eval hx, ha.eval hy]; simp [go_sem]
theorem y_arith_add {k : IntKind} {p q r : Int} (hx : evalO E x = some (.int k p)) (hy : evalO E y = some (.int k q)) (hr : k.wrap (p + q) = r) : Yields P ⟨dst, .binOp .add T x y S, ty, pos, aft, g⟩ E W L I (.int k r) := fun a w _ _ ha _ => by
  subst hr; simp only [execOp, ha.eval hx, ha.eval hy]; simp [go_sem, Op.intArith]
theorem y_arith_sub {k : IntKind} {p q r : Int} (hx : evalO E x = some (.int k p)) (hy : evalO E y = some (.int k q)) (hr : k.wrap (p - q) = r) : Yields P ⟨dst, .binOp .sub T x y S, ty, pos, aft, g⟩ E W L I (.int k r) := fun a w _ _ ha _ => by
  subst hr; simp only [execOp, ha.eval hx, ha.eval hy]; simp [go_sem, Op.intArith]
theorem y_arith_mul {k : IntKind} {p q r : Int} (hx : evalO E x = some (.int k p)) (hy : evalO E y = some (.int k q)) (hr : k.wrap (p * q) = r) : Yields P ⟨dst, .binOp .mul T x y S, ty, pos, aft, g⟩ E W L I (.int k r) := fun a w _ _ ha _ => by
  subst hr; simp only [execOp, ha.eval hx, ha.eval hy]; simp [go_sem, Op.intArith]
theorem wrap64_id {m : Int} (h : -9223372036854775808 ≤ m ∧ m ≤ 9223372036854775807) : IntKind.i64.wrap m = m := IntWalk.i64_in m h
theorem y_add {p q : Int} (hx : evalO E x = some (.int .i64 p)) (hy : evalO E y = some (.int .i64 q)) (hr : -9223372036854775808 ≤ p + q ∧ p + q ≤ 9223372036854775807) : Yields P ⟨dst, .binOp .add T x y S, ty, pos, aft, g⟩ E W L I (.int .i64 (p + q)) := y_arith_add hx hy (wrap64_id hr)
theorem y_sub {p q : Int} (hx : evalO E x = some (.int .i64 p)) (hy : evalO E y = some (.int .i64 q)) (hr : -9223372036854775808 ≤ p - q ∧ p - q ≤ 9223372036854775807) : Yields P ⟨dst, .binOp .sub T x y S, ty, pos, aft, g⟩ E W L I (.int .i64 (p - q)) := y_arith_sub hx hy (wrap64_id hr)
theorem y_mul {p q : Int} (hx : evalO E x = some (.int .i64 p)) (hy : evalO E y = some (.int .i64 q)) (hr : -9223372036854775808 ≤ p * q ∧ p * q ≤ 9223372036854775807) : Yields P ⟨dst, .binOp .mul T x y S, ty, pos, aft, g⟩ E W L I (.int .i64 (p * q)) := y_arith_mul hx hy (wrap64_id hr)
theorem y_bits {bo : BinOp} {k : IntKind} {p q r : Int} (hbo : (bo == .and || bo == .or || bo == .xor || bo == .andNot) = true) (hx : evalO E x = some (.int k p)) (hy : evalO E y = some (.int k q)) (hr : bits bo k p q = r) : Yields P ⟨dst, .binOp bo T x y S, ty, pos, aft, g⟩ E W L I (.int k r) := fun a w _ _ ha _ => by
  subst hr
  cases bo <;> simp at hbo <;> (simp only [execOp, ha.eval hx, ha.eval hy]; simp [go_sem])
theorem y_shl {k k' : IntKind} {p q r : Int} (hx : evalO E x = some (.int k p)) (hy : evalO E y = some (.int k' q)) (h0 : 0 ≤ q) (h1 : q ≤ k.bits) (hr : k.wrap (p * 2 ^ q.toNat) = r) : Yields P ⟨dst, .binOp .shl T x y S, ty, pos, aft, g⟩ E W L I (.int k r) := fun a w _ _ ha _ => by
  subst hr
  simp only [execOp, ha.eval hx, ha.eval hy]; simp [go_sem, shift_shl k k' p q h0 h1]
theorem y_shr {k k' : IntKind} {p q r : Int} (hx : evalO E x = some (.int k p)) (hy : evalO E y = some (.int k' q)) (h0 : 0 ≤ q) (h1 : q ≤ k.bits) (hr : p / 2 ^ q.toNat = r) : Yields P ⟨dst, .binOp .shr T x y S, ty, pos, aft, g⟩ E W L I (.int k r) := fun a w _ _ ha _ => by
  subst hr
  simp only [execOp, ha.eval hx, ha.eval hy]; simp [go_sem, shift_shr k k' p q h0 h1]
theorem y_conv_int {k k' : IntKind} {p : Int} (hs : (P.underlying S).isSome = true) (ht : P.underlying T = some (.int k)) (hx : evalO E x = some (.int k' p)) : Yields P ⟨dst, .convert S T x, ty, pos, aft, g⟩ E W L I (.int k (k.wrap p)) := fun a w _ _ ha _ => by
  obtain ⟨ds, hds⟩ := Option.isSome_iff_exists.1 hs
  have : (convert S T (.int k' p)).run P w = .ok (.int k (k.wrap p)) w := by
    simp [convert, run_underlying hds, run_underlying ht, Conv.intToInt]
  simp [execOp, ha.eval hx, this]
theorem y_strcat {s t : ByteArray} (hx : evalO E x = some (.string s)) (hy : evalO E y = some (.string t)) (hs : s.size + t.size ≤ 9223372036854775807) : Yields P ⟨dst, .binOp .add T x y S, ty, pos, aft, g⟩ E W L I (.string (s ++ t)) := fun a w _ _ ha _ => by
  simp only [execOp, ha.eval hx, ha.eval hy]
  have : binOp .add T (.string s) (.string t) = Op.stringOp .add s t := rfl
  simp [eqGuard_at_string, this, run_string_add_sum w _ _ hs]
theorem y_streq {s t : ByteArray} (hx : evalO E x = some (.string s)) (hy : evalO E y = some (.string t)) : Yields P ⟨dst, .binOp .eql T x y S, ty, pos, aft, g⟩ E W L I (.bool (decide (s = t))) := fun a w _ _ ha _ => by
  simp only [execOp, ha.eval hx, ha.eval hy]; simp [go_sem, toList_beq]
theorem y_strneq {s t : ByteArray} (hx : evalO E x = some (.string s)) (hy : evalO E y = some (.string t)) : Yields P ⟨dst, .binOp .neq T x y S, ty, pos, aft, g⟩ E W L I (.bool (!decide (s = t))) := fun a w _ _ ha _ => by
  simp only [execOp, ha.eval hx, ha.eval hy]; simp [go_sem, toList_beq]
theorem y_makeIface {dsc : TypeDesc} (ht : P.underlying T = some dsc) (hni : (match dsc with | .interface _ => false | _ => true) = true) (hx : evalO E x = some v) : Yields P ⟨dst, .makeInterface T x, ty, pos, aft, g⟩ E W L I (.iface T v) := fun a w _ _ ha _ => by
  have : (Instr.makeInterface T v).run P w = .ok (.iface T v) w := by
    unfold Instr.makeInterface; simp only [Sem.run_bind, run_underlying ht, Result.andThen_ok]
    cases dsc <;> simp at hni ⊢
  simp [execOp, ha.eval hx, this]

/-! ### addresses -/
theorem y_fieldAddr {fs : Array Field} {i o t k b off : Nat} (hu : P.underlying S = some (.struct fs)) (hf : (fs[i]?).map (fun f => (f.offset, f.type)) = some (o, t)) (hs : ∀ w, (sizeOf t).run P w = .ok k w) (hk : k ≠ 0)
    (hx : evalO E x = some (.pointer (some ⟨b, off, none⟩))) : Yields P ⟨dst, .fieldAddr S x i, ty, pos, aft, g⟩ E W L I (.pointer (some ⟨b, off + o, none⟩)) := fun a w _ _ ha _ => by
  obtain ⟨f, hf1, hf2⟩ := Option.map_eq_some_iff.1 hf
  simp only [Prod.mk.injEq] at hf2
  have : (Instr.fieldAt S (.pointer (some ⟨b, off, none⟩)) i).run P w = .ok (.pointer (some ⟨b, off + o, none⟩)) w := by
    simp [Instr.fieldAt, run_underlying hu, hf1, Instr.sureAddr, fieldPlace, hf2.2, hs, hk, hf2.1, Addr.add_lit]
  simp only [execOp, ha.eval hx]; simp [this]
theorem y_indexAddr {e k b off len cap j : Nat} {kk : IntKind} {i : Int} (hu : P.underlying T = some (.slice e)) (hs : ∀ w, (sizeOf e).run P w = .ok k w) (hx : evalO E x = some (.slice (some ⟨b, off, none⟩) len cap)) (hy : evalO E y = some (.int kk i)) (hi : i = (j : Int)) (hj : j < len) :
    Yields P ⟨dst, .indexAddr T x y, ty, pos, aft, g⟩ E W L I (.pointer (some ⟨b, off + j * k, none⟩)) := fun a w _ _ ha _ => by
  subst hi
  have : (Instr.indexAt T (.slice (some ⟨b, off, none⟩) len cap) (.int kk j)).run P w = .ok (.pointer (some ⟨b, off + j * k, none⟩)) w := by
    have h1 : (0 : Int) ≤ j ∧ (j : Int) < len := by omega
    simp [Instr.indexAt, run_underlying hu, asIntOf, hs, Addr.add_lit, hj]
  simp only [execOp, ha.eval hx, ha.eval hy]; simp [this]
theorem y_indexArr {e k b off len j : Nat} {kk : IntKind} {i : Int} (hu : P.underlying T = some (.array len e)) (hs : ∀ w, (sizeOf e).run P w = .ok k w) (hx : evalO E x = some (.pointer (some ⟨b, off, none⟩))) (hy : evalO E y = some (.int kk i)) (hi : i = (j : Int)) (hj : j < len) :
    Yields P ⟨dst, .indexAddr T x y, ty, pos, aft, g⟩ E W L I (.pointer (some ⟨b, off + j * k, none⟩)) := fun a w _ _ ha _ => by
  subst hi
  have : (Instr.indexAt T (.pointer (some ⟨b, off, none⟩)) (.int kk j)).run P w = .ok (.pointer (some ⟨b, off + j * k, none⟩)) w := by
    simp [Instr.indexAt, run_underlying hu, asIntOf, hs, Addr.add_lit, hj, Instr.sureAddr]
  simp only [execOp, ha.eval hx, ha.eval hy]; simp [this]
theorem y_field {fs : Array Field} {i o t : Nat} {cs : Array Value} (hu : P.underlying S = some (.struct fs)) (hf : (fs[i]?).map (fun f => (f.offset, f.type)) = some (o, t)) (hag : ∀ w, (isAgg t).run P w = .ok false w)
    (hx : evalO E x = some (.agg cs)) (hv : cs[o]? = some v) : Yields P ⟨dst, .field S x i, ty, pos, aft, g⟩ E W L I v := fun a w _ _ ha _ => by
  obtain ⟨f, hf1, hf2⟩ := Option.map_eq_some_iff.1 hf
  simp only [Prod.mk.injEq] at hf2
  have : (Instr.field S (.agg cs) i).run P w = .ok v w := by
    simp [Instr.field, run_underlying hu, hf1, asAgg, part, hf2.2, hag, hf2.1, hv]
  simp only [execOp, ha.eval hx]; simp [this]
theorem y_field_agg {fs : Array Field} {i o t k : Nat} {cs : Array Value} (hu : P.underlying S = some (.struct fs)) (hf : (fs[i]?).map (fun f => (f.offset, f.type)) = some (o, t)) (hag : ∀ w, (isAgg t).run P w = .ok true w) (hs : ∀ w, (sizeOf t).run P w = .ok k w)
    (hx : evalO E x = some (.agg cs)) : Yields P ⟨dst, .field S x i, ty, pos, aft, g⟩ E W L I (.agg (cs.extract o (o + k))) := fun a w _ _ ha _ => by
  obtain ⟨f, hf1, hf2⟩ := Option.map_eq_some_iff.1 hf
  simp only [Prod.mk.injEq] at hf2
  have : (Instr.field S (.agg cs) i).run P w = .ok (.agg (cs.extract o (o + k))) w := by
    simp [Instr.field, run_underlying hu, hf1, asAgg, part, hf2.2, hag, hf2.1, hs]
  simp only [execOp, ha.eval hx]; simp [this]
theorem y_index_str {s : ByteArray} {kk : IntKind} {i : Int} {j : Nat} (hu : P.underlying T = some .string) (hx : evalO E x = some (.string s)) (hy : evalO E y = some (.int kk i)) (hi : i = (j : Int)) (hj : j < s.size) :
    Yields P ⟨dst, .index T x y, ty, pos, aft, g⟩ E W L I (.int .u8 ((s[j]'hj).toNat : Int)) := fun a w _ _ ha _ => by
  subst hi
  have : (Instr.index T (.string s) (.int kk j)).run P w = .ok (.int .u8 ((s[j]'hj).toNat : Int)) w := by
    have h2 : s[j]? = some (s[j]'hj) := getElem?_pos s j hj
    simp [Instr.index, run_underlying hu, asIntOf, h2]
  simp only [execOp, ha.eval hx, ha.eval hy]; simp [this]
theorem y_index_arr {cs : Array Value} {kk : IntKind} {i : Int} {e len j : Nat} (hu : P.underlying T = some (.array len e)) (hag : ∀ w, (isAgg e).run P w = .ok false w) (hs : ∀ w, (sizeOf e).run P w = .ok 1 w) (hx : evalO E x = some (.agg cs)) (hy : evalO E y = some (.int kk i)) (hi : i = (j : Int)) (hj : j < len) (hv : cs[j]? = some v) :
    Yields P ⟨dst, .index T x y, ty, pos, aft, g⟩ E W L I v := fun a w _ _ ha _ => by
  subst hi
  have : (Instr.index T (.agg cs) (.int kk j)).run P w = .ok v w := by
    simp [Instr.index, run_underlying hu, asIntOf, hj, part, hag, hs, hv]
  simp only [execOp, ha.eval hx, ha.eval hy]; simp [this]

/-! ### len, cap -/
theorem y_len_slice {e n c : Nat} {ad : Option Addr} (hu : P.underlying T = some (.slice e)) (hx : evalO E x = some (.slice ad n c)) : Yields P ⟨dst, .call ⟨.builtin .len, #[x], #[T]⟩, ty, pos, aft, g⟩ E W L I (.int .i64 n) := fun a w _ _ ha _ => by
  simp only [execOp, resolve, List.map_toArray, List.map_cons, List.map_nil, ha.eval hx]
  simp [invoke, builtin, Builtin.len_, run_underlying hu, goInt]
theorem y_cap_slice {e n c : Nat} {ad : Option Addr} (hu : P.underlying T = some (.slice e)) (hx : evalO E x = some (.slice ad n c)) : Yields P ⟨dst, .call ⟨.builtin .cap, #[x], #[T]⟩, ty, pos, aft, g⟩ E W L I (.int .i64 c) := fun a w _ _ ha _ => by
  simp only [execOp, resolve, List.map_toArray, List.map_cons, List.map_nil, ha.eval hx]
  simp [invoke, builtin, Builtin.cap_, run_underlying hu, goInt]
theorem y_len_str {s : ByteArray} (hu : P.underlying T = some .string) (hx : evalO E x = some (.string s)) : Yields P ⟨dst, .call ⟨.builtin .len, #[x], #[T]⟩, ty, pos, aft, g⟩ E W L I (.int .i64 s.size) := fun a w _ _ ha _ => by
  simp only [execOp, resolve, List.map_toArray, List.map_cons, List.map_nil, ha.eval hx]
  simp [invoke, builtin, Builtin.len_, run_underlying hu, goInt]

/-! ### reading memory -/
/-- From place off on block b of I holds the cells cs. -/
def CellsI (I : PHeap) (b off : Nat) (cs : List Value) : Prop := ∃ c T fr, I b = some (.cells c T fr) ∧ ∀ i v, cs[i]? = some v → c[off + i]? = some v
theorem CellsI.le {I J : PHeap} {b off : Nat} {cs : List Value} (h : CellsI I b off cs) (hl : PLe I J) : CellsI J b off cs := let ⟨c, T, fr, hb, h⟩ := h; ⟨c, T, fr, hl _ _ hb, h⟩
theorem CellsI.sub {I : PHeap} {b off o : Nat} {cs cs' : List Value} (h : CellsI I b off cs) (hs : ∀ i v, cs'[i]? = some v → cs[o + i]? = some v) : CellsI I b (off + o) cs' :=
  let ⟨c, T, fr, hb, h⟩ := h; ⟨c, T, fr, hb, fun i v hv => by rw [Nat.add_assoc]; exact h _ _ (hs i v hv)⟩
theorem CellsI.drop {I : PHeap} {b off : Nat} {cs : List Value} (o : Nat) (h : CellsI I b off cs) : CellsI I b (off + o) (cs.drop o) := h.sub fun i v hv => by simpa [List.getElem?_drop] using hv

theorem cellI {w : World} {b off j : Nat} {cs : List Value} (hh : Holds W L I w) (h : CellsI I b off cs) (hv : cs[j]? = some v) : w.cell? ⟨b, off + j, none⟩ = some v := by
  obtain ⟨c, T, fr, hb, h⟩ := h
  simp only [World.cell?, hh.imm _ _ hb]
  exact h j v hv
theorem cellL {w : World} {b off k : Nat} {c : List Value} {T : TypeId} (hh : Holds W L I w) (hk : L[k]? = some (b, blk c T)) (hv : c[off]? = some v) : w.cell? ⟨b, off, none⟩ = some v := by
  have := hh.own (b, blk c T) (List.mem_of_getElem? hk)
  simp only [World.cell?, this]
  simpa using hv
theorem run_loadVar1 {w : World} {b off : Nat} (hag : ∀ w, (isAgg T).run P w = .ok false w) (hc : w.cell? ⟨b, off, none⟩ = some v) : (loadVar T ⟨b, off, none⟩).run P w = .ok v w := by
  simp [loadVar, hag, hc]
theorem run_loadVark {w : World} {b off k : Nat} {cs : List Value} (hag : ∀ w, (isAgg T).run P w = .ok true w) (hs : ∀ w, (sizeOf T).run P w = .ok k w) (hk : cs.length = k) (hc : ∀ j v, cs[j]? = some v → w.cell? ⟨b, off + j, none⟩ = some v) :
    (loadVar T ⟨b, off, none⟩).run P w = .ok (.agg cs.toArray) w := by
  have h1 := run_loadCells_list (P := P) (w := w) ⟨b, off, none⟩ cs (fun j v hv => by rw [Addr.add_lit]; exact hc j v hv)
  rw [hk] at h1
  simp [loadVar, hag, hs, h1]
theorem y_loadI {b off : Nat} {cs : List Value} (hag : ∀ w, (isAgg T).run P w = .ok false w) (hx : evalO E x = some (.pointer (some ⟨b, off, none⟩))) (hc : CellsI I b off cs) (hv : cs[0]? = some v) :
    Yields P ⟨dst, .load T x, ty, pos, aft, g⟩ E W L I v := fun a w _ _ ha hh => by
  have := run_loadVar1 (P := P) (w := w) (b := b) (off := off) hag (cellI (j := 0) hh hc hv)
  simp only [execOp, ha.eval hx]; simp [Instr.loadAt, Instr.sureAddr, this]
theorem y_loadI_agg {b off k : Nat} {cs : List Value} (hag : ∀ w, (isAgg T).run P w = .ok true w) (hs : ∀ w, (sizeOf T).run P w = .ok k w) (hk : cs.length = k) (hx : evalO E x = some (.pointer (some ⟨b, off, none⟩))) (hc : CellsI I b off cs) :
    Yields P ⟨dst, .load T x, ty, pos, aft, g⟩ E W L I (.agg cs.toArray) := fun a w _ _ ha hh => by
  have := run_loadVark (P := P) hag hs hk (fun j v hv => cellI (j := j) hh hc hv)
  simp only [execOp, ha.eval hx]; simp [Instr.loadAt, Instr.sureAddr, this]
theorem y_loadL {b off k : Nat} {c : List Value} {T' : TypeId} (hag : ∀ w, (isAgg T).run P w = .ok false w) (hx : evalO E x = some (.pointer (some ⟨b, off, none⟩))) (hk : L[k]? = some (b, blk c T')) (hv : c[off]? = some v) :
    Yields P ⟨dst, .load T x, ty, pos, aft, g⟩ E W L I v := fun a w _ _ ha hh => by
  have := run_loadVar1 (P := P) hag (cellL hh hk hv)
  simp only [execOp, ha.eval hx]; simp [Instr.loadAt, Instr.sureAddr, this]
theorem y_loadL_agg {b off k m : Nat} {c cs : List Value} {T' : TypeId} (hag : ∀ w, (isAgg T).run P w = .ok true w) (hs : ∀ w, (sizeOf T).run P w = .ok m w) (hx : evalO E x = some (.pointer (some ⟨b, off, none⟩))) (hk : L[k]? = some (b, blk c T'))
    (hcs : (c.drop off).take m = cs) (hm : cs.length = m) : Yields P ⟨dst, .load T x, ty, pos, aft, g⟩ E W L I (.agg cs.toArray) := fun a w _ _ ha hh => by
  have := run_loadVark (P := P) (w := w) (b := b) (off := off) hag hs hm (fun j v hv => cellL hh hk (by
    rw [← hcs, List.getElem?_take] at hv
    split at hv
    · rw [List.getElem?_drop] at hv; exact hv
    · cases hv))
  simp only [execOp, ha.eval hx]; simp [Instr.loadAt, Instr.sureAddr, this]
end
end Go.Rm
