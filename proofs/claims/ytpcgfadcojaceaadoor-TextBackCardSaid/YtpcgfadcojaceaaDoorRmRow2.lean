/- What this text holds: more rules of my separation logic, whatever the program. -/
import Derived.Test.YtpcgfadcojaceaaDoorRmRow
set_option linter.unusedVariables false
set_option linter.unusedSimpArgs false
set_option linter.unusedSectionVars false
namespace Go.Rm
open Go
section
variable {P : Program} {ops : Array Oper} {Q : Exit → Act → World → Prop} {n : Nat} {ds : List Deferred} {E : Env} {W : World} {L Lr Lx : Own} {I : PHeap} {rest : List Oper} {o : Oper} {v u z : Value} {d : Nat}
  {dst : Option Tmp} {ty : TypeId} {pos : String} {aft : Array Edge} {g : Option (Nat × Bool)} {T S : TypeId} {x y : Operand}
theorem y_slice_str_hi {s : ByteArray} {hi : Operand} {k' : IntKind} {q : Nat} (hu : P.underlying T = some .string) (hx : evalO E x = some (.string s)) (hh : evalO E hi = some (.int k' q)) (h2 : q ≤ s.size) :
    Yields P ⟨dst, .slice T x none (some hi) none, ty, pos, aft, g⟩ E W L I (.string (s.extract 0 q)) := fun a w _ _ ha _ => by
  simp only [execOp, ha.eval hx, Option.map_some, Option.map_none, ha.eval hh]
  simp [Instr.sliceAt, run_underlying hu, Instr.slice, Instr.sliceBounds, Instr.sliceBound, asIntOf, h2]
end
end Go.Rm
