/- What this text holds: what the rows of the tied laws list (strconv's two errors and three tables): what it gives to the walks, and a world that has it. -/
import Derived.Test.YtpcgfadcojaceaaDoorRmLaw
import Derived.Test.YtpcgfadcojaceaaDoorRmStrconv
import Derived.Test.YtpcgfadcojaceaaDoorCards
import Derived.Test.YtpcgfadcojaceaaDoorTie
set_option linter.unusedVariables false
set_option linter.unusedSimpArgs false
set_option linter.unusedSectionVars false
namespace Go.Rm
open Go Go.Proofs Go.Proofs.YtpcgfadcojaceaaDoor

theorem door_gS : Tryd.prog.globalNamed "strconv.ErrSyntax" = some 1 := by kernel_rfl
theorem door_gR : Tryd.prog.globalNamed "strconv.ErrRange" = some 2 := by kernel_rfl
theorem door_tS : (Tryd.prog.globals[1]?).map (·.type) = some 73 := by kernel_rfl
theorem door_tR : (Tryd.prog.globals[2]?).map (·.type) = some 73 := by kernel_rfl
/-- What a list that lays both errors gives. -/
theorem globs_of_laid {laid : List (String × DataW Unit)} {W : World} (h : laidMet Tryd.prog laid W) (hS : ("strconv.ErrSyntax", Rows.laid_strconv_ErrSyntax) ∈ laid) (hR : ("strconv.ErrRange", Rows.laid_strconv_ErrRange) ∈ laid) : Globs (blocksOf W) := by
  obtain ⟨ps, h, _⟩ := h
  rintro gl (rfl | rfl)
  · obtain ⟨u, v, hc⟩ := laid_iface h hS door_gS door_tS Tryd.underlying73
    exact ⟨u, v, cellsI_of_cell hc⟩
  · obtain ⟨u, v, hc⟩ := laid_iface h hR door_gR door_tR Tryd.underlying73
    exact ⟨u, v, cellsI_of_cell hc⟩

theorem door_own : ownKnob Tryd.prog.godebug = none := by kernel_rfl
noncomputable def doorLow : Nat := (World.holding Tryd.prog default ⟨#[], #[], []⟩).heap.size
def layAt (g : Nat) (cs : Array Value) (h : Array Obj) : Array Obj := h.modify g fun
  | .cells _ t fr => .cells cs t fr
  | o => o
def ints (k : IntKind) (l : List Int) : Array Value := (l.map fun n => Value.int k n).toArray
def tab32 : List Int := [0, 1, 28, 2, 29, 14, 24, 3, 30, 22, 20, 15, 25, 17, 4, 8, 31, 27, 13, 23, 21, 19, 16, 7, 26, 12, 18, 6, 11, 5, 10, 9]
def tab64 : List Int := [0, 1, 56, 2, 57, 49, 28, 3, 61, 58, 42, 50, 38, 29, 17, 4, 62, 47, 59, 36, 45, 43, 51, 22, 53, 39, 33, 30, 24, 18, 12, 5, 63, 55, 48, 27, 60, 41, 37, 16, 46, 35, 44, 21, 52, 32, 23, 11, 54, 26, 40, 15, 34, 20, 31, 10, 25, 14, 19, 9, 13, 8, 7, 6]
def tab10 : List Int := (List.range 20).map fun n => 10 ^ n
/-- The settled world with what the initialisers lay. -/
noncomputable def laidWorld (os : Os) : World :=
  let w0 := World.holding Tryd.prog os ⟨#[.cells #[.string ⟨#[105, 110, 118, 97, 108, 105, 100, 32, 115, 121, 110, 116, 97, 120]⟩] 116, .cells #[.string ⟨#[118, 97, 108, 117, 101, 32, 111, 117, 116, 32, 111, 102, 32, 114, 97, 110, 103, 101]⟩] 116], #[], []⟩
  { w0 with heap := layAt 1 #[.iface 114 (.pointer (some ⟨doorLow, 0, none⟩))] (layAt 2 #[.iface 114 (.pointer (some ⟨doorLow + 1, 0, none⟩))]
      (layAt 3 (ints .u8 tab32) (layAt 4 (ints .u8 tab64) (layAt 0 (ints .u64 tab10) w0.heap)))) }
end Go.Rm
