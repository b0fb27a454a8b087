/- What this text holds: closed facts on this seat's program. -/
import Derived.Test.YtpcgfadcojaceaaDoorRmData
import Derived.Test.YtpcgfadcojaceaaDoorProg
set_option linter.unusedVariables false
set_option linter.unusedSimpArgs false
set_option linter.unusedSectionVars false
namespace Go.Rm
open Go Go.Proofs
theorem Tryd.mixed : Tryd.prog.follows .mixedOrders = true := by kernel_rfl
end Go.Rm
