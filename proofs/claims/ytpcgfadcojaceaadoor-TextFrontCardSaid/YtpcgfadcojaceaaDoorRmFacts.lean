/- What this text holds: closed facts on this seat's program. -/
import Derived.Test.YtpcgfadcojaceaaDoorRmData
import Derived.Test.YtpcgfadcojaceaaDoorProg
namespace Go.Rm
open Go Go.Proofs
theorem Tryd.mixed : Tryd.prog.follows .mixedOrders = true := by kernel_rfl
end Go.Rm
