/- The program's orders of evaluation are those that the model follows. No condition. -/
import Derived.Test.YtbcmdjlgdnippaaGreatDoorX3
import Derived.Test.YtbcmdjlgdnippaaGreatDoorChecked
namespace Go.Proofs.YtbcmdjlgdnippaaGreatDoor
open Go Go.Abs
theorem mixed : Tryz.prog.follows .mixedOrders = true := by kernel_rfl
end Go.Proofs.YtbcmdjlgdnippaaGreatDoor
