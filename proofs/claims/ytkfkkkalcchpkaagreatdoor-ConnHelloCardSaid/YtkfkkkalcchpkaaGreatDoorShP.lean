/- The program draws the orders that are open, and asks which. -/
import Derived.Test.YtkfkkkalcchpkaaGreatDoorShO
import Derived.Test.YtkfkkkalcchpkaaGreatDoorProg
namespace Go.Sh
open Go.Proofs
theorem Tryz.hm : Tryz.prog.follows .mixedOrders = true := by kernel_rfl
end Go.Sh
