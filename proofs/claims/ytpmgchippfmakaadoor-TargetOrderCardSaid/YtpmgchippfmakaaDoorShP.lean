/- The program draws the orders that are open, and asks which. -/
import Derived.Test.YtpmgchippfmakaaDoorShO
import Derived.Test.YtpmgchippfmakaaDoorProg
namespace Go.Sh
open Go.Proofs
theorem Tryd.hm : Tryd.prog.follows .mixedOrders = true := by kernel_rfl
end Go.Sh
