/- The program draws the orders that are open, and asks which. -/
import Derived.Test.YtjbfammgnlnloaaDoorShO
import Derived.Test.YtjbfammgnlnloaaDoorProg
namespace Go.Sh
open Go.Proofs
theorem Tryd.hm : Tryd.prog.follows .mixedOrders = true := by kernel_rfl
end Go.Sh
