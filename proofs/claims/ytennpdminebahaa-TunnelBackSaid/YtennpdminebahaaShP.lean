/- The program draws the orders that are open, and asks which. -/
import Derived.Test.YtennpdminebahaaShO
import Derived.Test.YtennpdminebahaaProg
namespace Go.Sh
open Go.Proofs
theorem Try.hm : Try.prog.follows .mixedOrders = true := by kernel_rfl
end Go.Sh
