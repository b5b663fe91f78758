/- An end that closes tells the other one its code (part 16 of the walk and its laws) -/
import Derived.Test.YtkfkkkalcchpkaaGreatDoorClo
import Derived.Test.YtkfkkkalcchpkaaGreatDoorProg
namespace Go.Sh
open Go.Proofs
abbrev HP := Heap → Prop
abbrev VH := Value → Heap → Prop
theorem of_eq {a b : Prop} (h : a = b) (k : b) : a := h.mpr k
theorem Tryz.hm : Tryz.prog.follows .mixedOrders = true := by kernel_rfl
end Go.Sh
