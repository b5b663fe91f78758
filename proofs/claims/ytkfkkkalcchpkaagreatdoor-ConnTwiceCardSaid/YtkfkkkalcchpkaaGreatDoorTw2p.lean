/- A packet that comes once more changes nothing (part 16 of the walk and its laws) -/
import Derived.Test.YtkfkkkalcchpkaaGreatDoorTw2o
import Derived.Test.YtkfkkkalcchpkaaGreatDoorProg
namespace Go.Sh
open Go.Proofs
abbrev HP := Heap → Prop
abbrev VH := Value → Heap → Prop
theorem of_eq {a b : Prop} (h : a = b) (k : b) : a := h.mpr k
theorem Tryz.hm : Tryz.prog.follows .mixedOrders = true := by kernel_rfl
end Go.Sh
