/- SealShort, SealDoes, SealOwn. -/
import Derived.Test.YtkfkkkalcchpkaaGreatDoorSeaD
namespace Go.Sh
set_option maxRecDepth 8000
theorem u8_twice (a b : UInt8) : (a ^^^ b) ^^^ b = a := by rw [UInt8.xor_assoc, UInt8.xor_self, UInt8.xor_zero]
theorem hide_at {k : List UInt8} {u : Nat} {d : List UInt8} {t : Nat} (ht : t < d.length) : (hideL k u d)[t]? = some (d.getD t 0 ^^^ hbyte k u t) := by
  unfold hideL
  rw [hideTo_at ht, if_pos ht]
theorem hide_hide {k : List UInt8} {u : Nat} {d : List UInt8} : hideL k u (hideL k u d) = d := by
  apply List.ext_getElem?
  intro i
  rcases Nat.lt_or_ge i d.length with h | h
  · rw [hide_at (by rw [hideL_len]; exact h), List.getD_eq_getElem?_getD, hide_at h, Option.getD_some, u8_twice, List.getD_eq_getElem?_getD, List.getElem?_eq_getElem h]
    rfl
  · rw [List.getElem?_eq_none (by rw [hideL_len, hideL_len]; exact h), List.getElem?_eq_none h]
theorem seal_take {s : List UInt8} {u : Nat} {head d : List UInt8} : (sealL s u head d).take ((sealL s u head d).length - 16) = hideL (keyC s) u d := by
  rw [sealL_len, Nat.add_sub_cancel]
  unfold sealL
  exact List.take_left' hideL_len
theorem seal_drop {s : List UInt8} {u : Nat} {head d : List UInt8} : (sealL s u head d).drop ((sealL s u head d).length - 16) = tagL s u head (hideL (keyC s) u d) := by
  rw [sealL_len, Nat.add_sub_cancel]
  unfold sealL
  exact List.drop_left' hideL_len
theorem open_seal {s : List UInt8} {u : Nat} {head d : List UInt8} : openL s u head (sealL s u head d) = (d, 0) := by
  rw [openL_ok (by rw [sealL_len]; omega) (by rw [seal_take, seal_drop]), seal_take, hide_hide]
theorem open_other {s s2 : List UInt8} {u v : Nat} {head head2 d : List UInt8} (h : tagL s2 v head2 (hideL (keyC s) u d) ≠ tagL s u head (hideL (keyC s) u d)) : openL s2 v head2 (sealL s u head d) = ([], 10) := by
  rw [openL_bad (by rw [sealL_len]; omega) (by rw [seal_take, seal_drop]; exact h)]
theorem works_tags : tagL [115, 101, 99, 114, 101, 116] 8 [104] (hideL (keyC [115, 101, 99, 114, 101, 116]) 7 [97, 98, 99]) ≠ tagL [115, 101, 99, 114, 101, 116] 7 [104] (hideL (keyC [115, 101, 99, 114, 101, 116]) 7 [97, 98, 99]) := by decide +kernel
theorem Only.le {b : Nat} {H0 H H' : Heap} (h : Only b H H') (hl : Heap.Le H0 H) (hn : H0 b = none) : Heap.Le H0 H' := fun k o hk => h k o (hl k o hk) fun e => by subst e; rw [hn] at hk; cases hk
theorem un7 : un 7 = 7 := by decide
theorem un8 : un 8 = 8 := by decide
end Go.Sh
