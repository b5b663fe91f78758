/- That the box works at all. -/
import Derived.Test.YtjbfpeeigjjbdaaInboxB
namespace Go.Sh
theorem rdBytes_zeros {H : Heap} {b n : Nat} {K : ByteArray → Prop} (hb : H b = some (.cells (zerosOf (.int .u8 0) n).toArray 5)) (hk : K ⟨(List.replicate n 0).toArray⟩) : rdBytes H (some ⟨b, 0, none⟩) n K := by
  refine rdBytes_of hb (by simp) (fun i x hi => ?_) hk
  rw [List.getElem?_replicate] at hi
  split at hi
  · rename_i hlt
    cases hi
    have h1 : (zerosOf (.int .u8 0) n).toArray[i]? = (Builtin.zeroCells (Value.int .u8 0).cells n)[i]? := by unfold zerosOf; simp
    rw [h1]
    unfold Builtin.zeroCells
    have hs : (Value.int IntKind.u8 0).cells.size = 1 := rfl
    rw [Array.getElem?_map, hs, Nat.mul_one, Array.getElem?_range]
    simp [hlt, Nat.mod_one]
    rfl
  · cases hi
def wk1 : Bx := putS bx0 2 ⟨#[99, 100]⟩ false
def wk2 : Bx := (readL 9 wk1).2
def wk3 : Bx := putS wk2 0 ⟨#[97, 98, 99]⟩ false
def wk4 : Bx := (readL 9 wk3).2
theorem bx0_fine : bx0.fine := ⟨(fun n x h => by cases h), by decide, by decide⟩
theorem putS_fine {s : Bx} (h : s.fine) {off : Int} {data : ByteArray} {fin : Bool} (hd : data.size ≤ reachBytes) : (putS s off data fin).fine := by
  have hr : reachBytes = 140737488351232 := rfl
  unfold putS
  split
  · rename_i hc
    have ho : 0 ≤ off ∧ off ≤ 4611686018427387903 := by simpa [placeOk] using hc.1
    have he : ¬ putEnd off data > IntKind.i64.wrap (s.read + 4096) := by
      intro h9
      have := hc.2.1
      unfold fitsE at this
      rw [if_pos h9] at this
      cases this
    rw [w_i64 (by have := h.2.1; omega) (by have := h.2.2; omega)] at he
    refine ⟨fun n x hx => ?_, h.2⟩
    have hx : putF s off data data.size n = some x := hx
    unfold putF at hx
    split at hx
    · rename_i hn
      unfold putEnd at he
      exact ⟨by show n < s.read + 4096; omega, by omega⟩
    · exact h.1 n x hx
  · exact h
theorem readL_fine : ∀ (m : Nat) (s : Bx), s.fine → (readL m s).2.fine
  | 0, _, h => h
  | m + 1, s, h => by
    unfold readL
    split
    · exact h
    · split
      · exact h
      · rename_i c hc
        exact readL_fine m s.next (Bx.next_fine h hc)
theorem vizardlaw11_works.run {H : Heap} {K : Bool → Heap → Prop} {E : Value → Heap → Prop} (h : K true H) : vizardlaw11_works.c K E H := by
  have hr : reachBytes = 140737488351232 := rfl
  refine ⟨?_⟩
  unfold vizardlaw11_works.vc
  refine inbox_New.run fun b mb H1 hb1 hnb hnm hle1 => ?_
  rw [if_neg (by simp)]
  have f1 : wk1.fine := putS_fine bx0_fine (by rw [hr]; decide)
  have f3 : wk3.fine := putS_fine (readL_fine 9 wk1 f1) (by rw [hr]; decide)
  have i2 : IntKind.i64.has 2 := ⟨by decide, by decide⟩
  have i0 : IntKind.i64.has 0 := ⟨by decide, by decide⟩
  refine inbox_Box_Put.run hb1 i2 (by rw [hr]; decide) fun H2 hb2 hk2 => ?_
  refine inbox_Box_Read.run hb2 f1 fun H3 hb3 hk3 => ?_
  refine inbox_Box_Put.run (s := wk2) hb3 i0 (by rw [hr]; decide) fun H4 hb4 hk4 => ?_
  refine inbox_Box_Read.run (s := wk3) hb4 f3 fun H5 hb5 hk5 => ?_
  refine ⟨by decide, by decide, by decide, by decide, ?_⟩
  intro c hc
  refine rdBytes_zeros (set_self _ _ _) ?_
  have hb6 : BoxAt (H5.set c (.cells (zerosOf (.int .u8 0) 5000).toArray 5)) b mb wk4 := hb5.keep (fun o => Le_set hc _ b o) (fun o => Le_set hc _ mb o)
  have hsz : (⟨(List.replicate 5000 0).toArray⟩ : ByteArray).size = 5000 := by show (List.replicate 5000 (0 : UInt8)).toArray.size = 5000; rw [List.size_toArray, List.length_replicate]
  refine inbox_Box_Put.run (s := wk4) hb6 i0 (by rw [hr, hsz]; decide) fun H7 hb7 hk7 => ?_
  have e1 : putE bx0 2 ⟨#[99, 100]⟩ false = 0 := by decide
  have e2 : (readL (9 : Int).toNat (putS bx0 2 ⟨#[99, 100]⟩ false)).1 = [] := by rfl
  have e3 : (readL (9 : Int).toNat wk3).1 = [97, 98, 99, 100] := by rfl
  have e4 : putE wk4 0 ⟨(List.replicate 5000 0).toArray⟩ false = 12 := by
    unfold putE
    rw [if_pos (by decide)]
    unfold fitsE putEnd
    rw [hsz, if_pos (by decide)]
  rw [if_pos (by rw [e1]; rfl), if_pos (by rw [e2]; simp), if_pos (by rw [e3]; simp)]
  refine ⟨H, fun k o hk => ?_, ?_⟩
  · have nb : k ≠ b := fun e => by subst e; rw [hnb] at hk; cases hk
    have nm : k ≠ mb := fun e => by subst e; rw [hnm] at hk; cases hk
    exact hk7 k o (Le_set hc _ k o (hk5 k o (hk4 k o (hk3 k o (hk2 k o (hle1 k o hk) nb nm) nb nm) nb nm) nb nm)) nb nm
  · rw [e4]; exact h
end Go.Sh
