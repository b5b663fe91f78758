/- InboxFirst: of bytes that come twice the first ones stay. -/
import Derived.Test.YtjbfpeeigjjbdaaInboxC
namespace Go.Sh
theorem bget_get {s : ByteArray} {i : Nat} (h : i < s.size) : s.data.toList[i]? = some (bget s i) := by
  have hl : s.data.toList.length = s.size := by rw [Array.length_toList]; rfl
  unfold bget
  rw [Int.toNat_natCast, List.getD_eq_getElem?_getD, List.getElem?_eq_getElem (by omega)]
  rfl
theorem first_read {a b : ByteArray} {k : Nat} (ha : a.size ≤ 500) (hb : b.size ≤ 500) (hk : k ≤ a.size) :
    putE bx0 0 a false = 0 ∧ putE (putS bx0 0 a false) k b false = 0 ∧ (readL 2000 (putS (putS bx0 0 a false) k b false)).1 = a.data.toList ++ b.data.toList.drop (a.size - k) := by
  have p0 : placeOk 0 = true := by decide
  have pk : placeOk k = true := by unfold placeOk; exact decide_eq_true ⟨by omega, by omega⟩
  have fa : fitsE bx0 (putEnd 0 a) false = 0 := by
    unfold fitsE putEnd
    rw [if_neg (by rw [w_i64 (by decide) (by decide)]; show ¬ (0 + (a.size : Int) > 0 + 4096); omega), if_neg (by simp [bx0]), if_neg (by simp)]
  have ea : putS bx0 0 a false = putBx bx0 0 a false := by unfold putS; rw [if_pos ⟨p0, fa, rfl⟩]
  rw [ea]
  have fb : fitsE (putBx bx0 0 a false) (putEnd k b) false = 0 := by
    unfold fitsE putEnd
    rw [if_neg (by rw [w_i64 (by show (-9223372036854775808 : Int) ≤ 0 + 4096; decide) (by show (0 : Int) + 4096 ≤ 9223372036854775807; decide)]; show ¬ ((k : Int) + (b.size : Int) > 0 + 4096); omega), if_neg (by simp [bx0, putBx]), if_neg (by simp)]
  have eb : putS (putBx bx0 0 a false) k b false = putBx (putBx bx0 0 a false) k b false := by unfold putS; rw [if_pos ⟨pk, fb, rfl⟩]
  rw [eb]
  refine ⟨by unfold putE; rw [if_pos p0]; exact fa, by unfold putE; rw [if_pos pk]; exact fb, ?_⟩
  have hla : a.data.toList.length = a.size := by rw [Array.length_toList]; rfl
  have hlb : b.data.toList.length = b.size := by rw [Array.length_toList]; rfl
  have hA : ∀ n : Int, (putBx bx0 0 a false).f n = if 0 ≤ n ∧ n < a.size then some (bget a n) else none := fun n => by
    show putF bx0 0 a a.size n = _
    unfold putF
    by_cases h : 0 ≤ n ∧ n < a.size
    · rw [if_pos h, if_pos ⟨h.1, by omega, h.1, rfl⟩, show n - 0 = n by omega]
    · rw [if_neg h, if_neg (fun c => h ⟨c.1, by omega⟩)]
      rfl
  have hB : ∀ n : Int, 0 ≤ n → (putBx (putBx bx0 0 a false) k b false).f n = if n < a.size then some (bget a n) else if n < k + b.size then some (bget b (n - k)) else none := fun n h0 => by
    show putF (putBx bx0 0 a false) k b b.size n = _
    unfold putF
    by_cases h1 : n < a.size
    · have h3 : (putBx bx0 0 a false).f n = some (bget a n) := by rw [hA, if_pos ⟨h0, h1⟩]
      rw [if_pos h1, if_neg (fun c => by rw [h3] at c; cases c.2.2.2), h3]
    · have h3 : (putBx bx0 0 a false).f n = none := by rw [hA, if_neg (fun c => h1 c.2)]
      rw [if_neg h1]
      by_cases h2 : n < k + b.size
      · rw [if_pos h2, if_pos ⟨by omega, h2, h0, h3⟩]
      · rw [if_neg h2, if_neg (fun c => h2 c.2.1), h3]
  refine (readL_of _ _ _ rfl (fun i hi => ?_) ?_ ?_).1
  · show (putBx (putBx bx0 0 a false) k b false).f (0 + (i : Int)) = _
    rw [show (0 : Int) + (i : Int) = (i : Int) by omega, hB i (by omega)]
    simp only [List.length_append, List.length_drop, hla, hlb] at hi
    by_cases h1 : i < a.size
    · rw [if_pos (by omega), List.getElem?_append_left (by omega), bget_get h1]
    · rw [if_neg (by omega), if_pos (by omega), List.getElem?_append_right (by omega), List.getElem?_drop, hla, show a.size - k + (i - a.size) = i - k by omega, bget_get (by omega : i - k < b.size)]
      rw [show ((i - k : Nat) : Int) = (i : Int) - k by omega]
  · show (putBx (putBx bx0 0 a false) k b false).f (0 + _) = none
    simp only [List.length_append, List.length_drop, hla, hlb]
    rw [hB _ (by omega), if_neg (by omega), if_neg (by omega)]
  · simp only [List.length_append, List.length_drop, hla, hlb]
    omega
theorem u64_mod {off m : Int} (hm : 0 < m) (hm2 : m ≤ 1000) : ∃ k : Nat, IntKind.i64.wrap (Int.tmod (IntKind.u64.wrap off) (IntKind.u64.wrap (IntKind.i64.wrap m))) = (k : Int) ∧ (k : Int) < m := by
  rw [w_i64 (n := m) (by omega) (by omega), w_u64 (n := m) (by omega) (by omega)]
  have h0 : 0 ≤ IntKind.u64.wrap off := by
    simp only [IntKind.wrap, IntKind.bits, IntKind.signed, Bool.false_and, Bool.false_eq_true, if_false]
    exact Int.emod_nonneg _ (by decide)
  rw [Int.tmod_eq_emod_of_nonneg h0]
  have h1 := Int.emod_nonneg (IntKind.u64.wrap off) (show m ≠ 0 by omega)
  have h2 := Int.emod_lt_of_pos (IntKind.u64.wrap off) hm
  rw [w_i64 (by omega) (by omega)]
  exact ⟨(IntKind.u64.wrap off % m).toNat, by omega, by omega⟩
theorem vizardlaw11_InboxFirst.run {a b : ByteArray} {off : Int} {H : Heap} {K : Bool → Heap → Prop} {E : Value → Heap → Prop} (_ : a.size ≤ reachBytes) (_ : b.size ≤ reachBytes) (_ : IntKind.i64.has off) (h : K true H) : vizardlaw11_InboxFirst.c a b off K E H := by
  have hr : reachBytes = 140737488351232 := rfl
  refine ⟨?_⟩
  unfold vizardlaw11_InboxFirst.vc
  refine vizardlaw11_works.run ?_
  rw [if_neg (by simp)]
  by_cases h1 : (a.size : Int) > 500
  · rw [if_pos (by simpa using h1)]
    exact ⟨by unfold vizardlaw11_InboxFirst.J1.vc; rw [if_pos rfl]; exact ⟨H, Heap.Le.refl H, h⟩⟩
  · rw [if_neg (by simpa using h1)]
    refine ⟨?_⟩
    unfold vizardlaw11_InboxFirst.J1.vc
    by_cases h2 : (b.size : Int) > 500
    · rw [if_pos (by simpa using h2)]; exact ⟨H, Heap.Le.refl H, h⟩
    · rw [if_neg (by simpa using h2)]
      refine ⟨?_⟩
      unfold vizardlaw11_InboxFirst.J2.vc
      obtain ⟨k, hk, hka⟩ := u64_mod (off := off) (m := (a.size : Int) + 1) (by omega) (by omega)
      rw [hk]
      obtain ⟨e1, e2, e3⟩ := first_read (a := a) (b := b) (k := k) (by omega) (by omega) (by omega)
      refine inbox_New.run fun bb mb H1 hb1 hnb hnm hle1 => ⟨?_, ?_⟩
      · rw [w_i64 (by omega) (by omega), w_u64 (by omega) (by omega)]; omega
      refine inbox_Box_Put.run hb1 ⟨by decide, by decide⟩ (by omega) fun H2 hb2 hk2 => ?_
      rw [e1, if_neg (by simp)]
      have kr : IntKind.i64.has (k : Int) := ⟨by show (-9223372036854775808 : Int) ≤ k; omega, by show (k : Int) ≤ 9223372036854775807; omega⟩
      refine inbox_Box_Put.run hb2 kr (by omega) fun H3 hb3 hk3 => ?_
      rw [e2]
      refine ⟨?_⟩
      unfold vizardlaw11_InboxFirst.J3.vc
      rw [if_neg (by simp)]
      refine ⟨?_⟩
      unfold vizardlaw11_InboxFirst.J4.vc
      have hla : a.data.toList.length = a.size := by rw [Array.length_toList]; rfl
      have hlb : b.data.toList.length = b.size := by rw [Array.length_toList]; rfl
      have j5 : ∀ {want : ByteArray}, want = ⟨(a.data.toList ++ b.data.toList.drop (a.size - k)).toArray⟩ → vizardlaw11_InboxFirst.J5 (some ⟨bb, 0, none⟩) want (fun r H => ∃ H', Heap.Le H' H ∧ K r H') E H3 := fun hw => ⟨by
        unfold vizardlaw11_InboxFirst.J5.vc
        refine inbox_Box_Read.run hb3 (putS_fine (putS_fine bx0_fine (by omega)) (by omega)) fun H4 hb4 hk4 => ⟨H, fun i o hi => ?_, ?_⟩
        · have nb : i ≠ bb := fun e => by subst e; rw [hnb] at hi; cases hi
          have nm : i ≠ mb := fun e => by subst e; rw [hnm] at hi; cases hi
          exact hk4 i o (hk3 i o (hk2 i o (hle1 i o hi) nb nm) nb nm) nb nm
        · have e5 : (readL (2000 : Int).toNat (putS (putS bx0 0 a false) k b false)).1 = a.data.toList ++ b.data.toList.drop (a.size - k) := e3
          rw [e5, hw]
          simpa using h⟩
      rw [w_i64 (n := (k : Int) + b.size) (by omega) (by omega), w_i64 (n := (a.size : Int) - k) (by omega) (by omega)]
      by_cases h5 : (k : Int) + b.size > a.size
      · rw [if_pos (by simpa using h5)]
        have hsub : ((a.size : Int) - k).toNat = a.size - k := by omega
        rw [hsub]
        refine ⟨by omega, by omega, Nat.le_refl _, ?_, j5 ?_⟩
        · have : (b.extract (a.size - k) b.size).size ≤ b.size := by rw [ByteArray.size_extract]; omega
          omega
        · apply ByteArray.ext
          rw [ByteArray.data_append, ByteArray.data_extract]
          apply Array.toList_inj.1
          rw [Array.toList_append, Array.toList_extract, List.extract_eq_take_drop, List.take_of_length_le (by rw [List.length_drop]; omega)]
      · rw [if_neg (by simpa using h5)]
        refine j5 ?_
        rw [List.drop_eq_nil_of_le (by omega), List.append_nil]
end Go.Sh
