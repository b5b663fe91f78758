/- Codes; that the digest works at all; ShaParts, ShaOwn. -/
import Derived.Test.YtkfkkkalcchpkaaGreatDoorShaB
namespace Go.Sh
set_option maxRecDepth 8000
theorem xor_u8n (a b : Nat) (ha : a < 256) (hb : b < 256) : bits .xor .u8 (a : Int) (b : Int) = ((a ^^^ b : Nat) : Int) := by
  have hx : a ^^^ b < 2 ^ 8 := Nat.xor_lt_two_pow (by omega) (by omega)
  have ofInt_u8 : ∀ n : Nat, n < 256 → (BitVec.ofInt 8 (n : Int)).toNat = n := fun n h => by
    rw [BitVec.ofInt_natCast, BitVec.toNat_ofNat]; exact Nat.mod_eq_of_lt (by omega)
  show IntKind.u8.wrap ((BitVec.ofInt 8 (a : Int) ^^^ BitVec.ofInt 8 (b : Int)).toNat : Int) = _
  rw [BitVec.toNat_xor, ofInt_u8 a ha, ofInt_u8 b hb, w_u8 (by omega) (by omega)]
theorem xor_u8 (a b : UInt8) : bits .xor .u8 (a.toNat : Int) (b.toNat : Int) = ((a ^^^ b).toNat : Int) := by
  rw [xor_u8n _ _ a.toNat_lt b.toNat_lt, UInt8.toNat_xor]
def padK (key : List UInt8) (x : UInt8) : List UInt8 := (key ++ List.replicate (64 - key.length) 0).map (· ^^^ x)
def hmac (key s : List UInt8) : List UInt8 :=
  let k := if 64 < key.length then sha key else key
  sha (padK k 0x5C ++ sha (padK k 0x36 ++ s))
theorem padK_len {key : List UInt8} {x : UInt8} (h : key.length ≤ 64) : (padK key x).length = 64 := by
  unfold padK
  simp
  omega
theorem hmac_len (key s : List UInt8) : (hmac key s).length = 32 := sha_len _
theorem ba_len (x : ByteArray) : x.data.toList.length = x.size := by rw [Array.length_toList]; rfl
theorem ba_app (x y : ByteArray) : (x ++ y).data.toList = x.data.toList ++ y.data.toList := by rw [ByteArray.data_append, Array.toList_append]
theorem ba_mk (x : ByteArray) : (⟨x.data.toList.toArray⟩ : ByteArray) = x := ByteArray.ext (by simp)
theorem ba_size (l : List UInt8) : (⟨l.toArray⟩ : ByteArray).size = l.length := by show l.toArray.size = _; simp
theorem ba_list (l : List UInt8) : (⟨l.toArray⟩ : ByteArray).data.toList = l := by simp
def xorTo (l : List UInt8) (x : UInt8) (k : Nat) : List UInt8 := (l.take k).map (· ^^^ x) ++ l.drop k
theorem xorTo_set {l : List UInt8} {x : UInt8} {k : Nat} (h : k < l.length) : (xorTo l x k).set k (l.getD k 0 ^^^ x) = xorTo l x (k + 1) := by
  unfold xorTo
  rw [List.set_append_right _ _ (by simp; omega), List.length_map, List.length_take, Nat.min_eq_left (by omega), Nat.sub_self, List.drop_eq_getElem_cons h, List.set_cons_zero, List.take_succ_eq_append_getElem h, List.map_append, List.append_assoc, List.getD_eq_getElem?_getD, List.getElem?_eq_getElem h]
  rfl
theorem xorTo_get {l : List UInt8} {x : UInt8} {k : Nat} (h : k < l.length) : (xorTo l x k).getD k 0 = l.getD k 0 := by
  unfold xorTo
  rw [List.getD_eq_getElem?_getD, List.getElem?_append_right (by simp; omega), List.length_map, List.length_take, Nat.min_eq_left (by omega), Nat.sub_self, List.getElem?_drop, Nat.add_zero, List.getD_eq_getElem?_getD]
theorem xorTo_len {l : List UInt8} {x : UInt8} {k : Nat} : (xorTo l x k).length = l.length := by
  unfold xorTo
  simp
  omega
theorem sha_pad.run {H : Heap} {key : ByteArray} {x : UInt8} (hk : key.size ≤ 64) {K : ByteArray → Heap → Prop} {E : Value → Heap → Prop} (h : ∀ H', Heap.Le H H' → K ⟨(padK key.data.toList x).toArray⟩ H') : sha_pad.c key (x.toNat : Int) K E H := by
  refine ⟨?_⟩
  unfold sha_pad.vc
  have hw : IntKind.i64.wrap (64 - (key.size : Int)) = ((64 - key.size : Nat) : Int) := by rw [w_i64 (by omega) (by omega)]; omega
  rw [hw]
  have hs1 : (⟨#[0]⟩ : ByteArray).size = 1 := rfl
  refine ⟨by omega, by omega, by rw [hs1, Int.toNat_natCast]; omega, ?_⟩
  have hrep : Lib.repeatL (⟨#[0]⟩ : ByteArray).data.toList (64 - key.size) = List.replicate (64 - key.size) 0 := by
    have := Lib.repeatL_replicate (0 : UInt8) 1 (64 - key.size)
    rw [Nat.mul_one] at this
    exact this
  rw [Int.toNat_natCast, hrep]
  have hz : (⟨(List.replicate (64 - key.size) (0 : UInt8)).toArray⟩ : ByteArray).size = 64 - key.size := by rw [ba_size]; simp
  refine ⟨by rw [hz]; omega, ?_⟩
  intro j
  generalize hX : key ++ (⟨(List.replicate (64 - key.size) (0 : UInt8)).toArray⟩ : ByteArray) = X
  have hXs : X.size = 64 := by rw [← hX, ByteArray.size_append, hz]; omega
  have hXl : X.data.toList = key.data.toList ++ List.replicate (64 - key.data.toList.length) 0 := by rw [← hX, ba_app, ba_list, ba_len]
  refine newB_le fun b H1 hn1 hl1 hle1 => ?_
  have ho := str_bytes hl1
  have hXl2 := ba_len X
  refine ⟨Loop.of (I := fun st H' m => ∃ k : Nat, st = (k : Int) ∧ k ≤ 64 ∧ m = 64 - k ∧ OwnB H' 5 (some ⟨b, 0, none⟩) X.size (X.size + j) (xorTo X.data.toList x k) ∧ Step [b] H1 [b] H') ?_ ⟨0, rfl, by omega, rfl, by simpa [xorTo] using ho, Step.refl _ _⟩⟩
  rintro m st H' ⟨k, rfl, hk, rfl, ho, hst⟩ RR hRR
  unfold sha_pad.W1.vc
  by_cases hc : k < 64
  · rw [if_pos (by rw [decide_eq_true_eq]; omega)]
    obtain ⟨a, ha, hcell⟩ := ho.bytes.get (i := k) (by omega)
    rw [xorTo_get (by omega)] at hcell
    refine ⟨a, ha, by omega, by omega, _, by rw [Int.toNat_natCast]; exact hcell, a, ha, by omega, by omega, ?_⟩
    rw [xor_u8, Int.toNat_natCast]
    refine ho.put (i := k) (x := X.data.toList.getD k 0 ^^^ x) (by omega) ha fun H2 h2 hst2 => ?_
    rw [xorTo_set (by omega)] at h2
    rw [w_i64 (by omega) (by omega)]
    exact hRR _ _ (64 - (k + 1)) (by omega) ⟨k + 1, by simp, by omega, rfl, h2, hst.trans hst2⟩
  · rw [if_neg (by rw [decide_eq_true_eq]; omega)]
    have : k = 64 := by omega
    subst this
    refine ho.bytes.rdBytes ?_
    have e : xorTo X.data.toList x 64 = padK key.data.toList x := by
      unfold xorTo padK
      rw [List.take_of_length_le (by omega), List.drop_eq_nil_of_le (by omega), List.append_nil, hXl]
    rw [e]
    refine ⟨H', Heap.Le.refl _, h H' fun k o hk => (hst k o (hle1 k o hk) ?_).1⟩
    intro hm
    rw [List.mem_singleton] at hm
    subst hm
    rw [hn1] at hk; cases hk
theorem IntsIn.up {H H' : Heap} {g : Nat} {k : IntKind} {xs : List Int} (h : IntsIn H g k xs) (hl : Heap.Le H H') : IntsIn H' g k xs := fun i x hi => Le_cell hl (h i x hi)
theorem sha_Hmac.tail {H : Heap} {key s : ByteArray} (hk : key.size ≤ 64) (hs : s.size ≤ 100000000000) (ht : IntsIn H 1 .u32 kTab) {Kr : ByteArray → Heap → Prop} {E : Value → Heap → Prop}
    (h : ∀ H', Heap.Le H H' → Kr ⟨(sha (padK key.data.toList 0x5C ++ sha (padK key.data.toList 0x36 ++ s.data.toList))).toArray⟩ H') : sha_Hmac.J1 key s Kr E H := by
  have hkl := ba_len key
  refine ⟨?_⟩
  unfold sha_Hmac.J1.vc
  refine sha_pad.run (x := 0x5C) hk fun H1 hle1 => ?_
  refine sha_pad.run (x := 0x36) hk fun H2 hle2 => ?_
  have p1 := padK_len (key := key.data.toList) (x := 0x5C) (by omega)
  have p2 := padK_len (key := key.data.toList) (x := 0x36) (by omega)
  refine ⟨by rw [ba_size, p2]; omega, ?_⟩
  refine sha_Sum.run (by rw [ByteArray.size_append, ba_size, p2]; omega) ((ht.up hle1).up hle2) fun H3 hle3 => ?_
  rw [ba_app, ba_list]
  have l1 := sha_len (padK key.data.toList 0x36 ++ s.data.toList)
  refine ⟨by rw [ba_size, ba_size, p1, l1]; decide, ?_⟩
  refine sha_Sum.run (by rw [ByteArray.size_append, ba_size, ba_size, p1, l1]; decide) (((ht.up hle1).up hle2).up hle3) fun H4 hle4 => ?_
  rw [ba_app, ba_list, ba_list]
  exact h H4 (((hle1.trans hle2).trans hle3).trans hle4)
theorem sha_Hmac.run {H : Heap} {key s : ByteArray} (hk : key.size ≤ 100000000000) (hs : s.size ≤ 100000000000) (ht : IntsIn H 1 .u32 kTab) {K : ByteArray → Heap → Prop} {E : Value → Heap → Prop} (h : ∀ H', Heap.Le H H' → K ⟨(hmac key.data.toList s.data.toList).toArray⟩ H') : sha_Hmac.c key s K E H := by
  have hkl := ba_len key
  refine ⟨?_⟩
  unfold sha_Hmac.vc
  by_cases hc : 64 < key.size
  · rw [if_pos (by rw [decide_eq_true_eq]; omega)]
    refine sha_Sum.run (by omega) ht fun H1 hle1 => ?_
    have l1 := sha_len key.data.toList
    refine sha_Hmac.tail (by rw [ba_size, l1]; decide) hs (ht.up hle1) fun H2 hle2 => ?_
    have := h H2 (hle1.trans hle2)
    unfold hmac at this
    rw [if_pos (by omega)] at this
    rw [ba_list]
    exact ⟨H2, Heap.Le.refl _, this⟩
  · rw [if_neg (by rw [decide_eq_true_eq]; omega)]
    refine sha_Hmac.tail (by omega) hs ht fun H2 hle2 => ?_
    have := h H2 hle2
    unfold hmac at this
    rw [if_neg (by omega)] at this
    exact ⟨H2, Heap.Le.refl _, this⟩
def StrsAt (H : Heap) (p : Option Addr) (n : Nat) (ss : List ByteArray) : Prop := RowsAt H p n 1 (ss.map fun s => [.string s])
theorem StrsAt.len {H : Heap} {p : Option Addr} {n : Nat} {ss : List ByteArray} (h : StrsAt H p n ss) : ss.length = n := by simpa using h.1
theorem StrsAt.get {H H' : Heap} {p : Option Addr} {n : Nat} {ss : List ByteArray} (h : StrsAt H p n ss) (hl : Heap.Le H H') {i : Nat} (hi : i < n) : ∃ a s, p = some a ∧ ss[i]? = some s ∧ H'.cell? (a.add (i * 1)) = some (.string s) := by
  have hlen := h.len
  have hx : ss[i]? = some (ss[i]'(by omega)) := List.getElem?_eq_getElem (by omega)
  obtain ⟨a, ha, hc⟩ := RowsAt.cell h (i := i) (es := [.string (ss[i]'(by omega))]) (by simp [hx])
  refine ⟨a, ss[i]'(by omega), ha, hx, ?_⟩
  have := hc 0 _ rfl
  rw [add_add] at this
  exact Le_cell hl this
theorem strs_of {H : Heap} {p : Option Addr} {n : Nat} (h : ∃ rows, RowsAt H p n 1 rows ∧ ∀ es ∈ rows, ∃ y, es = [(.string y)] ∧ y.size ≤ reachBytes) : ∃ ss, StrsAt H p n ss := by
  obtain ⟨rows, hat, hes⟩ := h
  have : ∃ l : List ByteArray, rows = l.map (fun x => [.string x]) := by
    clear hat
    induction rows with
    | nil => exact ⟨[], rfl⟩
    | cons es rows ih =>
      obtain ⟨l, rfl⟩ := ih fun es he => hes es (by simp [he])
      obtain ⟨y, rfl, _⟩ := hes es (by simp)
      exact ⟨y :: l, rfl⟩
  obtain ⟨l, rfl⟩ := this
  exact ⟨l, hat⟩
/-- A step from the first heap: all that was known is there, the table too, and none of it is in the footprint. -/
theorem Step.tab {L : List Nat} {Hb H : Heap} (hs : Step [] Hb L H) (ht : IntsIn Hb 1 .u32 kTab) : IntsIn H 1 .u32 kTab ∧ (1 : Nat) ∉ L := by
  refine ⟨ht.up hs.le, ?_⟩
  cases h0 : Hb 1 with
  | none => exact absurd h0 (IntsIn.some0 ht)
  | some o => exact (hs 1 o h0 (by simp)).2
theorem Step.ofNew {L : List Nat} {H H' : Heap} {b : Nat} (hn : H b = none) (hl : Heap.Le H H') : Step L H (b :: L) H' := fun k o hk h => ⟨hl k o hk, fun hm => by
  rcases List.mem_cons.1 hm with rfl | hm
  · rw [hn] at hk; cases hk
  · exact h hm⟩
end Go.Sh
