/- A packet that comes once more changes nothing (part 26 of the walk and its laws) -/
import Derived.Test.YtkfkkkalcchpkaaGreatDoorTw2y
import Derived.DefersIn
import Derived.RecoverIn
import Derived.Shelf.Strings.Builder1
import Derived.Shelf.Strings.Search3
import Derived.TacticsInMore
import Derived.WalkKit
namespace Go.Sh
set_option maxRecDepth 8000
def hRow (S : St) (p : Option Addr) (n c : Nat) (u : Int) : List Value := S.cells ++ [.slice p n c, .int .u64 u]
theorem hash_ld {H : Heap} {a : Addr} {S : St} {p : Option Addr} {n c : Nat} {u : Int} (g : ∀ (i : Nat) (v : Value), (hRow S p n c u)[i]? = some v → H.cell? (a.add i) = some v) {K : Int → Int → Int → Int → Int → Int → Int → Int → Option Addr → Nat → Nat → Int → Prop} (hk : K (wv S.a) (wv S.b) (wv S.c) (wv S.d) (wv S.e) (wv S.f) (wv S.g) (wv S.h) p n c u) :
    ldI H .u32 (a.add 0) fun x0 => ldI H .u32 (a.add 1) fun x1 => ldI H .u32 (a.add 2) fun x2 => ldI H .u32 (a.add 3) fun x3 => ldI H .u32 (a.add 4) fun x4 => ldI H .u32 (a.add 5) fun x5 => ldI H .u32 (a.add 6) fun x6 => ldI H .u32 (a.add 7) fun x7 => ldSl H (a.add 8) fun xp0 xn0 xc0 => ldI H .u64 (a.add 9) fun xu0 => K x0 x1 x2 x3 x4 x5 x6 x7 xp0 xn0 xc0 xu0 :=
  ⟨_, g 0 _ rfl, _, g 1 _ rfl, _, g 2 _ rfl, _, g 3 _ rfl, _, g 4 _ rfl, _, g 5 _ rfl, _, g 6 _ rfl, _, g 7 _ rfl, _, _, _, g 8 _ rfl, _, g 9 _ rfl, hk⟩
theorem mac_ld {H : Heap} {a : Addr} {S T : St} {p q : Option Addr} {n c m d : Nat} {u w : Int} (g : ∀ (i : Nat) (v : Value), (hRow S p n c u ++ hRow T q m d w)[i]? = some v → H.cell? (a.add i) = some v) {K : Int → Int → Int → Int → Int → Int → Int → Int → Option Addr → Nat → Nat → Int → Int → Int → Int → Int → Int → Int → Int → Int → Option Addr → Nat → Nat → Int → Prop} (hk : K (wv S.a) (wv S.b) (wv S.c) (wv S.d) (wv S.e) (wv S.f) (wv S.g) (wv S.h) p n c u (wv T.a) (wv T.b) (wv T.c) (wv T.d) (wv T.e) (wv T.f) (wv T.g) (wv T.h) q m d w) :
    ldI H .u32 (a.add 0) fun x0 => ldI H .u32 (a.add 1) fun x1 => ldI H .u32 (a.add 2) fun x2 => ldI H .u32 (a.add 3) fun x3 => ldI H .u32 (a.add 4) fun x4 => ldI H .u32 (a.add 5) fun x5 => ldI H .u32 (a.add 6) fun x6 => ldI H .u32 (a.add 7) fun x7 => ldSl H (a.add 8) fun xp0 xn0 xc0 => ldI H .u64 (a.add 9) fun xu0 => ldI H .u32 (a.add 10) fun x10 => ldI H .u32 (a.add 11) fun x11 => ldI H .u32 (a.add 12) fun x12 => ldI H .u32 (a.add 13) fun x13 => ldI H .u32 (a.add 14) fun x14 => ldI H .u32 (a.add 15) fun x15 => ldI H .u32 (a.add 16) fun x16 => ldI H .u32 (a.add 17) fun x17 => ldSl H (a.add 18) fun xp10 xn10 xc10 => ldI H .u64 (a.add 19) fun xu10 => K x0 x1 x2 x3 x4 x5 x6 x7 xp0 xn0 xc0 xu0 x10 x11 x12 x13 x14 x15 x16 x17 xp10 xn10 xc10 xu10 :=
  ⟨_, g 0 _ rfl, _, g 1 _ rfl, _, g 2 _ rfl, _, g 3 _ rfl, _, g 4 _ rfl, _, g 5 _ rfl, _, g 6 _ rfl, _, g 7 _ rfl, _, _, _, g 8 _ rfl, _, g 9 _ rfl, _, g 10 _ rfl, _, g 11 _ rfl, _, g 12 _ rfl, _, g 13 _ rfl, _, g 14 _ rfl, _, g 15 _ rfl, _, g 16 _ rfl, _, g 17 _ rfl, _, _, _, g 18 _ rfl, _, g 19 _ rfl, hk⟩
theorem put20 {H : Heap} {b : Nat} {hd row tl : List Value} {e : TypeId} (h : RowO H b hd row tl e) (hl : row.length = 20) {a : Addr} (ha : a = ⟨b, hd.length, none⟩) {v0 v1 v2 v3 v4 v5 v6 v7 v8 v9 v10 v11 v12 v13 v14 v15 v16 v17 v18 v19 : Value} {K : Heap → Prop} (hk : ∀ H', RowO H' b hd [v0, v1, v2, v3, v4, v5, v6, v7, v8, v9, v10, v11, v12, v13, v14, v15, v16, v17, v18, v19] tl e → Step [b] H [b] H' → K H') : stc H (a.add 0) v0 fun h0 => stc h0 (a.add 1) v1 fun h1 => stc h1 (a.add 2) v2 fun h2 => stc h2 (a.add 3) v3 fun h3 => stc h3 (a.add 4) v4 fun h4 => stc h4 (a.add 5) v5 fun h5 => stc h5 (a.add 6) v6 fun h6 => stc h6 (a.add 7) v7 fun h7 => stc h7 (a.add 8) v8 fun h8 => stc h8 (a.add 9) v9 fun h9 => stc h9 (a.add 10) v10 fun h10 => stc h10 (a.add 11) v11 fun h11 => stc h11 (a.add 12) v12 fun h12 => stc h12 (a.add 13) v13 fun h13 => stc h13 (a.add 14) v14 fun h14 => stc h14 (a.add 15) v15 fun h15 => stc h15 (a.add 16) v16 fun h16 => stc h16 (a.add 17) v17 fun h17 => stc h17 (a.add 18) v18 fun h18 => stc h18 (a.add 19) v19 fun h19 => K h19 := by
  subst ha
  have hv : [v0, v1, v2, v3, v4, v5, v6, v7, v8, v9, v10, v11, v12, v13, v14, v15, v16, v17, v18, v19].length = 20 := rfl
  generalize hvs : [v0, v1, v2, v3, v4, v5, v6, v7, v8, v9, v10, v11, v12, v13, v14, v15, v16, v17, v18, v19] = vs at hv hk
  have e1 : putL (hd ++ row ++ tl).toArray.toList (hd.length + 0) vs = hd ++ vs ++ tl := by
    have a1 : (hd ++ row ++ tl).take hd.length = hd := by rw [List.append_assoc, List.take_left]
    have a2 : (hd ++ row ++ tl).drop (hd.length + 20) = tl := List.drop_left' (by rw [List.length_append, hl])
    unfold putL
    rw [List.toList_toArray, Nat.add_zero, hv, a1, a2]
  have key := stcs_at (e := e) (f := (0, 0)) (K := K) vs 0 hd.length _ H h (by rw [List.size_toArray, List.length_append, List.length_append]; omega) (fun k _ _ => by omega) (by
    rw [e1]
    exact hk _ (by unfold RowO; rw [set_self]) (Step.set _ _ _))
  subst hvs
  exact key
theorem eat64 {s : St} {l : List UInt8} (h : l.length = 64) : eat s l = (s.block l, []) := by
  rw [eat_step (by omega), List.take_of_length_le (by omega), List.drop_eq_nil_of_le (by omega), eat_small (by simp)]
theorem seal_pad.run {H : Heap} {key : ByteArray} {x : UInt8} (hk : key.size ≤ 64) {K : ByteArray → Heap → Prop} {E : Value → Heap → Prop} (h : ∀ H', Heap.Le H H' → K ⟨(padK key.data.toList x).toArray⟩ H') : seal_pad.c key (x.toNat : Int) K E H := by
  refine ⟨?_⟩
  unfold seal_pad.vc
  have hkl := ba_len key
  refine ⟨by decide, by decide, by decide, by decide, ?_⟩
  refine zna fun b H1 hn1 hl1 hle1 => ?_
  have hmin : Nat.min key.size 64 = key.size := Nat.min_eq_left hk
  have hbl : (zxb key).take key.size = key.data.toList.map byV := by
    unfold zxb
    rw [List.take_of_length_le (by rw [List.length_map]; omega)]
    rfl
  rw [hmin, hbl]
  refine ⟨fun v hv => by obtain ⟨y, _, rfl⟩ := List.mem_map.1 hv; rfl, ?_⟩
  have hzl : (zub (.int .u8 0) 64).length = 64 := zerosB_len _
  refine stcs_at (f := (0, 0)) _ 0 0 _ _ hl1 (by rw [List.size_toArray, hzl, List.length_map]; omega) (fun k _ _ => by omega) ?_
  generalize hX : key.data.toList ++ List.replicate (64 - key.data.toList.length) (0 : UInt8) = X
  have hXl : X.length = 64 := by rw [← hX, List.length_append, List.length_replicate]; omega
  have hput : putL (zub (.int .u8 0) 64).toArray.toList (0 + 0) (key.data.toList.map byV) = X.map byV := by
    unfold putL
    rw [List.toList_toArray, zeros_map, ← hX, List.map_append, List.length_map, Nat.add_zero, Nat.zero_add, List.take_zero, List.nil_append, ← List.map_drop, List.drop_replicate]
  rw [hput]
  have ho : OwnB (H1.set b (.cells (X.map byV).toArray 5)) 5 (some ⟨b, 0, none⟩) 64 64 X := OwnB.of_block (set_self _ _ _) hXl (Nat.le_refl _) (by simp [hXl]) (.inr rfl) (by rw [List.toList_toArray, List.take_of_length_le (by simp [hXl])])
  have hle2 : Heap.Le H (H1.set b (.cells (X.map byV).toArray 5)) := fun k o hk => by
    have : k ≠ b := fun e => by subst e; rw [hn1] at hk; cases hk
    rw [set_ne _ _ this]; exact hle1 k o hk
  generalize H1.set b (.cells (X.map byV).toArray 5) = H2 at ho hle2 ⊢
  refine ⟨Loop.of (I := fun st H' m => ∃ k : Nat, st = (k : Int) ∧ k ≤ 64 ∧ m = 64 - k ∧ OwnB H' 5 (some ⟨b, 0, none⟩) 64 64 (xorTo X x k) ∧ Step [b] H2 [b] H') ?_ ⟨0, rfl, by omega, rfl, by simpa [xorTo] using ho, Step.refl _ _⟩⟩
  rintro m st H' ⟨k, rfl, hk, rfl, ho, hst⟩ RR hRR
  unfold seal_pad.W1.vc
  by_cases hc : k < 64
  · rw [if_pos (by rw [decide_eq_true_eq]; omega)]
    obtain ⟨a, ha, hcell⟩ := ho.bytes.get (i := k) (by omega)
    rw [xorTo_get (by omega)] at hcell
    refine ⟨a, ha, by omega, by omega, _, by rw [Int.toNat_natCast]; exact hcell, a, ha, by omega, by omega, ?_⟩
    rw [xor_u8, Int.toNat_natCast]
    refine ho.put (i := k) (x := X.getD k 0 ^^^ x) (by omega) ha fun H3 h3 hst3 => ?_
    rw [xorTo_set (by omega)] at h3
    rw [w_i64 (by omega) (by omega)]
    exact hRR _ _ (64 - (k + 1)) (by omega) ⟨k + 1, by simp, by omega, rfl, h3, hst.trans hst3⟩
  · rw [if_neg (by rw [decide_eq_true_eq]; omega)]
    have : k = 64 := by omega
    subst this
    refine ho.bytes.rdBytes ?_
    have e : xorTo X x 64 = padK key.data.toList x := by
      unfold xorTo padK
      rw [List.take_of_length_le (by omega), List.drop_eq_nil_of_le (by omega), List.append_nil, ← hX]
    rw [e]
    refine ⟨H', Heap.Le.refl _, h H' fun k o hk => (hst k o (hle2 k o hk) ?_).1⟩
    intro hm
    rw [List.mem_singleton] at hm
    subst hm
    rw [hn1] at hk; cases hk
def padS (key : List UInt8) (x : UInt8) : St := st0.block (padK key x)
def macRow (key : List UInt8) : List Value := hRow (padS key 0x36) none 0 0 64 ++ hRow (padS key 0x5C) none 0 0 64
def emptyRow : List Value := hRow st0 none 0 0 0 ++ hRow st0 none 0 0 0
theorem hashO_of {H : Heap} {b : Nat} {hd tl2 : List Value} {e : TypeId} {d : List UInt8} (hd0 : (eat st0 d).2 = []) (h : RowO H b hd (hRow (eat st0 d).1 none 0 0 (d.length : Int)) tl2 e) : HashO H b hd tl2 e none 0 d := by
  refine ⟨?_, ?_, by simp [bl]⟩
  · unfold StO
    rw [hd0]
    exact h
  · rw [hd0]
    exact OwnB.nil
theorem zxc.J1.run {H : Heap} {key : ByteArray} (hk : key.size ≤ 64) {b0 b1 : Nat} (hne : b0 ≠ b1) (n1 : (1 : Nat) ≠ b1) {arr0 : List Value} (h20 : arr0.length = 20) (hb0 : H b0 = some (.cells arr0.toArray 211)) (hb1 : H b1 = some (.cells emptyRow.toArray 211)) (ht : IntsIn H 1 .u32 kTab)
    {Kr : Heap → Prop} {E : Value → Heap → Prop} (h : ∀ H', H' b0 = some (.cells (macRow key.data.toList).toArray 211) → (∀ k o, H k = some o → k ≠ b0 → k ≠ b1 → H' k = some o) → Kr H') : zxc.J1 key ⟨b0, 0, none⟩ ⟨b1, 0, none⟩ Kr E H := by
  have hkl := ba_len key
  have hp1 := padK_len (key := key.data.toList) (x := 0x36) (by omega)
  have hp2 := padK_len (key := key.data.toList) (x := 0x5C) (by omega)
  have n1' : (1 : Nat) ∉ [b1] := by simpa using n1
  refine ⟨?_⟩
  unfold zxc.J1.vc
  refine seal_pad.run (x := 0x36) hk fun H1 hle1 => ?_
  have e0 : eat st0 [] = (st0, []) := eat_small (by simp)
  have ho1 : HashO H1 b1 [] (hRow st0 none 0 0 0) 211 none 0 [] := hashO_of (by rw [e0]) (by
    rw [e0]
    have := hle1 _ _ hb1
    unfold RowO
    rw [this, List.nil_append]
    unfold emptyRow
    rfl)
  refine zoa.runO (hd := []) ho1 (by rw [zxa, hp1]; decide) (ht.up hle1) n1' fun p2 c2 H2 ho2 hnil2 hst2 => ?_
  rw [zvc, List.nil_append, eat64 hp1] at hnil2
  obtain ⟨rfl, rfl⟩ := hnil2 rfl
  have hs2 := ho2.1
  rw [zvc, List.nil_append] at hs2
  unfold StO at hs2
  rw [eat64 hp1, hp1] at hs2
  refine seal_pad.run (x := 0x5C) hk fun H3 hle3 => ?_
  have hr3 : RowO H3 b1 (hRow (padS key.data.toList 0x36) none 0 0 64) (hRow st0 none 0 0 0) [] 211 := by
    have := hle3 _ _ hs2
    unfold RowO
    rw [this, List.append_nil, List.nil_append]
    unfold hRow padS
    rfl
  have ho3 : HashO H3 b1 (hRow (padS key.data.toList 0x36) none 0 0 64) [] 211 none 0 [] := hashO_of (by rw [e0]) (by rw [e0]; exact hr3)
  have k3 : IntsIn H3 1 .u32 kTab := (((ht.up hle1).step hst2 n1')).up hle3
  refine zoa.runO ho3 (by rw [zxa, hp2]; decide) k3 n1' fun p4 c4 H4 ho4 hnil4 hst4 => ?_
  rw [zvc, List.nil_append, eat64 hp2] at hnil4
  obtain ⟨rfl, rfl⟩ := hnil4 rfl
  have hs4 := ho4.1
  rw [zvc, List.nil_append] at hs4
  unfold StO at hs4
  rw [eat64 hp2, hp2] at hs4
  have hr4 : RowO H4 b1 [] (macRow key.data.toList) [] 211 := by
    unfold RowO at hs4 ⊢
    rw [hs4, List.append_nil, List.append_nil, List.nil_append]
    unfold macRow hRow padS
    rfl
  refine mac_ld (fun i v hi => hr4.get hi) ?_
  have keep : ∀ k o, H k = some o → k ≠ b1 → H4 k = some o := fun k o hk hn => by
    have nk : k ∉ [b1] := by simpa using hn
    exact (hst4 k o (hle3 k o (hst2 k o (hle1 k o hk) nk).1) nk).1
  have hr0 : RowO H4 b0 [] arr0 [] 211 := by
    unfold RowO
    rw [keep b0 _ hb0 hne, List.append_nil, List.nil_append]
  refine put20 hr0 h20 rfl fun H5 h5 hst5 => h H5 ?_ fun k o hk hn0 hn1 => (hst5 k o (keep k o hk hn1) (by simpa using hn0)).1
  unfold RowO at h5
  rw [h5, List.append_nil, List.nil_append]
  unfold macRow hRow St.cells St.list
  rfl
end Go.Sh
namespace Go.Sh
set_option maxRecDepth 8000
theorem hash_new_cells {H : Heap} {b : Nat} (h : HashAt H b [b] []) : ∀ (i : Nat) (v : Value), (hRow st0 none 0 0 0)[i]? = some v → H.cell? ((⟨b, 0, none⟩ : Addr).add i) = some v := by
  obtain ⟨p, c, e, h1, h2, _, h4⟩ := h
  have e0 : eat st0 [] = (st0, []) := eat_small (by simp)
  rw [e0] at h1 h2
  have hp : p = none ∧ c = 0 := by
    rcases h2.2.2 with h | ⟨b2, off, arr, f, rfl, _⟩
    · exact h
    · simp [bl] at h4
  obtain ⟨rfl, rfl⟩ := hp
  intro i v hi
  refine loc h1 ?_
  rw [List.getElem?_toArray]
  exact hi
theorem le_of_rows {H : Heap} {b : Nat} {row : List Value} {e : TypeId} (h : H b = some (.cells row.toArray e)) : ∀ (i : Nat) (v : Value), row[i]? = some v → H.cell? ((⟨b, 0, none⟩ : Addr).add i) = some v := fun i v hi => loc h (by rw [List.getElem?_toArray]; exact hi)
theorem zxc.tail {H0 H : Heap} (hle : Heap.Le H0 H) {key : ByteArray} (hk : key.size ≤ 64) {b0 b1 : Nat} (n0 : H0 b0 = none) (n1 : H0 b1 = none) (hne : b0 ≠ b1) {arr0 arr1 : List Value} (h20 : arr0.length = 20) (h21 : arr1.length = 20) (hb0 : H b0 = some (.cells arr0.toArray 211)) (hb1 : H b1 = some (.cells arr1.toArray 211)) (ht : IntsIn H0 1 .u32 kTab)
    {Kr : Heap → Prop} {E : Value → Heap → Prop} (h : ∀ H', H' b0 = some (.cells (macRow key.data.toList).toArray 211) → Heap.Le H0 H' → Kr H') : stc H ((⟨b1, 0, none⟩ : Addr).add 0) (.int .u32 (wv st0.a)) fun h0 => stc h0 ((⟨b1, 0, none⟩ : Addr).add 1) (.int .u32 (wv st0.b)) fun h1 => stc h1 ((⟨b1, 0, none⟩ : Addr).add 2) (.int .u32 (wv st0.c)) fun h2 => stc h2 ((⟨b1, 0, none⟩ : Addr).add 3) (.int .u32 (wv st0.d)) fun h3 => stc h3 ((⟨b1, 0, none⟩ : Addr).add 4) (.int .u32 (wv st0.e)) fun h4 => stc h4 ((⟨b1, 0, none⟩ : Addr).add 5) (.int .u32 (wv st0.f)) fun h5 => stc h5 ((⟨b1, 0, none⟩ : Addr).add 6) (.int .u32 (wv st0.g)) fun h6 => stc h6 ((⟨b1, 0, none⟩ : Addr).add 7) (.int .u32 (wv st0.h)) fun h7 => stc h7 ((⟨b1, 0, none⟩ : Addr).add 8) (.slice none 0 0) fun h8 => stc h8 ((⟨b1, 0, none⟩ : Addr).add 9) (.int .u64 0) fun h9 => stc h9 ((⟨b1, 0, none⟩ : Addr).add 10) (.int .u32 (wv st0.a)) fun h10 => stc h10 ((⟨b1, 0, none⟩ : Addr).add 11) (.int .u32 (wv st0.b)) fun h11 => stc h11 ((⟨b1, 0, none⟩ : Addr).add 12) (.int .u32 (wv st0.c)) fun h12 => stc h12 ((⟨b1, 0, none⟩ : Addr).add 13) (.int .u32 (wv st0.d)) fun h13 => stc h13 ((⟨b1, 0, none⟩ : Addr).add 14) (.int .u32 (wv st0.e)) fun h14 => stc h14 ((⟨b1, 0, none⟩ : Addr).add 15) (.int .u32 (wv st0.f)) fun h15 => stc h15 ((⟨b1, 0, none⟩ : Addr).add 16) (.int .u32 (wv st0.g)) fun h16 => stc h16 ((⟨b1, 0, none⟩ : Addr).add 17) (.int .u32 (wv st0.h)) fun h17 => stc h17 ((⟨b1, 0, none⟩ : Addr).add 18) (.slice none 0 0) fun h18 => stc h18 ((⟨b1, 0, none⟩ : Addr).add 19) (.int .u64 0) fun h19 => zxc.J1 key ⟨b0, 0, none⟩ ⟨b1, 0, none⟩ Kr E h19 := by
  have hr : RowO H b1 [] arr1 [] 211 := by
    unfold RowO
    rw [hb1, List.append_nil, List.nil_append]
  have z0 := IntsIn.some0 ht
  refine put20 hr h21 rfl fun H5 h5 s5 => ?_
  have hk5 : ∀ k o, H0 k = some o → H5 k = some o := fun k o hk => (s5 k o (hle k o hk) (fun hm => by
    rw [List.mem_singleton] at hm
    subst hm
    rw [n1] at hk; cases hk)).1
  refine zxc.J1.run hk hne (fun e => z0 (e ▸ n1)) h20 (s5 b0 _ hb0 (by simpa using hne)).1 (by
    unfold RowO at h5
    rw [h5, List.append_nil, List.nil_append]
    unfold emptyRow hRow St.cells St.list
    rfl) (ht.up hk5) fun H6 h6 k6 => h H6 h6 fun k o hk => k6 k o (hk5 k o hk) (fun e => by subst e; rw [n0] at hk; cases hk) (fun e => by subst e; rw [n1] at hk; cases hk)
theorem zxc.run {H : Heap} {key : ByteArray} (hk : key.size ≤ 64) (ht : IntsIn H 1 .u32 kTab) {K : Int → Int → Int → Int → Int → Int → Int → Int → Option Addr → Nat → Nat → Int → Int → Int → Int → Int → Int → Int → Int → Int → Option Addr → Nat → Nat → Int → Heap → Prop} {E : Value → Heap → Prop} (h : ∀ H', Heap.Le H H' → K (wv (padS key.data.toList 0x36).a) (wv (padS key.data.toList 0x36).b) (wv (padS key.data.toList 0x36).c) (wv (padS key.data.toList 0x36).d) (wv (padS key.data.toList 0x36).e) (wv (padS key.data.toList 0x36).f) (wv (padS key.data.toList 0x36).g) (wv (padS key.data.toList 0x36).h) none 0 0 64 (wv (padS key.data.toList 0x5C).a) (wv (padS key.data.toList 0x5C).b) (wv (padS key.data.toList 0x5C).c) (wv (padS key.data.toList 0x5C).d) (wv (padS key.data.toList 0x5C).e) (wv (padS key.data.toList 0x5C).f) (wv (padS key.data.toList 0x5C).g) (wv (padS key.data.toList 0x5C).h) none 0 0 64 H') : zxc.c key K E H := by
  refine ⟨?_⟩
  unfold zxc.vc
  have none_of : ∀ {A B : Heap} {b : Nat}, Heap.Le A B → B b = none → A b = none := fun {A B b} hl hn => by
    cases hh : A b with
    | none => rfl
    | some o => rw [hl _ _ hh] at hn; cases hn
  refine zna fun b0 H1 hn0 hl0 hle0 => ⟨?_, ?_⟩
  · refine zme.run fun a H2 hh2 hna hle2 => ⟨_, rfl, ?_⟩
    have ga := hash_new_cells hh2
    refine hash_ld ga ⟨?_, ?_⟩
    · refine zme.run fun c H3 hh3 hnc hle3 => ⟨?_, ?_⟩
      · exact hash_ld (fun i v hi => zcc hle3 (ga i v hi)) ⟨rfl, rfl⟩
      · have gc := hash_new_cells hh3
        refine ⟨_, rfl, hash_ld gc ?_⟩
        refine zna fun b1 H4 hn1 hl1 hle4 => ⟨?_, ?_, ?_⟩
        · exact hash_ld (fun i v hi => zcc hle4 (gc i v hi)) ⟨rfl, rfl⟩
        · exact hash_ld (fun i v hi => zcc (hle3.trans hle4) (ga i v hi)) ⟨rfl, rfl⟩
        · have l1 := (hle2.trans hle3).trans hle4
          refine zxc.tail (hle0.trans l1) hk hn0 (none_of (hle0.trans (hle2.trans hle3)) hn1) (fun e => by subst e; rw [(hle2.trans hle3) _ _ hl0] at hn1; cases hn1) rfl rfl (l1 _ _ hl0) hl1 ht fun H' h' hl' => ?_
          exact mac_ld (le_of_rows h') ⟨H', Heap.Le.refl _, h H' hl'⟩
    · refine zna fun b1 H3 hn1 hl1 hle3 => ⟨hash_ld (fun i v hi => zcc hle3 (ga i v hi)) ⟨rfl, rfl⟩, ?_⟩
      refine zme.run fun c H4 hh4 hnc hle4 => ⟨hash_ld (fun i v hi => zcc (hle3.trans hle4) (ga i v hi)) ⟨rfl, rfl⟩, _, rfl, hash_ld (hash_new_cells hh4) ?_⟩
      have l1 := (hle2.trans hle3).trans hle4
      refine zxc.tail (hle0.trans l1) hk hn0 (none_of (hle0.trans hle2) hn1) (fun e => by subst e; rw [hle2 _ _ hl0] at hn1; cases hn1) rfl rfl (l1 _ _ hl0) (hle4 _ _ hl1) ht fun H' h' hl' => ?_
      exact mac_ld (le_of_rows h') ⟨H', Heap.Le.refl _, h H' hl'⟩
  · refine zna fun b1 H2 hn1 hl1 hle2 => ?_
    refine zme.run fun a H3 hh3 hna hle3 => ⟨_, rfl, ?_⟩
    have ga := hash_new_cells hh3
    refine hash_ld ga ?_
    refine zme.run fun c H4 hh4 hnc hle4 => ⟨hash_ld (fun i v hi => zcc hle4 (ga i v hi)) ⟨rfl, rfl⟩, _, rfl, hash_ld (hash_new_cells hh4) ?_⟩
    have l1 := (hle2.trans hle3).trans hle4
    refine zxc.tail (hle0.trans l1) hk hn0 (none_of hle0 hn1) (fun e => by subst e; rw [hl0] at hn1; cases hn1) rfl rfl (l1 _ _ hl0) ((hle3.trans hle4) _ _ hl1) ht fun H' h' hl' => ?_
    exact mac_ld (le_of_rows h') ⟨H', Heap.Le.refl _, h H' hl'⟩
theorem zqd.run {H : Heap} {key s : ByteArray} (hk : key.size ≤ 64) (hs : s.size ≤ 100000000000) (ht : IntsIn H 1 .u32 kTab) {K : ByteArray → Heap → Prop} {E : Value → Heap → Prop} (h : ∀ H', Heap.Le H H' → K ⟨(hmac key.data.toList s.data.toList).toArray⟩ H') :
    zqd.c (wv (padS key.data.toList 0x36).a) (wv (padS key.data.toList 0x36).b) (wv (padS key.data.toList 0x36).c) (wv (padS key.data.toList 0x36).d) (wv (padS key.data.toList 0x36).e) (wv (padS key.data.toList 0x36).f) (wv (padS key.data.toList 0x36).g) (wv (padS key.data.toList 0x36).h) none 0 0 64 (wv (padS key.data.toList 0x5C).a) (wv (padS key.data.toList 0x5C).b) (wv (padS key.data.toList 0x5C).c) (wv (padS key.data.toList 0x5C).d) (wv (padS key.data.toList 0x5C).e) (wv (padS key.data.toList 0x5C).f) (wv (padS key.data.toList 0x5C).g) (wv (padS key.data.toList 0x5C).h) none 0 0 64 s K E H := by
  have hkl := ba_len key
  have hp1 := padK_len (key := key.data.toList) (x := 0x36) (by omega)
  have hp2 := padK_len (key := key.data.toList) (x := 0x5C) (by omega)
  refine ⟨?_⟩
  unfold zqd.vc
  refine zna fun b H1 hn hl hle => ?_
  have hr1 : RowO H1 b [] (hRow (padS key.data.toList 0x36) none 0 0 64) (hRow (padS key.data.toList 0x5C) none 0 0 64) 211 := by
    unfold RowO
    rw [hl, List.nil_append]
    unfold hRow St.cells St.list
    rfl
  have ho1 : HashO H1 b [] (hRow (padS key.data.toList 0x5C) none 0 0 64) 211 none 0 (padK key.data.toList 0x36) := hashO_of (by rw [eat64 hp1]) (by rw [eat64 hp1, hp1]; exact hr1)
  have st1 : Step [] H [b] H1 := Step.ofNew hn hle
  obtain ⟨t1, z1⟩ := st1.tab ht
  refine zoa.runO (hd := []) ho1 (by rw [hp1]; omega) t1 z1 fun p2 c2 H2 ho2 _ hst2 => ?_
  have st2 := st1.trans hst2
  obtain ⟨t2, z2⟩ := st2.tab ht
  refine zla.runO ho2 (by rw [List.length_append, hp1, ba_len]; omega) t2 z2 fun H3 hle3 => ?_
  have hs2 := ho2.1
  unfold StO RowO at hs2
  rw [List.nil_append] at hs2
  generalize hS2 : (eat st0 (padK key.data.toList 0x36 ++ s.data.toList)).1 = S2 at hs2
  generalize (eat st0 (padK key.data.toList 0x36 ++ s.data.toList)).2.length = n2 at hs2
  generalize ((padK key.data.toList 0x36 ++ s.data.toList).length : Int) = u2 at hs2
  have el : (S2.cells ++ [Value.slice p2 n2 c2, .int .u64 u2]).length = 10 := rfl
  have ea : ((⟨b, 0, none⟩ : Addr).add 10) = ⟨b, (S2.cells ++ [Value.slice p2 n2 c2, .int .u64 u2]).length, none⟩ := by rw [el]; rfl
  rw [ea]
  have hr3 : RowO H3 b (S2.cells ++ [Value.slice p2 n2 c2, .int .u64 u2]) (hRow (padS key.data.toList 0x5C) none 0 0 64) [] 211 := by
    unfold RowO
    rw [hle3 _ _ hs2, List.append_nil]
  have ho3 : HashO H3 b (S2.cells ++ [Value.slice p2 n2 c2, .int .u64 u2]) [] 211 none 0 (padK key.data.toList 0x5C) := hashO_of (by rw [eat64 hp2]) (by rw [eat64 hp2, hp2]; exact hr3)
  have st3 : Step [] H [b] H3 := fun k o hk hn => by
    have r := st2 k o hk hn
    exact ⟨hle3 _ _ r.1, fun hm => r.2 (by rw [List.mem_singleton] at hm; simp [hm])⟩
  obtain ⟨t3, z3⟩ := st3.tab ht
  have hsl := sha_len (padK key.data.toList 0x36 ++ s.data.toList)
  refine zoa.runO ho3 (by rw [hp2, zxa, hsl]; decide) t3 z3 fun p4 c4 H4 ho4 _ hst4 => ?_
  have st4 := st3.trans hst4
  obtain ⟨t4, z4⟩ := st4.tab ht
  refine zla.runO ho4 (by rw [zvc (sha _), List.length_append, hp2, hsl]; decide) t4 z4 fun H5 hle5 => ?_
  rw [zvc (sha _)]
  have := h H5 (st4.le.trans hle5)
  unfold hmac at this
  rw [if_neg (by omega)] at this
  exact ⟨H5, Heap.Le.refl _, this⟩
theorem shr_u64 {n a : Nat} (ha : a ≤ 64) : shrI .u64 (n : Int) (a : Int) = ((n / 2 ^ a : Nat) : Int) := by
  unfold shrI
  have e3 : min ((a : Int)).toNat (IntKind.bits .u64) = a := by
    show min ((a : Int)).toNat 64 = _
    omega
  rw [e3, Int.fdiv_eq_ediv_of_nonneg _ (Int.le_of_lt (Int.pow_pos (by decide)))]
  simp
theorem zzd.run {n k : Nat} (hk0 : 1 ≤ k) (hk : k ≤ 8) {H : Heap} {K : ByteArray → Heap → Prop} {E : Value → Heap → Prop} (h : ∀ H', Heap.Le H H' → K ⟨(beN n k).toArray⟩ H') : zzd.c n k K E H := by
  refine ⟨?_⟩
  unfold zzd.vc
  refine ⟨by omega, by omega, by omega, by omega, ?_⟩
  rw [Int.toNat_natCast]
  refine zna fun b H1 hn1 hl1 hle1 => ?_
  have hbl := beN_len k n
  have ho := OwnB.zeros hl1
  refine ⟨Loop.of (I := fun st H' m => ∃ j : Nat, st = (j : Int) ∧ j ≤ k ∧ m = k - j ∧ OwnB H' 5 (some ⟨b, 0, none⟩) k k (fillTo (beN n k) j) ∧ Step [b] H1 [b] H') ?_ ⟨0, rfl, by omega, rfl, by simpa [fillTo, hbl] using ho, Step.refl _ _⟩⟩
  rintro m st H' ⟨j, rfl, hj, rfl, ho, hst⟩ RR hRR
  unfold zzd.W1.vc
  by_cases hc : j < k
  · rw [if_pos (by rw [decide_eq_true_eq]; omega)]
    have e1 : IntKind.i64.wrap (8 * (IntKind.i64.wrap ((IntKind.i64.wrap ((k : Int) - 1)) - (j : Int)))) = ((8 * (k - 1 - j) : Nat) : Int) := by
      rw [w_i64 (n := (k : Int) - 1) (by omega) (by omega), w_i64 (n := (k : Int) - 1 - (j : Int)) (by omega) (by omega), w_i64 (by omega) (by omega)]
      omega
    rw [e1, shr_u64 (by omega), u8_nat]
    refine ⟨by omega, _, rfl, by omega, by omega, ?_⟩
    rw [Int.toNat_natCast]
    refine ho.put (i := j) hc rfl fun H2 h2 hst2 => ?_
    rw [fillTo_set (beN_get _ _ _ hc)] at h2
    rw [w_i64 (by omega) (by omega)]
    exact hRR _ _ (k - (j + 1)) (by omega) ⟨j + 1, rfl, by omega, rfl, h2, hst.trans hst2⟩
  · rw [if_neg (by rw [decide_eq_true_eq]; omega)]
    have : j = k := by omega
    subst this
    have e2 : fillTo (beN n j) j = beN n j := by
      unfold fillTo
      rw [List.take_of_length_le (by omega), hbl, Nat.sub_self]
      simp
    rw [e2] at ho
    refine ho.bytes.rdBytes ?_
    refine ⟨H', Heap.Le.refl _, h H' fun q o hq => (hst q o (hle1 q o hq) ?_).1⟩
    intro hm
    rw [List.mem_singleton] at hm
    subst hm
    rw [hn1] at hq; cases hq
def un (n : Int) : Nat := (IntKind.u64.wrap n).toNat
theorem un_eq (n : Int) : IntKind.u64.wrap n = (un n : Int) ∧ un n < 18446744073709551616 := by
  have h0 : 0 ≤ IntKind.u64.wrap n ∧ IntKind.u64.wrap n < 18446744073709551616 := by
    simp only [IntKind.wrap, IntKind.bits, IntKind.signed, Bool.false_and, Bool.false_eq_true, if_false]
    exact ⟨Int.emod_nonneg _ (by decide), Int.emod_lt_of_pos _ (by decide)⟩
  unfold un
  omega
end Go.Sh
namespace Go.Sh
set_option maxRecDepth 8000
def keyC (s : List UInt8) : List UInt8 := derive s [99, 105, 112, 104, 101, 114] []
def keyT (s : List UInt8) : List UInt8 := derive s [116, 97, 103] []
theorem keyC_len (s : List UInt8) : (keyC s).length = 32 := hmac_len _ _
theorem keyT_len (s : List UInt8) : (keyT s).length = 32 := hmac_len _ _
def headR (s : ByteArray) (d m : Int) : List Value := [.string s, .int .u32 d, .int .i32 m, .int .u32 0]
def zeroR : List Value := [(.int .u32 0), (.int .u32 0), (.int .u32 0), (.int .u32 0), (.int .u32 0), (.int .u32 0), (.int .u32 0), (.int .u32 0), (.slice none 0 0), (.int .u64 0), (.int .u32 0), (.int .u32 0), (.int .u32 0), (.int .u32 0), (.int .u32 0), (.int .u32 0), (.int .u32 0), (.int .u32 0), (.slice none 0 0), (.int .u64 0)]
def endR (a o : Int) : List Value := [.int .i64 a, .int .i64 o]
def keyR (d m : Int) (s : ByteArray) (c t : List Value) (a o : Int) : List Value := headR s d m ++ c ++ (t ++ endR a o)
def KeyDone (H : Heap) (b : Nat) (s : ByteArray) (a o : Int) : Prop := 1 < b ∧ H b = some (.cells (keyR 1 0 s (macRow (keyC s.data.toList)) (macRow (keyT s.data.toList)) a o).toArray 216)
def KeyAt (H : Heap) (b : Nat) (s : ByteArray) (a o : Int) : Prop := KeyDone H b s a o ∨ (1 < b ∧ H b = some (.cells (keyR 0 0 s zeroR zeroR a o).toArray 216))
def Only (b : Nat) (H H' : Heap) : Prop := ∀ k o, H k = some o → k ≠ b → H' k = some o
theorem Only.of_le {b : Nat} {H H' : Heap} (h : Heap.Le H H') : Only b H H' := fun k o hk _ => h k o hk
theorem Only.trans {b : Nat} {H H1 H2 : Heap} (h : Only b H H1) (g : Only b H1 H2) : Only b H H2 := fun k o hk hn => g k o (h k o hk hn) hn
theorem Only.set {b : Nat} {H : Heap} (o : Obj) : Only b H (H.set b o) := fun k o' hk hn => by rw [set_ne _ _ hn]; exact hk
theorem Only.cell {b : Nat} {H H' : Heap} (h : Only b H H') {a : Addr} {v : Value} (hc : H.cell? a = some v) (hn : a.block ≠ b) : H'.cell? a = some v := by
  unfold Heap.cell? at hc ⊢
  cases hb : H a.block with
  | none => rw [hb] at hc; cases hc
  | some o => rw [h _ _ hb hn]; rw [hb] at hc; exact hc
theorem Tabs.only {b : Nat} {H H' : Heap} (h : Tabs H) (ho : Only b H H') (hb : 1 < b) : Tabs H' :=
  ⟨fun i x hi => ho.cell (h.k i x hi) (by show (1 : Nat) ≠ b; omega), fun i x hi => ho.cell (h.s i x hi) (by show (0 : Nat) ≠ b; omega)⟩
theorem KeyDone.le {H H' : Heap} {b : Nat} {s : ByteArray} {a o : Int} (h : KeyDone H b s a o) (hl : Heap.Le H H') : KeyDone H' b s a o := ⟨h.1, hl _ _ h.2⟩
theorem KeyAt.le {H H' : Heap} {b : Nat} {s : ByteArray} {a o : Int} (h : KeyAt H b s a o) (hl : Heap.Le H H') : KeyAt H' b s a o := h.elim (fun h => .inl (h.le hl)) (fun h => .inr ⟨h.1, hl _ _ h.2⟩)
theorem KeyAt.lt {H : Heap} {b : Nat} {s : ByteArray} {a o : Int} (h : KeyAt H b s a o) : 1 < b := h.elim (·.1) (·.1)
theorem KeyDone.rowC {H : Heap} {b : Nat} {s : ByteArray} {a o : Int} (h : KeyDone H b s a o) : RowO H b (headR s 1 0) (macRow (keyC s.data.toList)) (macRow (keyT s.data.toList) ++ endR a o) 216 := h.2
theorem KeyDone.rowT {H : Heap} {b : Nat} {s : ByteArray} {a o : Int} (h : KeyDone H b s a o) : RowO H b (headR s 1 0 ++ macRow (keyC s.data.toList)) (macRow (keyT s.data.toList)) (endR a o) 216 := by
  unfold RowO
  rw [h.2]
  unfold keyR
  simp only [List.append_assoc]
theorem KeyDone.ldC {H : Heap} {b : Nat} {s : ByteArray} {a o : Int} (h : KeyDone H b s a o) : ∀ (i : Nat) (v : Value), (macRow (keyC s.data.toList))[i]? = some v → H.cell? (((⟨b, 0, none⟩ : Addr).add 4).add i) = some v := fun i v hi => h.rowC.get hi
theorem KeyDone.ldT {H : Heap} {b : Nat} {s : ByteArray} {a o : Int} (h : KeyDone H b s a o) : ∀ (i : Nat) (v : Value), (macRow (keyT s.data.toList))[i]? = some v → H.cell? (((⟨b, 0, none⟩ : Addr).add 24).add i) = some v := fun i v hi => h.rowT.get hi
theorem mac_code {k : List UInt8} (hk : k.length ≤ 64) {H : Heap} {s : ByteArray} (hs : s.size ≤ 100000000000) (ht : IntsIn H 1 .u32 kTab) {K : ByteArray → Heap → Prop} {E : Value → Heap → Prop} (h : ∀ H', Heap.Le H H' → K ⟨(hmac k s.data.toList).toArray⟩ H') :
    zqd.c (wv (padS k 0x36).a) (wv (padS k 0x36).b) (wv (padS k 0x36).c) (wv (padS k 0x36).d) (wv (padS k 0x36).e) (wv (padS k 0x36).f) (wv (padS k 0x36).g) (wv (padS k 0x36).h) none 0 0 64 (wv (padS k 0x5C).a) (wv (padS k 0x5C).b) (wv (padS k 0x5C).c) (wv (padS k 0x5C).d) (wv (padS k 0x5C).e) (wv (padS k 0x5C).f) (wv (padS k 0x5C).g) (wv (padS k 0x5C).h) none 0 0 64 s K E H := by
  have := zqd.run (key := ⟨k.toArray⟩) (s := s) (by rw [zxa]; omega) hs ht (K := K) (E := E)
  rw [zvc k] at this
  exact this h
theorem keyed_list {k : List UInt8} (hk : k.length ≤ 64) {H : Heap} (ht : IntsIn H 1 .u32 kTab) {K : Int → Int → Int → Int → Int → Int → Int → Int → Option Addr → Nat → Nat → Int → Int → Int → Int → Int → Int → Int → Int → Int → Option Addr → Nat → Nat → Int → Heap → Prop} {E : Value → Heap → Prop}
    (h : ∀ H', Heap.Le H H' → K (wv (padS k 0x36).a) (wv (padS k 0x36).b) (wv (padS k 0x36).c) (wv (padS k 0x36).d) (wv (padS k 0x36).e) (wv (padS k 0x36).f) (wv (padS k 0x36).g) (wv (padS k 0x36).h) none 0 0 64 (wv (padS k 0x5C).a) (wv (padS k 0x5C).b) (wv (padS k 0x5C).c) (wv (padS k 0x5C).d) (wv (padS k 0x5C).e) (wv (padS k 0x5C).f) (wv (padS k 0x5C).g) (wv (padS k 0x5C).h) none 0 0 64 H') : zxc.c ⟨k.toArray⟩ K E H := by
  have := zxc.run (key := ⟨k.toArray⟩) (H := H) (by rw [zxa]; omega) ht (K := K) (E := E)
  rw [zvc k] at this
  exact this h
theorem zhd.run {H : Heap} {b : Nat} {s : ByteArray} {a o : Int} (hs : s.size ≤ 100000) (h : KeyAt H b s a o) (ht : Tabs H) {K : Heap → Prop} {E : Value → Heap → Prop} (hk : ∀ H', KeyDone H' b s a o → Only b H H' → K H') : zhd.c (some ⟨b, 0, none⟩) K E H := by
  refine ⟨?_⟩
  unfold zhd.vc
  refine zna fun p H1 hn1 hl1 hle1 => ?_
  have gp0 : H1.cell? (⟨p, 0, none⟩ : Addr) = some (.pointer (some ⟨b, 0, none⟩)) := loc (o := 0) hl1 rfl
  refine ⟨_, gp0, _, rfl, ⟨?_⟩⟩
  rcases h with h | ⟨hb, h⟩
  · have h1 := h.le hle1
    exact ⟨b, 1, _, 216, rfl, h1.2, .inl ⟨1, by decide, rfl, H1, Heap.Le.refl _, hk H1 h1 (Only.of_le hle1)⟩⟩
  · have h1 := hle1 _ _ h
    refine ⟨b, 1, _, 216, rfl, h1, .inr ⟨rfl, rfl, ⟨p, 0, none⟩, rfl, ?_⟩⟩
    have npb : p ≠ b := fun e => by subst e; rw [h] at hn1; cases hn1
    have e0 : (keyR 0 0 s zeroR zeroR a o).toArray.setIfInBounds (1 + 1) (.int .i32 1) = (keyR 0 1 s zeroR zeroR a o).toArray := rfl
    rw [e0]
    have hk1 := set_self H1 b (.cells (keyR 0 1 s zeroR zeroR a o).toArray 216)
    have o1 : Only b H (H1.set b (.cells (keyR 0 1 s zeroR zeroR a o).toArray 216)) := (Only.of_le hle1).trans (Only.set _)
    have gp : (H1.set b (.cells (keyR 0 1 s zeroR zeroR a o).toArray 216)).cell? (⟨p, 0, none⟩ : Addr) = some (.pointer (some ⟨b, 0, none⟩)) := (Only.set _).cell gp0 npb
    generalize H1.set b (.cells (keyR 0 1 s zeroR zeroR a o).toArray 216) = H2 at hk1 o1 gp ⊢
    have t2 := ht.only o1 hb
    show zsf.c _ _ _ _
    refine ⟨?_⟩
    unfold zsf.vc
    have gs : ∀ {H' : Heap} {c : List Value} {t : List Value}, H' b = some (.cells (keyR 0 1 s c t a o).toArray 216) → H'.cell? ((⟨b, 0, none⟩ : Addr).add 0) = some (.string s) := fun h' => loc h' rfl
    refine ⟨_, gp, _, gp, _, rfl, _, gs hk1, ?_⟩
    refine znb.run hs (by decide) (by decide) t2 fun H3 hle3 => ?_
    have gp3 := zcc hle3 gp
    refine ⟨⟨_, gp3, rfl, rfl⟩, ?_⟩
    refine keyed_list (k := keyC s.data.toList) (by rw [keyC_len]; decide) (t2.up hle3).k fun H4 hle4 => ?_
    have gp4 := zcc hle4 gp3
    have hk4 := (hle3.trans hle4) _ _ hk1
    refine ⟨⟨_, gp4, rfl, rfl⟩, _, rfl, ?_⟩
    have r4 : RowO H4 b (headR s 0 1) zeroR (zeroR ++ endR a o) 216 := hk4
    refine put20 r4 rfl rfl fun H5 h5 s5 => ?_
    have hk5 : H5 b = some (.cells (keyR 0 1 s (macRow (keyC s.data.toList)) zeroR a o).toArray 216) := h5
    have o5 : Only b H H5 := (o1.trans (Only.of_le (hle3.trans hle4))).trans fun k ob hk hn => (s5 k ob hk (by simpa using hn)).1
    have gp5 : H5.cell? (⟨p, 0, none⟩ : Addr) = some (.pointer (some ⟨b, 0, none⟩)) := s5.cell gp4 (by simpa using npb)
    refine ⟨_, gp5, _, gp5, _, rfl, _, gs hk5, ?_⟩
    have t5 := ht.only o5 hb
    refine znb.run hs (by decide) (by decide) t5 fun H6 hle6 => ?_
    have gp6 := zcc hle6 gp5
    refine ⟨⟨_, gp6, rfl, rfl⟩, ?_⟩
    refine keyed_list (k := keyT s.data.toList) (by rw [keyT_len]; decide) (t5.up hle6).k fun H7 hle7 => ?_
    have gp7 := zcc hle7 gp6
    refine ⟨⟨_, gp7, rfl, rfl⟩, _, rfl, ?_⟩
    have r7 : RowO H7 b (headR s 0 1 ++ macRow (keyC s.data.toList)) zeroR (endR a o) 216 := by
      unfold RowO
      rw [(hle6.trans hle7) _ _ hk5]
      unfold keyR
      simp only [List.append_assoc]
    refine put20 r7 rfl rfl fun H8 h8 s8 => ?_
    have hk8 : H8 b = some (.cells (keyR 0 1 s (macRow (keyC s.data.toList)) (macRow (keyT s.data.toList)) a o).toArray 216) := by
      unfold RowO at h8
      rw [h8]
      unfold keyR
      simp only [List.append_assoc]
      rfl
    have o8 : Only b H H8 := (o5.trans (Only.of_le (hle6.trans hle7))).trans fun k ob hk hn => (s8 k ob hk (by simpa using hn)).1
    refine ⟨H8, Heap.Le.refl _, rfl, _, hk8, ⟨_, rfl⟩, rfl, _, Heap.Le.refl _, hk _ ⟨hb, ?_⟩ (o8.trans (Only.set _))⟩
    rw [set_self]
    rfl
end Go.Sh
namespace Go.Sh
set_option maxRecDepth 8000
def hbyte (k : List UInt8) (u i : Nat) : UInt8 := (hmac k (beN u 8 ++ beN (i / 32) 4)).getD (i % 32) 0
def hideTo (k : List UInt8) (u : Nat) (d : List UInt8) (m : Nat) : List UInt8 := (List.range d.length).map fun t => if t < m then d.getD t 0 ^^^ hbyte k u t else d.getD t 0
def hideL (k : List UInt8) (u : Nat) (d : List UInt8) : List UInt8 := hideTo k u d d.length
theorem hideTo_len {k : List UInt8} {u : Nat} {d : List UInt8} {m : Nat} : (hideTo k u d m).length = d.length := by unfold hideTo; simp
theorem hideTo_at {k : List UInt8} {u : Nat} {d : List UInt8} {m t : Nat} (ht : t < d.length) : (hideTo k u d m)[t]? = some (if t < m then d.getD t 0 ^^^ hbyte k u t else d.getD t 0) := by
  unfold hideTo
  rw [List.getElem?_map, List.getElem?_range ht]
  rfl
theorem hideTo_get {k : List UInt8} {u : Nat} {d : List UInt8} {m : Nat} (hm : m < d.length) : (hideTo k u d m).getD m 0 = d.getD m 0 := by
  rw [List.getD_eq_getElem?_getD, hideTo_at hm, if_neg (by omega)]
  rfl
theorem hideTo_set {k : List UInt8} {u : Nat} {d : List UInt8} {m : Nat} (hm : m < d.length) : (hideTo k u d m).set m (d.getD m 0 ^^^ hbyte k u m) = hideTo k u d (m + 1) := by
  apply List.ext_getElem?
  intro i
  rw [List.getElem?_set]
  rcases Nat.lt_or_ge i d.length with h | h
  · rw [hideTo_at h, hideTo_at h]
    by_cases hi : m = i
    · subst hi
      rw [if_pos rfl, if_pos (by rw [hideTo_len]; exact h), if_pos (by omega)]
    · rw [if_neg hi]
      by_cases hl : i < m
      · rw [if_pos hl, if_pos (by omega)]
      · rw [if_neg hl, if_neg (by omega)]
  · rw [List.getElem?_eq_none (by rw [hideTo_len]; exact h), if_neg (by omega), List.getElem?_eq_none (by rw [hideTo_len]; exact h)]
theorem hideTo_zero {k : List UInt8} {u : Nat} {d : List UInt8} : hideTo k u d 0 = d := by
  apply List.ext_getElem?
  intro i
  rcases Nat.lt_or_ge i d.length with h | h
  · rw [hideTo_at h, if_neg (by omega), List.getD_eq_getElem?_getD, List.getElem?_eq_getElem h]
    rfl
  · rw [List.getElem?_eq_none (by rw [hideTo_len]; exact h), List.getElem?_eq_none h]
theorem hideTo_more {k : List UInt8} {u : Nat} {d : List UInt8} {m : Nat} (hm : d.length ≤ m) : hideTo k u d m = hideL k u d := by
  apply List.ext_getElem?
  intro i
  unfold hideL
  rcases Nat.lt_or_ge i d.length with h | h
  · rw [hideTo_at h, hideTo_at h, if_pos (by omega), if_pos h]
  · rw [List.getElem?_eq_none (by rw [hideTo_len]; exact h), List.getElem?_eq_none (by rw [hideTo_len]; exact h)]
theorem hideL_len {k : List UInt8} {u : Nat} {d : List UInt8} : (hideL k u d).length = d.length := hideTo_len
def tagL (s : List UInt8) (u : Nat) (head hidden : List UInt8) : List UInt8 := (hmac (keyT s) ((beN u 8 ++ vtext head) ++ hidden)).take 16
theorem tagL_len {s : List UInt8} {u : Nat} {head hidden : List UInt8} : (tagL s u head hidden).length = 16 := by
  unfold tagL
  rw [List.length_take, hmac_len]
  rfl
def sealL (s : List UInt8) (u : Nat) (head d : List UInt8) : List UInt8 := hideL (keyC s) u d ++ tagL s u head (hideL (keyC s) u d)
theorem sealL_len {s : List UInt8} {u : Nat} {head d : List UInt8} : (sealL s u head d).length = d.length + 16 := by
  unfold sealL
  rw [List.length_append, hideL_len, tagL_len]
def openL (s : List UInt8) (u : Nat) (head x : List UInt8) : List UInt8 × Int :=
  if x.length < 16 then ([], 1) else if tagL s u head (x.take (x.length - 16)) = x.drop (x.length - 16) then (hideL (keyC s) u (x.take (x.length - 16)), 0) else ([], 10)
theorem ext_list (x : ByteArray) (a z : Nat) : (x.extract a z).data.toList = (x.data.toList.drop a).take (z - a) := by
  rw [ByteArray.data_extract, Array.toList_extract, List.extract_eq_take_drop]
theorem ba_eq {x : ByteArray} {l : List UInt8} (h : x.data.toList = l) : x = ⟨l.toArray⟩ := by
  rw [← h, ba_mk]
theorem not_mem1 {k b : Nat} (h : k ≠ b) : k ∉ [b] := by simpa using h
theorem zhc.inner {H0 : Heap} {k : List UInt8} {u q : Nat} {data : List UInt8} {d cap : Nat} {ko : Option Addr} {n : Int} (hq : 32 * q < data.length) (hl : data.length ≤ 1000000) (ho : OwnB H0 5 (some ⟨d, 0, none⟩) data.length cap (hideTo k u data (32 * q)))
    {Kx : Heap → Prop} {E : Value → Heap → Prop} (hx : ∀ H, OwnB H 5 (some ⟨d, 0, none⟩) data.length cap (hideTo k u data (32 * (q + 1))) → Step [d] H0 [d] H → Kx H) :
    zhc.W2 ko n (some ⟨d, 0, none⟩) data.length cap ((32 * q : Nat) : Int) ⟨(hmac k (beN u 8 ++ beN q 4)).toArray⟩ (if (IntKind.i64.wrap ((data.length : Int) - ((32 * q : Nat) : Int))) < 32 then (IntKind.i64.wrap ((data.length : Int) - ((32 * q : Nat) : Int))) else 32) 0 Kx E H0 := by
  obtain ⟨w, hw⟩ : ∃ w : Nat, w = min (data.length - 32 * q) 32 := ⟨_, rfl⟩
  have ew : (if (IntKind.i64.wrap ((data.length : Int) - ((32 * q : Nat) : Int))) < 32 then (IntKind.i64.wrap ((data.length : Int) - ((32 * q : Nat) : Int))) else 32) = (w : Int) := by
    rw [w_i64 (by omega) (by omega)]
    split <;> omega
  rw [ew]
  have hs : (⟨(hmac k (beN u 8 ++ beN q 4)).toArray⟩ : ByteArray).size = 32 := by rw [zxa, hmac_len]
  refine ⟨Loop.of (I := fun st H m => ∃ j : Nat, st = (j : Int) ∧ j ≤ w ∧ m = w - j ∧ OwnB H 5 (some ⟨d, 0, none⟩) data.length cap (hideTo k u data (32 * q + j)) ∧ Step [d] H0 [d] H) ?_ ⟨0, rfl, Nat.zero_le _, rfl, ho, Step.refl _ _⟩⟩
  rintro m st H ⟨j, rfl, hj, rfl, ho, hst⟩ RR hRR
  unfold zhc.W2.vc
  by_cases hc : j < w
  · rw [if_pos (by rw [decide_eq_true_eq]; omega)]
    have ei : IntKind.i64.wrap (((32 * q : Nat) : Int) + (j : Int)) = ((32 * q + j : Nat) : Int) := by rw [w_i64 (by omega) (by omega)]; omega
    rw [ei, Int.toNat_natCast]
    have hm : 32 * q + j < data.length := by omega
    obtain ⟨a, ha, hcell⟩ := ho.bytes.get (i := 32 * q + j) hm
    rw [hideTo_get hm] at hcell
    refine ⟨a, ha, by omega, by omega, _, hcell, by omega, by rw [hs]; omega, a, ha, by omega, by omega, ?_⟩
    rw [bt_getD, zvc (hmac _ _), xor_u8]
    have eb : hbyte k u (32 * q + j) = (hmac k (beN u 8 ++ beN q 4)).getD j 0 := by
      unfold hbyte
      rw [show (32 * q + j) / 32 = q by omega, show (32 * q + j) % 32 = j by omega]
    rw [← eb]
    refine ho.put (i := 32 * q + j) hm ha fun H2 h2 hst2 => ?_
    rw [hideTo_set hm] at h2
    rw [w_i64 (by omega) (by omega)]
    exact hRR _ _ (w - (j + 1)) (by omega) ⟨j + 1, rfl, by omega, rfl, h2, hst.trans hst2⟩
  · rw [if_neg (by rw [decide_eq_true_eq]; omega)]
    refine hx H ?_ hst
    have : j = w := by omega
    subst this
    rcases Nat.lt_or_ge (data.length - 32 * q) 32 with h | h
    · rw [hideTo_more (by omega)] at ho ⊢
      exact ho
    · rw [show 32 * (q + 1) = 32 * q + j by omega]
      exact ho
theorem zhc.run {H : Heap} {b : Nat} {s data : ByteArray} {a o n : Int} (hs : s.size ≤ 100000) (hd : data.size ≤ 100000) (h : KeyAt H b s a o) (ht : Tabs H) {K : ByteArray → Heap → Prop} {E : Value → Heap → Prop}
    (hk : ∀ H', KeyDone H' b s a o → Only b H H' → K ⟨(hideL (keyC s.data.toList) (un n) data.data.toList).toArray⟩ H') : zhc.c (some ⟨b, 0, none⟩) n data K E H := by
  have hdl := ba_len data
  obtain ⟨hu, hlt⟩ := un_eq n
  refine ⟨?_⟩
  unfold zhc.vc
  refine zhd.run hs h ht fun H1 h1 o1 => ?_
  intro j0
  refine zna fun d H2 hn2 hl2 hle2 => ?_
  have ho := str_bytes hl2
  have hdb : b ≠ d := fun e => by subst e; rw [h1.2] at hn2; cases hn2
  rw [← hdl] at ho ⊢
  refine ⟨Loop.of (I := fun st H' m => ∃ q : Nat, st = ((32 * q : Nat) : Int) ∧ 32 * q < data.data.toList.length + 32 ∧ m = data.data.toList.length + 32 - 32 * q ∧ OwnB H' 5 (some ⟨d, 0, none⟩) data.data.toList.length (data.data.toList.length + j0) (hideTo (keyC s.data.toList) (un n) data.data.toList (32 * q)) ∧ Step [d] H2 [d] H') ?_
    ⟨0, rfl, by omega, rfl, by rw [hideTo_zero]; exact ho, Step.refl _ _⟩⟩
  rintro m st H' ⟨q, rfl, hq, rfl, ho, hst⟩ RR hRR
  have hk2 : KeyDone H' b s a o := ⟨h1.1, (hst b _ (hle2 _ _ h1.2) (not_mem1 hdb)).1⟩
  have oH : Only b H H' := fun k ob hk hn => by
    have k1 := o1 k ob hk hn
    have : k ≠ d := fun e => by subst e; rw [hn2] at k1; cases k1
    exact (hst k ob (hle2 _ _ k1) (not_mem1 this)).1
  have t2 := ht.only oH h1.1
  unfold zhc.W1.vc
  by_cases hc : 32 * q < data.data.toList.length
  · rw [if_pos (by rw [decide_eq_true_eq]; omega)]
    refine ⟨_, rfl, mac_ld hk2.ldC ⟨by decide, ?_⟩⟩
    rw [hu]
    refine zzd.run (k := 8) (by decide) (by decide) fun H3 hle3 => ?_
    have hk3 := hk2.le hle3
    refine ⟨⟨rfl, rfl⟩, mac_ld hk3.ldC ⟨rfl, rfl⟩, ?_⟩
    have eq : IntKind.u64.wrap (IntKind.i64.wrap (Int.tdiv ((32 * q : Nat) : Int) 32)) = (q : Int) := by
      rw [Int.tdiv_eq_ediv_of_nonneg (by omega), w_i64 (by omega) (by omega), w_u64 (by omega) (by omega)]
      omega
    rw [eq]
    refine zzd.run (k := 4) (by decide) (by decide) fun H4 hle4 => ?_
    have hk4 := hk3.le hle4
    have hle34 := hle3.trans hle4
    refine ⟨mac_ld hk4.ldC ⟨rfl, rfl⟩, by rw [zxa, zxa, beN_len, beN_len]; decide, ?_⟩
    refine mac_code (k := keyC s.data.toList) (by rw [keyC_len]; decide) (by rw [ByteArray.size_append, zxa, zxa, beN_len, beN_len]; decide) (t2.up hle34).k fun H5 hle5 => ?_
    rw [ba_app, zvc (beN _ 8), zvc (beN _ 4)]
    refine zhc.inner hc (by omega) (ho.le (hle34.trans hle5)) fun H6 h6 hst6 => ?_
    rw [w_i64 (by omega) (by omega)]
    refine hRR _ H6 (data.data.toList.length + 32 - 32 * (q + 1)) (by omega) ⟨q + 1, by omega, by omega, rfl, h6, (hst.trans (Step.of_le (hle34.trans hle5))).trans hst6⟩
  · rw [if_neg (by rw [decide_eq_true_eq]; omega)]
    rw [hideTo_more (by omega)] at ho
    refine ho.bytes.rdBytes ?_
    exact ⟨H', Heap.Le.refl _, hk H' hk2 oH⟩
theorem zod.run {H : Heap} {b : Nat} {s head hidden : ByteArray} {a o n : Int} (hs : s.size ≤ 100000) (hh : head.size ≤ 100000) (hd : hidden.size ≤ 100000) (h : KeyAt H b s a o) (ht : Tabs H) {K : ByteArray → Heap → Prop} {E : Value → Heap → Prop}
    (hk : ∀ H', KeyDone H' b s a o → Only b H H' → K ⟨(tagL s.data.toList (un n) head.data.toList hidden.data.toList).toArray⟩ H') : zod.c (some ⟨b, 0, none⟩) n head hidden K E H := by
  obtain ⟨hu, hlt⟩ := un_eq n
  refine ⟨?_⟩
  unfold zod.vc
  refine zhd.run hs h ht fun H1 h1 o1 => ⟨_, rfl, mac_ld h1.ldT ?_⟩
  have t1 := ht.only o1 h1.1
  rw [hu]
  refine zzd.run (k := 8) (by decide) (by decide) fun H2 hle2 => ⟨mac_ld (h1.le hle2).ldT ⟨rfl, rfl⟩, ?_⟩
  refine zec.run (by omega) (t1.up hle2).s fun H3 hle3 => ?_
  have hle := hle2.trans hle3
  have hv := vtext_len head.data.toList
  rw [ba_len] at hv
  refine ⟨mac_ld (h1.le hle).ldT ⟨rfl, rfl⟩, by rw [zxa, zxa, beN_len]; omega, by rw [ByteArray.size_append, zxa, zxa, beN_len]; omega, ?_⟩
  refine mac_code (k := keyT s.data.toList) (by rw [keyT_len]; decide) (by rw [ByteArray.size_append, ByteArray.size_append, zxa, zxa, beN_len]; omega) (t1.up hle).k fun H4 hle4 => ?_
  rw [ba_app, ba_app, zvc (beN _ 8), zvc (vtext _)]
  have h4 := h1.le (hle.trans hle4)
  refine ⟨by decide, by rw [zxa, hmac_len]; decide, H4, Heap.Le.refl _, ?_⟩
  have := hk H4 h4 (o1.trans (Only.of_le (hle.trans hle4)))
  rw [ba_eq (ext_list _ 0 16), zvc (hmac _ _), List.drop_zero]
  exact this
theorem add44 {H : Heap} {b : Nat} {s : ByteArray} {a o : Int} (h : KeyAt H b s a o) : ∃ arr, H b = some (.cells arr 216) ∧ arr[44]? = some (.int .i64 a) ∧ arr[45]? = some (.int .i64 o) ∧ (∀ x : Int, KeyAt (H.set b (.cells (arr.setIfInBounds 44 (.int .i64 x)) 216)) b s x o) ∧ (∀ x : Int, KeyAt (H.set b (.cells (arr.setIfInBounds 45 (.int .i64 x)) 216)) b s a x) := by
  rcases h with h | ⟨hb, h⟩
  · exact ⟨_, h.2, rfl, rfl, fun x => .inl ⟨h.1, by rw [set_self]; rfl⟩, fun x => .inl ⟨h.1, by rw [set_self]; rfl⟩⟩
  · exact ⟨_, h, rfl, rfl, fun x => .inr ⟨hb, by rw [set_self]; rfl⟩, fun x => .inr ⟨hb, by rw [set_self]; rfl⟩⟩
theorem seal_add44.run {H : Heap} {b : Nat} {s : ByteArray} {a o : Int} (h : KeyAt H b s a o) (h0 : 0 ≤ a) (h1 : a ≤ 1000000) {K : Int → Heap → Prop} {E : Value → Heap → Prop} (hk : ∀ H', KeyAt H' b s (a + 1) o → Only b H H' → K (a + 1) H') : zzb.c (some ((⟨b, 0, none⟩ : Addr).add 44)) 1 K E H := by
  obtain ⟨arr, hb, e1, _, e2, _⟩ := add44 h
  refine ⟨?_⟩
  unfold zzb.vc
  refine ⟨_, rfl, ⟨b, 44, arr, 216, a, rfl, hb, e1, ?_⟩⟩
  rw [w_i64 (by omega) (by omega)]
  exact ⟨_, Heap.Le.refl _, hk _ (e2 _) (Only.set _)⟩
theorem seal_add45.run {H : Heap} {b : Nat} {s : ByteArray} {a o : Int} (h : KeyAt H b s a o) (h0 : 0 ≤ o) (h1 : o ≤ 1000000) {K : Int → Heap → Prop} {E : Value → Heap → Prop} (hk : ∀ H', KeyAt H' b s a (o + 1) → Only b H H' → K (o + 1) H') : zzb.c (some ((⟨b, 0, none⟩ : Addr).add 45)) 1 K E H := by
  obtain ⟨arr, hb, _, e1, _, e2⟩ := add44 h
  refine ⟨?_⟩
  unfold zzb.vc
  refine ⟨_, rfl, ⟨b, 45, arr, 216, o, rfl, hb, e1, ?_⟩⟩
  rw [w_i64 (by omega) (by omega)]
  exact ⟨_, Heap.Le.refl _, hk _ (e2 _) (Only.set _)⟩
theorem ztd.run {H : Heap} (ht : Tabs H) {s : ByteArray} {K : Option Addr → Heap → Prop} {E : Value → Heap → Prop} (hk : ∀ b H', KeyAt H' b s 0 0 → H b = none → Heap.Le H H' → K (some ⟨b, 0, none⟩) H') : ztd.c s K E H := by
  refine ⟨?_⟩
  unfold ztd.vc
  refine zna fun b H1 hn hl hle => ⟨H1, Heap.Le.refl _, hk b H1 (.inr ⟨?_, hl⟩) hn hle⟩
  have h0 := IntsIn.some0 ht.k
  have h1 := IntsIn.some0 ht.s
  rcases b with _ | _ | b
  · exact absurd hn h1
  · exact absurd hn h0
  · omega
theorem zye.run {H : Heap} {b : Nat} {s head data : ByteArray} {a o n : Int} (hs : s.size ≤ 100000) (hh : head.size ≤ 100000) (hd : data.size ≤ 100000) (h : KeyAt H b s a o) (h0 : 0 ≤ a) (h1 : a ≤ 1000000) (ht : Tabs H) {K : ByteArray → Heap → Prop} {E : Value → Heap → Prop}
    (hk : ∀ H', KeyAt H' b s (a + 1) o → Only b H H' → K ⟨(sealL s.data.toList (un n) head.data.toList data.data.toList).toArray⟩ H') : zye.c (some ⟨b, 0, none⟩) n head data K E H := by
  have hdl := ba_len data
  refine ⟨?_⟩
  unfold zye.vc
  refine ⟨_, rfl, seal_add44.run h h0 h1 fun H1 k1 o1 => ?_⟩
  refine zhc.run hs hd k1 (ht.only o1 h.lt) fun H2 k2 o2 => ?_
  have o12 := o1.trans o2
  refine zod.run hs hh (by rw [zxa, hideL_len]; omega) (.inl k2) (ht.only o12 h.lt) fun H3 k3 o3 => ?_
  rw [zvc (hideL _ _ _)]
  refine ⟨by rw [zxa, zxa, hideL_len, tagL_len]; omega, H3, Heap.Le.refl _, ?_⟩
  have e : (⟨(hideL (keyC s.data.toList) (un n) data.data.toList).toArray⟩ : ByteArray) ++ ⟨(tagL s.data.toList (un n) head.data.toList (hideL (keyC s.data.toList) (un n) data.data.toList)).toArray⟩ = ⟨(sealL s.data.toList (un n) head.data.toList data.data.toList).toArray⟩ :=
    ba_eq (by rw [ba_app, zvc (hideL _ _ _), zvc (tagL _ _ _ _)]; rfl)
  rw [e]
  exact hk H3 (.inl k3) (o12.trans o3)
theorem openL_short {s : List UInt8} {u : Nat} {head x : List UInt8} (h : x.length < 16) : openL s u head x = ([], 1) := by unfold openL; rw [if_pos h]
theorem openL_bad {s : List UInt8} {u : Nat} {head x : List UInt8} (h : ¬ x.length < 16) (ht : tagL s u head (x.take (x.length - 16)) ≠ x.drop (x.length - 16)) : openL s u head x = ([], 10) := by unfold openL; rw [if_neg h, if_neg ht]
theorem openL_ok {s : List UInt8} {u : Nat} {head x : List UInt8} (h : ¬ x.length < 16) (ht : tagL s u head (x.take (x.length - 16)) = x.drop (x.length - 16)) : openL s u head x = (hideL (keyC s) u (x.take (x.length - 16)), 0) := by unfold openL; rw [if_neg h, if_pos ht]
theorem beq_lists {x y : ByteArray} : (x.toList == y.toList) = true ↔ x.data.toList = y.data.toList := by
  rw [ba_toList, ba_toList, beq_iff_eq]
theorem zxe.run {H : Heap} {b : Nat} {s head x : ByteArray} {a o n : Int} (hs : s.size ≤ 100000) (hh : head.size ≤ 100000) (hx : x.size ≤ 100000) (h : KeyAt H b s a o) (h0 : 0 ≤ o) (h1 : o ≤ 1000000) (ht : Tabs H) {K : ByteArray → Int → Heap → Prop} {E : Value → Heap → Prop}
    (hk : ∀ H' o', KeyAt H' b s a o' → Only b H H' → (o' = if (openL s.data.toList (un n) head.data.toList x.data.toList).2 = 0 then o + 1 else o) → K ⟨(openL s.data.toList (un n) head.data.toList x.data.toList).1.toArray⟩ (openL s.data.toList (un n) head.data.toList x.data.toList).2 H') : zxe.c (some ⟨b, 0, none⟩) n head x K E H := by
  have hxl := ba_len x
  refine ⟨?_⟩
  unfold zxe.vc
  rw [w_i64 (by omega) (by omega)]
  by_cases hc : x.data.toList.length < 16
  · rw [if_pos (by rw [decide_eq_true_eq]; omega)]
    have := hk H o h (fun k ob hk _ => hk) (by rw [openL_short hc]; rfl)
    rw [openL_short hc] at this
    exact ⟨H, Heap.Le.refl _, this⟩
  · rw [if_neg (by rw [decide_eq_true_eq]; omega)]
    have en : ((x.size : Int) - 16).toNat = x.data.toList.length - 16 := by omega
    refine ⟨by omega, by omega, by omega, by omega, by omega, ?_⟩
    rw [en]
    have e1 : x.extract 0 (x.data.toList.length - 16) = ⟨(x.data.toList.take (x.data.toList.length - 16)).toArray⟩ := ba_eq (by rw [ext_list, List.drop_zero, Nat.sub_zero])
    have e2 : (x.extract (x.data.toList.length - 16) x.size).data.toList = x.data.toList.drop (x.data.toList.length - 16) := by
      rw [ext_list, List.take_of_length_le (by rw [List.length_drop]; omega)]
    rw [e1]
    have hsz : (⟨(x.data.toList.take (x.data.toList.length - 16)).toArray⟩ : ByteArray).size ≤ 100000 := by rw [zxa, List.length_take]; omega
    refine zod.run hs hh hsz h ht fun H1 k1 o1 => ?_
    rw [zvc (x.data.toList.take _)]
    by_cases hg : tagL s.data.toList (un n) head.data.toList (x.data.toList.take (x.data.toList.length - 16)) = x.data.toList.drop (x.data.toList.length - 16)
    · rw [if_neg (by rw [Bool.not_eq_true', Bool.not_eq_false, beq_lists, e2, zvc (tagL _ _ _ _)]; exact hg)]
      refine ⟨_, rfl, seal_add45.run (.inl k1) h0 h1 fun H2 k2 o2 => ?_⟩
      have o12 := o1.trans o2
      refine zhc.run hs hsz k2 (ht.only o12 h.lt) fun H3 k3 o3 => ?_
      have := hk H3 (o + 1) (.inl k3) (o12.trans o3) (by rw [openL_ok hc hg]; rfl)
      rw [openL_ok hc hg] at this
      rw [zvc (x.data.toList.take _)]
      exact ⟨H3, Heap.Le.refl _, this⟩
    · rw [if_pos (by rw [Bool.not_eq_true', ← Bool.not_eq_true, beq_lists, e2, zvc (tagL _ _ _ _)]; exact hg)]
      have := hk H1 o (.inl k1) o1 (by rw [openL_bad hc hg]; rfl)
      rw [openL_bad hc hg] at this
      exact ⟨H1, Heap.Le.refl _, this⟩
end Go.Sh
namespace Go.Sh
set_option maxRecDepth 8000
theorem u8_twice (a b : UInt8) : (a ^^^ b) ^^^ b = a := by rw [UInt8.xor_assoc, UInt8.xor_self, UInt8.xor_zero]
theorem hide_at {k : List UInt8} {u : Nat} {d : List UInt8} {t : Nat} (ht : t < d.length) : (hideL k u d)[t]? = some (d.getD t 0 ^^^ hbyte k u t) := by
  unfold hideL
  rw [hideTo_at ht, if_pos ht]
theorem hide_hide {k : List UInt8} {u : Nat} {d : List UInt8} : hideL k u (hideL k u d) = d := by
  apply List.ext_getElem?
  intro i
  rcases Nat.lt_or_ge i d.length with h | h
  · rw [hide_at (by rw [hideL_len]; exact h), List.getD_eq_getElem?_getD, hide_at h, Option.getD_some, u8_twice, List.getD_eq_getElem?_getD, List.getElem?_eq_getElem h]
    rfl
  · rw [List.getElem?_eq_none (by rw [hideL_len, hideL_len]; exact h), List.getElem?_eq_none h]
theorem seal_take {s : List UInt8} {u : Nat} {head d : List UInt8} : (sealL s u head d).take ((sealL s u head d).length - 16) = hideL (keyC s) u d := by
  rw [sealL_len, Nat.add_sub_cancel]
  unfold sealL
  exact List.take_left' hideL_len
theorem seal_drop {s : List UInt8} {u : Nat} {head d : List UInt8} : (sealL s u head d).drop ((sealL s u head d).length - 16) = tagL s u head (hideL (keyC s) u d) := by
  rw [sealL_len, Nat.add_sub_cancel]
  unfold sealL
  exact List.drop_left' hideL_len
theorem open_seal {s : List UInt8} {u : Nat} {head d : List UInt8} : openL s u head (sealL s u head d) = (d, 0) := by
  rw [openL_ok (by rw [sealL_len]; omega) (by rw [seal_take, seal_drop]), seal_take, hide_hide]
theorem Only.le {b : Nat} {H0 H H' : Heap} (h : Only b H H') (hl : Heap.Le H0 H) (hn : H0 b = none) : Heap.Le H0 H' := fun k o hk => h k o (hl k o hk) fun e => by subst e; rw [hn] at hk; cases hk
end Go.Sh
namespace Go.Sh
open Go.RowKit
set_option maxRecDepth 8000
theorem recover_region {P : Program} {n id : Nat} {o : Oper} {a : Act} {c₀ : Frame} {cs : List Frame} {w : World} {Q : Exit → Act → List Frame → World → Prop} (ho : o.op = .call { callee := .builtin .recover, args := #[], argTypes := #[] }) (hg : o.guard = none) {v : Value} {u' : FrameMode}
    (hv : (c₀.mode = .returning ∧ v = .nilIface ∧ u' = .returning) ∨ (∃ te x older, c₀.mode = .panicking ({ v := .iface te x, recovered := false } :: older) ∧ v = .iface te x ∧ u' = .panicking ({ v := .iface te x, recovered := true } :: older)))
    (h : Q .normal (a.put o.dst v) ({ c₀ with mode := u' } :: cs) w) : (Code.region id #[o] false).wpSIn (wideR none) n P Q a (c₀ :: cs) w := by
  apply wpSIn_region
  show wpOpsSIn (wideR none) n P #[o] Q [0] a (c₀ :: cs) w
  unfold wpOpsSIn
  simp only [show (#[o] : Array Oper)[0]? = some o from rfl]
  refine ⟨fun _ _ => trivial, ?_⟩
  rw [if_pos (by simp [Region.wanted, hg])]
  have e : (execOp a.eval o).run P w = .ok .recover w := by simp [execOp, ho, resolve, go_sem]
  rw [e]
  dsimp only
  rcases hv with ⟨hm, rfl, rfl⟩ | ⟨te, x, older, hm, rfl, rfl⟩
  · have hr : recoverD (c₀ :: cs) = none := by simp [recoverD, hm]
    rw [hr]
    dsimp only
    unfold wpOpsSIn
    have hc : { c₀ with mode := FrameMode.returning } = c₀ := by cases c₀; simp_all
    rw [hc] at h
    exact h
  · have hr : recoverD (c₀ :: cs) = some (.iface te x, { c₀ with mode := .panicking ({ v := .iface te x, recovered := true } :: older) } :: cs) := by simp [recoverD, hm]
    rw [hr]
    dsimp only
    unfold wpOpsSIn
    exact h
theorem lenIs_in {n : Nat} {fr : Fr} {K : Prop} (h : fr.length = n) (k : K) : lenIs n fr K := by unfold lenIs; rw [if_pos h]; exact k
theorem slS_in {fr : Fr} {t : Nat} {n : ByteArray} {K : ByteArray → Prop} (h : fr.getD t none = some (.string n)) (k : K n) : slS fr t K := by unfold slS; rw [h]; exact k
theorem slPA_in {fr : Fr} {t : Nat} {n : Addr} {K : Addr → Prop} (h : fr.getD t none = some (.pointer (some n))) (k : K n) : slPA fr t K := by unfold slPA; rw [h]; exact k
end Go.Sh
namespace Go.Sh
open Go.RowKit
set_option maxRecDepth 8000
structure CatchG (P : Program) (g : FuncId) (te : TypeId) (G : List Value → Prop) (S : List Value → Int → (Heap → Prop) → Heap → Prop) : Prop where
  idle : ∀ n az H w, G az → Sub H w → CallsDIn (wideR none) n P g az.toArray .returning w fun e u' w' => e = .returned (.tuple #[]) ∧ u' = .returning ∧ Sub H w' ∧ Ext H w H w'
  pan : ∀ n az x H w (K : Heap → Prop), G az → Sub H w → S az x K H → CallsDIn (wideR none) n P g az.toArray (.panicking [{ v := .iface te (.int .i64 x), recovered := false }]) w fun e u' w' =>
    e = .returned (.tuple #[]) ∧ u' = .panicking [{ v := .iface te (.int .i64 x), recovered := true }] ∧ ∃ H', Sub H' w' ∧ Ext H w H' w' ∧ K H'
theorem R_start (az : List Value) (n : Nat) (h : az.length ≤ n) : R (Fx.of []) (az.map some ++ List.replicate (n - az.length) none) { tmps := az.toArray ++ Array.replicate (n - az.toArray.size) undef, defers := [] } := by
  refine ⟨⟨rfl, fun _ _ e => by cases e⟩, by simp, fun t v ht => ?_⟩
  rw [List.getD_eq_getElem?_getD] at ht
  show (az.toArray ++ Array.replicate (n - az.toArray.size) undef)[t]? = some v
  by_cases hl : t < az.length
  · rw [List.getElem?_append_left (by simpa using hl)] at ht
    rw [Array.getElem?_append, if_pos (by simpa using hl)]
    simpa [List.getElem?_map, hl] using ht
  · rw [List.getElem?_append_right (by simpa using hl), List.getElem?_replicate] at ht
    split at ht <;> cases ht
theorem catchG_of {P : Program} {g : FuncId} {fn : Func} {te : TypeId} {id : Nat} {o : Oper} {d : Tmp} {C : Code} {T : CT} {G : List Value → Prop} {S : List Value → Int → (Heap → Prop) → Heap → Prop} (hf : P.funcs[g]? = some fn) (hb : fn.body = some (.seq (.region id #[o] false) C)) (ho : o.op = .call { callee := .builtin .recover, args := #[], argTypes := #[] }) (hg : o.guard = none) (hd : o.dst = some d)
    (hres : fn.results = #[]) (hC : zaa P C T) (hG : ∀ az, G az → az.length ≤ fn.ntmps)
    (h0 : ∀ az H, G az → T (fun e _ H' => e = .normal ∧ H' = H) (fun _ _ => False) ((az.map some ++ List.replicate (fn.ntmps - az.length) none : Fr).set d (some .nilIface)) H)
    (h1 : ∀ az x H (K : Heap → Prop), G az → S az x K H → T (fun e _ H' => e = .normal ∧ K H') (fun _ _ => False) ((az.map some ++ List.replicate (fn.ntmps - az.length) none : Fr).set d (some (.iface te (.int .i64 x)))) H) : CatchG P g te G S := by
  have hR : ∀ (az : List Value) (v : Value), G az → R (Fx.of []) ((az.map some ++ List.replicate (fn.ntmps - az.length) none : Fr).set d (some v)) (({ tmps := az.toArray ++ Array.replicate (fn.ntmps - az.toArray.size) undef, defers := [] } : Act).put o.dst v) := fun az v h => by
    rw [hd]
    exact (R_start az fn.ntmps (hG az h)).put (some d) v (fun _ _ => rfl)
  have post : ∀ (c₀ : Frame) (cs : List Frame) (u' : FrameMode) (a' : Act) (w' : World) (Rr : Ending → FrameMode → World → Prop), a'.defers = [] → Rr (.returned (.tuple #[])) u' w' → bodyPostS P fn c₀ cs Rr .normal a' ({ c₀ with mode := u' } :: cs) w' := fun c₀ cs u' a' w' Rr h1 h2 => by
    refine ⟨h1, u', rfl, .tuple #[], ?_, h2⟩
    simp [results, hres]
  refine ⟨fun n az H w hGa hS => ?_, fun n az x H w K hGa hS hK => ?_⟩
  · refine callsDIn_of_wpSIn hf hb trivial fun c₀ cs hu => ?_
    apply wpSIn_seq
    refine recover_region ho hg (.inl ⟨hu, rfl, rfl⟩) ?_
    refine wpSIn_of_wpIn rfl ?_
    refine hC none n (Fx.of []) _ _ (fun _ _ => False) _ H _ w (NoPin.none C) ⟨?_, fun v H' a' w' _ _ _ h => h.elim⟩ (hR az .nilIface hGa) hS (h0 az H hGa)
    rintro e fr' H' a' w' hR' hS' hE' ⟨rfl, rfl⟩
    exact post c₀ cs .returning a' w' _ hR'.1.1 ⟨rfl, rfl, hS', hE'⟩
  · refine callsDIn_of_wpSIn hf hb trivial fun c₀ cs hu => ?_
    apply wpSIn_seq
    refine recover_region ho hg (.inr ⟨_, _, [], hu, rfl, rfl⟩) ?_
    refine wpSIn_of_wpIn rfl ?_
    refine hC none n (Fx.of []) _ _ (fun _ _ => False) _ H _ w (NoPin.none C) ⟨?_, fun v H' a' w' _ _ _ h => h.elim⟩ (hR az (.iface te (.int .i64 x)) hGa) hS (h1 az x H K hGa hK)
    rintro e fr' H' a' w' hR' hS' hE' ⟨rfl, hk⟩
    exact post c₀ cs _ a' w' _ hR'.1.1 ⟨rfl, rfl, H', hS', hE', hk⟩
theorem defer_fn {P : Program} {nf id : Nat} {m o : Oper} {g : FuncId} {t : Tmp} {caps : Array Operand} {cs : Array Value} {a : Act} {w : World} {Q : Exit → Act → World → Prop} (hm : m.op = .makeFunc (.func g) #[] caps) (hmg : m.guard = none) (hmd : m.dst = some t) (ht : t < a.tmps.size)
    (ho : o.op = .defer { callee := .value (.tmp t), args := #[], argTypes := #[] }) (hg : o.guard = none) (hd : o.dst = none) (hcs : caps.map a.eval = cs)
    (h : Q .normal { a.put (some t) (.func (.func g) #[] cs) with defers := { target := .fn (.func g) cs, args := #[] } :: a.defers } w) : (Code.region id #[m, o] false).wpIn (wideR none) nf P Q a w := by
  refine wpIn_region ?_
  show wpOpsIn (wideR none) nf P #[m, o] Q (List.range' 0 2) a w
  rw [List.range'_succ, wpOpsIn_cons]
  unfold wpOpIn
  simp only [show (#[m, o] : Array Oper)[0]? = some m from rfl]
  rw [if_pos (by simp [Region.wanted, hmg])]
  refine ⟨fun _ _ => trivial, ?_⟩
  have e1 : (m.semAt (wideR none).round a.eval).run P w = .ok (.value (.func (.func g) #[] cs)) w := by
    show (execOp a.eval m).run P w = _
    simp [execOp, hm, go_sem, hcs, Instr.makeFunc]
  rw [e1]
  show wpOpsIn (wideR none) nf P #[m, o] Q [0 + 1] (a.put m.dst (.func (.func g) #[] cs)) w
  rw [wpOpsIn_cons]
  unfold wpOpIn
  simp only [show (#[m, o] : Array Oper)[0 + 1]? = some o from rfl]
  rw [if_pos (by simp [Region.wanted, hg])]
  refine ⟨fun _ _ => trivial, ?_⟩
  have ev : (a.put m.dst (.func (.func g) #[] cs)).eval (.tmp t) = .func (.func g) #[] cs := by
    rw [hmd]
    simp [Act.eval, Act.put, ht]
  have e2 : (o.semAt (wideR none).round (a.put m.dst (.func (.func g) #[] cs)).eval).run P w = .ok (.defer { target := .fn (.func g) cs, args := #[] }) w := by
    show (execOp (a.put m.dst (.func (.func g) #[] cs)).eval o).run P w = _
    generalize (a.put m.dst (.func (.func g) #[] cs)).eval = ρ at ev ⊢
    simp [execOp, ho, resolve, go_sem, ev]
  rw [e2, Oper.uponIn_defer, hd, hmd]
  exact h
def catchGT (P : Program) (fn : Func) (TA TB : CT) (te : TypeId) (pins : List Tmp) (g : FuncId) (t : Tmp) (caps : Array Operand) (G : List Value → Prop) (S : List Value → Int → (Heap → Prop) → Heap → Prop) (args : List Value) (K : Value → Heap → Prop) (H : Heap) : Prop :=
  TA (fun e fr1 H1 => e = .normal ∧ ∃ az pinF, (∀ a, R (Fx.of []) fr1 a → caps.map a.eval = az.toArray) ∧ t < fr1.length ∧ G az ∧ (∀ s v, pinF.getD s none = some v → (fr1.set t (some (.func (.func g) #[] az.toArray))).getD s none = some v ∧ s ∈ pins) ∧ (∃ l v, pinF = l ++ [some v]) ∧
    TB (fun e fr2 H2 => (e = .normal ∨ e = .ret) ∧ resW P fr2 H2 fn.results.toList [] fun v => Fg K v H2)
      (fun v H2 => ∃ x, v = .iface te (.int .i64 x) ∧ S az x (fun H3 => resW P pinF H3 fn.results.toList [] fun v => Fg K v H3) H2) (fr1.set t (some (.func (.func g) #[] az.toArray))) H1)
    (fun _ _ => False) (args.map some ++ List.replicate (fn.ntmps - args.length) none) H
theorem catchG_ok {P : Program} {f : FuncId} {fn : Func} {A B : Code} {id : Nat} {m o : Oper} {g : FuncId} {t : Tmp} {caps : Array Operand} {TA TB : CT} {F : FT} {te : TypeId} {pins : List Tmp} {G : List Value → Prop} {S : List Value → Int → (Heap → Prop) → Heap → Prop} (hf : P.funcs[f]? = some fn) (hb : fn.body = some (.seq A (.seq (.region id #[m, o] false) B))) (hn : (fn.name == "runtime.NumGoroutine") = false)
    (hm : m.op = .makeFunc (.func g) #[] caps) (hmg : m.guard = none) (hmd : m.dst = some t) (ho : o.op = .defer { callee := .value (.tmp t), args := #[], argTypes := #[] }) (hg : o.guard = none) (hd : o.dst = none) (hc : CatchG P g te G S) (hbody : ∃ fg, P.funcs[g]? = some fg ∧ (fg.name == "runtime.NumGoroutine") = false ∧ fg.body.isNone = false)
    (hA : zaa P A TA) (hB : zaa P B TB) (hpin : noPinB pins B = true) (hF : ∀ args K E H, F args K E H → catchGT P fn TA TB te pins g t caps G S args K H) : zca P f F := by
  intro args K E H w hS h
  have hk := hF args K E H h
  have enters : ∀ (f : FuncId) (fn : Func) (args : Array Value) (w : World), P.funcs[f]? = some fn → (fn.name == "runtime.NumGoroutine") = false → fn.body.isNone = false → (callFunc f args).run P w = .ok (.enter f args) w := by
    intro f fn args w hf hn hbody
    show (match P.funcs[f]? with | none => stuck "call: no such function" | some fn => _ : Sem Next).run P w = _
    rw [hf]
    simp only [hn, hbody, Bool.false_eq_true, if_false]
    rfl
  rw [enters f fn args.toArray w hf hn (by rw [hb]; rfl)]
  refine (callsIn_wide (n := 10)).1 (callsIn_of_wp_defers (F := wideR none) (n := 10) hf hb trivial ?_ rfl)
  refine wpIn_seq (hA none 10 (Fx.of []) _ _ (fun _ _ => False) _ H _ w (NoPin.none A) ⟨?_, fun v H' a' w' _ _ _ h => h.elim⟩ ?_ hS hk)
  · rintro e fr0 H1 a0 w1 hR0 hS1 hE1 ⟨rfl, az, pinF, hcs, htl, hGa, hpinF, ⟨l, lv, hl⟩, hk⟩
    refine wpIn_seq (defer_fn hm hmg hmd (Nat.lt_of_lt_of_le htl hR0.2.1) ho hg hd (hcs a0 hR0) ?_)
    have hR1 := hR0.put (some t) (.func (.func g) #[] az.toArray) (fun _ _ => rfl)
    rw [hR0.1.1]
    show B.wpIn (wideR none) 10 P _ _ w1
    rw [show (Fx.of []).ds = ([] : List Deferred) from rfl]
    obtain ⟨a1, ha1⟩ : ∃ a1, a1 = a0.put (some t) (.func (.func g) #[] az.toArray) := ⟨_, rfl⟩
    rw [← ha1] at hR1 ⊢
    obtain ⟨fr1, hfr1⟩ : ∃ fr1 : Fr, fr1 = fr0.set t (some (.func (.func g) #[] az.toArray)) := ⟨_, rfl⟩
    rw [← hfr1] at hk hpinF
    have hR1 : R (Fx.of []) fr1 a1 := by rw [hfr1]; exact hR1
    obtain ⟨D, hD⟩ : ∃ D : Deferred, D = { target := .fn (.func g) az.toArray, args := #[] } := ⟨_, rfl⟩
    rw [← hD]
    obtain ⟨fg, hfg, hng, hbg⟩ := hbody
    have hinv : ∀ w', (invoke D.target D.args).run P w' = .ok (.enter g az.toArray) w' := fun w' => by
      rw [hD]
      simp [invoke, go_sem, enters g fg _ _ hfg hng hbg]
    obtain ⟨X, hX⟩ : ∃ X : Fx, X = ⟨[D], fun s => pinF.getD s none⟩ := ⟨_, rfl⟩
    have hXd : X.ds = [D] := by rw [hX]
    have hXp : ∀ s, X.pin s = pinF.getD s none := fun s => by rw [hX]
    have leave : ∀ {u : FrameMode} {w' : World} {u' : FrameMode} {tm : Array Value} {Rr : Ending → World → Prop} {J : World → Prop}, u ≠ .run → CallsDIn (wideR none) (10 - 1) P g az.toArray u w' (fun e u2 w3 => e = .returned (.tuple #[]) ∧ u2 = u' ∧ J w3) →
        (∀ w2, J w2 → LeavesIn (wideR none) 10 P fn tm Rr [] (settle u') w2) → LeavesIn (wideR none) 10 P fn tm Rr [D] u w' := by
      intro u w' u' tm Rr J hu hcall hl
      refine ⟨hu, (fun h => by cases h), .func g, az.toArray, g, az.toArray, by rw [hD], hinv w', fun _ _ => trivial, ?_⟩
      refine ⟨hcall.1, fun c cs hm hr => ?_⟩
      obtain ⟨e, u2, w3, fr, ⟨rfl, rfl, hJ⟩, hst, hrest⟩ := hcall.2 c cs hm hr
      exact ⟨_, _, _, fr, hl _ hJ, hst, hrest⟩
    refine hB none 10 X _ _ _ fr1 H1 _ w1 (NoPin.of (ts := pins) (fun s hs => ?_) B hpin) ⟨?_, ?_⟩ ⟨⟨hXd.symm, fun s v hv => ?_⟩, hR1.2.1, hR1.2.2⟩ hS1 hk
    · rw [hXp]
      cases hh : pinF.getD s none with
      | none => rfl
      | some v => exact absurd (hpinF s v hh).2 hs
    · -- it returns
      rintro e fr2 H2 a2 w2 hR2 hS2 hE2 ⟨he, hres⟩
      have fin : ∀ Rr : Ending → World → Prop, (∀ v w3, (∃ H', Sub H' w3 ∧ Ext H w H' w3 ∧ K v H') → Rr (.returned v) w3) → LeavesIn (wideR none) 10 P fn a2.tmps Rr a2.defers .returning w2 := by
        intro Rr hRr
        rw [hR2.1.1, hXd]
        refine leave (u' := .returning) (by simp) (hc.idle _ az H2 w2 hGa hS2) ?_
        rintro w3 ⟨hS3, hE3⟩
        obtain ⟨v, hv, H'', hle, hK⟩ := results_run (hR2) hS3 hres
        exact ⟨v, hv, hRr v w3 ⟨H'', hS3.of_le hle, ((hE1.trans hE2).trans hE3).of_le hle, hK⟩⟩
      rcases he with rfl | rfl
      · exact fin _ fun v _ h => h
      · exact fin _ fun v _ h => h
    · -- it throws
      rintro v H2 a2 w2 hK2 hS2 hE2 ⟨x, rfl, hst⟩
      show LeavesIn (wideR none) 10 P fn a2.tmps _ a2.defers (.panicking _) w2
      rw [hK2.1, hXd]
      refine leave (u' := .panicking [{ v := .iface te (.int .i64 x), recovered := true }]) (by simp) (hc.pan _ az x H2 w2 _ hGa hS2 hst) ?_
      rintro w3 ⟨H3, hS3, hE3, hres⟩
      have hpins : ∀ s v, pinF.getD s none = some v → a2.tmps[s]? = some v := fun s v hv => hK2.2 s v (by rw [hXp]; exact hv)
      have hR3 : R (Fx.of []) pinF { a2 with defers := [] } := by
        refine ⟨⟨rfl, fun _ _ e => by cases e⟩, ?_, hpins⟩
        have := hpins l.length lv (by rw [hl]; simp)
        have := (Array.getElem?_eq_some_iff.1 this).1
        rw [hl]
        simp
        omega
      obtain ⟨u, hu, H'', hle, hK⟩ := results_run hR3 hS3 hres
      exact ⟨u, hu, H'', hS3.of_le hle, ((hE1.trans hE2).trans hE3).of_le hle, hK⟩
    · rw [hXp] at hv
      exact hR1.2.2 s v (hpinF s v hv).1
  · refine ⟨⟨rfl, fun _ _ e => by cases e⟩, ?_, fun t v ht => ?_⟩
    · simp
    · rw [List.getD_eq_getElem?_getD] at ht
      show (args.toArray ++ Array.replicate (fn.ntmps - args.toArray.size) undef)[t]? = some v
      by_cases hl : t < args.length
      · rw [List.getElem?_append_left (by simpa using hl)] at ht
        rw [Array.getElem?_append, if_pos (by simpa using hl)]
        simpa [List.getElem?_map, hl] using ht
      · rw [List.getElem?_append_right (by simpa using hl), List.getElem?_replicate] at ht
        split at ht <;> cases ht
end Go.Sh
namespace Go.Proofs
open Go.Shelf
def Tryz.lays144_ren : Go.Shelf.Ren := ⟨fun | 144 => 202 | 143 => 219 | 219 => 226 | 217 => 231 | 225 => 232 | 224 => 233 | 267 => 234 | 266 => 239 | 314 => 240 | n => n, fun | 9 => 9 | 4 => 4 | 3 => 3 | 5 => 5 | 46 => 217 | 146 => 276 | 51 => 197 | n => n, fun | 1 => 2 | n => n⟩
theorem Tryz.lays144 : Go.Proofs.Lays.n144 Tryz.prog Tryz.lays144_ren := {
  mixed := by kernel_rfl
  f143 := Tryz.func219.trans (congrArg some (by kernel_rfl))
  f144 := Tryz.func202.trans (congrArg some (by kernel_rfl))
  f217 := Tryz.func231.trans (congrArg some (by kernel_rfl))
  f219 := Tryz.func226.trans (congrArg some (by kernel_rfl))
  f224 := Tryz.func233.trans (congrArg some (by kernel_rfl))
  f225 := Tryz.func232.trans (congrArg some (by kernel_rfl))
  f266 := Tryz.func239.trans (congrArg some (by kernel_rfl))
  f267 := Tryz.func234.trans (congrArg some (by kernel_rfl))
  f314 := Tryz.func240.trans (congrArg some (by kernel_rfl))
  t3 := Tryz.underlying3
  a3 := Tryz.isAgg3
  z3 := Tryz.sizeOf3
  v3 := Tryz.zeroValue3
  t4 := Tryz.underlying4
  a4 := Tryz.isAgg4
  z4 := Tryz.sizeOf4
  v4 := Tryz.zeroValue4
  t5 := Tryz.underlying5
  a5 := Tryz.isAgg5
  z5 := Tryz.sizeOf5
  v5 := Tryz.zeroValue5
  t9 := Tryz.underlying9
  a9 := Tryz.isAgg9
  z9 := Tryz.sizeOf9
  v9 := Tryz.zeroValue9
  t46 := Tryz.underlying217
  a46 := Tryz.isAgg217
  z46 := Tryz.sizeOf217
  v46 := Tryz.zeroValue217
  t51 := Tryz.underlying197
  a51 := Tryz.isAgg197
  z51 := Tryz.sizeOf197
  v51 := Tryz.zeroValue197
  t146 := Tryz.underlying276
  a146 := Tryz.isAgg276
  z146 := Tryz.sizeOf276
  v146 := Tryz.zeroValue276
  g1 := by kernel_rfl }
open Go.RowKit Go.Lib in
theorem Tryz.strings_Contains_one (s : ByteArray) (c : UInt8) (w : World) :
    Calls Tryz.prog 202 #[.string s, .string ⟨#[c]⟩] w fun e w' => e = .returned (.bool (decide (0 ≤ Lib.indexByte s.data.toList c))) ∧ w' = w := Any.strings_Contains_one Tryz.lays144 s c w
end Go.Proofs
namespace Go.Sh
open Go.Proofs Go.RowKit Go.Shelf Go.ChangeShapes Go.WideShapes
set_option maxRecDepth 8000
theorem callee_ret {P : Program} {f : FuncId} {fn : Func} {c : Code} {F : FT} (hf : P.funcs[f]? = some fn) (hb : fn.body = some c) (hn : (fn.name == "runtime.NumGoroutine") = false)
    (h : ∀ args K E H w, Sub H w → F args K E H → Calls P f args.toArray w fun e w' => ∃ v H', e = .returned v ∧ Sub H' w' ∧ Ext H w H' w' ∧ K v H') : zca P f F := by
  intro args K E H w hS hF
  have hc := h args K E H w hS hF
  have hr : (callFunc f args.toArray).run P w = .ok (.enter f args.toArray) w := by
    have hbody : fn.body.isNone = false := by rw [hb]; rfl
    show (match P.funcs[f]? with | none => stuck "call: no such function" | some fn => _ : Sem Next).run P w = _
    rw [hf]
    simp only [hn, hbody, Bool.false_eq_true, if_false]
    rfl
  rw [hr]
  refine hc.mono fun e w' ⟨v, H', he, h1, h2, hk⟩ => ?_
  subst he
  exact ⟨H', h1, h2, hk⟩
structure zjb.c (a : Option Addr) (K : Heap → Prop) (E : Value → Heap → Prop) (H : Heap) : Prop where
  h : ∃ b p s, a = some ⟨b, 0, none⟩ ∧ H b = some (.cells #[.pointer p, s] 234) ∧ (p = none ∨ p = some ⟨b, 0, none⟩) ∧ K (H.setCell ⟨b, 0, none⟩ (.pointer (some ⟨b, 0, none⟩)))
def zjb.F : FT := fun args K E H => match args with
  | [.pointer a] => zjb.c a (fun H => K (.tuple #[]) H) E H
  | _ => False
theorem setCell_same {H : Heap} {b : Nat} {p s : Value} {t : TypeId} (h : H b = some (.cells #[p, s] t)) : H.setCell ⟨b, 0, none⟩ p = H := by
  funext i
  unfold Heap.setCell Heap.upd
  by_cases e : i = b
  · subst e
    rw [if_pos rfl, h]
    rfl
  · rw [if_neg e]
theorem zjb.ok : zca Tryz.prog 175 zjb.F := by
  refine callee_ret (fn := Tryz.f175) (c := Tryz.f175.body.getD .skip) (by kernel_rfl) (by kernel_rfl) (by kernel_rfl) ?_
  intro args K E H w hS h
  unfold zjb.F at h
  split at h
  · rename_i a
    obtain ⟨b, p, s, rfl, hb, hp, hk⟩ := h.h
    have hw := hS b _ hb
    have c0 : w.cell? ⟨b, 0, none⟩ = some (.pointer p) := by rw [Lib.cell_of_heap hw]; rfl
    rcases hp with rfl | rfl
    · refine (Any.Builder_copyCheck_fresh (L := { Tryz.lays105 with }) Tryz.Builder_Extra_105.toX72 b w c0 (by simp [World.shape?, hw]; rfl) (Lib.frozen_of_heap hw 0)).mono ?_
      rintro e w' ⟨rfl, rfl⟩
      rw [setCell_eq]
      exact ⟨_, _, rfl, hS.upd b _, Ext.upd (by rw [hb]; rfl) _, hk⟩
    · refine (Any.Builder_copyCheck_used (L := { Tryz.lays105 with }) Tryz.Builder_Extra_105.toX72 b w c0).mono ?_
      rintro e w' ⟨rfl, rfl⟩
      rw [setCell_same hb] at hk
      exact ⟨_, _, rfl, hS, Ext.refl _ _, hk⟩
  · exact h.elim
structure zvb.c (a : Option Addr) (K : ByteArray → Heap → Prop) (E : Value → Heap → Prop) (H : Heap) : Prop where
  h : ∃ b p g n cap cur l, a = some ⟨b, 0, none⟩ ∧ H b = some (.cells #[p, .slice (some ⟨g, 0, none⟩) n cap] 234) ∧ H g = some (.cells cur 5) ∧ n ≠ 0 ∧ n ≤ cap ∧ n ≤ 1000000 ∧ cur.size = cap ∧ cur.toList.take n = Lib.byteCells l ∧ l.length = n ∧ K ⟨l.toArray⟩ (H.freeze ⟨g, 0, none⟩ n)
def zvb.F : FT := fun args K E H => match args with
  | [.pointer a] => zvb.c a (fun s H => K (.string s) H) E H
  | _ => False
set_option maxHeartbeats 2000000 in
set_option maxRecDepth 100000 in
theorem builder_string {P : Program} {ρ : Ren} (L : Lays.n169 P ρ) (X : Builder.Extra P ρ) (b g cap : Nat) (cur : Array Value) (p : Value) (l : List UInt8) (w : World) (h0 : l ≠ []) (hbk : w.heap[b]? = some (.cells #[p, .slice (some ⟨g, 0, none⟩) l.length cap] (ρ.t 72))) (hg : w.heap[g]? = some (.cells cur (ρ.t 5))) (hnc : l.length ≤ cap) (hcm : l.length ≤ 1000000) (hcs : cur.size = cap) (htake : cur.toList.take l.length = Lib.byteCells l) :
    Calls P (ρ.f 169) #[.pointer (some ⟨b, 0, none⟩)] w fun e w' => e = .returned (.string ⟨l.toArray⟩) ∧ ∃ n, w' = { w.freeze ⟨g, 0, none⟩ l.length with drawn := n } := by
  have hl0 : l.length ≠ 0 := by simpa using h0
  have c1 : w.drew.cell? ⟨b, 1, none⟩ = some (.slice (some ⟨g, 0, none⟩) l.length cap) := by
    have : w.drew.heap[b]? = some (.cells #[p, .slice (some ⟨g, 0, none⟩) l.length cap] (ρ.t 72) (0, 0)) := hbk
    rw [Lib.cell_of_heap this]; rfl
  have hSD : (Builtin.unsafeSliceData_ #[(ρ.t 37)] (ρ.t 127) #[.slice (some ⟨g, 0, none⟩) l.length cap]).run P w.drew = .ok (.pointer (some ⟨g, 0, none⟩)) w.drew :=
    Lib.run_unsafeSliceData_row _ _ _ _ _ _ (by omega)
  have hUS : (Builtin.unsafeString_ #[(ρ.t 127), (ρ.t 3)] (ρ.t 9) #[.pointer (some ⟨g, 0, none⟩), .int .i64 l.length]).run P w.drew = .ok (.string ⟨l.toArray⟩) (w.drew.freeze ⟨g, 0, none⟩ l.length) := by
    refine Lib.run_unsafeString_row w.drew (ρ.t 127) (ρ.t 3) (ρ.t 9) (ρ.t 5) L.t127 X.cellsByte g cur.size (by have hg' : w.drew.heap[g]? = some (.cells cur (ρ.t 5) (0, 0)) := hg; simp [World.shape?, hg']) l h0 (by omega) (by omega) ?_
    intro j x hx
    have hg' : w.drew.heap[g]? = some (.cells cur (ρ.t 5) (0, 0)) := hg
    have ea : (⟨g, 0, none⟩ : Addr).add j = ⟨g, 0 + j, none⟩ := by unfold Addr.add; split <;> simp_all
    rw [ea, Lib.cell_of_heap hg', ← Array.getElem?_toList]
    have hj : j < l.length := (List.getElem?_eq_some_iff.1 hx).1
    have : (cur.toList.take l.length)[0 + j]? = some (.int .u8 x.toNat) := by rw [htake]; simp [Lib.byteCells, hx]
    rw [List.getElem?_take, if_pos (by omega)] at this
    exact this
  have mixed := L.mixed
  have t72 := L.t72; have a72 := L.a72; have z72 := L.z72; have v72 := L.v72; have u72 := run_underlying L.t72
  have t70 := L.t70; have a70 := L.a70; have z70 := L.z70; have v70 := L.v70; have u70 := run_underlying L.t70
  have t37 := L.t37; have a37 := L.a37; have z37 := L.z37; have v37 := L.v37; have u37 := run_underlying L.t37
  have t127 := L.t127; have a127 := L.a127; have z127 := L.z127; have v127 := L.v127; have u127 := run_underlying L.t127
  have t3 := L.t3; have a3 := L.a3; have z3 := L.z3; have v3 := L.v3; have u3 := run_underlying L.t3
  have t9 := L.t9; have a9 := L.a9; have z9 := L.z9; have v9 := L.v9; have u9 := run_underlying L.t9
  have t5 := X.t5; have a5 := X.a5; have z5 := X.z5; have v5 := X.v5; have u5 := run_underlying X.t5
  go_enter L.f169, Body.n169_ntmps ρ
  go_wp2
  go_region_o
  all_goals (go_wp2; go_ret; first | exact ⟨rfl, _, rfl⟩ | (refine ⟨rfl, w.drawn + 1, ?_⟩; rw [frz_eq _ _ _ hl0, frz_eq _ _ _ hl0]; rfl))
theorem zvb.ok : zca Tryz.prog 126 zvb.F := by
  refine callee_ret (fn := Tryz.f126) (c := Tryz.f126.body.getD .skip) (by kernel_rfl) (by kernel_rfl) (by kernel_rfl) ?_
  intro args K E H w hS h
  unfold zvb.F at h
  split at h
  · rename_i a
    obtain ⟨b, p, g, n, cap, cur, l, rfl, hb, hg, hn, h1, h2, h3, h4, rfl, hk⟩ := h.h
    refine (builder_string (L := { Tryz.lays105 with }) Tryz.Builder_Extra_105 b g cap cur p l w (fun e => hn (by rw [e]; rfl)) (hS b _ hb) (hS g _ hg) h1 h2 h3 h4).mono ?_
    rintro e w' ⟨rfl, m, rfl⟩
    rw [frz_eq _ _ _ hn]
    have e : H.freeze ⟨g, 0, none⟩ l.length = H.upd g (Heap.frzObj ⟨g, 0, none⟩ l.length) := by unfold Heap.freeze; rw [if_neg hn]
    rw [e] at hk
    exact ⟨_, _, rfl, (hS.upd g _).drew m, (Ext.upd (by rw [hg]; rfl) _).trans (Ext.drew _ _ m), hk⟩
  · exact h.elim
structure zqe.c (s sep : ByteArray) (K : Bool → Heap → Prop) (E : Value → Heap → Prop) (H : Heap) : Prop where
  h : ∃ b : UInt8, sep = ⟨#[b]⟩ ∧ K (decide (0 ≤ Lib.indexByte s.data.toList b)) H
def zqe.F : FT := fun args K E H => match args with
  | [.string s, .string sep] => zqe.c s sep (fun v H => K (.bool v) H) E H
  | _ => False
theorem zqe.ok : zca Tryz.prog 202 zqe.F := by
  refine callee_ret (fn := Tryz.f202) (c := Tryz.f202.body.getD .skip) (by kernel_rfl) (by kernel_rfl) (by kernel_rfl) ?_
  intro args K E H w hS h
  unfold zqe.F at h
  split at h
  · obtain ⟨b, rfl, hk⟩ := h.h
    refine (Tryz.strings_Contains_one _ b w).mono ?_
    rintro e w' ⟨rfl, rfl⟩
    exact ⟨_, _, rfl, hS, Ext.refl _ _, hk⟩
  · exact h.elim
end Go.Sh
namespace Go.Sh
open Go.Proofs Go.RowKit
set_option maxRecDepth 8000
structure zhb.c (ok : Bool) (x : Int) (K : Heap → Prop) (E : Value → Heap → Prop) (H : Heap) : Prop where
  h : if ok = true then K H else E (.iface 22 (.int .i64 x)) H
def zhb.F : FT := fun args K E H => match args with
  | [.bool ok, .int .i64 x] => zhb.c ok x (fun H => K (.tuple #[]) H) E H
  | _ => False
theorem zhb.eq1 (x : Int) (K E : Value → Heap → Prop) (H : Heap) : K (.tuple #[]) H = fnT Tryz.prog Tryz.f151 (wC Tryz.prog (fun _ => none) .go (Tryz.f151.body.getD .skip)) [.bool true, .int .i64 x] K E H := by kernel_rfl
theorem zhb.eq0 (x : Int) (K E : Value → Heap → Prop) (H : Heap) : E (.iface 22 (.int .i64 x)) H = fnT Tryz.prog Tryz.f151 (wC Tryz.prog (fun _ => none) .go (Tryz.f151.body.getD .skip)) [.bool false, .int .i64 x] K E H := by kernel_rfl
theorem zhb.ok : zca Tryz.prog 151 zhb.F := by
  refine zia (Γ := fun _ => none) (fun _ _ h => by cases h) (fn := Tryz.f151) (c := Tryz.f151.body.getD .skip) (T := wC Tryz.prog (fun _ => none) .go (Tryz.f151.body.getD .skip)) (by kernel_rfl) (by kernel_rfl) (by kernel_rfl) (wC_go_sound (fun _ _ h => by cases h) _) ?_
  intro args K E H h
  unfold zhb.F at h
  split at h
  · rename_i ok x
    have h := h.h
    cases ok with
    | true =>
      rw [if_pos rfl] at h
      rw [← zhb.eq1]
      exact Fg.same h
    | false =>
      rw [if_neg (by simp)] at h
      rw [← zhb.eq0]
      exact h
  · exact h.elim
noncomputable def zce.rest : Code := match Tryz.f149.body with | some (.seq _ c) => c | _ => .skip
noncomputable def zce.rop : Oper := (match Tryz.f149.body with | some (.seq (.region _ ops _) _) => ops[0]? | _ => none).getD default
abbrev fr149 (p q : Addr) (v : Value) : Fr := ([some (.pointer (some p)), some (.pointer (some q))] ++ List.replicate 10 none : Fr).set 5 (some v)
theorem zce.eq0 (p q : Addr) (QA : Ex → Fr → Heap → Prop) (E : Value → Heap → Prop) (H : Heap) : wC Tryz.prog (fun _ => none) .go zce.rest QA E (fr149 p q .nilIface) H = QA .normal (((fr149 p q .nilIface).set 2 (some .nilIface)).set 7 (some (.bool true))) H := by kernel_rfl
def cauG (vs : List Value) : Prop := ∃ p q : Addr, vs = [.pointer (some p), .pointer (some q)]
def cauS (vs : List Value) (x : Int) (K : Heap → Prop) (H : Heap) : Prop := ∃ p q : Addr, vs = [.pointer (some p), .pointer (some q)] ∧ wC Tryz.prog (fun _ => none) .go zce.rest (fun e _ H' => e = .normal ∧ K H') (fun _ _ => False) (fr149 p q (.iface 22 (.int .i64 x))) H
theorem zce.ok : CatchG Tryz.prog 149 22 cauG cauS := by
  refine catchG_of (fn := Tryz.f149) (id := 0) (o := zce.rop) (d := 5) (C := zce.rest) (T := wC Tryz.prog (fun _ => none) .go zce.rest) Tryz.func149 (by kernel_rfl) (by kernel_rfl) (by kernel_rfl) (by kernel_rfl) (by kernel_rfl) (wC_go_sound (fun _ _ h => by cases h) _) ?_ ?_ ?_
  · rintro vs ⟨p, q, rfl⟩
    have e : Tryz.f149.ntmps = 12 := by kernel_rfl
    rw [e]; simp
  · rintro vs H ⟨p, q, rfl⟩
    have e : Tryz.f149.ntmps = 12 := by kernel_rfl
    rw [e]
    show wC Tryz.prog (fun _ => none) .go zce.rest _ _ (fr149 p q .nilIface) H
    rw [zce.eq0]
    exact ⟨rfl, rfl⟩
  · rintro vs x H K _ ⟨p, q, rfl, h⟩
    have e : Tryz.f149.ntmps = 12 := by kernel_rfl
    rw [e]
    exact h
end Go.Sh
namespace Go.Sh
def deadT : CT := fun _ _ _ _ => False
theorem zid {P : Program} (c : Code) : zaa P c deadT := by
  intro ro nf Ds Q QA E fr H a w hnp hg hR hS h
  exact (show False from h).elim
end Go.Sh
namespace Go.Sh
open Go.Proofs
set_option linter.unusedVariables false
set_option maxRecDepth 8000
namespace zre
noncomputable def body : Code := Tryz.f208.body.getD .skip
def W1.vc (s0 : ByteArray) (k0 : Int) (n0 : Int) (i0 : Int) (Kx0 : Int → HP) (RR : Int → Int → HP) (E : VH) (h0 : Heap) : Prop :=
 (if (decide (i0 < k0)) = true then
 (0 : Int) ≤ 8 ∧
 (0 : Int) ≤ i0 ∧ i0 < (s0.size : Int) ∧
 RR (bits .or .i64 (shlI .i64 n0 8) (IntKind.i64.wrap (bt s0 i0))) (IntKind.i64.wrap (i0 + 1)) h0
 else
 Kx0 n0 h0)
structure W1 (s0 : ByteArray) (k0 : Int) (n0 : Int) (i0 : Int) (Kx0 : Int → HP) (E : VH) (H : Heap) : Prop where
  h : Loop (fun (RR : Int × Int → HP) (s : Int × Int) (H : Heap) => W1.vc s0 k0 s.1 s.2 Kx0 (fun n0 i0 H => RR (n0, i0) H) E H) (n0, i0) H
def vc (s0 : ByteArray) (K : Int → Int → Int → HP) (E : VH) (h0 : Heap) : Prop :=
 (if (s0.toList == (⟨#[]⟩ : ByteArray).toList) = true then
 K 0 0 1 h0
 else
 (0 : Int) ≤ 0 ∧ 0 < (s0.size : Int) ∧
 (0 : Int) ≤ 6 ∧
 (0 : Int) ≤ (shrI .u8 (bt s0 0) 6) ∧ (shrI .u8 (bt s0 0) 6) < ((4 : Nat) : Int) ∧
 ldI h0 .i64 ((⟨0, 0, none⟩ : Addr).add ((shrI .u8 (bt s0 0) 6).toNat * 1)) fun x0 =>
 (if (decide ((s0.size : Int) < x0)) = true then
 K 0 0 1 h0
 else
 (0 : Int) ≤ 0 ∧ 0 < (s0.size : Int) ∧
 W1 s0 x0 (IntKind.i64.wrap (bits .and .u8 (bt s0 0) 63)) 1 (fun n0 h1 =>
 K n0 x0 0 h1) E h0))
structure c (s0 : ByteArray) (K : Int → Int → Int → HP) (E : VH) (H : Heap) : Prop where
  h : vc s0 (fun r0_0 r1_0 r2_0 H => ∃ H', Heap.Le H' H ∧ K r0_0 r1_0 r2_0 H') E H
def F : FT := fun args K E H => match args with
  | [(.string s0)] => c s0 (fun r0_0 r1_0 r2_0 H => K (.tuple #[(.int .i64 r0_0), (.int .i64 r1_0), (.int .i64 r2_0)]) H) E H
  | _ => False
noncomputable def Γ : FuncId → Option FT := Γof []
theorem hΓ : ∀ f F, Γ f = some F → zca Tryz.prog f F := Γof_ok (nilQ)
def W1.t : CT := fun Q E fr H => lenIs 37 fr (slS fr 0 fun s0 => slI fr 5 .i64 fun k0 => slI fr 6 .i64 fun n0 => slI fr 7 .i64 fun i0 => W1 s0 k0 n0 i0 (fun y6_0 H => Q (.exit 0) (mkF 37 [(5, (.int .i64 k0)), (6, (.int .i64 y6_0))]) H) E H)
theorem W1.ok : zaa Tryz.prog (sub [1, 1, 1, 1, 1, 0, 1, 0] body) W1.t := by
  have e : (sub [1, 1, 1, 1, 1, 0, 1, 0] body) = .loop (sub [1, 1, 1, 1, 1, 0, 1, 0, 0] body) := by kernel_rfl
  rw [e]
  refine zda (zqa (zea [0, 5, 6, 7] [] (fun i => if i = 0 then [5, 6] else []) (zba hΓ Tryz.hm (.go) _ (of_eq_true (by kernel_rfl))))) fun Q E fr H h => ?_
  obtain ⟨hl, h⟩ := zga h
  obtain ⟨s0, q0, h⟩ := zfb h
  obtain ⟨k0, q5, h⟩ := zfa h
  obtain ⟨n0, q6, h⟩ := zfa h
  obtain ⟨i0, q7, h⟩ := zfa h
  obtain ⟨m, h⟩ := h.h
  exact ⟨(mkF 37 [(0, (.string s0)), (5, (.int .i64 k0)), (6, (.int .i64 n0)), (7, (.int .i64 i0))]), fun a ha => ha.mk (Nat.le_of_eq hl.symm) (consQ q0 (consQ q5 (consQ q6 (consQ q7 nilQ)))), m, cast (zib (B := (fun (RR : Int × Int → HP) (s : Int × Int) (H : Heap) => W1.vc s0 k0 s.1 s.2 (fun y6_0 H => Q (.exit 0) (mkF 37 [(5, (.int .i64 k0)), (6, (.int .i64 y6_0))]) H) (fun n0 i0 H => RR (n0, i0) H) E H)) (m := (fun (s : Int × Int) => (mkF 37 [(0, (.string s0)), (5, (.int .i64 k0)), (6, (.int .i64 s.1)), (7, (.int .i64 s.2))]))) (Q := Q) (E := E) (fun RR s H => by kernel_rfl) m (n0, i0) H) h⟩
theorem ok : zca Tryz.prog 208 F := by
  refine zia hΓ (fn := Tryz.f208) (c := body) (by kernel_rfl) (by kernel_rfl) (by kernel_rfl) (zba hΓ Tryz.hm (.seq (.go) (.seq (.go) (.seq (.go) (.seq (.go) (.seq (.go) (.seq (.seq (.go) (.block (.use W1.t))) (.go))))))) _ (of_eq (show _ = (True ∧ (True ∧ (True ∧ (True ∧ (True ∧ ((True ∧ (zaa Tryz.prog (sub [1, 1, 1, 1, 1, 0, 1, 0] body) W1.t)) ∧ True)))))) by kernel_rfl) ⟨trivial, ⟨trivial, ⟨trivial, ⟨trivial, ⟨trivial, ⟨⟨trivial, W1.ok⟩, trivial⟩⟩⟩⟩⟩⟩)) fun _ K E H h => ?_
  unfold F at h
  split at h
  · exact cast (by kernel_rfl) h.h
  · exact h.elim
end zre
namespace zob
noncomputable def body : Code := Tryz.f186.body.getD .skip
def vc (r0 : Option Addr) (K : Int → HP) (E : VH) (h0 : Heap) : Prop :=
 nilc r0 fun a0 =>
 ldS h0 (a0.add 0) fun x0 =>
 zre.c x0 (fun x1 x2 x3 h1 =>
 zhb.c (x3 == 0) x3 (fun h2 =>
 nilc r0 fun a1 =>
 ldS h2 (a1.add 0) fun x4 =>
 (0 : Int) ≤ x2 ∧ x2 ≤ (x4.size : Int) ∧ x4.size ≤ x4.size ∧
 nilc r0 fun a2 =>
 stc h2 (a2.add 0) (.string (x4.extract x2.toNat x4.size)) fun h3 =>
 K x1 h3) E h1) E h0
structure c (r0 : Option Addr) (K : Int → HP) (E : VH) (H : Heap) : Prop where
  h : vc r0 (fun r0_0 H => ∃ H', Heap.Le H' H ∧ K r0_0 H') E H
def F : FT := fun args K E H => match args with
  | [(.pointer r0)] => c r0 (fun r0_0 H => K (.int .i64 r0_0) H) E H
  | _ => False
noncomputable def Γ : FuncId → Option FT := Γof [(151, zhb.F), (208, zre.F)]
theorem hΓ : ∀ f F, Γ f = some F → zca Tryz.prog f F := Γof_ok (consQ zhb.ok (consQ zre.ok (nilQ)))
theorem ok : zca Tryz.prog 186 F := by
  refine zia hΓ (fn := Tryz.f186) (c := body) (by kernel_rfl) (by kernel_rfl) (by kernel_rfl) (zba hΓ Tryz.hm (.go) _ (of_eq_true (by kernel_rfl))) fun _ K E H h => ?_
  unfold F at h
  split at h
  · exact cast (by kernel_rfl) h.h
  · exact h.elim
end zob
namespace zrb
noncomputable def body : Code := Tryz.f167.body.getD .skip
def J1.vc (x0 : Int) (x1 : Bool) (Kn : HP) (Kr : ByteArray → Bool → HP) (E : VH) (h0 : Heap) : Prop :=
 (if x1 = true then
 Kr (⟨#[]⟩ : ByteArray) true h0
 else
 (if (x0 == 2) = true then
 Kr (⟨#[114]⟩ : ByteArray) true h0
 else
 (if (x0 == 4) = true then
 Kr (⟨#[105, 99, 111]⟩ : ByteArray) true h0
 else
 (if (x0 == 8) = true then
 Kr (⟨#[105, 111, 102, 100]⟩ : ByteArray) true h0
 else
 (if (x0 == 17) = true then
 Kr (⟨#[105, 111]⟩ : ByteArray) true h0
 else
 (if (x0 == 28) = true then
 Kr (⟨#[99]⟩ : ByteArray) true h0
 else
 (if (x0 == 48) = true then
 Kr (⟨#[100]⟩ : ByteArray) true h0
 else
 Kn h0)))))))
structure J1 (x0 : Int) (x1 : Bool) (Kn : HP) (Kr : ByteArray → Bool → HP) (E : VH) (H : Heap) : Prop where
  h : J1.vc x0 x1 Kn Kr E H
def J2.vc (Kr : ByteArray → Bool → HP) (E : VH) (h0 : Heap) : Prop :=
 Kr (⟨#[]⟩ : ByteArray) false h0
structure J2 (Kr : ByteArray → Bool → HP) (E : VH) (H : Heap) : Prop where
  h : J2.vc  Kr E H
def vc (kind0 : Int) (K : ByteArray → Bool → HP) (E : VH) (h0 : Heap) : Prop :=
 (if (kind0 == 0) = true then
 J1 kind0 (kind0 == 0) (fun h1 =>
 J2 K E h1) K E h0
 else
 J1 kind0 (kind0 == 1) (fun h4 =>
 J2 K E h4) K E h0)
structure c (kind0 : Int) (K : ByteArray → Bool → HP) (E : VH) (H : Heap) : Prop where
  h : vc kind0 (fun r0_0 r1_0 H => ∃ H', Heap.Le H' H ∧ K r0_0 r1_0 H') E H
def F : FT := fun args K E H => match args with
  | [(.int .i64 kind0)] => c kind0 (fun r0_0 r1_0 H => K (.tuple #[(.string r0_0), (.bool r1_0)]) H) E H
  | _ => False
noncomputable def Γ : FuncId → Option FT := Γof []
theorem hΓ : ∀ f F, Γ f = some F → zca Tryz.prog f F := Γof_ok (nilQ)
def J1.t : CT := fun Q E fr H => lenIs 20 fr (slI fr 4 .i64 fun x0 => slB fr 5 fun x1 => J1 x0 x1 (fun  H => Q .normal (mkF 20 []) H) (fun y2_0 y3_0 H => Q .ret (mkF 20 [(2, (.string y2_0)), (3, (.bool y3_0))]) H) E H)
theorem J1.ok : zaa Tryz.prog (sub [1, 0, 1, 0, 1] body) J1.t := by
  refine zda (zea [] [2, 3] (fun i => []) (zba hΓ Tryz.hm (.go) _ (of_eq_true (by kernel_rfl)))) fun Q E fr H h => ?_
  obtain ⟨hl, h⟩ := zga h
  obtain ⟨x0, q4, h⟩ := zfa h
  obtain ⟨x1, q5, h⟩ := zwa h
  exact ⟨(mkF 20 [(4, (.int .i64 x0)), (5, (.bool x1))]), fun a ha => ha.mk (Nat.le_of_eq hl.symm) (consQ q4 (consQ q5 nilQ)), cast (by kernel_rfl) h.h⟩
def J2.t : CT := fun Q E fr H => lenIs 20 fr ( J2  (fun y2_0 y3_0 H => Q .ret (mkF 20 [(2, (.string y2_0)), (3, (.bool y3_0))]) H) E H)
theorem J2.ok : zaa Tryz.prog (sub [1, 1] body) J2.t := by
  refine zda (zea [] [2, 3] (fun i => []) (zba hΓ Tryz.hm (.go) _ (of_eq_true (by kernel_rfl)))) fun Q E fr H h => ?_
  obtain ⟨hl, h⟩ := zga h
  exact ⟨(mkF 20 []), fun a ha => ha.mk (Nat.le_of_eq hl.symm) (nilQ), cast (by kernel_rfl) h.h⟩
theorem ok : zca Tryz.prog 167 F := by
  refine zia hΓ (fn := Tryz.f167) (c := body) (by kernel_rfl) (by kernel_rfl) (by kernel_rfl) (zba hΓ Tryz.hm (.seq (.go) (.seq (.seq (.go) (.block (.seq (.go) (.use J1.t)))) (.use J2.t))) _ (of_eq (show _ = (True ∧ ((True ∧ (True ∧ (zaa Tryz.prog (sub [1, 0, 1, 0, 1] body) J1.t))) ∧ (zaa Tryz.prog (sub [1, 1] body) J2.t))) by kernel_rfl) ⟨trivial, ⟨⟨trivial, ⟨trivial, J1.ok⟩⟩, J2.ok⟩⟩)) fun _ K E H h => ?_
  unfold F at h
  split at h
  · exact cast (by kernel_rfl) h.h
  · exact h.elim
end zrb
namespace zje
noncomputable def body : Code := Tryz.f187.body.getD .skip
def vc (r0 : Option Addr) (K : Bool → HP) (E : VH) (h0 : Heap) : Prop :=
 nilc r0 fun a0 =>
 ldS h0 (a0.add 0) fun x0 =>
 zhb.c (!(x0.toList == (⟨#[]⟩ : ByteArray).toList)) 1 (fun h1 =>
 nilc r0 fun a1 =>
 ldS h1 (a1.add 0) fun x1 =>
 (0 : Int) ≤ 0 ∧ 0 < (x1.size : Int) ∧
 zhb.c (decide ((bt x1 0) < 2)) 3 (fun h2 =>
 nilc r0 fun a2 =>
 ldS h2 (a2.add 0) fun x2 =>
 (0 : Int) ≤ 1 ∧ 1 ≤ (x2.size : Int) ∧ x2.size ≤ x2.size ∧
 nilc r0 fun a3 =>
 stc h2 (a3.add 0) (.string (x2.extract 1 x2.size)) fun h3 =>
 K ((bt x1 0) == 1) h3) E h1) E h0
structure c (r0 : Option Addr) (K : Bool → HP) (E : VH) (H : Heap) : Prop where
  h : vc r0 (fun r0_0 H => ∃ H', Heap.Le H' H ∧ K r0_0 H') E H
def F : FT := fun args K E H => match args with
  | [(.pointer r0)] => c r0 (fun r0_0 H => K (.bool r0_0) H) E H
  | _ => False
noncomputable def Γ : FuncId → Option FT := Γof [(151, zhb.F)]
theorem hΓ : ∀ f F, Γ f = some F → zca Tryz.prog f F := Γof_ok (consQ zhb.ok (nilQ))
theorem ok : zca Tryz.prog 187 F := by
  refine zia hΓ (fn := Tryz.f187) (c := body) (by kernel_rfl) (by kernel_rfl) (by kernel_rfl) (zba hΓ Tryz.hm (.go) _ (of_eq_true (by kernel_rfl))) fun _ K E H h => ?_
  unfold F at h
  split at h
  · exact cast (by kernel_rfl) h.h
  · exact h.elim
end zje
namespace zef
noncomputable def body : Code := Tryz.f209.body.getD .skip
def J1.vc (s0 : ByteArray) (n0 : Int) (k0 : Int) (x0 : Bool) (Kn : HP) (Kr : ByteArray → Int → Int → HP) (E : VH) (h0 : Heap) : Prop :=
 (if x0 = true then
 Kr (⟨#[]⟩ : ByteArray) 0 1 h0
 else
 Kn h0)
structure J1 (s0 : ByteArray) (n0 : Int) (k0 : Int) (x0 : Bool) (Kn : HP) (Kr : ByteArray → Int → Int → HP) (E : VH) (H : Heap) : Prop where
  h : J1.vc s0 n0 k0 x0 Kn Kr E H
def J2.vc (s0 : ByteArray) (n0 : Int) (k0 : Int) (Kr : ByteArray → Int → Int → HP) (E : VH) (h0 : Heap) : Prop :=
 (0 : Int) ≤ k0 ∧ k0 ≤ ((IntKind.i64.wrap (k0 + n0)) : Int) ∧ (IntKind.i64.wrap (k0 + n0)) ≤ (s0.size : Int) ∧
 Kr (s0.extract k0.toNat (IntKind.i64.wrap (k0 + n0)).toNat) (IntKind.i64.wrap (k0 + n0)) 0 h0
structure J2 (s0 : ByteArray) (n0 : Int) (k0 : Int) (Kr : ByteArray → Int → Int → HP) (E : VH) (H : Heap) : Prop where
  h : J2.vc s0 n0 k0 Kr E H
def vc (s0 : ByteArray) (K : ByteArray → Int → Int → HP) (E : VH) (h0 : Heap) : Prop :=
 zre.c s0 (fun x0 x1 x2 h1 =>
 (if (x2 != 0) = true then
 J1 s0 x0 x1 true (fun h2 =>
 J2 s0 x0 x1 K E h2) K E h1
 else
 J1 s0 x0 x1 (decide (x0 > (IntKind.i64.wrap ((s0.size : Int) - x1)))) (fun h5 =>
 J2 s0 x0 x1 K E h5) K E h1)) E h0
structure c (s0 : ByteArray) (K : ByteArray → Int → Int → HP) (E : VH) (H : Heap) : Prop where
  h : vc s0 (fun r0_0 r1_0 r2_0 H => ∃ H', Heap.Le H' H ∧ K r0_0 r1_0 r2_0 H') E H
def F : FT := fun args K E H => match args with
  | [(.string s0)] => c s0 (fun r0_0 r1_0 r2_0 H => K (.tuple #[(.string r0_0), (.int .i64 r1_0), (.int .i64 r2_0)]) H) E H
  | _ => False
noncomputable def Γ : FuncId → Option FT := Γof [(208, zre.F)]
theorem hΓ : ∀ f F, Γ f = some F → zca Tryz.prog f F := Γof_ok (consQ zre.ok (nilQ))
def J1.t : CT := fun Q E fr H => lenIs 33 fr (slS fr 0 fun s0 => slI fr 5 .i64 fun n0 => slI fr 6 .i64 fun k0 => slB fr 24 fun x0 => J1 s0 n0 k0 x0 (fun  H => Q .normal (mkF 33 [(0, (.string s0)), (5, (.int .i64 n0)), (6, (.int .i64 k0))]) H) (fun y2_0 y3_0 y4_0 H => Q .ret (mkF 33 [(2, (.string y2_0)), (3, (.int .i64 y3_0)), (4, (.int .i64 y4_0))]) H) E H)
theorem J1.ok : zaa Tryz.prog (sub [1, 1, 0, 1] body) J1.t := by
  refine zda (zea [0, 5, 6] [2, 3, 4] (fun i => []) (zba hΓ Tryz.hm (.go) _ (of_eq_true (by kernel_rfl)))) fun Q E fr H h => ?_
  obtain ⟨hl, h⟩ := zga h
  obtain ⟨s0, q0, h⟩ := zfb h
  obtain ⟨n0, q5, h⟩ := zfa h
  obtain ⟨k0, q6, h⟩ := zfa h
  obtain ⟨x0, q24, h⟩ := zwa h
  exact ⟨(mkF 33 [(0, (.string s0)), (5, (.int .i64 n0)), (6, (.int .i64 k0)), (24, (.bool x0))]), fun a ha => ha.mk (Nat.le_of_eq hl.symm) (consQ q0 (consQ q5 (consQ q6 (consQ q24 nilQ)))), cast (by kernel_rfl) h.h⟩
def J2.t : CT := fun Q E fr H => lenIs 33 fr (slS fr 0 fun s0 => slI fr 5 .i64 fun n0 => slI fr 6 .i64 fun k0 => J2 s0 n0 k0 (fun y2_0 y3_0 y4_0 H => Q .ret (mkF 33 [(2, (.string y2_0)), (3, (.int .i64 y3_0)), (4, (.int .i64 y4_0))]) H) E H)
theorem J2.ok : zaa Tryz.prog (sub [1, 1, 1] body) J2.t := by
  refine zda (zea [] [2, 3, 4] (fun i => []) (zba hΓ Tryz.hm (.go) _ (of_eq_true (by kernel_rfl)))) fun Q E fr H h => ?_
  obtain ⟨hl, h⟩ := zga h
  obtain ⟨s0, q0, h⟩ := zfb h
  obtain ⟨n0, q5, h⟩ := zfa h
  obtain ⟨k0, q6, h⟩ := zfa h
  exact ⟨(mkF 33 [(0, (.string s0)), (5, (.int .i64 n0)), (6, (.int .i64 k0))]), fun a ha => ha.mk (Nat.le_of_eq hl.symm) (consQ q0 (consQ q5 (consQ q6 nilQ))), cast (by kernel_rfl) h.h⟩
theorem ok : zca Tryz.prog 209 F := by
  refine zia hΓ (fn := Tryz.f209) (c := body) (by kernel_rfl) (by kernel_rfl) (by kernel_rfl) (zba hΓ Tryz.hm (.seq (.go) (.seq (.go) (.seq (.seq (.go) (.use J1.t)) (.use J2.t)))) _ (of_eq (show _ = (True ∧ (True ∧ ((True ∧ (zaa Tryz.prog (sub [1, 1, 0, 1] body) J1.t)) ∧ (zaa Tryz.prog (sub [1, 1, 1] body) J2.t)))) by kernel_rfl) ⟨trivial, ⟨trivial, ⟨⟨trivial, J1.ok⟩, J2.ok⟩⟩⟩)) fun _ K E H h => ?_
  unfold F at h
  split at h
  · exact cast (by kernel_rfl) h.h
  · exact h.elim
end zef
namespace zud
noncomputable def body : Code := Tryz.f188.body.getD .skip
def vc (r0 : Option Addr) (K : ByteArray → HP) (E : VH) (h0 : Heap) : Prop :=
 nilc r0 fun a0 =>
 ldS h0 (a0.add 0) fun x0 =>
 zef.c x0 (fun x1 x2 x3 h1 =>
 zhb.c (x3 == 0) x3 (fun h2 =>
 nilc r0 fun a1 =>
 ldS h2 (a1.add 0) fun x4 =>
 (0 : Int) ≤ x2 ∧ x2 ≤ (x4.size : Int) ∧ x4.size ≤ x4.size ∧
 nilc r0 fun a2 =>
 stc h2 (a2.add 0) (.string (x4.extract x2.toNat x4.size)) fun h3 =>
 K x1 h3) E h1) E h0
structure c (r0 : Option Addr) (K : ByteArray → HP) (E : VH) (H : Heap) : Prop where
  h : vc r0 (fun r0_0 H => ∃ H', Heap.Le H' H ∧ K r0_0 H') E H
def F : FT := fun args K E H => match args with
  | [(.pointer r0)] => c r0 (fun r0_0 H => K (.string r0_0) H) E H
  | _ => False
noncomputable def Γ : FuncId → Option FT := Γof [(151, zhb.F), (209, zef.F)]
theorem hΓ : ∀ f F, Γ f = some F → zca Tryz.prog f F := Γof_ok (consQ zhb.ok (consQ zef.ok (nilQ)))
theorem ok : zca Tryz.prog 188 F := by
  refine zia hΓ (fn := Tryz.f188) (c := body) (by kernel_rfl) (by kernel_rfl) (by kernel_rfl) (zba hΓ Tryz.hm (.go) _ (of_eq_true (by kernel_rfl))) fun _ K E H h => ?_
  unfold F at h
  split at h
  · exact cast (by kernel_rfl) h.h
  · exact h.elim
end zud
namespace zgc
noncomputable def body : Code := Tryz.f168.body.getD .skip
def J2.vc (fields0 : ByteArray) (x0 : ByteArray) (x1 : Bool) (x2 : ByteArray) (x3 : Bool) (x4 : ByteArray) (x5 : Bool) (x6 : ByteArray) (x7 : Bool) (x8 : ByteArray) (x9 : Bool) (x10 : ByteArray) (x11 : Bool) (x12 : Int) (x13 : Bool) (Kn : HP) (Kr : Bool → HP) (E : VH) (h0 : Heap) : Prop :=
 (if x13 = true then
 Kr true h0
 else
 Kn h0)
structure J2 (fields0 : ByteArray) (x0 : ByteArray) (x1 : Bool) (x2 : ByteArray) (x3 : Bool) (x4 : ByteArray) (x5 : Bool) (x6 : ByteArray) (x7 : Bool) (x8 : ByteArray) (x9 : Bool) (x10 : ByteArray) (x11 : Bool) (x12 : Int) (x13 : Bool) (Kn : HP) (Kr : Bool → HP) (E : VH) (H : Heap) : Prop where
  h : J2.vc fields0 x0 x1 x2 x3 x4 x5 x6 x7 x8 x9 x10 x11 x12 x13 Kn Kr E H
def J3.vc (fields0 : ByteArray) (x0 : ByteArray) (x1 : Bool) (x2 : ByteArray) (x3 : Bool) (x4 : ByteArray) (x5 : Bool) (x6 : ByteArray) (x7 : Bool) (x8 : ByteArray) (x9 : Bool) (x10 : ByteArray) (x11 : Bool) (x12 : Int) (Kn : Int → HP) (E : VH) (h0 : Heap) : Prop :=
 Kn (IntKind.i64.wrap (x12 + 1)) h0
structure J3 (fields0 : ByteArray) (x0 : ByteArray) (x1 : Bool) (x2 : ByteArray) (x3 : Bool) (x4 : ByteArray) (x5 : Bool) (x6 : ByteArray) (x7 : Bool) (x8 : ByteArray) (x9 : Bool) (x10 : ByteArray) (x11 : Bool) (x12 : Int) (Kn : Int → HP) (E : VH) (H : Heap) : Prop where
  h : J3.vc fields0 x0 x1 x2 x3 x4 x5 x6 x7 x8 x9 x10 x11 x12 Kn E H
def W1.vc (fields0 : ByteArray) (x0 : ByteArray) (x1 : Bool) (x2 : ByteArray) (x3 : Bool) (x4 : ByteArray) (x5 : Bool) (x6 : ByteArray) (x7 : Bool) (x8 : ByteArray) (x9 : Bool) (x10 : ByteArray) (x11 : Bool) (x12 : Int) (Kx0 : HP) (Kr : Bool → HP) (RR : Int → HP) (E : VH) (h0 : Heap) : Prop :=
 (if (decide (x12 < 6)) = true then
 (0 : Int) ≤ x12 ∧ x12 < ((6 : Nat) : Int) ∧ ∃ v1, (#[(.string x0), (.bool x1), (.string x2), (.bool x3), (.string x4), (.bool x5), (.string x6), (.bool x7), (.string x8), (.bool x9), (.string x10), (.bool x11)] : Array Value)[x12.toNat * 2]? = some v1 ∧ ∃ x13, v1 = (.string x13) ∧
 ∃ v2, (#[(.string x0), (.bool x1), (.string x2), (.bool x3), (.string x4), (.bool x5), (.string x6), (.bool x7), (.string x8), (.bool x9), (.string x10), (.bool x11)] : Array Value)[x12.toNat * 2 + 1]? = some v2 ∧ ∃ x14, v2 = (.bool x14) ∧
 newB (.cells #[(.string (⟨#[]⟩ : ByteArray)), (.bool false)] 297) (fun b0 h1 =>
 stc h1 ((⟨b0, 0, none⟩ : Addr).add 0) (.string x13) fun h2 =>
 stc h2 ((⟨b0, 0, none⟩ : Addr).add 1) (.bool x14) fun h3 =>
 ldB h3 ((⟨b0, 0, none⟩ : Addr).add 1) fun x15 =>
 (if x15 = true then
 ldS h3 ((⟨b0, 0, none⟩ : Addr).add 0) fun x16 =>
 zqe.c fields0 x16 (fun x17 h4 =>
 J2 fields0 x0 x1 x2 x3 x4 x5 x6 x7 x8 x9 x10 x11 x12 (!x17) (fun h5 =>
 J3 fields0 x0 x1 x2 x3 x4 x5 x6 x7 x8 x9 x10 x11 x12 RR E h5) Kr E h4) E h3
 else
 J2 fields0 x0 x1 x2 x3 x4 x5 x6 x7 x8 x9 x10 x11 x12 false (fun h8 =>
 J3 fields0 x0 x1 x2 x3 x4 x5 x6 x7 x8 x9 x10 x11 x12 RR E h8) Kr E h3)) h0
 else
 Kx0 h0)
structure W1 (fields0 : ByteArray) (x0 : ByteArray) (x1 : Bool) (x2 : ByteArray) (x3 : Bool) (x4 : ByteArray) (x5 : Bool) (x6 : ByteArray) (x7 : Bool) (x8 : ByteArray) (x9 : Bool) (x10 : ByteArray) (x11 : Bool) (x12 : Int) (Kx0 : HP) (Kr : Bool → HP) (E : VH) (H : Heap) : Prop where
  h : Loop (fun (RR : Int → HP) (s : Int) (H : Heap) => W1.vc fields0 x0 x1 x2 x3 x4 x5 x6 x7 x8 x9 x10 x11 s Kx0 Kr (fun x12 H => RR (x12) H) E H) (x12) H
def vc (f0 : Int) (f1 : Int) (f2 : Int) (f3 : Bool) (f4 : Int) (f5 : ByteArray) (f6 : Option Addr) (f7 : Nat) (f8 : Nat) (fields0 : ByteArray) (K : Bool → HP) (E : VH) (h0 : Heap) : Prop :=
 newB (.cells #[(.int .i64 f0), (.int .i64 f1), (.int .i64 f2), (.bool f3), (.int .i64 f4), (.string f5), (.slice f6 f7 f8)] 83) (fun b0 h1 =>
 ldI h1 .i64 ((⟨b0, 0, none⟩ : Addr).add 1) fun x0 =>
 ldI h1 .i64 ((⟨b0, 0, none⟩ : Addr).add 2) fun x1 =>
 ldI h1 .i64 ((⟨b0, 0, none⟩ : Addr).add 4) fun x2 =>
 ldB h1 ((⟨b0, 0, none⟩ : Addr).add 3) fun x3 =>
 ldS h1 ((⟨b0, 0, none⟩ : Addr).add 5) fun x4 =>
 ldSl h1 ((⟨b0, 0, none⟩ : Addr).add 6) fun x5 x6 x7 =>
 W1 fields0 (⟨#[105]⟩ : ByteArray) (x0 != 0) (⟨#[111]⟩ : ByteArray) (x1 != 0) (⟨#[99]⟩ : ByteArray) (x2 != 0) (⟨#[102]⟩ : ByteArray) x3 (⟨#[100]⟩ : ByteArray) (!(x4.toList == (⟨#[]⟩ : ByteArray).toList)) (⟨#[114]⟩ : ByteArray) (decide ((x6 : Int) > 0)) 0 (fun h2 =>
 K false h2) K E h1) h0
structure c (f0 : Int) (f1 : Int) (f2 : Int) (f3 : Bool) (f4 : Int) (f5 : ByteArray) (f6 : Option Addr) (f7 : Nat) (f8 : Nat) (fields0 : ByteArray) (K : Bool → HP) (E : VH) (H : Heap) : Prop where
  h : vc f0 f1 f2 f3 f4 f5 f6 f7 f8 fields0 (fun r0_0 H => ∃ H', Heap.Le H' H ∧ K r0_0 H') E H
def F : FT := fun args K E H => match args with
  | [(.agg ⟨[(.int .i64 f0), (.int .i64 f1), (.int .i64 f2), (.bool f3), (.int .i64 f4), (.string f5), (.slice f6 f7 f8)]⟩), (.string fields0)] => c f0 f1 f2 f3 f4 f5 f6 f7 f8 fields0 (fun r0_0 H => K (.bool r0_0) H) E H
  | _ => False
noncomputable def Γ : FuncId → Option FT := Γof [(202, zqe.F)]
theorem hΓ : ∀ f F, Γ f = some F → zca Tryz.prog f F := Γof_ok (consQ zqe.ok (nilQ))
def r1 (fr : Fr) (t : Nat) (K : ByteArray → Bool → ByteArray → Bool → ByteArray → Bool → ByteArray → Bool → ByteArray → Bool → ByteArray → Bool → Prop) : Prop :=
  match fr.getD t none with
  | some (.agg ⟨[(.string x0), (.bool x1), (.string x2), (.bool x3), (.string x4), (.bool x5), (.string x6), (.bool x7), (.string x8), (.bool x9), (.string x10), (.bool x11)]⟩) => K x0 x1 x2 x3 x4 x5 x6 x7 x8 x9 x10 x11
  | _ => False
theorem r1_elim {fr : Fr} {t : Nat} {K : ByteArray → Bool → ByteArray → Bool → ByteArray → Bool → ByteArray → Bool → ByteArray → Bool → ByteArray → Bool → Prop} (h : r1 fr t K) : ∃ x0 x1 x2 x3 x4 x5 x6 x7 x8 x9 x10 x11, fr.getD t none = some (.agg #[(.string x0), (.bool x1), (.string x2), (.bool x3), (.string x4), (.bool x5), (.string x6), (.bool x7), (.string x8), (.bool x9), (.string x10), (.bool x11)]) ∧ K x0 x1 x2 x3 x4 x5 x6 x7 x8 x9 x10 x11 := by
  unfold r1 at h
  split at h
  · rename_i e; exact ⟨_, _, _, _, _, _, _, _, _, _, _, _, e, h⟩
  · exact h.elim
def J2.t : CT := fun Q E fr H => lenIs 45 fr (slS fr 1 fun fields0 => r1 fr 31 fun x0 x1 x2 x3 x4 x5 x6 x7 x8 x9 x10 x11 => slI fr 32 .i64 fun x12 => slB fr 43 fun x13 => J2 fields0 x0 x1 x2 x3 x4 x5 x6 x7 x8 x9 x10 x11 x12 x13 (fun  H => Q .normal (mkF 45 [(1, (.string fields0)), (31, (.agg #[(.string x0), (.bool x1), (.string x2), (.bool x3), (.string x4), (.bool x5), (.string x6), (.bool x7), (.string x8), (.bool x9), (.string x10), (.bool x11)])), (32, (.int .i64 x12))]) H) (fun y4_0 H => Q .ret (mkF 45 [(4, (.bool y4_0))]) H) E H)
theorem J2.ok : zaa Tryz.prog (sub [1, 0, 1, 0, 0, 1, 1, 0, 0, 1, 1] body) J2.t := by
  refine zda (zea [1, 31, 32] [4] (fun i => []) (zba hΓ Tryz.hm (.go) _ (of_eq_true (by kernel_rfl)))) fun Q E fr H h => ?_
  obtain ⟨hl, h⟩ := zga h
  obtain ⟨fields0, q1, h⟩ := zfb h
  obtain ⟨x0, x1, x2, x3, x4, x5, x6, x7, x8, x9, x10, x11, q31, h⟩ := r1_elim h
  obtain ⟨x12, q32, h⟩ := zfa h
  obtain ⟨x13, q43, h⟩ := zwa h
  exact ⟨(mkF 45 [(1, (.string fields0)), (31, (.agg #[(.string x0), (.bool x1), (.string x2), (.bool x3), (.string x4), (.bool x5), (.string x6), (.bool x7), (.string x8), (.bool x9), (.string x10), (.bool x11)])), (32, (.int .i64 x12)), (43, (.bool x13))]), fun a ha => ha.mk (Nat.le_of_eq hl.symm) (consQ q1 (consQ q31 (consQ q32 (consQ q43 nilQ)))), cast (by kernel_rfl) h.h⟩
def J3.t : CT := fun Q E fr H => lenIs 45 fr (slS fr 1 fun fields0 => r1 fr 31 fun x0 x1 x2 x3 x4 x5 x6 x7 x8 x9 x10 x11 => slI fr 32 .i64 fun x12 => J3 fields0 x0 x1 x2 x3 x4 x5 x6 x7 x8 x9 x10 x11 x12 (fun y32_0 H => Q .normal (mkF 45 [(1, (.string fields0)), (31, (.agg #[(.string x0), (.bool x1), (.string x2), (.bool x3), (.string x4), (.bool x5), (.string x6), (.bool x7), (.string x8), (.bool x9), (.string x10), (.bool x11)])), (32, (.int .i64 y32_0))]) H) E H)
theorem J3.ok : zaa Tryz.prog (sub [1, 0, 1, 0, 0, 1, 1, 1] body) J3.t := by
  refine zda (zea [1, 31, 32] [] (fun i => []) (zba hΓ Tryz.hm (.go) _ (of_eq_true (by kernel_rfl)))) fun Q E fr H h => ?_
  obtain ⟨hl, h⟩ := zga h
  obtain ⟨fields0, q1, h⟩ := zfb h
  obtain ⟨x0, x1, x2, x3, x4, x5, x6, x7, x8, x9, x10, x11, q31, h⟩ := r1_elim h
  obtain ⟨x12, q32, h⟩ := zfa h
  exact ⟨(mkF 45 [(1, (.string fields0)), (31, (.agg #[(.string x0), (.bool x1), (.string x2), (.bool x3), (.string x4), (.bool x5), (.string x6), (.bool x7), (.string x8), (.bool x9), (.string x10), (.bool x11)])), (32, (.int .i64 x12))]), fun a ha => ha.mk (Nat.le_of_eq hl.symm) (consQ q1 (consQ q31 (consQ q32 nilQ))), cast (by kernel_rfl) h.h⟩
def W1.t : CT := fun Q E fr H => lenIs 45 fr (slS fr 1 fun fields0 => r1 fr 31 fun x0 x1 x2 x3 x4 x5 x6 x7 x8 x9 x10 x11 => slI fr 32 .i64 fun x12 => W1 fields0 x0 x1 x2 x3 x4 x5 x6 x7 x8 x9 x10 x11 x12 (fun  H => Q (.exit 0) (mkF 45 []) H) (fun y4_0 H => Q .ret (mkF 45 [(4, (.bool y4_0))]) H) E H)
theorem W1.ok : zaa Tryz.prog (sub [1, 0, 1, 0] body) W1.t := by
  have e : (sub [1, 0, 1, 0] body) = .loop (sub [1, 0, 1, 0, 0] body) := by kernel_rfl
  rw [e]
  refine zda (zqa (zea [1, 31, 32] [4] (fun i => if i = 0 then [] else []) (zba hΓ Tryz.hm (.seq (.go) (.seq (.go) (.seq (.block (.seq (.go) (.seq (.go) (.use J2.t)))) (.use J3.t)))) _ (of_eq (show _ = (True ∧ (True ∧ ((True ∧ (True ∧ (zaa Tryz.prog (sub [1, 0, 1, 0, 0, 1, 1, 0, 0, 1, 1] body) J2.t))) ∧ (zaa Tryz.prog (sub [1, 0, 1, 0, 0, 1, 1, 1] body) J3.t)))) by kernel_rfl) ⟨trivial, ⟨trivial, ⟨⟨trivial, ⟨trivial, J2.ok⟩⟩, J3.ok⟩⟩⟩)))) fun Q E fr H h => ?_
  obtain ⟨hl, h⟩ := zga h
  obtain ⟨fields0, q1, h⟩ := zfb h
  obtain ⟨x0, x1, x2, x3, x4, x5, x6, x7, x8, x9, x10, x11, q31, h⟩ := r1_elim h
  obtain ⟨x12, q32, h⟩ := zfa h
  obtain ⟨m, h⟩ := h.h
  exact ⟨(mkF 45 [(1, (.string fields0)), (31, (.agg #[(.string x0), (.bool x1), (.string x2), (.bool x3), (.string x4), (.bool x5), (.string x6), (.bool x7), (.string x8), (.bool x9), (.string x10), (.bool x11)])), (32, (.int .i64 x12))]), fun a ha => ha.mk (Nat.le_of_eq hl.symm) (consQ q1 (consQ q31 (consQ q32 nilQ))), m, cast (zib (B := (fun (RR : Int → HP) (s : Int) (H : Heap) => W1.vc fields0 x0 x1 x2 x3 x4 x5 x6 x7 x8 x9 x10 x11 s (fun  H => Q (.exit 0) (mkF 45 []) H) (fun y4_0 H => Q .ret (mkF 45 [(4, (.bool y4_0))]) H) (fun x12 H => RR (x12) H) E H)) (m := (fun (s : Int) => (mkF 45 [(1, (.string fields0)), (31, (.agg #[(.string x0), (.bool x1), (.string x2), (.bool x3), (.string x4), (.bool x5), (.string x6), (.bool x7), (.string x8), (.bool x9), (.string x10), (.bool x11)])), (32, (.int .i64 s))]))) (Q := Q) (E := E) (fun RR s H => by kernel_rfl) m (x12) H) h⟩
theorem ok : zca Tryz.prog 168 F := by
  refine zia hΓ (fn := Tryz.f168) (c := body) (by kernel_rfl) (by kernel_rfl) (by kernel_rfl) (zba hΓ Tryz.hm (.seq (.go) (.seq (.seq (.go) (.block (.use W1.t))) (.go))) _ (of_eq (show _ = (True ∧ ((True ∧ (zaa Tryz.prog (sub [1, 0, 1, 0] body) W1.t)) ∧ True)) by kernel_rfl) ⟨trivial, ⟨⟨trivial, W1.ok⟩, trivial⟩⟩)) fun _ K E H h => ?_
  unfold F at h
  split at h
  · exact cast (by kernel_rfl) h.h
  · exact h.elim
end zgc
namespace zpd
noncomputable def body : Code := Tryz.f169.body.getD .skip
def vc (n0 : Int) (K : Bool → HP) (E : VH) (h0 : Heap) : Prop :=
 (if (decide (n0 ≥ 0)) = true then
 K (decide (n0 ≤ 4611686018427387903)) h0
 else
 K false h0)
structure c (n0 : Int) (K : Bool → HP) (E : VH) (H : Heap) : Prop where
  h : vc n0 (fun r0_0 H => ∃ H', Heap.Le H' H ∧ K r0_0 H') E H
def F : FT := fun args K E H => match args with
  | [(.int .i64 n0)] => c n0 (fun r0_0 H => K (.bool r0_0) H) E H
  | _ => False
noncomputable def Γ : FuncId → Option FT := Γof []
theorem hΓ : ∀ f F, Γ f = some F → zca Tryz.prog f F := Γof_ok (nilQ)
theorem ok : zca Tryz.prog 169 F := by
  refine zia hΓ (fn := Tryz.f169) (c := body) (by kernel_rfl) (by kernel_rfl) (by kernel_rfl) (zba hΓ Tryz.hm (.go) _ (of_eq_true (by kernel_rfl))) fun _ K E H h => ?_
  unfold F at h
  split at h
  · exact cast (by kernel_rfl) h.h
  · exact h.elim
end zpd
structure acks_Check.c (z0 : Option Addr) (z1 : Nat) (z2 : Nat) (K : Int → Heap → Prop) (E : Value → Heap → Prop) (H : Heap) : Prop where
  h : False
def acks_Check.F : FT := fun args K E H => match args with
  | [(.slice z0 z1 z2)] => acks_Check.c z0 z1 z2 (fun r0_0 H => K (.int .i64 r0_0) H) E H
  | _ => False
theorem acks_Check.ok : zca Tryz.prog 170 acks_Check.F := by
  intro args K E H w hS h
  unfold acks_Check.F at h
  split at h
  · exact h.h.elim
  · exact h.elim
namespace zwb
noncomputable def body : Code := Tryz.f124.body.getD .skip
def J3.vc (x0 : Bool) (Kn : HP) (E : VH) (h0 : Heap) : Prop :=
 (if x0 = true then
 False
 else
 Kn h0)
structure J3 (x0 : Bool) (Kn : HP) (E : VH) (H : Heap) : Prop where
  h : J3.vc x0 Kn E H
def J2.vc (f0 : Addr) (x0 : Bool) (Kn : HP) (E : VH) (h0 : Heap) : Prop :=
 (if x0 = true then
 False
 else
 ldS h0 (f0.add 5) fun x1 =>
 (if (decide ((x1.size : Int) > 1200)) = true then
 False
 else
 ldI h0 .i64 (f0.add 0) fun x2 =>
 (if (x2 == 2) = true then
 ldSl h0 (f0.add 6) fun x3 x4 x5 =>
 (if ((x4 : Int) == 0) = true then
 J3 true Kn E h0
 else
 ldSl h0 (f0.add 6) fun x6 x7 x8 =>
 acks_Check.c x6 x7 x8 (fun x9 h2 =>
 J3 (x9 != 0) Kn E h2) E h0)
 else
 J3 false Kn E h0)))
structure J2 (f0 : Addr) (x0 : Bool) (Kn : HP) (E : VH) (H : Heap) : Prop where
  h : J2.vc f0 x0 Kn E H
def J1.vc (f0 : Addr) (x0 : Bool) (Kn : HP) (E : VH) (h0 : Heap) : Prop :=
 (if x0 = true then
 False
 else
 ldI h0 .i64 (f0.add 0) fun x1 =>
 (if (x1 == 8) = true then
 ldS h0 (f0.add 5) fun x2 =>
 ldI h0 .i64 (f0.add 2) fun x3 =>
 J2 f0 (decide ((x2.size : Int) > (IntKind.i64.wrap (4611686018427387903 - x3)))) Kn E h0
 else
 J2 f0 false Kn E h0))
structure J1 (f0 : Addr) (x0 : Bool) (Kn : HP) (E : VH) (H : Heap) : Prop where
  h : J1.vc f0 x0 Kn E H
def vc (f0 : Int) (f1 : Int) (f2 : Int) (f3 : Bool) (f4 : Int) (f5 : ByteArray) (f6 : Option Addr) (f7 : Nat) (f8 : Nat) (K : Int → HP) (E : VH) (h0 : Heap) : Prop :=
 newB (.cells #[(.int .i64 f0), (.int .i64 f1), (.int .i64 f2), (.bool f3), (.int .i64 f4), (.string f5), (.slice f6 f7 f8)] 83) (fun b0 h1 =>
 ldI h1 .i64 ((⟨b0, 0, none⟩ : Addr).add 0) fun x0 =>
 zrb.c x0 (fun x1 x2 h2 =>
 (if (!x2) = true then
 False
 else
 ldI h2 .i64 ((⟨b0, 0, none⟩ : Addr).add 0) fun x3 => ldI h2 .i64 ((⟨b0, 0, none⟩ : Addr).add 1) fun x4 => ldI h2 .i64 ((⟨b0, 0, none⟩ : Addr).add 2) fun x5 => ldB h2 ((⟨b0, 0, none⟩ : Addr).add 3) fun x6 => ldI h2 .i64 ((⟨b0, 0, none⟩ : Addr).add 4) fun x7 => ldS h2 ((⟨b0, 0, none⟩ : Addr).add 5) fun x8 => ldSl h2 ((⟨b0, 0, none⟩ : Addr).add 6) fun x9 x10 x11 =>
 zgc.c x3 x4 x5 x6 x7 x8 x9 x10 x11 x1 (fun x12 h3 =>
 (if x12 = true then
 False
 else
 ldI h3 .i64 ((⟨b0, 0, none⟩ : Addr).add 1) fun x13 =>
 zpd.c x13 (fun x14 h4 =>
 (if (!x14) = true then
 J1 (⟨b0, 0, none⟩ : Addr) true (fun h5 =>
 K 0 h5) E h4
 else
 ldI h4 .i64 ((⟨b0, 0, none⟩ : Addr).add 2) fun x15 =>
 zpd.c x15 (fun x16 h6 =>
 (if (!x16) = true then
 J1 (⟨b0, 0, none⟩ : Addr) true (fun h7 =>
 K 0 h7) E h6
 else
 ldI h6 .i64 ((⟨b0, 0, none⟩ : Addr).add 4) fun x17 =>
 zpd.c x17 (fun x18 h8 =>
 J1 (⟨b0, 0, none⟩ : Addr) (!x18) (fun h9 =>
 K 0 h9) E h8) E h6)) E h4)) E h3)) E h2)) E h1) h0
structure c (f0 : Int) (f1 : Int) (f2 : Int) (f3 : Bool) (f4 : Int) (f5 : ByteArray) (f6 : Option Addr) (f7 : Nat) (f8 : Nat) (K : Int → HP) (E : VH) (H : Heap) : Prop where
  h : vc f0 f1 f2 f3 f4 f5 f6 f7 f8 (fun r0_0 H => ∃ H', Heap.Le H' H ∧ K r0_0 H') E H
def F : FT := fun args K E H => match args with
  | [(.agg ⟨[(.int .i64 f0), (.int .i64 f1), (.int .i64 f2), (.bool f3), (.int .i64 f4), (.string f5), (.slice f6 f7 f8)]⟩)] => c f0 f1 f2 f3 f4 f5 f6 f7 f8 (fun r0_0 H => K (.int .i64 r0_0) H) E H
  | _ => False
noncomputable def Γ : FuncId → Option FT := Γof [(167, zrb.F), (168, zgc.F), (169, zpd.F), (170, acks_Check.F)]
theorem hΓ : ∀ f F, Γ f = some F → zca Tryz.prog f F := Γof_ok (consQ zrb.ok (consQ zgc.ok (consQ zpd.ok (consQ acks_Check.ok (nilQ)))))
def J3.t : CT := fun Q E fr H => lenIs 69 fr (slB fr 53 fun x0 => J3 x0 (fun  H => Q .normal (mkF 69 []) H) E H)
theorem J3.ok : zaa Tryz.prog (sub [1, 1, 0, 0, 1, 1, 1, 1, 1, 1, 1, 1, 1, 1, 1] body) J3.t := by
  refine zda (zea [] [] (fun i => []) (zba hΓ Tryz.hm (.cond (.use deadT) (.go)) _ (of_eq (show _ = ((zaa Tryz.prog (sub [1, 1, 0, 0, 1, 1, 1, 1, 1, 1, 1, 1, 1, 1, 1, 0] body) deadT) ∧ True) by kernel_rfl) ⟨(zid _), trivial⟩))) fun Q E fr H h => ?_
  obtain ⟨hl, h⟩ := zga h
  obtain ⟨x0, q53, h⟩ := zwa h
  exact ⟨(mkF 69 [(53, (.bool x0))]), fun a ha => ha.mk (Nat.le_of_eq hl.symm) (consQ q53 nilQ), cast (by kernel_rfl) h.h⟩
def J2.t : CT := fun Q E fr H => lenIs 69 fr (slPA fr 1 fun f0 => slB fr 35 fun x0 => J2 f0 x0 (fun  H => Q .normal (mkF 69 []) H) E H)
theorem J2.ok : zaa Tryz.prog (sub [1, 1, 0, 0, 1, 1, 1, 1, 1, 1, 1] body) J2.t := by
  refine zda (zea [] [] (fun i => []) (zba hΓ Tryz.hm (.cond (.use deadT) (.seq (.go) (.cond (.use deadT) (.seq (.go) (.use J3.t))))) _ (of_eq (show _ = ((zaa Tryz.prog (sub [1, 1, 0, 0, 1, 1, 1, 1, 1, 1, 1, 0] body) deadT) ∧ (True ∧ ((zaa Tryz.prog (sub [1, 1, 0, 0, 1, 1, 1, 1, 1, 1, 1, 1, 1, 0] body) deadT) ∧ (True ∧ (zaa Tryz.prog (sub [1, 1, 0, 0, 1, 1, 1, 1, 1, 1, 1, 1, 1, 1, 1] body) J3.t))))) by kernel_rfl) ⟨(zid _), ⟨trivial, ⟨(zid _), ⟨trivial, J3.ok⟩⟩⟩⟩))) fun Q E fr H h => ?_
  obtain ⟨hl, h⟩ := zga h
  obtain ⟨f0, q1, h⟩ := zua h
  obtain ⟨x0, q35, h⟩ := zwa h
  exact ⟨(mkF 69 [(1, (.pointer (some f0))), (35, (.bool x0))]), fun a ha => ha.mk (Nat.le_of_eq hl.symm) (consQ q1 (consQ q35 nilQ)), cast (by kernel_rfl) h.h⟩
def J1.t : CT := fun Q E fr H => lenIs 69 fr (slPA fr 1 fun f0 => slB fr 18 fun x0 => J1 f0 x0 (fun  H => Q .normal (mkF 69 []) H) E H)
theorem J1.ok : zaa Tryz.prog (sub [1, 1, 0, 0, 1, 1, 1, 1, 1] body) J1.t := by
  refine zda (zea [] [] (fun i => []) (zba hΓ Tryz.hm (.cond (.use deadT) (.seq (.go) (.use J2.t))) _ (of_eq (show _ = ((zaa Tryz.prog (sub [1, 1, 0, 0, 1, 1, 1, 1, 1, 0] body) deadT) ∧ (True ∧ (zaa Tryz.prog (sub [1, 1, 0, 0, 1, 1, 1, 1, 1, 1, 1] body) J2.t))) by kernel_rfl) ⟨(zid _), ⟨trivial, J2.ok⟩⟩))) fun Q E fr H h => ?_
  obtain ⟨hl, h⟩ := zga h
  obtain ⟨f0, q1, h⟩ := zua h
  obtain ⟨x0, q18, h⟩ := zwa h
  exact ⟨(mkF 69 [(1, (.pointer (some f0))), (18, (.bool x0))]), fun a ha => ha.mk (Nat.le_of_eq hl.symm) (consQ q1 (consQ q18 nilQ)), cast (by kernel_rfl) h.h⟩
theorem ok : zca Tryz.prog 124 F := by
  refine zia hΓ (fn := Tryz.f124) (c := body) (by kernel_rfl) (by kernel_rfl) (by kernel_rfl) (zba hΓ Tryz.hm (.seq (.go) (.seq (.go) (.seq (.block (.seq (.go) (.cond (.use deadT) (.seq (.go) (.cond (.use deadT) (.seq (.go) (.use J1.t))))))) (.go)))) _ (of_eq (show _ = (True ∧ (True ∧ ((True ∧ ((zaa Tryz.prog (sub [1, 1, 0, 0, 1, 0] body) deadT) ∧ (True ∧ ((zaa Tryz.prog (sub [1, 1, 0, 0, 1, 1, 1, 0] body) deadT) ∧ (True ∧ (zaa Tryz.prog (sub [1, 1, 0, 0, 1, 1, 1, 1, 1] body) J1.t)))))) ∧ True))) by kernel_rfl) ⟨trivial, ⟨trivial, ⟨⟨trivial, ⟨(zid _), ⟨trivial, ⟨(zid _), ⟨trivial, J1.ok⟩⟩⟩⟩⟩, trivial⟩⟩⟩)) fun _ K E H h => ?_
  unfold F at h
  split at h
  · exact cast (by kernel_rfl) h.h
  · exact h.elim
end zwb
namespace zsb
noncomputable def body : Code := Tryz.f150.body.getD .skip
def W1.vc (r0 : Option Addr) (x0 : Addr) (f0 : Addr) (x1 : Addr) (Kx0 : HP) (RR : HP) (E : VH) (h0 : Heap) : Prop :=
 nextS x1 (fun h1 =>
 Kx0 h1) (fun ix0 rn0 h2 =>
 (if ((rn0 : Int) == 105) = true then
 zob.c r0 (fun x2 h3 =>
 stc h3 (f0.add 1) (.int .i64 x2) fun h4 =>
 RR h4) E h2
 else
 (if ((rn0 : Int) == 111) = true then
 zob.c r0 (fun x3 h5 =>
 stc h5 (f0.add 2) (.int .i64 x3) fun h6 =>
 RR h6) E h2
 else
 (if ((rn0 : Int) == 99) = true then
 zob.c r0 (fun x4 h7 =>
 stc h7 (f0.add 4) (.int .i64 x4) fun h8 =>
 RR h8) E h2
 else
 (if ((rn0 : Int) == 102) = true then
 zje.c r0 (fun x5 h9 =>
 stc h9 (f0.add 3) (.bool x5) fun h10 =>
 RR h10) E h2
 else
 (if ((rn0 : Int) == 100) = true then
 zud.c r0 (fun x6 h11 =>
 stc h11 (f0.add 5) (.string x6) fun h12 =>
 RR h12) E h2
 else
 (if ((rn0 : Int) == 114) = true then
 False
 else
 RR h2))))))) h0
structure W1 (r0 : Option Addr) (x0 : Addr) (f0 : Addr) (x1 : Addr) (Kx0 : HP) (E : VH) (H : Heap) : Prop where
  h : Loop (fun (RR : Unit → HP) (s : Unit) (H : Heap) => W1.vc r0 x0 f0 x1 Kx0 (fun  H => RR () H) E H) () H
def vc (r0 : Option Addr) (K : Int → Int → Int → Bool → Int → ByteArray → Option Addr → Nat → Nat → HP) (E : VH) (h0 : Heap) : Prop :=
 newB (.cells #[(.int .i64 0), (.int .i64 0), (.int .i64 0), (.bool false), (.int .i64 0), (.string (⟨#[]⟩ : ByteArray)), (.slice none 0 0)] 83) (fun b0 h1 =>
 zob.c r0 (fun x0 h2 =>
 zrb.c x0 (fun x1 x2 h3 =>
 zhb.c x2 5 (fun h4 =>
 newB (.cells #[(.int .i64 0), (.int .i64 0), (.int .i64 0), (.bool false), (.int .i64 0), (.string (⟨#[]⟩ : ByteArray)), (.slice none 0 0)] 83) (fun b1 h5 =>
 stc h5 ((⟨b1, 0, none⟩ : Addr).add 0) (.int .i64 x0) fun h6 =>
 stc h6 ((⟨b1, 0, none⟩ : Addr).add 1) (.int .i64 0) fun h7 =>
 stc h7 ((⟨b1, 0, none⟩ : Addr).add 2) (.int .i64 0) fun h8 =>
 stc h8 ((⟨b1, 0, none⟩ : Addr).add 3) (.bool false) fun h9 =>
 stc h9 ((⟨b1, 0, none⟩ : Addr).add 4) (.int .i64 0) fun h10 =>
 stc h10 ((⟨b1, 0, none⟩ : Addr).add 5) (.string (⟨#[]⟩ : ByteArray)) fun h11 =>
 stc h11 ((⟨b1, 0, none⟩ : Addr).add 6) (.slice none 0 0) fun h12 =>
 newB (.stringIter x1 0) (fun b2 h13 =>
 W1 r0 (⟨b0, 0, none⟩ : Addr) (⟨b1, 0, none⟩ : Addr) (⟨b2, 0, none⟩ : Addr) (fun h14 =>
 ldI h14 .i64 ((⟨b1, 0, none⟩ : Addr).add 0) fun x3 => ldI h14 .i64 ((⟨b1, 0, none⟩ : Addr).add 1) fun x4 => ldI h14 .i64 ((⟨b1, 0, none⟩ : Addr).add 2) fun x5 => ldB h14 ((⟨b1, 0, none⟩ : Addr).add 3) fun x6 => ldI h14 .i64 ((⟨b1, 0, none⟩ : Addr).add 4) fun x7 => ldS h14 ((⟨b1, 0, none⟩ : Addr).add 5) fun x8 => ldSl h14 ((⟨b1, 0, none⟩ : Addr).add 6) fun x9 x10 x11 =>
 zwb.c x3 x4 x5 x6 x7 x8 x9 x10 x11 (fun x12 h15 =>
 zhb.c (x12 == 0) x12 (fun h16 =>
 ldI h16 .i64 ((⟨b1, 0, none⟩ : Addr).add 0) fun x13 => ldI h16 .i64 ((⟨b1, 0, none⟩ : Addr).add 1) fun x14 => ldI h16 .i64 ((⟨b1, 0, none⟩ : Addr).add 2) fun x15 => ldB h16 ((⟨b1, 0, none⟩ : Addr).add 3) fun x16 => ldI h16 .i64 ((⟨b1, 0, none⟩ : Addr).add 4) fun x17 => ldS h16 ((⟨b1, 0, none⟩ : Addr).add 5) fun x18 => ldSl h16 ((⟨b1, 0, none⟩ : Addr).add 6) fun x19 x20 x21 =>
 stc h16 ((⟨b0, 0, none⟩ : Addr).add 0) (.int .i64 x13) fun h17 =>
 stc h17 ((⟨b0, 0, none⟩ : Addr).add 1) (.int .i64 x14) fun h18 =>
 stc h18 ((⟨b0, 0, none⟩ : Addr).add 2) (.int .i64 x15) fun h19 =>
 stc h19 ((⟨b0, 0, none⟩ : Addr).add 3) (.bool x16) fun h20 =>
 stc h20 ((⟨b0, 0, none⟩ : Addr).add 4) (.int .i64 x17) fun h21 =>
 stc h21 ((⟨b0, 0, none⟩ : Addr).add 5) (.string x18) fun h22 =>
 stc h22 ((⟨b0, 0, none⟩ : Addr).add 6) (.slice x19 x20 x21) fun h23 =>
 ldI h23 .i64 ((⟨b0, 0, none⟩ : Addr).add 0) fun r1 => ldI h23 .i64 ((⟨b0, 0, none⟩ : Addr).add 1) fun r2 => ldI h23 .i64 ((⟨b0, 0, none⟩ : Addr).add 2) fun r3 => ldB h23 ((⟨b0, 0, none⟩ : Addr).add 3) fun r4 => ldI h23 .i64 ((⟨b0, 0, none⟩ : Addr).add 4) fun r5 => ldS h23 ((⟨b0, 0, none⟩ : Addr).add 5) fun r6 => ldSl h23 ((⟨b0, 0, none⟩ : Addr).add 6) fun r7 r8 r9 =>
 K r1 r2 r3 r4 r5 r6 r7 r8 r9 h23) E h15) E h14) E h13) h12) h4) E h3) E h2) E h1) h0
structure c (r0 : Option Addr) (K : Int → Int → Int → Bool → Int → ByteArray → Option Addr → Nat → Nat → HP) (E : VH) (H : Heap) : Prop where
  h : vc r0 (fun r0_0 r0_1 r0_2 r0_3 r0_4 r0_5 r0_6 r0_7 r0_8 H => ∃ H', Heap.Le H' H ∧ K r0_0 r0_1 r0_2 r0_3 r0_4 r0_5 r0_6 r0_7 r0_8 H') E H
def F : FT := fun args K E H => match args with
  | [(.pointer r0)] => c r0 (fun r0_0 r0_1 r0_2 r0_3 r0_4 r0_5 r0_6 r0_7 r0_8 H => K (.agg #[(.int .i64 r0_0), (.int .i64 r0_1), (.int .i64 r0_2), (.bool r0_3), (.int .i64 r0_4), (.string r0_5), (.slice r0_6 r0_7 r0_8)]) H) E H
  | _ => False
noncomputable def Γ : FuncId → Option FT := Γof [(124, zwb.F), (151, zhb.F), (167, zrb.F), (186, zob.F), (187, zje.F), (188, zud.F)]
theorem hΓ : ∀ f F, Γ f = some F → zca Tryz.prog f F := Γof_ok (consQ zwb.ok (consQ zhb.ok (consQ zrb.ok (consQ zob.ok (consQ zje.ok (consQ zud.ok (nilQ)))))))
def W1.t : CT := fun Q E fr H => lenIs 64 fr (slP fr 0 fun r0 => slPA fr 2 fun x0 => slPA fr 6 fun f0 => slPA fr 22 fun x1 => W1 r0 x0 f0 x1 (fun  H => Q (.exit 0) (mkF 64 [(2, (.pointer (some x0))), (6, (.pointer (some f0)))]) H) E H)
theorem W1.ok : zaa Tryz.prog (sub [1, 1, 1, 1, 1, 0, 1, 0] body) W1.t := by
  have e : (sub [1, 1, 1, 1, 1, 0, 1, 0] body) = .loop (sub [1, 1, 1, 1, 1, 0, 1, 0, 0] body) := by kernel_rfl
  rw [e]
  refine zda (zqa (zea [0, 2, 6, 22] [] (fun i => if i = 0 then [2, 6] else []) (zba hΓ Tryz.hm (.seq (.go) (.seq (.go) (.block (.seq (.go) (.seq (.go) (.block (.seq (.go) (.cond (.go) (.seq (.go) (.cond (.go) (.seq (.go) (.cond (.go) (.seq (.go) (.cond (.go) (.seq (.go) (.cond (.go) (.seq (.go) (.cond (.use deadT) (.go))))))))))))))))))) _ (of_eq (show _ = (True ∧ (True ∧ (True ∧ (True ∧ (True ∧ (True ∧ (True ∧ (True ∧ (True ∧ (True ∧ (True ∧ (True ∧ (True ∧ (True ∧ (True ∧ ((zaa Tryz.prog (sub [1, 1, 1, 1, 1, 0, 1, 0, 0, 1, 1, 0, 1, 1, 0, 1, 1, 1, 1, 1, 1, 1, 1, 1, 1, 1, 0] body) deadT) ∧ True)))))))))))))))) by kernel_rfl) ⟨trivial, ⟨trivial, ⟨trivial, ⟨trivial, ⟨trivial, ⟨trivial, ⟨trivial, ⟨trivial, ⟨trivial, ⟨trivial, ⟨trivial, ⟨trivial, ⟨trivial, ⟨trivial, ⟨trivial, ⟨(zid _), trivial⟩⟩⟩⟩⟩⟩⟩⟩⟩⟩⟩⟩⟩⟩⟩⟩)))) fun Q E fr H h => ?_
  obtain ⟨hl, h⟩ := zga h
  obtain ⟨r0, q0, h⟩ := zja h
  obtain ⟨x0, q2, h⟩ := zua h
  obtain ⟨f0, q6, h⟩ := zua h
  obtain ⟨x1, q22, h⟩ := zua h
  obtain ⟨m, h⟩ := h.h
  exact ⟨(mkF 64 [(0, (.pointer r0)), (2, (.pointer (some x0))), (6, (.pointer (some f0))), (22, (.pointer (some x1)))]), fun a ha => ha.mk (Nat.le_of_eq hl.symm) (consQ q0 (consQ q2 (consQ q6 (consQ q22 nilQ)))), m, cast (zib (B := (fun (RR : Unit → HP) (s : Unit) (H : Heap) => W1.vc r0 x0 f0 x1 (fun  H => Q (.exit 0) (mkF 64 [(2, (.pointer (some x0))), (6, (.pointer (some f0)))]) H) (fun  H => RR () H) E H)) (m := (fun (s : Unit) => (mkF 64 [(0, (.pointer r0)), (2, (.pointer (some x0))), (6, (.pointer (some f0))), (22, (.pointer (some x1)))]))) (Q := Q) (E := E) (fun RR s H => by kernel_rfl) m () H) h⟩
theorem ok : zca Tryz.prog 150 F := by
  refine zia hΓ (fn := Tryz.f150) (c := body) (by kernel_rfl) (by kernel_rfl) (by kernel_rfl) (zba hΓ Tryz.hm (.seq (.go) (.seq (.go) (.seq (.go) (.seq (.go) (.seq (.go) (.seq (.seq (.go) (.block (.use W1.t))) (.go))))))) _ (of_eq (show _ = (True ∧ (True ∧ (True ∧ (True ∧ (True ∧ ((True ∧ (zaa Tryz.prog (sub [1, 1, 1, 1, 1, 0, 1, 0] body) W1.t)) ∧ True)))))) by kernel_rfl) ⟨trivial, ⟨trivial, ⟨trivial, ⟨trivial, ⟨trivial, ⟨⟨trivial, W1.ok⟩, trivial⟩⟩⟩⟩⟩⟩)) fun _ K E H h => ?_
  unfold F at h
  split at h
  · exact cast (by kernel_rfl) h.h
  · exact h.elim
end zsb
namespace zrc
noncomputable def body : Code := Tryz.f115.body.getD .skip
def J1.vc (x0 : Bool) (Kn : HP) (Kr : Bool → HP) (E : VH) (h0 : Heap) : Prop :=
 (if x0 = true then
 Kr true h0
 else
 Kn h0)
structure J1 (x0 : Bool) (Kn : HP) (Kr : Bool → HP) (E : VH) (H : Heap) : Prop where
  h : J1.vc x0 Kn Kr E H
def vc (f0 : Int) (f1 : Int) (f2 : Int) (f3 : Bool) (f4 : Int) (f5 : ByteArray) (f6 : Option Addr) (f7 : Nat) (f8 : Nat) (K : Bool → HP) (E : VH) (h0 : Heap) : Prop :=
 newB (.cells #[(.int .i64 f0), (.int .i64 f1), (.int .i64 f2), (.bool f3), (.int .i64 f4), (.string f5), (.slice f6 f7 f8)] 83) (fun b0 h1 =>
 ldI h1 .i64 ((⟨b0, 0, none⟩ : Addr).add 0) fun x0 =>
 (if (x0 == 1) = true then
 J1 (x0 == 1) (fun h2 =>
 K false h2) K E h1
 else
 (if (x0 == 4) = true then
 J1 (x0 == 4) (fun h4 =>
 K false h4) K E h1
 else
 (if (x0 == 8) = true then
 J1 (x0 == 8) (fun h6 =>
 K false h6) K E h1
 else
 (if (x0 == 17) = true then
 J1 (x0 == 17) (fun h8 =>
 K false h8) K E h1
 else
 J1 (x0 == 48) (fun h10 =>
 K false h10) K E h1))))) h0
structure c (f0 : Int) (f1 : Int) (f2 : Int) (f3 : Bool) (f4 : Int) (f5 : ByteArray) (f6 : Option Addr) (f7 : Nat) (f8 : Nat) (K : Bool → HP) (E : VH) (H : Heap) : Prop where
  h : vc f0 f1 f2 f3 f4 f5 f6 f7 f8 (fun r0_0 H => ∃ H', Heap.Le H' H ∧ K r0_0 H') E H
def F : FT := fun args K E H => match args with
  | [(.agg ⟨[(.int .i64 f0), (.int .i64 f1), (.int .i64 f2), (.bool f3), (.int .i64 f4), (.string f5), (.slice f6 f7 f8)]⟩)] => c f0 f1 f2 f3 f4 f5 f6 f7 f8 (fun r0_0 H => K (.bool r0_0) H) E H
  | _ => False
noncomputable def Γ : FuncId → Option FT := Γof []
theorem hΓ : ∀ f F, Γ f = some F → zca Tryz.prog f F := Γof_ok (nilQ)
def J1.t : CT := fun Q E fr H => lenIs 11 fr (slB fr 5 fun x0 => J1 x0 (fun  H => Q .normal (mkF 11 []) H) (fun y2_0 H => Q .ret (mkF 11 [(2, (.bool y2_0))]) H) E H)
theorem J1.ok : zaa Tryz.prog (sub [1, 0, 1, 0, 1] body) J1.t := by
  refine zda (zea [] [2] (fun i => []) (zba hΓ Tryz.hm (.go) _ (of_eq_true (by kernel_rfl)))) fun Q E fr H h => ?_
  obtain ⟨hl, h⟩ := zga h
  obtain ⟨x0, q5, h⟩ := zwa h
  exact ⟨(mkF 11 [(5, (.bool x0))]), fun a ha => ha.mk (Nat.le_of_eq hl.symm) (consQ q5 nilQ), cast (by kernel_rfl) h.h⟩
theorem ok : zca Tryz.prog 115 F := by
  refine zia hΓ (fn := Tryz.f115) (c := body) (by kernel_rfl) (by kernel_rfl) (by kernel_rfl) (zba hΓ Tryz.hm (.seq (.go) (.seq (.seq (.go) (.block (.seq (.go) (.use J1.t)))) (.go))) _ (of_eq (show _ = (True ∧ ((True ∧ (True ∧ (zaa Tryz.prog (sub [1, 0, 1, 0, 1] body) J1.t))) ∧ True)) by kernel_rfl) ⟨trivial, ⟨⟨trivial, ⟨trivial, J1.ok⟩⟩, trivial⟩⟩)) fun _ K E H h => ?_
  unfold F at h
  split at h
  · exact cast (by kernel_rfl) h.h
  · exact h.elim
end zrc
namespace zra
noncomputable def body : Code := Tryz.f130.body.getD .skip
def J1.vc (s0 : ByteArray) (Kr : Int → VH) (E : VH) (h0 : Heap) : Prop :=
 Kr (s0.size : Int) .nilIface h0
structure J1 (s0 : ByteArray) (Kr : Int → VH) (E : VH) (H : Heap) : Prop where
  h : J1.vc s0 Kr E H
def vc (b0 : Option Addr) (s0 : ByteArray) (K : Int → VH) (E : VH) (h0 : Heap) : Prop :=
 zjb.c b0 (fun h1 =>
 nilc b0 fun a0 =>
 ldSl h1 (a0.add 1) fun x0 x1 x2 =>
 appT 5 (.int .u8 0) x0 x1 s0.size x2 1 1 (zxb s0) (fun p0 n0 c0 h2 =>
 nilc b0 fun a1 =>
 stc h2 (a1.add 1) (.slice p0 n0 c0) fun h3 =>
 J1 s0 K E h3) h1) E h0
structure c (b0 : Option Addr) (s0 : ByteArray) (K : Int → VH) (E : VH) (H : Heap) : Prop where
  h : vc b0 s0 (fun r0_0 r1_0 H => ∃ H', Heap.Le H' H ∧ K r0_0 r1_0 H') E H
def F : FT := fun args K E H => match args with
  | [(.pointer b0), (.string s0)] => c b0 s0 (fun r0_0 r1_0 H => K (.tuple #[(.int .i64 r0_0), r1_0]) H) E H
  | _ => False
noncomputable def Γ : FuncId → Option FT := Γof [(175, zjb.F)]
theorem hΓ : ∀ f F, Γ f = some F → zca Tryz.prog f F := Γof_ok (consQ zjb.ok (nilQ))
def J1.t : CT := fun Q E fr H => lenIs 19 fr (slS fr 1 fun s0 => J1 s0 (fun y4_0 y5_0 H => Q .ret (mkF 19 [(4, (.int .i64 y4_0)), (5, y5_0)]) H) E H)
theorem J1.ok : zaa Tryz.prog (sub [1, 1, 1] body) J1.t := by
  refine zda (zea [] [4, 5] (fun i => []) (zba hΓ Tryz.hm (.go) _ (of_eq_true (by kernel_rfl)))) fun Q E fr H h => ?_
  obtain ⟨hl, h⟩ := zga h
  obtain ⟨s0, q1, h⟩ := zfb h
  exact ⟨(mkF 19 [(1, (.string s0))]), fun a ha => ha.mk (Nat.le_of_eq hl.symm) (consQ q1 nilQ), cast (by kernel_rfl) h.h⟩
theorem ok : zca Tryz.prog 130 F := by
  refine zia hΓ (fn := Tryz.f130) (c := body) (by kernel_rfl) (by kernel_rfl) (by kernel_rfl) (zba hΓ Tryz.hm (.seq (.go) (.seq (.go) (.seq (.go) (.use J1.t)))) _ (of_eq (show _ = (True ∧ (True ∧ (True ∧ (zaa Tryz.prog (sub [1, 1, 1] body) J1.t)))) by kernel_rfl) ⟨trivial, ⟨trivial, ⟨trivial, J1.ok⟩⟩⟩)) fun _ K E H h => ?_
  unfold F at h
  split at h
  · exact cast (by kernel_rfl) h.h
  · exact h.elim
end zra
namespace zlc
noncomputable def body : Code := Tryz.f171.body.getD .skip
def vc (b0 : Option Addr) (c0 : Int) (K : VH) (E : VH) (h0 : Heap) : Prop :=
 zjb.c b0 (fun h1 =>
 nilc b0 fun a0 =>
 ldSl h1 (a0.add 1) fun x0 x1 x2 =>
 newB (.cells #[(.int .u8 c0)] 5) (fun b1 h2 =>
 rdRow h2 (some (⟨b1, 0, none⟩ : Addr)) (1 * 1) fun cs0 =>
 appT 5 (.int .u8 0) x0 x1 1 x2 1 1 cs0 (fun p0 n0 c1 h3 =>
 nilc b0 fun a1 =>
 stc h3 (a1.add 1) (.slice p0 n0 c1) fun h4 =>
 K .nilIface h4) h2) h1) E h0
structure c (b0 : Option Addr) (c0 : Int) (K : VH) (E : VH) (H : Heap) : Prop where
  h : vc b0 c0 (fun r0_0 H => ∃ H', Heap.Le H' H ∧ K r0_0 H') E H
def F : FT := fun args K E H => match args with
  | [(.pointer b0), (.int .u8 c0)] => c b0 c0 (fun r0_0 H => K r0_0 H) E H
  | _ => False
noncomputable def Γ : FuncId → Option FT := Γof [(175, zjb.F)]
theorem hΓ : ∀ f F, Γ f = some F → zca Tryz.prog f F := Γof_ok (consQ zjb.ok (nilQ))
theorem ok : zca Tryz.prog 171 F := by
  refine zia hΓ (fn := Tryz.f171) (c := body) (by kernel_rfl) (by kernel_rfl) (by kernel_rfl) (zba hΓ Tryz.hm (.go) _ (of_eq_true (by kernel_rfl))) fun _ K E H h => ?_
  unfold F at h
  split at h
  · exact cast (by kernel_rfl) h.h
  · exact h.elim
end zlc
namespace zmc
noncomputable def body : Code := Tryz.f125.body.getD .skip
def J2.vc (b0 : Option Addr) (f0 : Addr) (fin0 : Int) (x0 : Addr) (Kn : HP) (E : VH) (h0 : Heap) : Prop :=
 zlc.c b0 fin0 (fun x1 h1 =>
 Kn h1) E h0
structure J2 (b0 : Option Addr) (f0 : Addr) (fin0 : Int) (x0 : Addr) (Kn : HP) (E : VH) (H : Heap) : Prop where
  h : J2.vc b0 f0 fin0 x0 Kn E H
def W1.vc (b0 : Option Addr) (f0 : Addr) (x0 : Addr) (Kx0 : HP) (RR : HP) (E : VH) (h0 : Heap) : Prop :=
 nextS x0 (fun h1 =>
 Kx0 h1) (fun ix0 rn0 h2 =>
 (if ((rn0 : Int) == 105) = true then
 ldI h2 .i64 (f0.add 1) fun x1 =>
 zac.c x1 (fun x2 h3 =>
 zra.c b0 x2 (fun x3 x4 h4 =>
 RR h4) E h3) E h2
 else
 (if ((rn0 : Int) == 111) = true then
 ldI h2 .i64 (f0.add 2) fun x5 =>
 zac.c x5 (fun x6 h5 =>
 zra.c b0 x6 (fun x7 x8 h6 =>
 RR h6) E h5) E h2
 else
 (if ((rn0 : Int) == 99) = true then
 ldI h2 .i64 (f0.add 4) fun x9 =>
 zac.c x9 (fun x10 h7 =>
 zra.c b0 x10 (fun x11 x12 h8 =>
 RR h8) E h7) E h2
 else
 (if ((rn0 : Int) == 102) = true then
 ldB h2 (f0.add 3) fun x13 =>
 (if x13 = true then
 J2 b0 f0 1 x0 RR E h2
 else
 J2 b0 f0 0 x0 RR E h2)
 else
 (if ((rn0 : Int) == 100) = true then
 ldS h2 (f0.add 5) fun x14 =>
 zec.c x14 (fun x15 h11 =>
 zra.c b0 x15 (fun x16 x17 h12 =>
 RR h12) E h11) E h2
 else
 (if ((rn0 : Int) == 114) = true then
 False
 else
 RR h2))))))) h0
structure W1 (b0 : Option Addr) (f0 : Addr) (x0 : Addr) (Kx0 : HP) (E : VH) (H : Heap) : Prop where
  h : Loop (fun (RR : Unit → HP) (s : Unit) (H : Heap) => W1.vc b0 f0 x0 Kx0 (fun  H => RR () H) E H) () H
def vc (b0 : Option Addr) (f0 : Int) (f1 : Int) (f2 : Int) (f3 : Bool) (f4 : Int) (f5 : ByteArray) (f6 : Option Addr) (f7 : Nat) (f8 : Nat) (K : HP) (E : VH) (h0 : Heap) : Prop :=
 newB (.cells #[(.int .i64 f0), (.int .i64 f1), (.int .i64 f2), (.bool f3), (.int .i64 f4), (.string f5), (.slice f6 f7 f8)] 83) (fun b1 h1 =>
 ldI h1 .i64 ((⟨b1, 0, none⟩ : Addr).add 0) fun x0 =>
 zac.c x0 (fun x1 h2 =>
 zra.c b0 x1 (fun x2 x3 h3 =>
 ldI h3 .i64 ((⟨b1, 0, none⟩ : Addr).add 0) fun x4 =>
 zrb.c x4 (fun x5 x6 h4 =>
 newB (.stringIter x5 0) (fun b2 h5 =>
 W1 b0 (⟨b1, 0, none⟩ : Addr) (⟨b2, 0, none⟩ : Addr) K E h5) h4) E h3) E h2) E h1) h0
structure c (b0 : Option Addr) (f0 : Int) (f1 : Int) (f2 : Int) (f3 : Bool) (f4 : Int) (f5 : ByteArray) (f6 : Option Addr) (f7 : Nat) (f8 : Nat) (K : HP) (E : VH) (H : Heap) : Prop where
  h : vc b0 f0 f1 f2 f3 f4 f5 f6 f7 f8 (fun  H => ∃ H', Heap.Le H' H ∧ K  H') E H
def F : FT := fun args K E H => match args with
  | [(.pointer b0), (.agg ⟨[(.int .i64 f0), (.int .i64 f1), (.int .i64 f2), (.bool f3), (.int .i64 f4), (.string f5), (.slice f6 f7 f8)]⟩)] => c b0 f0 f1 f2 f3 f4 f5 f6 f7 f8 (fun  H => K (.tuple #[]) H) E H
  | _ => False
noncomputable def Γ : FuncId → Option FT := Γof [(67, zec.F), (119, zac.F), (130, zra.F), (167, zrb.F), (171, zlc.F)]
theorem hΓ : ∀ f F, Γ f = some F → zca Tryz.prog f F := Γof_ok (consQ zec.ok (consQ zac.ok (consQ zra.ok (consQ zrb.ok (consQ zlc.ok (nilQ))))))
def J2.t : CT := fun Q E fr H => lenIs 88 fr (slP fr 0 fun b0 => slPA fr 3 fun f0 => slI fr 8 .u8 fun fin0 => slPA fr 23 fun x0 => J2 b0 f0 fin0 x0 (fun  H => Q .normal (mkF 88 [(0, (.pointer b0)), (3, (.pointer (some f0))), (23, (.pointer (some x0)))]) H) E H)
theorem J2.ok : zaa Tryz.prog (sub [1, 1, 1, 1, 0, 0, 1, 1, 0, 1, 1, 0, 1, 1, 1, 1, 1, 1, 1, 0, 1, 1] body) J2.t := by
  refine zda (zea [0, 3, 23] [] (fun i => []) (zba hΓ Tryz.hm (.go) _ (of_eq_true (by kernel_rfl)))) fun Q E fr H h => ?_
  obtain ⟨hl, h⟩ := zga h
  obtain ⟨b0, q0, h⟩ := zja h
  obtain ⟨f0, q3, h⟩ := zua h
  obtain ⟨fin0, q8, h⟩ := zfa h
  obtain ⟨x0, q23, h⟩ := zua h
  exact ⟨(mkF 88 [(0, (.pointer b0)), (3, (.pointer (some f0))), (8, (.int .u8 fin0)), (23, (.pointer (some x0)))]), fun a ha => ha.mk (Nat.le_of_eq hl.symm) (consQ q0 (consQ q3 (consQ q8 (consQ q23 nilQ)))), cast (by kernel_rfl) h.h⟩
def W1.t : CT := fun Q E fr H => lenIs 88 fr (slP fr 0 fun b0 => slPA fr 3 fun f0 => slPA fr 23 fun x0 => W1 b0 f0 x0 (fun  H => Q (.exit 0) (mkF 88 []) H) E H)
theorem W1.ok : zaa Tryz.prog (sub [1, 1, 1, 1, 0] body) W1.t := by
  have e : (sub [1, 1, 1, 1, 0] body) = .loop (sub [1, 1, 1, 1, 0, 0] body) := by kernel_rfl
  rw [e]
  refine zda (zqa (zea [0, 3, 23] [] (fun i => if i = 0 then [] else []) (zba hΓ Tryz.hm (.seq (.go) (.seq (.go) (.block (.seq (.go) (.seq (.go) (.block (.seq (.go) (.cond (.go) (.seq (.go) (.cond (.go) (.seq (.go) (.cond (.go) (.seq (.go) (.cond (.seq (.go) (.seq (.go) (.use J2.t))) (.seq (.go) (.cond (.go) (.seq (.go) (.cond (.use deadT) (.go))))))))))))))))))) _ (of_eq (show _ = (True ∧ (True ∧ (True ∧ (True ∧ (True ∧ (True ∧ (True ∧ (True ∧ (True ∧ (True ∧ (True ∧ ((True ∧ (True ∧ (zaa Tryz.prog (sub [1, 1, 1, 1, 0, 0, 1, 1, 0, 1, 1, 0, 1, 1, 1, 1, 1, 1, 1, 0, 1, 1] body) J2.t))) ∧ (True ∧ (True ∧ (True ∧ ((zaa Tryz.prog (sub [1, 1, 1, 1, 0, 0, 1, 1, 0, 1, 1, 0, 1, 1, 1, 1, 1, 1, 1, 1, 1, 1, 1, 0] body) deadT) ∧ True)))))))))))))))) by kernel_rfl) ⟨trivial, ⟨trivial, ⟨trivial, ⟨trivial, ⟨trivial, ⟨trivial, ⟨trivial, ⟨trivial, ⟨trivial, ⟨trivial, ⟨trivial, ⟨⟨trivial, ⟨trivial, J2.ok⟩⟩, ⟨trivial, ⟨trivial, ⟨trivial, ⟨(zid _), trivial⟩⟩⟩⟩⟩⟩⟩⟩⟩⟩⟩⟩⟩⟩⟩⟩)))) fun Q E fr H h => ?_
  obtain ⟨hl, h⟩ := zga h
  obtain ⟨b0, q0, h⟩ := zja h
  obtain ⟨f0, q3, h⟩ := zua h
  obtain ⟨x0, q23, h⟩ := zua h
  obtain ⟨m, h⟩ := h.h
  exact ⟨(mkF 88 [(0, (.pointer b0)), (3, (.pointer (some f0))), (23, (.pointer (some x0)))]), fun a ha => ha.mk (Nat.le_of_eq hl.symm) (consQ q0 (consQ q3 (consQ q23 nilQ))), m, cast (zib (B := (fun (RR : Unit → HP) (s : Unit) (H : Heap) => W1.vc b0 f0 x0 (fun  H => Q (.exit 0) (mkF 88 []) H) (fun  H => RR () H) E H)) (m := (fun (s : Unit) => (mkF 88 [(0, (.pointer b0)), (3, (.pointer (some f0))), (23, (.pointer (some x0)))]))) (Q := Q) (E := E) (fun RR s H => by kernel_rfl) m () H) h⟩
theorem ok : zca Tryz.prog 125 F := by
  refine zia hΓ (fn := Tryz.f125) (c := body) (by kernel_rfl) (by kernel_rfl) (by kernel_rfl) (zba hΓ Tryz.hm (.seq (.go) (.seq (.go) (.seq (.go) (.seq (.go) (.block (.use W1.t)))))) _ (of_eq (show _ = (True ∧ (True ∧ (True ∧ (True ∧ (zaa Tryz.prog (sub [1, 1, 1, 1, 0] body) W1.t))))) by kernel_rfl) ⟨trivial, ⟨trivial, ⟨trivial, ⟨trivial, W1.ok⟩⟩⟩⟩)) fun _ K E H h => ?_
  unfold F at h
  split at h
  · exact cast (by kernel_rfl) h.h
  · exact h.elim
end zmc
namespace zke
noncomputable def body : Code := Tryz.f131.body.getD .skip
def vc (b0 : Option Addr) (K : Int → HP) (E : VH) (h0 : Heap) : Prop :=
 nilc b0 fun a0 =>
 ldSl h0 (a0.add 1) fun x0 x1 x2 =>
 K (x1 : Int) h0
structure c (b0 : Option Addr) (K : Int → HP) (E : VH) (H : Heap) : Prop where
  h : vc b0 (fun r0_0 H => ∃ H', Heap.Le H' H ∧ K r0_0 H') E H
def F : FT := fun args K E H => match args with
  | [(.pointer b0)] => c b0 (fun r0_0 H => K (.int .i64 r0_0) H) E H
  | _ => False
noncomputable def Γ : FuncId → Option FT := Γof []
theorem hΓ : ∀ f F, Γ f = some F → zca Tryz.prog f F := Γof_ok (nilQ)
theorem ok : zca Tryz.prog 131 F := by
  refine zia hΓ (fn := Tryz.f131) (c := body) (by kernel_rfl) (by kernel_rfl) (by kernel_rfl) (zba hΓ Tryz.hm (.go) _ (of_eq_true (by kernel_rfl))) fun _ K E H h => ?_
  unfold F at h
  split at h
  · exact cast (by kernel_rfl) h.h
  · exact h.elim
end zke
namespace znf
noncomputable def body : Code := Tryz.f135.body.getD .skip
def vc (f0 : Int) (f1 : Int) (f2 : Int) (f3 : Bool) (f4 : Int) (f5 : ByteArray) (f6 : Option Addr) (f7 : Nat) (f8 : Nat) (K : Int → HP) (E : VH) (h0 : Heap) : Prop :=
 newB (.cells #[(.int .i64 f0), (.int .i64 f1), (.int .i64 f2), (.bool f3), (.int .i64 f4), (.string f5), (.slice f6 f7 f8)] 83) (fun b0 h1 =>
 ldI h1 .i64 ((⟨b0, 0, none⟩ : Addr).add 0) fun x0 => ldI h1 .i64 ((⟨b0, 0, none⟩ : Addr).add 1) fun x1 => ldI h1 .i64 ((⟨b0, 0, none⟩ : Addr).add 2) fun x2 => ldB h1 ((⟨b0, 0, none⟩ : Addr).add 3) fun x3 => ldI h1 .i64 ((⟨b0, 0, none⟩ : Addr).add 4) fun x4 => ldS h1 ((⟨b0, 0, none⟩ : Addr).add 5) fun x5 => ldSl h1 ((⟨b0, 0, none⟩ : Addr).add 6) fun x6 x7 x8 =>
 zwb.c x0 x1 x2 x3 x4 x5 x6 x7 x8 (fun x9 h2 =>
 (if (x9 != 0) = true then
 K 0 h2
 else
 newB (.cells #[(.pointer none), (.slice none 0 0)] 234) (fun b1 h3 =>
 ldI h3 .i64 ((⟨b0, 0, none⟩ : Addr).add 0) fun x10 => ldI h3 .i64 ((⟨b0, 0, none⟩ : Addr).add 1) fun x11 => ldI h3 .i64 ((⟨b0, 0, none⟩ : Addr).add 2) fun x12 => ldB h3 ((⟨b0, 0, none⟩ : Addr).add 3) fun x13 => ldI h3 .i64 ((⟨b0, 0, none⟩ : Addr).add 4) fun x14 => ldS h3 ((⟨b0, 0, none⟩ : Addr).add 5) fun x15 => ldSl h3 ((⟨b0, 0, none⟩ : Addr).add 6) fun x16 x17 x18 =>
 zmc.c (some (⟨b1, 0, none⟩ : Addr)) x10 x11 x12 x13 x14 x15 x16 x17 x18 (fun h4 =>
 zke.c (some (⟨b1, 0, none⟩ : Addr)) K E h4) E h3) h2)) E h1) h0
structure c (f0 : Int) (f1 : Int) (f2 : Int) (f3 : Bool) (f4 : Int) (f5 : ByteArray) (f6 : Option Addr) (f7 : Nat) (f8 : Nat) (K : Int → HP) (E : VH) (H : Heap) : Prop where
  h : vc f0 f1 f2 f3 f4 f5 f6 f7 f8 (fun r0_0 H => ∃ H', Heap.Le H' H ∧ K r0_0 H') E H
def F : FT := fun args K E H => match args with
  | [(.agg ⟨[(.int .i64 f0), (.int .i64 f1), (.int .i64 f2), (.bool f3), (.int .i64 f4), (.string f5), (.slice f6 f7 f8)]⟩)] => c f0 f1 f2 f3 f4 f5 f6 f7 f8 (fun r0_0 H => K (.int .i64 r0_0) H) E H
  | _ => False
noncomputable def Γ : FuncId → Option FT := Γof [(124, zwb.F), (125, zmc.F), (131, zke.F)]
theorem hΓ : ∀ f F, Γ f = some F → zca Tryz.prog f F := Γof_ok (consQ zwb.ok (consQ zmc.ok (consQ zke.ok (nilQ))))
theorem ok : zca Tryz.prog 135 F := by
  refine zia hΓ (fn := Tryz.f135) (c := body) (by kernel_rfl) (by kernel_rfl) (by kernel_rfl) (zba hΓ Tryz.hm (.go) _ (of_eq_true (by kernel_rfl))) fun _ K E H h => ?_
  unfold F at h
  split at h
  · exact cast (by kernel_rfl) h.h
  · exact h.elim
end znf
namespace zhf
noncomputable def body : Code := Tryz.f81.body.getD .skip
def W1.vc (b0 : Addr) (x0 : Option Addr) (x1 : Nat) (x2 : Nat) (x3 : Int) (x4 : Int) (Kx0 : HP) (Kr : ByteArray → Int → HP) (RR : Int → HP) (E : VH) (h0 : Heap) : Prop :=
 (if (decide (x4 < x3)) = true then
 nilc x0 fun a0 => (0 : Int) ≤ x4 ∧ x4 < (x1 : Int) ∧
 ldI h0 .i64 ((a0.add (x4.toNat * 7)).add 0) fun x5 => ldI h0 .i64 ((a0.add (x4.toNat * 7)).add 1) fun x6 => ldI h0 .i64 ((a0.add (x4.toNat * 7)).add 2) fun x7 => ldB h0 ((a0.add (x4.toNat * 7)).add 3) fun x8 => ldI h0 .i64 ((a0.add (x4.toNat * 7)).add 4) fun x9 => ldS h0 ((a0.add (x4.toNat * 7)).add 5) fun x10 => ldSl h0 ((a0.add (x4.toNat * 7)).add 6) fun x11 x12 x13 =>
 newB (.cells #[(.int .i64 0), (.int .i64 0), (.int .i64 0), (.bool false), (.int .i64 0), (.string (⟨#[]⟩ : ByteArray)), (.slice none 0 0)] 83) (fun b1 h1 =>
 stc h1 ((⟨b1, 0, none⟩ : Addr).add 0) (.int .i64 x5) fun h2 =>
 stc h2 ((⟨b1, 0, none⟩ : Addr).add 1) (.int .i64 x6) fun h3 =>
 stc h3 ((⟨b1, 0, none⟩ : Addr).add 2) (.int .i64 x7) fun h4 =>
 stc h4 ((⟨b1, 0, none⟩ : Addr).add 3) (.bool x8) fun h5 =>
 stc h5 ((⟨b1, 0, none⟩ : Addr).add 4) (.int .i64 x9) fun h6 =>
 stc h6 ((⟨b1, 0, none⟩ : Addr).add 5) (.string x10) fun h7 =>
 stc h7 ((⟨b1, 0, none⟩ : Addr).add 6) (.slice x11 x12 x13) fun h8 =>
 ldI h8 .i64 ((⟨b1, 0, none⟩ : Addr).add 0) fun x14 => ldI h8 .i64 ((⟨b1, 0, none⟩ : Addr).add 1) fun x15 => ldI h8 .i64 ((⟨b1, 0, none⟩ : Addr).add 2) fun x16 => ldB h8 ((⟨b1, 0, none⟩ : Addr).add 3) fun x17 => ldI h8 .i64 ((⟨b1, 0, none⟩ : Addr).add 4) fun x18 => ldS h8 ((⟨b1, 0, none⟩ : Addr).add 5) fun x19 => ldSl h8 ((⟨b1, 0, none⟩ : Addr).add 6) fun x20 x21 x22 =>
 zwb.c x14 x15 x16 x17 x18 x19 x20 x21 x22 (fun x23 h9 =>
 (if (x23 != 0) = true then
 Kr (⟨#[]⟩ : ByteArray) x23 h9
 else
 ldI h9 .i64 ((⟨b1, 0, none⟩ : Addr).add 0) fun x24 => ldI h9 .i64 ((⟨b1, 0, none⟩ : Addr).add 1) fun x25 => ldI h9 .i64 ((⟨b1, 0, none⟩ : Addr).add 2) fun x26 => ldB h9 ((⟨b1, 0, none⟩ : Addr).add 3) fun x27 => ldI h9 .i64 ((⟨b1, 0, none⟩ : Addr).add 4) fun x28 => ldS h9 ((⟨b1, 0, none⟩ : Addr).add 5) fun x29 => ldSl h9 ((⟨b1, 0, none⟩ : Addr).add 6) fun x30 x31 x32 =>
 zmc.c (some b0) x24 x25 x26 x27 x28 x29 x30 x31 x32 (fun h10 =>
 RR (IntKind.i64.wrap (x4 + 1)) h10) E h9)) E h8) h0
 else
 Kx0 h0)
structure W1 (b0 : Addr) (x0 : Option Addr) (x1 : Nat) (x2 : Nat) (x3 : Int) (x4 : Int) (Kx0 : HP) (Kr : ByteArray → Int → HP) (E : VH) (H : Heap) : Prop where
  h : Loop (fun (RR : Int → HP) (s : Int) (H : Heap) => W1.vc b0 x0 x1 x2 x3 s Kx0 Kr (fun x4 H => RR (x4) H) E H) (x4) H
def vc (l0 : Option Addr) (l1 : Nat) (l2 : Nat) (K : ByteArray → Int → HP) (E : VH) (h0 : Heap) : Prop :=
 newB (.cells #[(.pointer none), (.slice none 0 0)] 234) (fun b0 h1 =>
 W1 (⟨b0, 0, none⟩ : Addr) l0 l1 l2 (l1 : Int) 0 (fun h2 =>
 zvb.c (some (⟨b0, 0, none⟩ : Addr)) (fun x0 h3 =>
 K x0 0 h3) E h2) K E h1) h0
structure c (l0 : Option Addr) (l1 : Nat) (l2 : Nat) (K : ByteArray → Int → HP) (E : VH) (H : Heap) : Prop where
  h : vc l0 l1 l2 (fun r0_0 r1_0 H => ∃ H', Heap.Le H' H ∧ K r0_0 r1_0 H') E H
def F : FT := fun args K E H => match args with
  | [(.slice l0 l1 l2)] => c l0 l1 l2 (fun r0_0 r1_0 H => K (.tuple #[(.string r0_0), (.int .i64 r1_0)]) H) E H
  | _ => False
noncomputable def Γ : FuncId → Option FT := Γof [(124, zwb.F), (125, zmc.F), (126, zvb.F)]
theorem hΓ : ∀ f F, Γ f = some F → zca Tryz.prog f F := Γof_ok (consQ zwb.ok (consQ zmc.ok (consQ zvb.ok (nilQ))))
def W1.t : CT := fun Q E fr H => lenIs 23 fr (slPA fr 4 fun b0 => slSl fr 8 fun x0 x1 x2 => slI fr 9 .i64 fun x3 => slI fr 10 .i64 fun x4 => W1 b0 x0 x1 x2 x3 x4 (fun  H => Q (.exit 0) (mkF 23 [(4, (.pointer (some b0)))]) H) (fun y2_0 y3_0 H => Q .ret (mkF 23 [(2, (.string y2_0)), (3, (.int .i64 y3_0))]) H) E H)
theorem W1.ok : zaa Tryz.prog (sub [1, 1, 0, 1, 0] body) W1.t := by
  have e : (sub [1, 1, 0, 1, 0] body) = .loop (sub [1, 1, 0, 1, 0, 0] body) := by kernel_rfl
  rw [e]
  refine zda (zqa (zea [4, 8, 9, 10] [2, 3] (fun i => if i = 0 then [4] else []) (zba hΓ Tryz.hm (.go) _ (of_eq_true (by kernel_rfl))))) fun Q E fr H h => ?_
  obtain ⟨hl, h⟩ := zga h
  obtain ⟨b0, q4, h⟩ := zua h
  obtain ⟨x0, x1, x2, q8, h⟩ := zta h
  obtain ⟨x3, q9, h⟩ := zfa h
  obtain ⟨x4, q10, h⟩ := zfa h
  obtain ⟨m, h⟩ := h.h
  exact ⟨(mkF 23 [(4, (.pointer (some b0))), (8, (.slice x0 x1 x2)), (9, (.int .i64 x3)), (10, (.int .i64 x4))]), fun a ha => ha.mk (Nat.le_of_eq hl.symm) (consQ q4 (consQ q8 (consQ q9 (consQ q10 nilQ)))), m, cast (zib (B := (fun (RR : Int → HP) (s : Int) (H : Heap) => W1.vc b0 x0 x1 x2 x3 s (fun  H => Q (.exit 0) (mkF 23 [(4, (.pointer (some b0)))]) H) (fun y2_0 y3_0 H => Q .ret (mkF 23 [(2, (.string y2_0)), (3, (.int .i64 y3_0))]) H) (fun x4 H => RR (x4) H) E H)) (m := (fun (s : Int) => (mkF 23 [(4, (.pointer (some b0))), (8, (.slice x0 x1 x2)), (9, (.int .i64 x3)), (10, (.int .i64 s))]))) (Q := Q) (E := E) (fun RR s H => by kernel_rfl) m (x4) H) h⟩
theorem ok : zca Tryz.prog 81 F := by
  refine zia hΓ (fn := Tryz.f81) (c := body) (by kernel_rfl) (by kernel_rfl) (by kernel_rfl) (zba hΓ Tryz.hm (.seq (.go) (.seq (.go) (.seq (.seq (.go) (.block (.use W1.t))) (.go)))) _ (of_eq (show _ = (True ∧ (True ∧ ((True ∧ (zaa Tryz.prog (sub [1, 1, 0, 1, 0] body) W1.t)) ∧ True))) by kernel_rfl) ⟨trivial, ⟨trivial, ⟨⟨trivial, W1.ok⟩, trivial⟩⟩⟩)) fun _ K E H h => ?_
  unfold F at h
  split at h
  · exact cast (by kernel_rfl) h.h
  · exact h.elim
end zhf
end Go.Sh
namespace Go.Sh
open Go.Proofs
set_option linter.unusedVariables false
set_option maxRecDepth 8000
namespace inbox_New
noncomputable def body : Code := Tryz.f75.body.getD .skip
def vc (K : Option Addr → HP) (E : VH) (h0 : Heap) : Prop :=
 newB (.map #[] 0) (fun b0 h1 =>
 newB (.cells #[(.map (some b0)), (.int .i64 0), (.int .i64 (-1)), (.int .i64 0), (.bool false)] 185) (fun b1 h2 =>
 K (some (⟨b1, 0, none⟩ : Addr)) h2) h1) h0
structure c (K : Option Addr → HP) (E : VH) (H : Heap) : Prop where
  h : vc  (fun r0_0 H => ∃ H', Heap.Le H' H ∧ K r0_0 H') E H
def F : FT := fun args K E H => match args with
  | [] => c  (fun r0_0 H => K (.pointer r0_0) H) E H
  | _ => False
noncomputable def Γ : FuncId → Option FT := Γof []
theorem hΓ : ∀ f F, Γ f = some F → zca Tryz.prog f F := Γof_ok (nilQ)
theorem ok : zca Tryz.prog 75 F := by
  refine zia hΓ (fn := Tryz.f75) (c := body) (by kernel_rfl) (by kernel_rfl) (by kernel_rfl) (zba hΓ Tryz.hm (.go) _ (of_eq_true (by kernel_rfl))) fun _ K E H h => ?_
  unfold F at h
  split at h
  · exact cast (by kernel_rfl) h.h
  · exact h.elim
end inbox_New
namespace outbox_New
noncomputable def body : Code := Tryz.f76.body.getD .skip
def vc (K : Option Addr → HP) (E : VH) (h0 : Heap) : Prop :=
 newB (.cells #[(.slice none 0 0), (.slice none 0 0), (.int .u8 3), (.int .i64 4096), (.int .i64 0)] 181) (fun b0 h1 =>
 K (some (⟨b0, 0, none⟩ : Addr)) h1) h0
structure c (K : Option Addr → HP) (E : VH) (H : Heap) : Prop where
  h : vc  (fun r0_0 H => ∃ H', Heap.Le H' H ∧ K r0_0 H') E H
def F : FT := fun args K E H => match args with
  | [] => c  (fun r0_0 H => K (.pointer r0_0) H) E H
  | _ => False
noncomputable def Γ : FuncId → Option FT := Γof []
theorem hΓ : ∀ f F, Γ f = some F → zca Tryz.prog f F := Γof_ok (nilQ)
theorem ok : zca Tryz.prog 76 F := by
  refine zia hΓ (fn := Tryz.f76) (c := body) (by kernel_rfl) (by kernel_rfl) (by kernel_rfl) (zba hΓ Tryz.hm (.go) _ (of_eq_true (by kernel_rfl))) fun _ K E H h => ?_
  unfold F at h
  split at h
  · exact cast (by kernel_rfl) h.h
  · exact h.elim
end outbox_New
namespace zof
noncomputable def body : Code := Tryz.f192.body.getD .skip
def vc (n0 : Int) (K : Bool → HP) (E : VH) (h0 : Heap) : Prop :=
 (if (decide (n0 ≥ 0)) = true then
 K (decide (n0 ≤ 4611686018427387903)) h0
 else
 K false h0)
structure c (n0 : Int) (K : Bool → HP) (E : VH) (H : Heap) : Prop where
  h : vc n0 (fun r0_0 H => ∃ H', Heap.Le H' H ∧ K r0_0 H') E H
def F : FT := fun args K E H => match args with
  | [(.int .i64 n0)] => c n0 (fun r0_0 H => K (.bool r0_0) H) E H
  | _ => False
noncomputable def Γ : FuncId → Option FT := Γof []
theorem hΓ : ∀ f F, Γ f = some F → zca Tryz.prog f F := Γof_ok (nilQ)
theorem ok : zca Tryz.prog 192 F := by
  refine zia hΓ (fn := Tryz.f192) (c := body) (by kernel_rfl) (by kernel_rfl) (by kernel_rfl) (zba hΓ Tryz.hm (.go) _ (of_eq_true (by kernel_rfl))) fun _ K E H h => ?_
  unfold F at h
  split at h
  · exact cast (by kernel_rfl) h.h
  · exact h.elim
end zof
namespace ztb
noncomputable def body : Code := Tryz.f193.body.getD .skip
def J2.vc (x0 : Bool) (Kn : HP) (Kr : Int → HP) (E : VH) (h0 : Heap) : Prop :=
 (if x0 = true then
 Kr 13 h0
 else
 Kn h0)
structure J2 (x0 : Bool) (Kn : HP) (Kr : Int → HP) (E : VH) (H : Heap) : Prop where
  h : J2.vc x0 Kn Kr E H
def J1.vc (b0 : Option Addr) (end0 : Int) (fin0 : Bool) (x0 : Bool) (Kn : HP) (Kr : Int → HP) (E : VH) (h0 : Heap) : Prop :=
 (if x0 = true then
 Kr 13 h0
 else
 (if fin0 = true then
 nilc b0 fun a0 =>
 ldI h0 .i64 (a0.add 3) fun x1 =>
 J2 (decide (x1 > end0)) Kn Kr E h0
 else
 J2 false Kn Kr E h0))
structure J1 (b0 : Option Addr) (end0 : Int) (fin0 : Bool) (x0 : Bool) (Kn : HP) (Kr : Int → HP) (E : VH) (H : Heap) : Prop where
  h : J1.vc b0 end0 fin0 x0 Kn Kr E H
def vc (b0 : Option Addr) (end0 : Int) (fin0 : Bool) (K : Int → HP) (E : VH) (h0 : Heap) : Prop :=
 nilc b0 fun a0 =>
 ldI h0 .i64 (a0.add 1) fun x0 =>
 (if (decide (end0 > (IntKind.i64.wrap (x0 + 4096)))) = true then
 K 12 h0
 else
 nilc b0 fun a1 =>
 ldI h0 .i64 (a1.add 2) fun x1 =>
 (if (x1 != (-1)) = true then
 nilc b0 fun a2 =>
 ldI h0 .i64 (a2.add 2) fun x2 =>
 (if (decide (end0 > x2)) = true then
 J1 b0 end0 fin0 true (fun h1 =>
 K 0 h1) K E h0
 else
 (if fin0 = true then
 nilc b0 fun a3 =>
 ldI h0 .i64 (a3.add 2) fun x4 =>
 J1 b0 end0 fin0 (decide (end0 < x4)) (fun h3 =>
 K 0 h3) K E h0
 else
 J1 b0 end0 fin0 false (fun h5 =>
 K 0 h5) K E h0))
 else
 J1 b0 end0 fin0 false (fun h7 =>
 K 0 h7) K E h0))
structure c (b0 : Option Addr) (end0 : Int) (fin0 : Bool) (K : Int → HP) (E : VH) (H : Heap) : Prop where
  h : vc b0 end0 fin0 (fun r0_0 H => ∃ H', Heap.Le H' H ∧ K r0_0 H') E H
def F : FT := fun args K E H => match args with
  | [(.pointer b0), (.int .i64 end0), (.bool fin0)] => c b0 end0 fin0 (fun r0_0 H => K (.int .i64 r0_0) H) E H
  | _ => False
noncomputable def Γ : FuncId → Option FT := Γof []
theorem hΓ : ∀ f F, Γ f = some F → zca Tryz.prog f F := Γof_ok (nilQ)
def J2.t : CT := fun Q E fr H => lenIs 50 fr (slB fr 40 fun x0 => J2 x0 (fun  H => Q .normal (mkF 50 []) H) (fun y6_0 H => Q .ret (mkF 50 [(6, (.int .i64 y6_0))]) H) E H)
theorem J2.ok : zaa Tryz.prog (sub [1, 0, 0, 1, 1, 1, 1, 1] body) J2.t := by
  refine zda (zea [] [6] (fun i => []) (zba hΓ Tryz.hm (.go) _ (of_eq_true (by kernel_rfl)))) fun Q E fr H h => ?_
  obtain ⟨hl, h⟩ := zga h
  obtain ⟨x0, q40, h⟩ := zwa h
  exact ⟨(mkF 50 [(40, (.bool x0))]), fun a ha => ha.mk (Nat.le_of_eq hl.symm) (consQ q40 nilQ), cast (by kernel_rfl) h.h⟩
def J1.t : CT := fun Q E fr H => lenIs 50 fr (slP fr 0 fun b0 => slI fr 1 .i64 fun end0 => slB fr 2 fun fin0 => slB fr 15 fun x0 => J1 b0 end0 fin0 x0 (fun  H => Q .normal (mkF 50 []) H) (fun y6_0 H => Q .ret (mkF 50 [(6, (.int .i64 y6_0))]) H) E H)
theorem J1.ok : zaa Tryz.prog (sub [1, 0, 0, 1, 1, 1] body) J1.t := by
  refine zda (zea [] [6] (fun i => []) (zba hΓ Tryz.hm (.cond (.go) (.seq (.go) (.use J2.t))) _ (of_eq (show _ = (True ∧ (True ∧ (zaa Tryz.prog (sub [1, 0, 0, 1, 1, 1, 1, 1] body) J2.t))) by kernel_rfl) ⟨trivial, ⟨trivial, J2.ok⟩⟩))) fun Q E fr H h => ?_
  obtain ⟨hl, h⟩ := zga h
  obtain ⟨b0, q0, h⟩ := zja h
  obtain ⟨end0, q1, h⟩ := zfa h
  obtain ⟨fin0, q2, h⟩ := zwa h
  obtain ⟨x0, q15, h⟩ := zwa h
  exact ⟨(mkF 50 [(0, (.pointer b0)), (1, (.int .i64 end0)), (2, (.bool fin0)), (15, (.bool x0))]), fun a ha => ha.mk (Nat.le_of_eq hl.symm) (consQ q0 (consQ q1 (consQ q2 (consQ q15 nilQ)))), cast (by kernel_rfl) h.h⟩
theorem ok : zca Tryz.prog 193 F := by
  refine zia hΓ (fn := Tryz.f193) (c := body) (by kernel_rfl) (by kernel_rfl) (by kernel_rfl) (zba hΓ Tryz.hm (.seq (.go) (.seq (.block (.seq (.go) (.cond (.go) (.seq (.go) (.use J1.t))))) (.go))) _ (of_eq (show _ = (True ∧ ((True ∧ (True ∧ (True ∧ (zaa Tryz.prog (sub [1, 0, 0, 1, 1, 1] body) J1.t)))) ∧ True)) by kernel_rfl) ⟨trivial, ⟨⟨trivial, ⟨trivial, ⟨trivial, J1.ok⟩⟩⟩, trivial⟩⟩)) fun _ K E H h => ?_
  unfold F at h
  split at h
  · exact cast (by kernel_rfl) h.h
  · exact h.elim
end ztb
namespace zgb
noncomputable def body : Code := Tryz.f154.body.getD .skip
def J1.vc (b0 : Option Addr) (off0 : Int) (data0 : ByteArray) (fin0 : Bool) (end0 : Int) (e0 : Int) (x0 : Bool) (Kn : HP) (Kr : Int → HP) (E : VH) (h0 : Heap) : Prop :=
 (if x0 = true then
 Kr e0 h0
 else
 Kn h0)
structure J1 (b0 : Option Addr) (off0 : Int) (data0 : ByteArray) (fin0 : Bool) (end0 : Int) (e0 : Int) (x0 : Bool) (Kn : HP) (Kr : Int → HP) (E : VH) (H : Heap) : Prop where
  h : J1.vc b0 off0 data0 fin0 end0 e0 x0 Kn Kr E H
def J5.vc (b0 : Option Addr) (off0 : Int) (data0 : ByteArray) (fin0 : Bool) (end0 : Int) (i0 : Int) (at0 : Int) (x0 : Int) (x1 : Int) (x2 : Bool) (Kn : HP) (E : VH) (h0 : Heap) : Prop :=
 (if x2 = true then
 nilc b0 fun a0 =>
 ldM h0 (a0.add 0) fun x3 =>
 (0 : Int) ≤ i0 ∧ i0 < (data0.size : Int) ∧
 putW (.int .i64) x3 (.int .i64 at0) (.int .u8 (bt data0 i0)) (fun h1 =>
 Kn h1) h0
 else
 Kn h0)
structure J5 (b0 : Option Addr) (off0 : Int) (data0 : ByteArray) (fin0 : Bool) (end0 : Int) (i0 : Int) (at0 : Int) (x0 : Int) (x1 : Int) (x2 : Bool) (Kn : HP) (E : VH) (H : Heap) : Prop where
  h : J5.vc b0 off0 data0 fin0 end0 i0 at0 x0 x1 x2 Kn E H
def J4.vc (b0 : Option Addr) (off0 : Int) (data0 : ByteArray) (fin0 : Bool) (end0 : Int) (i0 : Int) (at0 : Int) (ok0 : Bool) (x0 : Int) (x1 : Int) (Kn : HP) (E : VH) (h0 : Heap) : Prop :=
 (if (!ok0) = true then
 nilc b0 fun a0 =>
 ldI h0 .i64 (a0.add 1) fun x2 =>
 J5 b0 off0 data0 fin0 end0 i0 at0 x0 x1 (decide (at0 ≥ x2)) Kn E h0
 else
 J5 b0 off0 data0 fin0 end0 i0 at0 x0 x1 false Kn E h0)
structure J4 (b0 : Option Addr) (off0 : Int) (data0 : ByteArray) (fin0 : Bool) (end0 : Int) (i0 : Int) (at0 : Int) (ok0 : Bool) (x0 : Int) (x1 : Int) (Kn : HP) (E : VH) (H : Heap) : Prop where
  h : J4.vc b0 off0 data0 fin0 end0 i0 at0 ok0 x0 x1 Kn E H
def J6.vc (b0 : Option Addr) (off0 : Int) (data0 : ByteArray) (fin0 : Bool) (end0 : Int) (x0 : Int) (x1 : Int) (Kn : Int → HP) (E : VH) (h0 : Heap) : Prop :=
 Kn (IntKind.i64.wrap (x1 + 1)) h0
structure J6 (b0 : Option Addr) (off0 : Int) (data0 : ByteArray) (fin0 : Bool) (end0 : Int) (x0 : Int) (x1 : Int) (Kn : Int → HP) (E : VH) (H : Heap) : Prop where
  h : J6.vc b0 off0 data0 fin0 end0 x0 x1 Kn E H
def W3.vc (b0 : Option Addr) (off0 : Int) (data0 : ByteArray) (fin0 : Bool) (end0 : Int) (x0 : Int) (x1 : Int) (Kx0 : HP) (RR : Int → HP) (E : VH) (h0 : Heap) : Prop :=
 (if (decide (x1 < x0)) = true then
 nilc b0 fun a0 =>
 ldM h0 (a0.add 0) fun x2 =>
 lookI (.int .i64) x2 (.int .i64 (IntKind.i64.wrap (off0 + x1))) .u8 0 (fun x3 ok0 =>
 J4 b0 off0 data0 fin0 end0 x1 (IntKind.i64.wrap (off0 + x1)) ok0 x0 x1 (fun h1 =>
 J6 b0 off0 data0 fin0 end0 x0 x1 RR E h1) E h0) h0
 else
 Kx0 h0)
structure W3 (b0 : Option Addr) (off0 : Int) (data0 : ByteArray) (fin0 : Bool) (end0 : Int) (x0 : Int) (x1 : Int) (Kx0 : HP) (E : VH) (H : Heap) : Prop where
  h : Loop (fun (RR : Int → HP) (s : Int) (H : Heap) => W3.vc b0 off0 data0 fin0 end0 x0 s Kx0 (fun x1 H => RR (x1) H) E H) (x1) H
def J7.vc (b0 : Option Addr) (fin0 : Bool) (end0 : Int) (Kr : Int → HP) (E : VH) (h0 : Heap) : Prop :=
 (if fin0 = true then
 nilc b0 fun a0 =>
 stc h0 (a0.add 2) (.int .i64 end0) fun h1 =>
 Kr 0 h1
 else
 Kr 0 h0)
structure J7 (b0 : Option Addr) (fin0 : Bool) (end0 : Int) (Kr : Int → HP) (E : VH) (H : Heap) : Prop where
  h : J7.vc b0 fin0 end0 Kr E H
def J2.vc (b0 : Option Addr) (off0 : Int) (data0 : ByteArray) (fin0 : Bool) (end0 : Int) (Kr : Int → HP) (E : VH) (h0 : Heap) : Prop :=
 W3 b0 off0 data0 fin0 end0 (data0.size : Int) 0 (fun h1 =>
 (if (!(data0.toList == (⟨#[]⟩ : ByteArray).toList)) = true then
 nilc b0 fun a0 =>
 ldI h1 .i64 (a0.add 3) fun x0 =>
 nilc b0 fun a1 =>
 stc h1 (a1.add 3) (.int .i64 (if end0 > x0 then end0 else x0)) fun h2 =>
 J7 b0 fin0 end0 Kr E h2
 else
 J7 b0 fin0 end0 Kr E h1)) E h0
structure J2 (b0 : Option Addr) (off0 : Int) (data0 : ByteArray) (fin0 : Bool) (end0 : Int) (Kr : Int → HP) (E : VH) (H : Heap) : Prop where
  h : J2.vc b0 off0 data0 fin0 end0 Kr E H
def vc (b0 : Option Addr) (off0 : Int) (data0 : ByteArray) (fin0 : Bool) (K : Int → HP) (E : VH) (h0 : Heap) : Prop :=
 zof.c off0 (fun x0 h1 =>
 (if (!x0) = true then
 K 2 h1
 else
 ztb.c b0 (IntKind.i64.wrap (off0 + (data0.size : Int))) fin0 (fun x1 h2 =>
 (if (x1 != 0) = true then
 J1 b0 off0 data0 fin0 (IntKind.i64.wrap (off0 + (data0.size : Int))) x1 true (fun h3 =>
 J2 b0 off0 data0 fin0 (IntKind.i64.wrap (off0 + (data0.size : Int))) K E h3) K E h2
 else
 nilc b0 fun a0 =>
 ldB h2 (a0.add 4) fun x4 =>
 J1 b0 off0 data0 fin0 (IntKind.i64.wrap (off0 + (data0.size : Int))) x1 x4 (fun h6 =>
 J2 b0 off0 data0 fin0 (IntKind.i64.wrap (off0 + (data0.size : Int))) K E h6) K E h2)) E h1)) E h0
structure c (b0 : Option Addr) (off0 : Int) (data0 : ByteArray) (fin0 : Bool) (K : Int → HP) (E : VH) (H : Heap) : Prop where
  h : vc b0 off0 data0 fin0 (fun r0_0 H => ∃ H', Heap.Le H' H ∧ K r0_0 H') E H
def F : FT := fun args K E H => match args with
  | [(.pointer b0), (.int .i64 off0), (.string data0), (.bool fin0)] => c b0 off0 data0 fin0 (fun r0_0 H => K (.int .i64 r0_0) H) E H
  | _ => False
noncomputable def Γ : FuncId → Option FT := Γof [(192, zof.F), (193, ztb.F)]
theorem hΓ : ∀ f F, Γ f = some F → zca Tryz.prog f F := Γof_ok (consQ zof.ok (consQ ztb.ok (nilQ)))
def J1.t : CT := fun Q E fr H => lenIs 87 fr (slP fr 0 fun b0 => slI fr 1 .i64 fun off0 => slS fr 2 fun data0 => slB fr 3 fun fin0 => slI fr 9 .i64 fun end0 => slI fr 10 .i64 fun e0 => slB fr 33 fun x0 => J1 b0 off0 data0 fin0 end0 e0 x0 (fun  H => Q .normal (mkF 87 [(0, (.pointer b0)), (1, (.int .i64 off0)), (2, (.string data0)), (3, (.bool fin0)), (9, (.int .i64 end0))]) H) (fun y8_0 H => Q .ret (mkF 87 [(8, (.int .i64 y8_0))]) H) E H)
theorem J1.ok : zaa Tryz.prog (sub [1, 1, 1, 0, 1, 1] body) J1.t := by
  refine zda (zea [0, 1, 2, 3, 9] [8] (fun i => []) (zba hΓ Tryz.hm (.go) _ (of_eq_true (by kernel_rfl)))) fun Q E fr H h => ?_
  obtain ⟨hl, h⟩ := zga h
  obtain ⟨b0, q0, h⟩ := zja h
  obtain ⟨off0, q1, h⟩ := zfa h
  obtain ⟨data0, q2, h⟩ := zfb h
  obtain ⟨fin0, q3, h⟩ := zwa h
  obtain ⟨end0, q9, h⟩ := zfa h
  obtain ⟨e0, q10, h⟩ := zfa h
  obtain ⟨x0, q33, h⟩ := zwa h
  exact ⟨(mkF 87 [(0, (.pointer b0)), (1, (.int .i64 off0)), (2, (.string data0)), (3, (.bool fin0)), (9, (.int .i64 end0)), (10, (.int .i64 e0)), (33, (.bool x0))]), fun a ha => ha.mk (Nat.le_of_eq hl.symm) (consQ q0 (consQ q1 (consQ q2 (consQ q3 (consQ q9 (consQ q10 (consQ q33 nilQ))))))), cast (by kernel_rfl) h.h⟩
def J5.t : CT := fun Q E fr H => lenIs 87 fr (slP fr 0 fun b0 => slI fr 1 .i64 fun off0 => slS fr 2 fun data0 => slB fr 3 fun fin0 => slI fr 9 .i64 fun end0 => slI fr 11 .i64 fun i0 => slI fr 12 .i64 fun at0 => slI fr 36 .i64 fun x0 => slI fr 37 .i64 fun x1 => slB fr 61 fun x2 => J5 b0 off0 data0 fin0 end0 i0 at0 x0 x1 x2 (fun  H => Q .normal (mkF 87 [(0, (.pointer b0)), (1, (.int .i64 off0)), (2, (.string data0)), (3, (.bool fin0)), (9, (.int .i64 end0)), (36, (.int .i64 x0)), (37, (.int .i64 x1))]) H) E H)
theorem J5.ok : zaa Tryz.prog (sub [1, 1, 1, 1, 0, 1, 0, 0, 1, 1, 0, 0, 1, 1, 1, 1] body) J5.t := by
  refine zda (zea [0, 1, 2, 3, 9, 36, 37] [] (fun i => []) (zba hΓ Tryz.hm (.cond (.draw ⟨[0, 1, 2, 3, 4, 5, 6, 7, 8], (dl [(0, []), (1, []), (2, []), (3, []), (4, []), (5, []), (6, []), (7, []), (8, [3, 4, 7, 0, 1, 2, 5, 6])] .fin), []⟩) (.go)) _ (of_eq (show _ = (True ∧ True) by kernel_rfl) ⟨trivial, trivial⟩))) fun Q E fr H h => ?_
  obtain ⟨hl, h⟩ := zga h
  obtain ⟨b0, q0, h⟩ := zja h
  obtain ⟨off0, q1, h⟩ := zfa h
  obtain ⟨data0, q2, h⟩ := zfb h
  obtain ⟨fin0, q3, h⟩ := zwa h
  obtain ⟨end0, q9, h⟩ := zfa h
  obtain ⟨i0, q11, h⟩ := zfa h
  obtain ⟨at0, q12, h⟩ := zfa h
  obtain ⟨x0, q36, h⟩ := zfa h
  obtain ⟨x1, q37, h⟩ := zfa h
  obtain ⟨x2, q61, h⟩ := zwa h
  exact ⟨(mkF 87 [(0, (.pointer b0)), (1, (.int .i64 off0)), (2, (.string data0)), (3, (.bool fin0)), (9, (.int .i64 end0)), (11, (.int .i64 i0)), (12, (.int .i64 at0)), (36, (.int .i64 x0)), (37, (.int .i64 x1)), (61, (.bool x2))]), fun a ha => ha.mk (Nat.le_of_eq hl.symm) (consQ q0 (consQ q1 (consQ q2 (consQ q3 (consQ q9 (consQ q11 (consQ q12 (consQ q36 (consQ q37 (consQ q61 nilQ)))))))))), cast (by kernel_rfl) h.h⟩
def J4.t : CT := fun Q E fr H => lenIs 87 fr (slP fr 0 fun b0 => slI fr 1 .i64 fun off0 => slS fr 2 fun data0 => slB fr 3 fun fin0 => slI fr 9 .i64 fun end0 => slI fr 11 .i64 fun i0 => slI fr 12 .i64 fun at0 => slB fr 14 fun ok0 => slI fr 36 .i64 fun x0 => slI fr 37 .i64 fun x1 => J4 b0 off0 data0 fin0 end0 i0 at0 ok0 x0 x1 (fun  H => Q .normal (mkF 87 [(0, (.pointer b0)), (1, (.int .i64 off0)), (2, (.string data0)), (3, (.bool fin0)), (9, (.int .i64 end0)), (36, (.int .i64 x0)), (37, (.int .i64 x1))]) H) E H)
theorem J4.ok : zaa Tryz.prog (sub [1, 1, 1, 1, 0, 1, 0, 0, 1, 1, 0, 0, 1, 1, 1] body) J4.t := by
  refine zda (zea [0, 1, 2, 3, 9, 36, 37] [] (fun i => []) (zba hΓ Tryz.hm (.seq (.go) (.use J5.t)) _ (of_eq (show _ = (True ∧ (zaa Tryz.prog (sub [1, 1, 1, 1, 0, 1, 0, 0, 1, 1, 0, 0, 1, 1, 1, 1] body) J5.t)) by kernel_rfl) ⟨trivial, J5.ok⟩))) fun Q E fr H h => ?_
  obtain ⟨hl, h⟩ := zga h
  obtain ⟨b0, q0, h⟩ := zja h
  obtain ⟨off0, q1, h⟩ := zfa h
  obtain ⟨data0, q2, h⟩ := zfb h
  obtain ⟨fin0, q3, h⟩ := zwa h
  obtain ⟨end0, q9, h⟩ := zfa h
  obtain ⟨i0, q11, h⟩ := zfa h
  obtain ⟨at0, q12, h⟩ := zfa h
  obtain ⟨ok0, q14, h⟩ := zwa h
  obtain ⟨x0, q36, h⟩ := zfa h
  obtain ⟨x1, q37, h⟩ := zfa h
  exact ⟨(mkF 87 [(0, (.pointer b0)), (1, (.int .i64 off0)), (2, (.string data0)), (3, (.bool fin0)), (9, (.int .i64 end0)), (11, (.int .i64 i0)), (12, (.int .i64 at0)), (14, (.bool ok0)), (36, (.int .i64 x0)), (37, (.int .i64 x1))]), fun a ha => ha.mk (Nat.le_of_eq hl.symm) (consQ q0 (consQ q1 (consQ q2 (consQ q3 (consQ q9 (consQ q11 (consQ q12 (consQ q14 (consQ q36 (consQ q37 nilQ)))))))))), cast (by kernel_rfl) h.h⟩
def J6.t : CT := fun Q E fr H => lenIs 87 fr (slP fr 0 fun b0 => slI fr 1 .i64 fun off0 => slS fr 2 fun data0 => slB fr 3 fun fin0 => slI fr 9 .i64 fun end0 => slI fr 36 .i64 fun x0 => slI fr 37 .i64 fun x1 => J6 b0 off0 data0 fin0 end0 x0 x1 (fun y37_0 H => Q .normal (mkF 87 [(0, (.pointer b0)), (1, (.int .i64 off0)), (2, (.string data0)), (3, (.bool fin0)), (9, (.int .i64 end0)), (36, (.int .i64 x0)), (37, (.int .i64 y37_0))]) H) E H)
theorem J6.ok : zaa Tryz.prog (sub [1, 1, 1, 1, 0, 1, 0, 0, 1, 1, 1] body) J6.t := by
  refine zda (zea [0, 1, 2, 3, 9, 36, 37] [] (fun i => []) (zba hΓ Tryz.hm (.go) _ (of_eq_true (by kernel_rfl)))) fun Q E fr H h => ?_
  obtain ⟨hl, h⟩ := zga h
  obtain ⟨b0, q0, h⟩ := zja h
  obtain ⟨off0, q1, h⟩ := zfa h
  obtain ⟨data0, q2, h⟩ := zfb h
  obtain ⟨fin0, q3, h⟩ := zwa h
  obtain ⟨end0, q9, h⟩ := zfa h
  obtain ⟨x0, q36, h⟩ := zfa h
  obtain ⟨x1, q37, h⟩ := zfa h
  exact ⟨(mkF 87 [(0, (.pointer b0)), (1, (.int .i64 off0)), (2, (.string data0)), (3, (.bool fin0)), (9, (.int .i64 end0)), (36, (.int .i64 x0)), (37, (.int .i64 x1))]), fun a ha => ha.mk (Nat.le_of_eq hl.symm) (consQ q0 (consQ q1 (consQ q2 (consQ q3 (consQ q9 (consQ q36 (consQ q37 nilQ))))))), cast (by kernel_rfl) h.h⟩
def W3.t : CT := fun Q E fr H => lenIs 87 fr (slP fr 0 fun b0 => slI fr 1 .i64 fun off0 => slS fr 2 fun data0 => slB fr 3 fun fin0 => slI fr 9 .i64 fun end0 => slI fr 36 .i64 fun x0 => slI fr 37 .i64 fun x1 => W3 b0 off0 data0 fin0 end0 x0 x1 (fun  H => Q (.exit 0) (mkF 87 [(0, (.pointer b0)), (2, (.string data0)), (3, (.bool fin0)), (9, (.int .i64 end0))]) H) E H)
theorem W3.ok : zaa Tryz.prog (sub [1, 1, 1, 1, 0, 1, 0] body) W3.t := by
  have e : (sub [1, 1, 1, 1, 0, 1, 0] body) = .loop (sub [1, 1, 1, 1, 0, 1, 0, 0] body) := by kernel_rfl
  rw [e]
  refine zda (zqa (zea [0, 1, 2, 3, 9, 36, 37] [] (fun i => if i = 0 then [0, 2, 3, 9] else []) (zba hΓ Tryz.hm (.seq (.go) (.seq (.go) (.seq (.block (.seq (.go) (.seq (.go) (.seq (.go) (.use J4.t))))) (.use J6.t)))) _ (of_eq (show _ = (True ∧ (True ∧ ((True ∧ (True ∧ (True ∧ (zaa Tryz.prog (sub [1, 1, 1, 1, 0, 1, 0, 0, 1, 1, 0, 0, 1, 1, 1] body) J4.t)))) ∧ (zaa Tryz.prog (sub [1, 1, 1, 1, 0, 1, 0, 0, 1, 1, 1] body) J6.t)))) by kernel_rfl) ⟨trivial, ⟨trivial, ⟨⟨trivial, ⟨trivial, ⟨trivial, J4.ok⟩⟩⟩, J6.ok⟩⟩⟩)))) fun Q E fr H h => ?_
  obtain ⟨hl, h⟩ := zga h
  obtain ⟨b0, q0, h⟩ := zja h
  obtain ⟨off0, q1, h⟩ := zfa h
  obtain ⟨data0, q2, h⟩ := zfb h
  obtain ⟨fin0, q3, h⟩ := zwa h
  obtain ⟨end0, q9, h⟩ := zfa h
  obtain ⟨x0, q36, h⟩ := zfa h
  obtain ⟨x1, q37, h⟩ := zfa h
  obtain ⟨m, h⟩ := h.h
  exact ⟨(mkF 87 [(0, (.pointer b0)), (1, (.int .i64 off0)), (2, (.string data0)), (3, (.bool fin0)), (9, (.int .i64 end0)), (36, (.int .i64 x0)), (37, (.int .i64 x1))]), fun a ha => ha.mk (Nat.le_of_eq hl.symm) (consQ q0 (consQ q1 (consQ q2 (consQ q3 (consQ q9 (consQ q36 (consQ q37 nilQ))))))), m, cast (zib (B := (fun (RR : Int → HP) (s : Int) (H : Heap) => W3.vc b0 off0 data0 fin0 end0 x0 s (fun  H => Q (.exit 0) (mkF 87 [(0, (.pointer b0)), (2, (.string data0)), (3, (.bool fin0)), (9, (.int .i64 end0))]) H) (fun x1 H => RR (x1) H) E H)) (m := (fun (s : Int) => (mkF 87 [(0, (.pointer b0)), (1, (.int .i64 off0)), (2, (.string data0)), (3, (.bool fin0)), (9, (.int .i64 end0)), (36, (.int .i64 x0)), (37, (.int .i64 s))]))) (Q := Q) (E := E) (fun RR s H => by kernel_rfl) m (x1) H) h⟩
def J7.t : CT := fun Q E fr H => lenIs 87 fr (slP fr 0 fun b0 => slB fr 3 fun fin0 => slI fr 9 .i64 fun end0 => J7 b0 fin0 end0 (fun y8_0 H => Q .ret (mkF 87 [(8, (.int .i64 y8_0))]) H) E H)
theorem J7.ok : zaa Tryz.prog (sub [1, 1, 1, 1, 1, 1] body) J7.t := by
  refine zda (zea [] [8] (fun i => []) (zba hΓ Tryz.hm (.go) _ (of_eq_true (by kernel_rfl)))) fun Q E fr H h => ?_
  obtain ⟨hl, h⟩ := zga h
  obtain ⟨b0, q0, h⟩ := zja h
  obtain ⟨fin0, q3, h⟩ := zwa h
  obtain ⟨end0, q9, h⟩ := zfa h
  exact ⟨(mkF 87 [(0, (.pointer b0)), (3, (.bool fin0)), (9, (.int .i64 end0))]), fun a ha => ha.mk (Nat.le_of_eq hl.symm) (consQ q0 (consQ q3 (consQ q9 nilQ))), cast (by kernel_rfl) h.h⟩
def J2.t : CT := fun Q E fr H => lenIs 87 fr (slP fr 0 fun b0 => slI fr 1 .i64 fun off0 => slS fr 2 fun data0 => slB fr 3 fun fin0 => slI fr 9 .i64 fun end0 => J2 b0 off0 data0 fin0 end0 (fun y8_0 H => Q .ret (mkF 87 [(8, (.int .i64 y8_0))]) H) E H)
theorem J2.ok : zaa Tryz.prog (sub [1, 1, 1, 1] body) J2.t := by
  refine zda (zea [] [8] (fun i => []) (zba hΓ Tryz.hm (.seq (.seq (.go) (.block (.use W3.t))) (.seq (.go) (.use J7.t))) _ (of_eq (show _ = ((True ∧ (zaa Tryz.prog (sub [1, 1, 1, 1, 0, 1, 0] body) W3.t)) ∧ (True ∧ (zaa Tryz.prog (sub [1, 1, 1, 1, 1, 1] body) J7.t))) by kernel_rfl) ⟨⟨trivial, W3.ok⟩, ⟨trivial, J7.ok⟩⟩))) fun Q E fr H h => ?_
  obtain ⟨hl, h⟩ := zga h
  obtain ⟨b0, q0, h⟩ := zja h
  obtain ⟨off0, q1, h⟩ := zfa h
  obtain ⟨data0, q2, h⟩ := zfb h
  obtain ⟨fin0, q3, h⟩ := zwa h
  obtain ⟨end0, q9, h⟩ := zfa h
  exact ⟨(mkF 87 [(0, (.pointer b0)), (1, (.int .i64 off0)), (2, (.string data0)), (3, (.bool fin0)), (9, (.int .i64 end0))]), fun a ha => ha.mk (Nat.le_of_eq hl.symm) (consQ q0 (consQ q1 (consQ q2 (consQ q3 (consQ q9 nilQ))))), cast (by kernel_rfl) h.h⟩
theorem ok : zca Tryz.prog 154 F := by
  refine zia hΓ (fn := Tryz.f154) (c := body) (by kernel_rfl) (by kernel_rfl) (by kernel_rfl) (zba hΓ Tryz.hm (.seq (.go) (.seq (.go) (.seq (.go) (.seq (.seq (.go) (.seq (.go) (.use J1.t))) (.use J2.t))))) _ (of_eq (show _ = (True ∧ (True ∧ (True ∧ ((True ∧ (True ∧ (zaa Tryz.prog (sub [1, 1, 1, 0, 1, 1] body) J1.t))) ∧ (zaa Tryz.prog (sub [1, 1, 1, 1] body) J2.t))))) by kernel_rfl) ⟨trivial, ⟨trivial, ⟨trivial, ⟨⟨trivial, ⟨trivial, J1.ok⟩⟩, J2.ok⟩⟩⟩⟩)) fun _ K E H h => ?_
  unfold F at h
  split at h
  · exact cast (by kernel_rfl) h.h
  · exact h.elim
end zgb
namespace zfc
noncomputable def body : Code := Tryz.f56.body.getD .skip
def J4.vc (b0 : Option Addr) (n0 : Int) (out0 : Option Addr) (out1 : Nat) (out2 : Nat) (Kn : HP) (E : VH) (h0 : Heap) : Prop :=
 nilc b0 fun a0 =>
 ldI h0 .i64 (a0.add 1) fun x0 =>
 nilc b0 fun a1 =>
 stc h0 (a1.add 1) (.int .i64 (IntKind.i64.wrap (x0 + 1))) fun h1 =>
 Kn h1
structure J4 (b0 : Option Addr) (n0 : Int) (out0 : Option Addr) (out1 : Nat) (out2 : Nat) (Kn : HP) (E : VH) (H : Heap) : Prop where
  h : J4.vc b0 n0 out0 out1 out2 Kn E H
def J3.vc (b0 : Option Addr) (n0 : Int) (out0 : Option Addr) (out1 : Nat) (out2 : Nat) (c0 : Int) (ok0 : Bool) (Kx0 : Option Addr → Nat → Nat → HP) (Kn : Option Addr → Nat → Nat → HP) (E : VH) (h0 : Heap) : Prop :=
 (if (!ok0) = true then
 Kx0 out0 out1 out2 h0
 else
 nilc b0 fun a0 =>
 ldM h0 (a0.add 0) fun x0 =>
 nilc b0 fun a1 =>
 ldI h0 .i64 (a1.add 1) fun x1 =>
 delW (.int .i64) x0 (.int .i64 x1) (fun h1 =>
 newB (.cells #[(.int .u8 c0)] 5) (fun b1 h2 =>
 rdRow h2 (some (⟨b1, 0, none⟩ : Addr)) (1 * 1) fun cs0 =>
 appT 5 (.int .u8 0) out0 out1 1 out2 1 1 cs0 (fun p0 n1 c1 h3 =>
 J4 b0 n0 p0 n1 c1 (fun h4 =>
 Kn p0 n1 c1 h4) E h3) h2) h1) h0)
structure J3 (b0 : Option Addr) (n0 : Int) (out0 : Option Addr) (out1 : Nat) (out2 : Nat) (c0 : Int) (ok0 : Bool) (Kx0 : Option Addr → Nat → Nat → HP) (Kn : Option Addr → Nat → Nat → HP) (E : VH) (H : Heap) : Prop where
  h : J3.vc b0 n0 out0 out1 out2 c0 ok0 Kx0 Kn E H
def J2.vc (b0 : Option Addr) (n0 : Int) (out0 : Option Addr) (out1 : Nat) (out2 : Nat) (Kx0 : Option Addr → Nat → Nat → HP) (Kn : Option Addr → Nat → Nat → HP) (E : VH) (h0 : Heap) : Prop :=
 nilc b0 fun a0 =>
 ldM h0 (a0.add 0) fun x0 =>
 nilc b0 fun a1 =>
 ldI h0 .i64 (a1.add 1) fun x1 =>
 lookI (.int .i64) x0 (.int .i64 x1) .u8 0 (fun x2 ok0 =>
 J3 b0 n0 out0 out1 out2 x2 ok0 Kx0 Kn E h0) h0
structure J2 (b0 : Option Addr) (n0 : Int) (out0 : Option Addr) (out1 : Nat) (out2 : Nat) (Kx0 : Option Addr → Nat → Nat → HP) (Kn : Option Addr → Nat → Nat → HP) (E : VH) (H : Heap) : Prop where
  h : J2.vc b0 n0 out0 out1 out2 Kx0 Kn E H
def W1.vc (b0 : Option Addr) (n0 : Int) (out0 : Option Addr) (out1 : Nat) (out2 : Nat) (Kx0 : Option Addr → Nat → Nat → HP) (RR : Option Addr → Nat → Nat → HP) (E : VH) (h0 : Heap) : Prop :=
 (if (decide ((out1 : Int) < n0)) = true then
 nilc b0 fun a0 =>
 ldB h0 (a0.add 4) fun x0 =>
 (if (!x0) = true then
 J2 b0 n0 out0 out1 out2 Kx0 RR E h0
 else
 Kx0 out0 out1 out2 h0)
 else
 Kx0 out0 out1 out2 h0)
structure W1 (b0 : Option Addr) (n0 : Int) (out0 : Option Addr) (out1 : Nat) (out2 : Nat) (Kx0 : Option Addr → Nat → Nat → HP) (E : VH) (H : Heap) : Prop where
  h : Loop (fun (RR : Option Addr × Nat × Nat → HP) (s : Option Addr × Nat × Nat) (H : Heap) => W1.vc b0 n0 s.1 s.2.1 s.2.2 Kx0 (fun out0 out1 out2 H => RR (out0, out1, out2) H) E H) (out0, out1, out2) H
def vc (b0 : Option Addr) (n0 : Int) (K : ByteArray → HP) (E : VH) (h0 : Heap) : Prop :=
 W1 b0 n0 none 0 0 (fun out0 out1 out2 h1 =>
 rdBytes h1 out0 out1 fun x0 =>
 K x0 h1) E h0
structure c (b0 : Option Addr) (n0 : Int) (K : ByteArray → HP) (E : VH) (H : Heap) : Prop where
  h : vc b0 n0 (fun r0_0 H => ∃ H', Heap.Le H' H ∧ K r0_0 H') E H
def F : FT := fun args K E H => match args with
  | [(.pointer b0), (.int .i64 n0)] => c b0 n0 (fun r0_0 H => K (.string r0_0) H) E H
  | _ => False
noncomputable def Γ : FuncId → Option FT := Γof []
theorem hΓ : ∀ f F, Γ f = some F → zca Tryz.prog f F := Γof_ok (nilQ)
def J4.t : CT := fun Q E fr H => lenIs 54 fr (slP fr 0 fun b0 => slI fr 1 .i64 fun n0 => slSl fr 5 fun out0 out1 out2 => J4 b0 n0 out0 out1 out2 (fun  H => Q .normal (mkF 54 [(0, (.pointer b0)), (1, (.int .i64 n0)), (5, (.slice out0 out1 out2))]) H) E H)
theorem J4.ok : zaa Tryz.prog (sub [1, 1, 0, 0, 0, 1, 0, 1, 1, 1, 1] body) J4.t := by
  refine zda (zea [0, 1, 5] [] (fun i => []) (zba hΓ Tryz.hm (.go) _ (of_eq_true (by kernel_rfl)))) fun Q E fr H h => ?_
  obtain ⟨hl, h⟩ := zga h
  obtain ⟨b0, q0, h⟩ := zja h
  obtain ⟨n0, q1, h⟩ := zfa h
  obtain ⟨out0, out1, out2, q5, h⟩ := zta h
  exact ⟨(mkF 54 [(0, (.pointer b0)), (1, (.int .i64 n0)), (5, (.slice out0 out1 out2))]), fun a ha => ha.mk (Nat.le_of_eq hl.symm) (consQ q0 (consQ q1 (consQ q5 nilQ))), cast (by kernel_rfl) h.h⟩
def J3.t : CT := fun Q E fr H => lenIs 54 fr (slP fr 0 fun b0 => slI fr 1 .i64 fun n0 => slSl fr 5 fun out0 out1 out2 => slI fr 6 .u8 fun c0 => slB fr 7 fun ok0 => J3 b0 n0 out0 out1 out2 c0 ok0 (fun y5_0 y5_1 y5_2 H => Q (.exit 0) (mkF 54 [(5, (.slice y5_0 y5_1 y5_2))]) H) (fun y5_0 y5_1 y5_2 H => Q .normal (mkF 54 [(0, (.pointer b0)), (1, (.int .i64 n0)), (5, (.slice y5_0 y5_1 y5_2))]) H) E H)
theorem J3.ok : zaa Tryz.prog (sub [1, 1, 0, 0, 0, 1, 0, 1] body) J3.t := by
  refine zda (zea [0, 1, 5] [] (fun i => if i = 0 then [5] else []) (zba hΓ Tryz.hm (.seq (.go) (.seq (.draw ⟨[0, 1, 2, 3, 4, 5, 6, 7, 8], (dl [(0, []), (1, []), (2, []), (3, []), (4, []), (5, []), (6, []), (7, []), (8, [3, 7, 2, 6, 1, 5, 0, 4])] .fin), []⟩) (.seq (.go) (.use J4.t)))) _ (of_eq (show _ = (True ∧ (True ∧ (True ∧ (zaa Tryz.prog (sub [1, 1, 0, 0, 0, 1, 0, 1, 1, 1, 1] body) J4.t)))) by kernel_rfl) ⟨trivial, ⟨trivial, ⟨trivial, J4.ok⟩⟩⟩))) fun Q E fr H h => ?_
  obtain ⟨hl, h⟩ := zga h
  obtain ⟨b0, q0, h⟩ := zja h
  obtain ⟨n0, q1, h⟩ := zfa h
  obtain ⟨out0, out1, out2, q5, h⟩ := zta h
  obtain ⟨c0, q6, h⟩ := zfa h
  obtain ⟨ok0, q7, h⟩ := zwa h
  exact ⟨(mkF 54 [(0, (.pointer b0)), (1, (.int .i64 n0)), (5, (.slice out0 out1 out2)), (6, (.int .u8 c0)), (7, (.bool ok0))]), fun a ha => ha.mk (Nat.le_of_eq hl.symm) (consQ q0 (consQ q1 (consQ q5 (consQ q6 (consQ q7 nilQ))))), cast (by kernel_rfl) h.h⟩
def J2.t : CT := fun Q E fr H => lenIs 54 fr (slP fr 0 fun b0 => slI fr 1 .i64 fun n0 => slSl fr 5 fun out0 out1 out2 => J2 b0 n0 out0 out1 out2 (fun y5_0 y5_1 y5_2 H => Q (.exit 0) (mkF 54 [(5, (.slice y5_0 y5_1 y5_2))]) H) (fun y5_0 y5_1 y5_2 H => Q .normal (mkF 54 [(0, (.pointer b0)), (1, (.int .i64 n0)), (5, (.slice y5_0 y5_1 y5_2))]) H) E H)
theorem J2.ok : zaa Tryz.prog (sub [1, 1, 0, 0, 0, 1] body) J2.t := by
  refine zda (zea [0, 1, 5] [] (fun i => if i = 0 then [5] else []) (zba hΓ Tryz.hm (.block (.seq (.draw ⟨[0, 1, 2, 3, 4, 5, 6, 7, 8, 9, 10, 11, 12], (dl [(0, []), (1, []), (2, []), (3, []), (4, []), (5, []), (6, []), (7, []), (8, []), (9, []), (10, []), (11, []), (12, [])] .fin), [13]⟩) (.use J3.t))) _ (of_eq (show _ = (True ∧ (zaa Tryz.prog (sub [1, 1, 0, 0, 0, 1, 0, 1] body) J3.t)) by kernel_rfl) ⟨trivial, J3.ok⟩))) fun Q E fr H h => ?_
  obtain ⟨hl, h⟩ := zga h
  obtain ⟨b0, q0, h⟩ := zja h
  obtain ⟨n0, q1, h⟩ := zfa h
  obtain ⟨out0, out1, out2, q5, h⟩ := zta h
  exact ⟨(mkF 54 [(0, (.pointer b0)), (1, (.int .i64 n0)), (5, (.slice out0 out1 out2))]), fun a ha => ha.mk (Nat.le_of_eq hl.symm) (consQ q0 (consQ q1 (consQ q5 nilQ))), cast (by kernel_rfl) h.h⟩
def W1.t : CT := fun Q E fr H => lenIs 54 fr (slP fr 0 fun b0 => slI fr 1 .i64 fun n0 => slSl fr 5 fun out0 out1 out2 => W1 b0 n0 out0 out1 out2 (fun y5_0 y5_1 y5_2 H => Q (.exit 0) (mkF 54 [(5, (.slice y5_0 y5_1 y5_2))]) H) E H)
theorem W1.ok : zaa Tryz.prog (sub [1, 1, 0, 0] body) W1.t := by
  have e : (sub [1, 1, 0, 0] body) = .loop (sub [1, 1, 0, 0, 0] body) := by kernel_rfl
  rw [e]
  refine zda (zqa (zea [0, 1, 5] [] (fun i => if i = 0 then [5] else []) (zba hΓ Tryz.hm (.seq (.go) (.use J2.t)) _ (of_eq (show _ = (True ∧ (zaa Tryz.prog (sub [1, 1, 0, 0, 0, 1] body) J2.t)) by kernel_rfl) ⟨trivial, J2.ok⟩)))) fun Q E fr H h => ?_
  obtain ⟨hl, h⟩ := zga h
  obtain ⟨b0, q0, h⟩ := zja h
  obtain ⟨n0, q1, h⟩ := zfa h
  obtain ⟨out0, out1, out2, q5, h⟩ := zta h
  obtain ⟨m, h⟩ := h.h
  exact ⟨(mkF 54 [(0, (.pointer b0)), (1, (.int .i64 n0)), (5, (.slice out0 out1 out2))]), fun a ha => ha.mk (Nat.le_of_eq hl.symm) (consQ q0 (consQ q1 (consQ q5 nilQ))), m, cast (zib (B := (fun (RR : Option Addr × Nat × Nat → HP) (s : Option Addr × Nat × Nat) (H : Heap) => W1.vc b0 n0 s.1 s.2.1 s.2.2 (fun y5_0 y5_1 y5_2 H => Q (.exit 0) (mkF 54 [(5, (.slice y5_0 y5_1 y5_2))]) H) (fun out0 out1 out2 H => RR (out0, out1, out2) H) E H)) (m := (fun (s : Option Addr × Nat × Nat) => (mkF 54 [(0, (.pointer b0)), (1, (.int .i64 n0)), (5, (.slice s.1 s.2.1 s.2.2))]))) (Q := Q) (E := E) (fun RR s H => by kernel_rfl) m (out0, out1, out2) H) h⟩
theorem ok : zca Tryz.prog 56 F := by
  refine zia hΓ (fn := Tryz.f56) (c := body) (by kernel_rfl) (by kernel_rfl) (by kernel_rfl) (zba hΓ Tryz.hm (.seq (.go) (.seq (.go) (.seq (.block (.use W1.t)) (.go)))) _ (of_eq (show _ = (True ∧ (True ∧ ((zaa Tryz.prog (sub [1, 1, 0, 0] body) W1.t) ∧ True))) by kernel_rfl) ⟨trivial, ⟨trivial, ⟨W1.ok, trivial⟩⟩⟩)) fun _ K E H h => ?_
  unfold F at h
  split at h
  · exact cast (by kernel_rfl) h.h
  · exact h.elim
end zfc
namespace zkc
noncomputable def body : Code := Tryz.f57.body.getD .skip
def J1.vc (b0 : Option Addr) (how0 : Int) (Kr : Int → Int → Int → HP) (E : VH) (h0 : Heap) : Prop :=
 nilc b0 fun a0 =>
 ldI h0 .i64 (a0.add 1) fun x0 =>
 nilc b0 fun a1 =>
 ldI h0 .i64 (a1.add 1) fun x1 =>
 Kr x0 (IntKind.i64.wrap (x1 + 4096)) how0 h0
structure J1 (b0 : Option Addr) (how0 : Int) (Kr : Int → Int → Int → HP) (E : VH) (H : Heap) : Prop where
  h : J1.vc b0 how0 Kr E H
def vc (b0 : Option Addr) (K : Int → Int → Int → HP) (E : VH) (h0 : Heap) : Prop :=
 nilc b0 fun a0 =>
 ldB h0 (a0.add 4) fun x0 =>
 (if x0 = true then
 J1 b0 2 K E h0
 else
 nilc b0 fun a1 =>
 ldI h0 .i64 (a1.add 2) fun x4 =>
 nilc b0 fun a2 =>
 ldI h0 .i64 (a2.add 1) fun x5 =>
 (if (x4 == x5) = true then
 J1 b0 1 K E h0
 else
 J1 b0 0 K E h0))
structure c (b0 : Option Addr) (K : Int → Int → Int → HP) (E : VH) (H : Heap) : Prop where
  h : vc b0 (fun r0_0 r1_0 r2_0 H => ∃ H', Heap.Le H' H ∧ K r0_0 r1_0 r2_0 H') E H
def F : FT := fun args K E H => match args with
  | [(.pointer b0)] => c b0 (fun r0_0 r1_0 r2_0 H => K (.tuple #[(.int .i64 r0_0), (.int .i64 r1_0), (.int .i64 r2_0)]) H) E H
  | _ => False
noncomputable def Γ : FuncId → Option FT := Γof []
theorem hΓ : ∀ f F, Γ f = some F → zca Tryz.prog f F := Γof_ok (nilQ)
def J1.t : CT := fun Q E fr H => lenIs 31 fr (slP fr 0 fun b0 => slI fr 5 .i64 fun how0 => J1 b0 how0 (fun y2_0 y3_0 y4_0 H => Q .ret (mkF 31 [(2, (.int .i64 y2_0)), (3, (.int .i64 y3_0)), (4, (.int .i64 y4_0))]) H) E H)
theorem J1.ok : zaa Tryz.prog (sub [1, 1, 1] body) J1.t := by
  refine zda (zea [] [2, 3, 4] (fun i => []) (zba hΓ Tryz.hm (.seq (.draw ⟨[0, 1, 2, 3, 4, 5, 6, 7, 8, 9, 10, 11], (dl [(0, []), (1, []), (2, []), (3, []), (4, []), (5, []), (6, []), (7, []), (8, []), (9, []), (10, []), (11, [])] .fin), [12]⟩) (.go)) _ (of_eq (show _ = (True ∧ True) by kernel_rfl) ⟨trivial, trivial⟩))) fun Q E fr H h => ?_
  obtain ⟨hl, h⟩ := zga h
  obtain ⟨b0, q0, h⟩ := zja h
  obtain ⟨how0, q5, h⟩ := zfa h
  exact ⟨(mkF 31 [(0, (.pointer b0)), (5, (.int .i64 how0))]), fun a ha => ha.mk (Nat.le_of_eq hl.symm) (consQ q0 (consQ q5 nilQ)), cast (by kernel_rfl) h.h⟩
theorem ok : zca Tryz.prog 57 F := by
  refine zia hΓ (fn := Tryz.f57) (c := body) (by kernel_rfl) (by kernel_rfl) (by kernel_rfl) (zba hΓ Tryz.hm (.seq (.go) (.seq (.go) (.seq (.block (.seq (.go) (.cond (.go) (.seq (.draw ⟨[0, 1, 2, 3, 4, 5, 6, 7, 8, 9], (dl [(0, []), (1, []), (2, []), (3, []), (4, []), (5, []), (6, []), (7, []), (8, []), (9, [])] .fin), []⟩) (.go))))) (.use J1.t)))) _ (of_eq (show _ = (True ∧ (True ∧ ((True ∧ (True ∧ (True ∧ True))) ∧ (zaa Tryz.prog (sub [1, 1, 1] body) J1.t)))) by kernel_rfl) ⟨trivial, ⟨trivial, ⟨⟨trivial, ⟨trivial, ⟨trivial, trivial⟩⟩⟩, J1.ok⟩⟩⟩)) fun _ K E H h => ?_
  unfold F at h
  split at h
  · exact cast (by kernel_rfl) h.h
  · exact h.elim
end zkc
namespace zld
noncomputable def body : Code := Tryz.f54.body.getD .skip
def J2.vc (b0 : Option Addr) (s0 : ByteArray) (fin0 : Bool) (Kr : Int → HP) (E : VH) (h0 : Heap) : Prop :=
 nilc b0 fun a0 =>
 ldI h0 .i64 (a0.add 4) fun x0 =>
 nilc b0 fun a1 =>
 stc h0 (a1.add 4) (.int .i64 (IntKind.i64.wrap (x0 + (s0.size : Int)))) fun h1 =>
 (if fin0 = true then
 nilc b0 fun a2 =>
 stc h1 (a2.add 2) (.int .u8 0) fun h2 =>
 Kr 0 h2
 else
 Kr 0 h1)
structure J2 (b0 : Option Addr) (s0 : ByteArray) (fin0 : Bool) (Kr : Int → HP) (E : VH) (H : Heap) : Prop where
  h : J2.vc b0 s0 fin0 Kr E H
def J1.vc (b0 : Option Addr) (s0 : ByteArray) (fin0 : Bool) (Kr : Int → HP) (E : VH) (h0 : Heap) : Prop :=
 nilc b0 fun a0 =>
 ldSl h0 (a0.add 1) fun x0 x1 x2 =>
 (0 : Int) ≤ (s0.size : Int) ∧ ((s0.size : Int) : Int) ≤ 9223372036854775807 ∧ ((s0.size : Int) : Int) * 1 ≤ 281474976710656 ∧
 appT 179 (.int .u8 0) x0 x1 (s0.size : Int).toNat x2 1 1 (zub (.int .u8 0) (s0.size : Int).toNat) (fun p0 n0 c0 h1 =>
 nilc b0 fun a1 =>
 stc h1 (a1.add 1) (.slice p0 n0 c0) fun h2 =>
 J2 b0 s0 fin0 Kr E h2) h0
structure J1 (b0 : Option Addr) (s0 : ByteArray) (fin0 : Bool) (Kr : Int → HP) (E : VH) (H : Heap) : Prop where
  h : J1.vc b0 s0 fin0 Kr E H
def vc (b0 : Option Addr) (s0 : ByteArray) (fin0 : Bool) (K : Int → HP) (E : VH) (h0 : Heap) : Prop :=
 nilc b0 fun a0 =>
 ldI h0 .u8 (a0.add 2) fun x0 =>
 (if (x0 != 3) = true then
 K 7 h0
 else
 nilc b0 fun a1 =>
 ldI h0 .i64 (a1.add 4) fun x1 =>
 (if (decide ((s0.size : Int) > (IntKind.i64.wrap (16384 - x1)))) = true then
 K 4 h0
 else
 nilc b0 fun a2 =>
 ldSl h0 (a2.add 0) fun x2 x3 x4 =>
 appT 5 (.int .u8 0) x2 x3 s0.size x4 1 1 (zxb s0) (fun p0 n0 c0 h1 =>
 nilc b0 fun a3 =>
 stc h1 (a3.add 0) (.slice p0 n0 c0) fun h2 =>
 J1 b0 s0 fin0 K E h2) h0))
structure c (b0 : Option Addr) (s0 : ByteArray) (fin0 : Bool) (K : Int → HP) (E : VH) (H : Heap) : Prop where
  h : vc b0 s0 fin0 (fun r0_0 H => ∃ H', Heap.Le H' H ∧ K r0_0 H') E H
def F : FT := fun args K E H => match args with
  | [(.pointer b0), (.string s0), (.bool fin0)] => c b0 s0 fin0 (fun r0_0 H => K (.int .i64 r0_0) H) E H
  | _ => False
noncomputable def Γ : FuncId → Option FT := Γof []
theorem hΓ : ∀ f F, Γ f = some F → zca Tryz.prog f F := Γof_ok (nilQ)
def J2.t : CT := fun Q E fr H => lenIs 54 fr (slP fr 0 fun b0 => slS fr 1 fun s0 => slB fr 2 fun fin0 => J2 b0 s0 fin0 (fun y6_0 H => Q .ret (mkF 54 [(6, (.int .i64 y6_0))]) H) E H)
theorem J2.ok : zaa Tryz.prog (sub [1, 1, 1, 1] body) J2.t := by
  refine zda (zea [] [6] (fun i => []) (zba hΓ Tryz.hm (.go) _ (of_eq_true (by kernel_rfl)))) fun Q E fr H h => ?_
  obtain ⟨hl, h⟩ := zga h
  obtain ⟨b0, q0, h⟩ := zja h
  obtain ⟨s0, q1, h⟩ := zfb h
  obtain ⟨fin0, q2, h⟩ := zwa h
  exact ⟨(mkF 54 [(0, (.pointer b0)), (1, (.string s0)), (2, (.bool fin0))]), fun a ha => ha.mk (Nat.le_of_eq hl.symm) (consQ q0 (consQ q1 (consQ q2 nilQ))), cast (by kernel_rfl) h.h⟩
def J1.t : CT := fun Q E fr H => lenIs 54 fr (slP fr 0 fun b0 => slS fr 1 fun s0 => slB fr 2 fun fin0 => J1 b0 s0 fin0 (fun y6_0 H => Q .ret (mkF 54 [(6, (.int .i64 y6_0))]) H) E H)
theorem J1.ok : zaa Tryz.prog (sub [1, 1, 1] body) J1.t := by
  refine zda (zea [] [6] (fun i => []) (zba hΓ Tryz.hm (.seq (.go) (.use J2.t)) _ (of_eq (show _ = (True ∧ (zaa Tryz.prog (sub [1, 1, 1, 1] body) J2.t)) by kernel_rfl) ⟨trivial, J2.ok⟩))) fun Q E fr H h => ?_
  obtain ⟨hl, h⟩ := zga h
  obtain ⟨b0, q0, h⟩ := zja h
  obtain ⟨s0, q1, h⟩ := zfb h
  obtain ⟨fin0, q2, h⟩ := zwa h
  exact ⟨(mkF 54 [(0, (.pointer b0)), (1, (.string s0)), (2, (.bool fin0))]), fun a ha => ha.mk (Nat.le_of_eq hl.symm) (consQ q0 (consQ q1 (consQ q2 nilQ))), cast (by kernel_rfl) h.h⟩
theorem ok : zca Tryz.prog 54 F := by
  refine zia hΓ (fn := Tryz.f54) (c := body) (by kernel_rfl) (by kernel_rfl) (by kernel_rfl) (zba hΓ Tryz.hm (.seq (.go) (.seq (.go) (.seq (.go) (.use J1.t)))) _ (of_eq (show _ = (True ∧ (True ∧ (True ∧ (zaa Tryz.prog (sub [1, 1, 1] body) J1.t)))) by kernel_rfl) ⟨trivial, ⟨trivial, ⟨trivial, J1.ok⟩⟩⟩)) fun _ K E H h => ?_
  unfold F at h
  split at h
  · exact cast (by kernel_rfl) h.h
  · exact h.elim
end zld
namespace zyd
noncomputable def body : Code := Tryz.f137.body.getD .skip
def W1.vc (b0 : Option Addr) (x0 : Option Addr) (x1 : Nat) (x2 : Nat) (x3 : Int) (x4 : Int) (Kx0 : HP) (Kr : Int → HP) (RR : Int → HP) (E : VH) (h0 : Heap) : Prop :=
 (if (decide (x4 < x3)) = true then
 nilc x0 fun a0 => (0 : Int) ≤ x4 ∧ x4 < (x1 : Int) ∧
 ldI h0 .u8 (a0.add (x4.toNat * 1)) fun x5 =>
 (if (x5 == 0) = true then
 Kr x4 h0
 else
 RR (IntKind.i64.wrap (x4 + 1)) h0)
 else
 Kx0 h0)
structure W1 (b0 : Option Addr) (x0 : Option Addr) (x1 : Nat) (x2 : Nat) (x3 : Int) (x4 : Int) (Kx0 : HP) (Kr : Int → HP) (E : VH) (H : Heap) : Prop where
  h : Loop (fun (RR : Int → HP) (s : Int) (H : Heap) => W1.vc b0 x0 x1 x2 x3 s Kx0 Kr (fun x4 H => RR (x4) H) E H) (x4) H
def vc (b0 : Option Addr) (K : Int → HP) (E : VH) (h0 : Heap) : Prop :=
 nilc b0 fun a0 =>
 ldSl h0 (a0.add 1) fun x0 x1 x2 =>
 W1 b0 x0 x1 x2 (x1 : Int) 0 (fun h1 =>
 nilc b0 fun a1 =>
 ldSl h1 (a1.add 1) fun x3 x4 x5 =>
 K (x4 : Int) h1) K E h0
structure c (b0 : Option Addr) (K : Int → HP) (E : VH) (H : Heap) : Prop where
  h : vc b0 (fun r0_0 H => ∃ H', Heap.Le H' H ∧ K r0_0 H') E H
def F : FT := fun args K E H => match args with
  | [(.pointer b0)] => c b0 (fun r0_0 H => K (.int .i64 r0_0) H) E H
  | _ => False
noncomputable def Γ : FuncId → Option FT := Γof []
theorem hΓ : ∀ f F, Γ f = some F → zca Tryz.prog f F := Γof_ok (nilQ)
def W1.t : CT := fun Q E fr H => lenIs 24 fr (slP fr 0 fun b0 => slSl fr 8 fun x0 x1 x2 => slI fr 9 .i64 fun x3 => slI fr 10 .i64 fun x4 => W1 b0 x0 x1 x2 x3 x4 (fun  H => Q (.exit 0) (mkF 24 [(0, (.pointer b0))]) H) (fun y2_0 H => Q .ret (mkF 24 [(2, (.int .i64 y2_0))]) H) E H)
theorem W1.ok : zaa Tryz.prog (sub [1, 0, 1, 0] body) W1.t := by
  have e : (sub [1, 0, 1, 0] body) = .loop (sub [1, 0, 1, 0, 0] body) := by kernel_rfl
  rw [e]
  refine zda (zqa (zea [0, 8, 9, 10] [2] (fun i => if i = 0 then [0] else []) (zba hΓ Tryz.hm (.go) _ (of_eq_true (by kernel_rfl))))) fun Q E fr H h => ?_
  obtain ⟨hl, h⟩ := zga h
  obtain ⟨b0, q0, h⟩ := zja h
  obtain ⟨x0, x1, x2, q8, h⟩ := zta h
  obtain ⟨x3, q9, h⟩ := zfa h
  obtain ⟨x4, q10, h⟩ := zfa h
  obtain ⟨m, h⟩ := h.h
  exact ⟨(mkF 24 [(0, (.pointer b0)), (8, (.slice x0 x1 x2)), (9, (.int .i64 x3)), (10, (.int .i64 x4))]), fun a ha => ha.mk (Nat.le_of_eq hl.symm) (consQ q0 (consQ q8 (consQ q9 (consQ q10 nilQ)))), m, cast (zib (B := (fun (RR : Int → HP) (s : Int) (H : Heap) => W1.vc b0 x0 x1 x2 x3 s (fun  H => Q (.exit 0) (mkF 24 [(0, (.pointer b0))]) H) (fun y2_0 H => Q .ret (mkF 24 [(2, (.int .i64 y2_0))]) H) (fun x4 H => RR (x4) H) E H)) (m := (fun (s : Int) => (mkF 24 [(0, (.pointer b0)), (8, (.slice x0 x1 x2)), (9, (.int .i64 x3)), (10, (.int .i64 s))]))) (Q := Q) (E := E) (fun RR s H => by kernel_rfl) m (x4) H) h⟩
theorem ok : zca Tryz.prog 137 F := by
  refine zia hΓ (fn := Tryz.f137) (c := body) (by kernel_rfl) (by kernel_rfl) (by kernel_rfl) (zba hΓ Tryz.hm (.seq (.go) (.seq (.seq (.go) (.block (.use W1.t))) (.go))) _ (of_eq (show _ = (True ∧ ((True ∧ (zaa Tryz.prog (sub [1, 0, 1, 0] body) W1.t)) ∧ True)) by kernel_rfl) ⟨trivial, ⟨⟨trivial, W1.ok⟩, trivial⟩⟩)) fun _ K E H h => ?_
  unfold F at h
  split at h
  · exact cast (by kernel_rfl) h.h
  · exact h.elim
end zyd
namespace zya
noncomputable def body : Code := Tryz.f94.body.getD .skip
def J1.vc (b0 : Option Addr) (x0 : Addr) (size0 : Int) (x1 : Bool) (Kn : HP) (Kr : Bool → HP) (E : VH) (h0 : Heap) : Prop :=
 (if x1 = true then
 stc h0 (x0.add 0) (.int .i64 0) fun h1 =>
 stc h1 (x0.add 1) (.string (⟨#[]⟩ : ByteArray)) fun h2 =>
 stc h2 (x0.add 2) (.bool false) fun h3 =>
 Kr false h3
 else
 Kn h0)
structure J1 (b0 : Option Addr) (x0 : Addr) (size0 : Int) (x1 : Bool) (Kn : HP) (Kr : Bool → HP) (E : VH) (H : Heap) : Prop where
  h : J1.vc b0 x0 size0 x1 Kn Kr E H
def J2.vc (b0 : Option Addr) (x0 : Addr) (size0 : Int) (Kr : Bool → HP) (E : VH) (h0 : Heap) : Prop :=
 nilc b0 fun a0 =>
 stc h0 (a0.add 2) (.int .u8 1) fun h1 =>
 stc h1 (x0.add 0) (.int .i64 size0) fun h2 =>
 stc h2 (x0.add 1) (.string (⟨#[]⟩ : ByteArray)) fun h3 =>
 stc h3 (x0.add 2) (.bool true) fun h4 =>
 Kr true h4
structure J2 (b0 : Option Addr) (x0 : Addr) (size0 : Int) (Kr : Bool → HP) (E : VH) (H : Heap) : Prop where
  h : J2.vc b0 x0 size0 Kr E H
def J4.vc (b0 : Option Addr) (most0 : Int) (x0 : Addr) (at0 : Int) (size0 : Int) (end0 : Int) (Kn : Int → HP) (E : VH) (h0 : Heap) : Prop :=
 nilc b0 fun a0 =>
 ldSl h0 (a0.add 1) fun x1 x2 x3 =>
 nilc x1 fun a1 => (0 : Int) ≤ end0 ∧ end0 < (x2 : Int) ∧
 stc h0 (a1.add (end0.toNat * 1)) (.int .u8 1) fun h1 =>
 Kn (IntKind.i64.wrap (end0 + 1)) h1
structure J4 (b0 : Option Addr) (most0 : Int) (x0 : Addr) (at0 : Int) (size0 : Int) (end0 : Int) (Kn : Int → HP) (E : VH) (H : Heap) : Prop where
  h : J4.vc b0 most0 x0 at0 size0 end0 Kn E H
def W3.vc (b0 : Option Addr) (most0 : Int) (x0 : Addr) (at0 : Int) (size0 : Int) (end0 : Int) (Kx0 : Int → HP) (RR : Int → HP) (E : VH) (h0 : Heap) : Prop :=
 (if (decide (end0 < size0)) = true then
 nilc b0 fun a0 =>
 ldI h0 .i64 (a0.add 3) fun x1 =>
 (if (decide (end0 < x1)) = true then
 (if (decide ((IntKind.i64.wrap (end0 - at0)) < most0)) = true then
 nilc b0 fun a1 =>
 ldSl h0 (a1.add 1) fun x2 x3 x4 =>
 nilc x2 fun a2 => (0 : Int) ≤ end0 ∧ end0 < (x3 : Int) ∧
 ldI h0 .u8 (a2.add (end0.toNat * 1)) fun x5 =>
 (if (x5 == 0) = true then
 J4 b0 most0 x0 at0 size0 end0 RR E h0
 else
 Kx0 end0 h0)
 else
 Kx0 end0 h0)
 else
 Kx0 end0 h0)
 else
 Kx0 end0 h0)
structure W3 (b0 : Option Addr) (most0 : Int) (x0 : Addr) (at0 : Int) (size0 : Int) (end0 : Int) (Kx0 : Int → HP) (E : VH) (H : Heap) : Prop where
  h : Loop (fun (RR : Int → HP) (s : Int) (H : Heap) => W3.vc b0 most0 x0 at0 size0 s Kx0 (fun end0 H => RR (end0) H) E H) (end0) H
def J6.vc (b0 : Option Addr) (x0 : Addr) (p0 : Addr) (x1 : Bool) (Kn : HP) (E : VH) (h0 : Heap) : Prop :=
 (if x1 = true then
 nilc b0 fun a0 =>
 stc h0 (a0.add 2) (.int .u8 1) fun h1 =>
 Kn h1
 else
 Kn h0)
structure J6 (b0 : Option Addr) (x0 : Addr) (p0 : Addr) (x1 : Bool) (Kn : HP) (E : VH) (H : Heap) : Prop where
  h : J6.vc b0 x0 p0 x1 Kn E H
def J7.vc (x0 : Addr) (p0 : Addr) (Kr : Bool → HP) (E : VH) (h0 : Heap) : Prop :=
 ldI h0 .i64 (p0.add 0) fun x1 => ldS h0 (p0.add 1) fun x2 => ldB h0 (p0.add 2) fun x3 =>
 stc h0 (x0.add 0) (.int .i64 x1) fun h1 =>
 stc h1 (x0.add 1) (.string x2) fun h2 =>
 stc h2 (x0.add 2) (.bool x3) fun h3 =>
 Kr true h3
structure J7 (x0 : Addr) (p0 : Addr) (Kr : Bool → HP) (E : VH) (H : Heap) : Prop where
  h : J7.vc x0 p0 Kr E H
def J5.vc (b0 : Option Addr) (x0 : Addr) (p0 : Addr) (Kr : Bool → HP) (E : VH) (h0 : Heap) : Prop :=
 ldB h0 (p0.add 2) fun x1 =>
 (if x1 = true then
 nilc b0 fun a0 =>
 ldI h0 .u8 (a0.add 2) fun x2 =>
 J6 b0 x0 p0 (x2 == 0) (fun h1 =>
 J7 x0 p0 Kr E h1) E h0
 else
 J6 b0 x0 p0 false (fun h3 =>
 J7 x0 p0 Kr E h3) E h0)
structure J5 (b0 : Option Addr) (x0 : Addr) (p0 : Addr) (Kr : Bool → HP) (E : VH) (H : Heap) : Prop where
  h : J5.vc b0 x0 p0 Kr E H
def vc (b0 : Option Addr) (most0 : Int) (K : Int → ByteArray → Bool → Bool → HP) (E : VH) (h0 : Heap) : Prop :=
 newB (.cells #[(.int .i64 0), (.string (⟨#[]⟩ : ByteArray)), (.bool false)] 152) (fun b1 h1 =>
 nilc b0 fun a0 =>
 ldSl h1 (a0.add 0) fun x0 x1 x2 =>
 zyd.c b0 (fun x3 h2 =>
 (eqv h2 h2 (some (.int .i64 (x1 : Int))) (.int .i64 (x1 : Int))) ∧
 (ldSl h2 (a0.add 0) fun x4 x5 x6 =>
 eqv h2 h2 (some (.slice x0 x1 x2)) (.slice x4 x5 x6)) ∧
 (if (x3 == (x1 : Int)) = true then
 nilc b0 fun a1 =>
 ldI h2 .u8 (a1.add 2) fun x7 =>
 (if (x7 != 0) = true then
 J1 b0 (⟨b1, 0, none⟩ : Addr) (x1 : Int) true (fun h3 =>
 J2 b0 (⟨b1, 0, none⟩ : Addr) (x1 : Int) (fun x8 h4 =>
 ldI h4 .i64 ((⟨b1, 0, none⟩ : Addr).add 0) fun r0 => ldS h4 ((⟨b1, 0, none⟩ : Addr).add 1) fun r1 => ldB h4 ((⟨b1, 0, none⟩ : Addr).add 2) fun r2 =>
 K r0 r1 r2 x8 h4) E h3) (fun x9 h5 =>
 ldI h5 .i64 ((⟨b1, 0, none⟩ : Addr).add 0) fun r3 => ldS h5 ((⟨b1, 0, none⟩ : Addr).add 1) fun r4 => ldB h5 ((⟨b1, 0, none⟩ : Addr).add 2) fun r5 =>
 K r3 r4 r5 x9 h5) E h2
 else
 nilc b0 fun a2 =>
 ldI h2 .i64 (a2.add 3) fun x10 =>
 J1 b0 (⟨b1, 0, none⟩ : Addr) (x1 : Int) (decide (x10 < (x1 : Int))) (fun h6 =>
 J2 b0 (⟨b1, 0, none⟩ : Addr) (x1 : Int) (fun x11 h7 =>
 ldI h7 .i64 ((⟨b1, 0, none⟩ : Addr).add 0) fun r6 => ldS h7 ((⟨b1, 0, none⟩ : Addr).add 1) fun r7 => ldB h7 ((⟨b1, 0, none⟩ : Addr).add 2) fun r8 =>
 K r6 r7 r8 x11 h7) E h6) (fun x12 h8 =>
 ldI h8 .i64 ((⟨b1, 0, none⟩ : Addr).add 0) fun r9 => ldS h8 ((⟨b1, 0, none⟩ : Addr).add 1) fun r10 => ldB h8 ((⟨b1, 0, none⟩ : Addr).add 2) fun r11 =>
 K r9 r10 r11 x12 h8) E h2)
 else
 W3 b0 most0 (⟨b1, 0, none⟩ : Addr) x3 (x1 : Int) x3 (fun end0 h9 =>
 (if (end0 == x3) = true then
 stc h9 ((⟨b1, 0, none⟩ : Addr).add 0) (.int .i64 0) fun h10 =>
 stc h10 ((⟨b1, 0, none⟩ : Addr).add 1) (.string (⟨#[]⟩ : ByteArray)) fun h11 =>
 stc h11 ((⟨b1, 0, none⟩ : Addr).add 2) (.bool false) fun h12 =>
 ldI h12 .i64 ((⟨b1, 0, none⟩ : Addr).add 0) fun r12 => ldS h12 ((⟨b1, 0, none⟩ : Addr).add 1) fun r13 => ldB h12 ((⟨b1, 0, none⟩ : Addr).add 2) fun r14 =>
 K r12 r13 r14 false h12
 else
 nilc b0 fun a3 =>
 ldSl h9 (a3.add 0) fun x13 x14 x15 =>
 (0 : Int) ≤ x3 ∧ x3 ≤ (end0 : Int) ∧ end0 ≤ (x15 : Int) ∧
 rdBytes h9 (slA x13 x15 x3.toNat 1) (end0.toNat - x3.toNat) fun x16 =>
 (if (end0 == (x1 : Int)) = true then
 nilc b0 fun a4 =>
 ldI h9 .u8 (a4.add 2) fun x17 =>
 newB (.cells #[(.int .i64 0), (.string (⟨#[]⟩ : ByteArray)), (.bool false)] 152) (fun b2 h13 =>
 (ldI h13 .u8 (a4.add 2) fun x18 =>
 eqv h13 h13 (some (.int .u8 x17)) (.int .u8 x18)) ∧
 (rdBytes h13 (slA x13 x15 x3.toNat 1) (end0.toNat - x3.toNat) fun x19 =>
 eqv h13 h13 (some (.string x16)) (.string x19)) ∧
 (ldSl h13 (a3.add 0) fun x20 x21 x22 =>
 eqv h13 h13 (some (.slice x13 x14 x15)) (.slice x20 x21 x22)) ∧
 stc h13 ((⟨b2, 0, none⟩ : Addr).add 0) (.int .i64 x3) fun h14 =>
 stc h14 ((⟨b2, 0, none⟩ : Addr).add 1) (.string x16) fun h15 =>
 stc h15 ((⟨b2, 0, none⟩ : Addr).add 2) (.bool (x17 != 3)) fun h16 =>
 J5 b0 (⟨b1, 0, none⟩ : Addr) (⟨b2, 0, none⟩ : Addr) (fun x23 h17 =>
 ldI h17 .i64 ((⟨b1, 0, none⟩ : Addr).add 0) fun r15 => ldS h17 ((⟨b1, 0, none⟩ : Addr).add 1) fun r16 => ldB h17 ((⟨b1, 0, none⟩ : Addr).add 2) fun r17 =>
 K r15 r16 r17 x23 h17) E h16) h9
 else
 newB (.cells #[(.int .i64 0), (.string (⟨#[]⟩ : ByteArray)), (.bool false)] 152) (fun b3 h18 =>
 True ∧
 (rdBytes h18 (slA x13 x15 x3.toNat 1) (end0.toNat - x3.toNat) fun x24 =>
 eqv h18 h18 (some (.string x16)) (.string x24)) ∧
 (ldSl h18 (a3.add 0) fun x25 x26 x27 =>
 eqv h18 h18 (some (.slice x13 x14 x15)) (.slice x25 x26 x27)) ∧
 stc h18 ((⟨b3, 0, none⟩ : Addr).add 0) (.int .i64 x3) fun h19 =>
 stc h19 ((⟨b3, 0, none⟩ : Addr).add 1) (.string x16) fun h20 =>
 stc h20 ((⟨b3, 0, none⟩ : Addr).add 2) (.bool false) fun h21 =>
 J5 b0 (⟨b1, 0, none⟩ : Addr) (⟨b3, 0, none⟩ : Addr) (fun x28 h22 =>
 ldI h22 .i64 ((⟨b1, 0, none⟩ : Addr).add 0) fun r18 => ldS h22 ((⟨b1, 0, none⟩ : Addr).add 1) fun r19 => ldB h22 ((⟨b1, 0, none⟩ : Addr).add 2) fun r20 =>
 K r18 r19 r20 x28 h22) E h21) h9))) E h2)) E h1) h0
structure c (b0 : Option Addr) (most0 : Int) (K : Int → ByteArray → Bool → Bool → HP) (E : VH) (H : Heap) : Prop where
  h : vc b0 most0 (fun r0_0 r0_1 r0_2 r1_0 H => ∃ H', Heap.Le H' H ∧ K r0_0 r0_1 r0_2 r1_0 H') E H
def F : FT := fun args K E H => match args with
  | [(.pointer b0), (.int .i64 most0)] => c b0 most0 (fun r0_0 r0_1 r0_2 r1_0 H => K (.tuple #[(.agg #[(.int .i64 r0_0), (.string r0_1), (.bool r0_2)]), (.bool r1_0)]) H) E H
  | _ => False
noncomputable def Γ : FuncId → Option FT := Γof [(137, zyd.F)]
theorem hΓ : ∀ f F, Γ f = some F → zca Tryz.prog f F := Γof_ok (consQ zyd.ok (nilQ))
def J1.t : CT := fun Q E fr H => lenIs 113 fr (slP fr 0 fun b0 => slPA fr 4 fun x0 => slI fr 7 .i64 fun size0 => slB fr 32 fun x1 => J1 b0 x0 size0 x1 (fun  H => Q .normal (mkF 113 [(0, (.pointer b0)), (4, (.pointer (some x0))), (7, (.int .i64 size0))]) H) (fun y5_0 H => Q .ret (mkF 113 [(4, (.pointer (some x0))), (5, (.bool y5_0))]) H) E H)
theorem J1.ok : zaa Tryz.prog (sub [1, 1, 0, 1, 0, 0, 1] body) J1.t := by
  refine zda (zea [0, 4, 7] [4, 5] (fun i => []) (zba hΓ Tryz.hm (.go) _ (of_eq_true (by kernel_rfl)))) fun Q E fr H h => ?_
  obtain ⟨hl, h⟩ := zga h
  obtain ⟨b0, q0, h⟩ := zja h
  obtain ⟨x0, q4, h⟩ := zua h
  obtain ⟨size0, q7, h⟩ := zfa h
  obtain ⟨x1, q32, h⟩ := zwa h
  exact ⟨(mkF 113 [(0, (.pointer b0)), (4, (.pointer (some x0))), (7, (.int .i64 size0)), (32, (.bool x1))]), fun a ha => ha.mk (Nat.le_of_eq hl.symm) (consQ q0 (consQ q4 (consQ q7 (consQ q32 nilQ)))), cast (by kernel_rfl) h.h⟩
def J2.t : CT := fun Q E fr H => lenIs 113 fr (slP fr 0 fun b0 => slPA fr 4 fun x0 => slI fr 7 .i64 fun size0 => J2 b0 x0 size0 (fun y5_0 H => Q .ret (mkF 113 [(4, (.pointer (some x0))), (5, (.bool y5_0))]) H) E H)
theorem J2.ok : zaa Tryz.prog (sub [1, 1, 0, 1, 0, 1] body) J2.t := by
  refine zda (zea [] [4, 5] (fun i => []) (zba hΓ Tryz.hm (.go) _ (of_eq_true (by kernel_rfl)))) fun Q E fr H h => ?_
  obtain ⟨hl, h⟩ := zga h
  obtain ⟨b0, q0, h⟩ := zja h
  obtain ⟨x0, q4, h⟩ := zua h
  obtain ⟨size0, q7, h⟩ := zfa h
  exact ⟨(mkF 113 [(0, (.pointer b0)), (4, (.pointer (some x0))), (7, (.int .i64 size0))]), fun a ha => ha.mk (Nat.le_of_eq hl.symm) (consQ q0 (consQ q4 (consQ q7 nilQ))), cast (by kernel_rfl) h.h⟩
def J4.t : CT := fun Q E fr H => lenIs 113 fr (slP fr 0 fun b0 => slI fr 1 .i64 fun most0 => slPA fr 4 fun x0 => slI fr 6 .i64 fun at0 => slI fr 7 .i64 fun size0 => slI fr 8 .i64 fun end0 => J4 b0 most0 x0 at0 size0 end0 (fun y8_0 H => Q .normal (mkF 113 [(0, (.pointer b0)), (1, (.int .i64 most0)), (4, (.pointer (some x0))), (6, (.int .i64 at0)), (7, (.int .i64 size0)), (8, (.int .i64 y8_0))]) H) E H)
theorem J4.ok : zaa Tryz.prog (sub [1, 1, 1, 1, 0, 0, 0, 1] body) J4.t := by
  refine zda (zea [0, 1, 4, 6, 7, 8] [] (fun i => []) (zba hΓ Tryz.hm (.go) _ (of_eq_true (by kernel_rfl)))) fun Q E fr H h => ?_
  obtain ⟨hl, h⟩ := zga h
  obtain ⟨b0, q0, h⟩ := zja h
  obtain ⟨most0, q1, h⟩ := zfa h
  obtain ⟨x0, q4, h⟩ := zua h
  obtain ⟨at0, q6, h⟩ := zfa h
  obtain ⟨size0, q7, h⟩ := zfa h
  obtain ⟨end0, q8, h⟩ := zfa h
  exact ⟨(mkF 113 [(0, (.pointer b0)), (1, (.int .i64 most0)), (4, (.pointer (some x0))), (6, (.int .i64 at0)), (7, (.int .i64 size0)), (8, (.int .i64 end0))]), fun a ha => ha.mk (Nat.le_of_eq hl.symm) (consQ q0 (consQ q1 (consQ q4 (consQ q6 (consQ q7 (consQ q8 nilQ)))))), cast (by kernel_rfl) h.h⟩
def W3.t : CT := fun Q E fr H => lenIs 113 fr (slP fr 0 fun b0 => slI fr 1 .i64 fun most0 => slPA fr 4 fun x0 => slI fr 6 .i64 fun at0 => slI fr 7 .i64 fun size0 => slI fr 8 .i64 fun end0 => W3 b0 most0 x0 at0 size0 end0 (fun y8_0 H => Q (.exit 0) (mkF 113 [(0, (.pointer b0)), (4, (.pointer (some x0))), (6, (.int .i64 at0)), (7, (.int .i64 size0)), (8, (.int .i64 y8_0))]) H) E H)
theorem W3.ok : zaa Tryz.prog (sub [1, 1, 1, 1, 0, 0] body) W3.t := by
  have e : (sub [1, 1, 1, 1, 0, 0] body) = .loop (sub [1, 1, 1, 1, 0, 0, 0] body) := by kernel_rfl
  rw [e]
  refine zda (zqa (zea [0, 1, 4, 6, 7, 8] [] (fun i => if i = 0 then [0, 4, 6, 7, 8] else []) (zba hΓ Tryz.hm (.seq (.go) (.use J4.t)) _ (of_eq (show _ = (True ∧ (zaa Tryz.prog (sub [1, 1, 1, 1, 0, 0, 0, 1] body) J4.t)) by kernel_rfl) ⟨trivial, J4.ok⟩)))) fun Q E fr H h => ?_
  obtain ⟨hl, h⟩ := zga h
  obtain ⟨b0, q0, h⟩ := zja h
  obtain ⟨most0, q1, h⟩ := zfa h
  obtain ⟨x0, q4, h⟩ := zua h
  obtain ⟨at0, q6, h⟩ := zfa h
  obtain ⟨size0, q7, h⟩ := zfa h
  obtain ⟨end0, q8, h⟩ := zfa h
  obtain ⟨m, h⟩ := h.h
  exact ⟨(mkF 113 [(0, (.pointer b0)), (1, (.int .i64 most0)), (4, (.pointer (some x0))), (6, (.int .i64 at0)), (7, (.int .i64 size0)), (8, (.int .i64 end0))]), fun a ha => ha.mk (Nat.le_of_eq hl.symm) (consQ q0 (consQ q1 (consQ q4 (consQ q6 (consQ q7 (consQ q8 nilQ)))))), m, cast (zib (B := (fun (RR : Int → HP) (s : Int) (H : Heap) => W3.vc b0 most0 x0 at0 size0 s (fun y8_0 H => Q (.exit 0) (mkF 113 [(0, (.pointer b0)), (4, (.pointer (some x0))), (6, (.int .i64 at0)), (7, (.int .i64 size0)), (8, (.int .i64 y8_0))]) H) (fun end0 H => RR (end0) H) E H)) (m := (fun (s : Int) => (mkF 113 [(0, (.pointer b0)), (1, (.int .i64 most0)), (4, (.pointer (some x0))), (6, (.int .i64 at0)), (7, (.int .i64 size0)), (8, (.int .i64 s))]))) (Q := Q) (E := E) (fun RR s H => by kernel_rfl) m (end0) H) h⟩
def J6.t : CT := fun Q E fr H => lenIs 113 fr (slP fr 0 fun b0 => slPA fr 4 fun x0 => slPA fr 9 fun p0 => slB fr 108 fun x1 => J6 b0 x0 p0 x1 (fun  H => Q .normal (mkF 113 [(4, (.pointer (some x0))), (9, (.pointer (some p0)))]) H) E H)
theorem J6.ok : zaa Tryz.prog (sub [1, 1, 1, 1, 1, 1, 1, 0, 1] body) J6.t := by
  refine zda (zea [4, 9] [] (fun i => []) (zba hΓ Tryz.hm (.go) _ (of_eq_true (by kernel_rfl)))) fun Q E fr H h => ?_
  obtain ⟨hl, h⟩ := zga h
  obtain ⟨b0, q0, h⟩ := zja h
  obtain ⟨x0, q4, h⟩ := zua h
  obtain ⟨p0, q9, h⟩ := zua h
  obtain ⟨x1, q108, h⟩ := zwa h
  exact ⟨(mkF 113 [(0, (.pointer b0)), (4, (.pointer (some x0))), (9, (.pointer (some p0))), (108, (.bool x1))]), fun a ha => ha.mk (Nat.le_of_eq hl.symm) (consQ q0 (consQ q4 (consQ q9 (consQ q108 nilQ)))), cast (by kernel_rfl) h.h⟩
def J7.t : CT := fun Q E fr H => lenIs 113 fr (slPA fr 4 fun x0 => slPA fr 9 fun p0 => J7 x0 p0 (fun y5_0 H => Q .ret (mkF 113 [(4, (.pointer (some x0))), (5, (.bool y5_0))]) H) E H)
theorem J7.ok : zaa Tryz.prog (sub [1, 1, 1, 1, 1, 1, 1, 1] body) J7.t := by
  refine zda (zea [] [4, 5] (fun i => []) (zba hΓ Tryz.hm (.go) _ (of_eq_true (by kernel_rfl)))) fun Q E fr H h => ?_
  obtain ⟨hl, h⟩ := zga h
  obtain ⟨x0, q4, h⟩ := zua h
  obtain ⟨p0, q9, h⟩ := zua h
  exact ⟨(mkF 113 [(4, (.pointer (some x0))), (9, (.pointer (some p0)))]), fun a ha => ha.mk (Nat.le_of_eq hl.symm) (consQ q4 (consQ q9 nilQ)), cast (by kernel_rfl) h.h⟩
def J5.t : CT := fun Q E fr H => lenIs 113 fr (slP fr 0 fun b0 => slPA fr 4 fun x0 => slPA fr 9 fun p0 => J5 b0 x0 p0 (fun y5_0 H => Q .ret (mkF 113 [(4, (.pointer (some x0))), (5, (.bool y5_0))]) H) E H)
theorem J5.ok : zaa Tryz.prog (sub [1, 1, 1, 1, 1, 1, 1] body) J5.t := by
  refine zda (zea [] [4, 5] (fun i => []) (zba hΓ Tryz.hm (.seq (.seq (.go) (.use J6.t)) (.use J7.t)) _ (of_eq (show _ = ((True ∧ (zaa Tryz.prog (sub [1, 1, 1, 1, 1, 1, 1, 0, 1] body) J6.t)) ∧ (zaa Tryz.prog (sub [1, 1, 1, 1, 1, 1, 1, 1] body) J7.t)) by kernel_rfl) ⟨⟨trivial, J6.ok⟩, J7.ok⟩))) fun Q E fr H h => ?_
  obtain ⟨hl, h⟩ := zga h
  obtain ⟨b0, q0, h⟩ := zja h
  obtain ⟨x0, q4, h⟩ := zua h
  obtain ⟨p0, q9, h⟩ := zua h
  exact ⟨(mkF 113 [(0, (.pointer b0)), (4, (.pointer (some x0))), (9, (.pointer (some p0)))]), fun a ha => ha.mk (Nat.le_of_eq hl.symm) (consQ q0 (consQ q4 (consQ q9 nilQ))), cast (by kernel_rfl) h.h⟩
theorem ok : zca Tryz.prog 94 F := by
  refine zia hΓ (fn := Tryz.f94) (c := body) (by kernel_rfl) (by kernel_rfl) (by kernel_rfl) (zba hΓ Tryz.hm (.seq (.go) (.seq (.draw ⟨[0, 1, 2, 3, 4, 5, 6, 7], (dl [(0, []), (2, []), (3, []), (4, []), (5, []), (6, []), (1, [0]), (7, [])] .fin), [8]⟩) (.seq (.seq (.go) (.cond (.seq (.seq (.go) (.use J1.t)) (.use J2.t)) (.go))) (.seq (.go) (.seq (.block (.use W3.t)) (.seq (.go) (.seq (.draw ⟨[0, 1, 2, 3, 4, 5, 6, 7, 8, 9, 10, 11, 12, 13, 14, 15, 16, 17, 18, 19, 20, 21], (dl [(0, []), (1, []), (2, []), (3, []), (4, []), (5, []), (6, []), (7, []), (8, []), (9, []), (10, []), (11, []), (12, []), (13, []), (14, []), (15, []), (16, []), (17, []), (18, []), (19, []), (20, []), (21, [20, 19, 12, 0, 1, 2, 3, 4, 5, 6, 7, 8, 9, 10, 11, 13, 14, 15, 16, 17, 18])] .fin), []⟩) (.use J5.t)))))))) _ (of_eq (show _ = (True ∧ (True ∧ ((True ∧ (((True ∧ (zaa Tryz.prog (sub [1, 1, 0, 1, 0, 0, 1] body) J1.t)) ∧ (zaa Tryz.prog (sub [1, 1, 0, 1, 0, 1] body) J2.t)) ∧ True)) ∧ (True ∧ ((zaa Tryz.prog (sub [1, 1, 1, 1, 0, 0] body) W3.t) ∧ (True ∧ (True ∧ (zaa Tryz.prog (sub [1, 1, 1, 1, 1, 1, 1] body) J5.t)))))))) by kernel_rfl) ⟨trivial, ⟨trivial, ⟨⟨trivial, ⟨⟨⟨trivial, J1.ok⟩, J2.ok⟩, trivial⟩⟩, ⟨trivial, ⟨W3.ok, ⟨trivial, ⟨trivial, J5.ok⟩⟩⟩⟩⟩⟩⟩)) fun _ K E H h => ?_
  unfold F at h
  split at h
  · exact cast (by kernel_rfl) h.h
  · exact h.elim
end zya
namespace replay_New
noncomputable def body : Code := Tryz.f71.body.getD .skip
def vc (K : Option Addr → HP) (E : VH) (h0 : Heap) : Prop :=
 newB (.cells #[(.int .i64 0), (.int .u64 0)] 223) (fun b0 h1 =>
 K (some (⟨b0, 0, none⟩ : Addr)) h1) h0
structure c (K : Option Addr → HP) (E : VH) (H : Heap) : Prop where
  h : vc  (fun r0_0 H => ∃ H', Heap.Le H' H ∧ K r0_0 H') E H
def F : FT := fun args K E H => match args with
  | [] => c  (fun r0_0 H => K (.pointer r0_0) H) E H
  | _ => False
noncomputable def Γ : FuncId → Option FT := Γof []
theorem hΓ : ∀ f F, Γ f = some F → zca Tryz.prog f F := Γof_ok (nilQ)
theorem ok : zca Tryz.prog 71 F := by
  refine zia hΓ (fn := Tryz.f71) (c := body) (by kernel_rfl) (by kernel_rfl) (by kernel_rfl) (zba hΓ Tryz.hm (.go) _ (of_eq_true (by kernel_rfl))) fun _ K E H h => ?_
  unfold F at h
  split at h
  · exact cast (by kernel_rfl) h.h
  · exact h.elim
end replay_New
namespace acks_New
noncomputable def body : Code := Tryz.f72.body.getD .skip
def vc (K : Option Addr → HP) (E : VH) (h0 : Heap) : Prop :=
 newB (.cells #[(.slice none 0 0)] 225) (fun b0 h1 =>
 K (some (⟨b0, 0, none⟩ : Addr)) h1) h0
structure c (K : Option Addr → HP) (E : VH) (H : Heap) : Prop where
  h : vc  (fun r0_0 H => ∃ H', Heap.Le H' H ∧ K r0_0 H') E H
def F : FT := fun args K E H => match args with
  | [] => c  (fun r0_0 H => K (.pointer r0_0) H) E H
  | _ => False
noncomputable def Γ : FuncId → Option FT := Γof []
theorem hΓ : ∀ f F, Γ f = some F → zca Tryz.prog f F := Γof_ok (nilQ)
theorem ok : zca Tryz.prog 72 F := by
  refine zia hΓ (fn := Tryz.f72) (c := body) (by kernel_rfl) (by kernel_rfl) (by kernel_rfl) (zba hΓ Tryz.hm (.go) _ (of_eq_true (by kernel_rfl))) fun _ K E H h => ?_
  unfold F at h
  split at h
  · exact cast (by kernel_rfl) h.h
  · exact h.elim
end acks_New
namespace ledger_New
noncomputable def body : Code := Tryz.f73.body.getD .skip
def vc (K : Option Addr → HP) (E : VH) (h0 : Heap) : Prop :=
 newB (.cells #[(.slice none 0 0), (.int .i64 (-1)), (.int .i64 12000), (.int .i64 1073741824), (.int .i64 (-1)), (.int .i64 0)] 159) (fun b0 h1 =>
 K (some (⟨b0, 0, none⟩ : Addr)) h1) h0
structure c (K : Option Addr → HP) (E : VH) (H : Heap) : Prop where
  h : vc  (fun r0_0 H => ∃ H', Heap.Le H' H ∧ K r0_0 H') E H
def F : FT := fun args K E H => match args with
  | [] => c  (fun r0_0 H => K (.pointer r0_0) H) E H
  | _ => False
noncomputable def Γ : FuncId → Option FT := Γof []
theorem hΓ : ∀ f F, Γ f = some F → zca Tryz.prog f F := Γof_ok (nilQ)
theorem ok : zca Tryz.prog 73 F := by
  refine zia hΓ (fn := Tryz.f73) (c := body) (by kernel_rfl) (by kernel_rfl) (by kernel_rfl) (zba hΓ Tryz.hm (.go) _ (of_eq_true (by kernel_rfl))) fun _ K E H h => ?_
  unfold F at h
  split at h
  · exact cast (by kernel_rfl) h.h
  · exact h.elim
end ledger_New
namespace zza
noncomputable def body : Code := Tryz.f109.body.getD .skip
def J1.vc (w0 : Option Addr) (n0 : Int) (x0 : Bool) (Kn : HP) (Kr : Int → HP) (E : VH) (h0 : Heap) : Prop :=
 (if x0 = true then
 Kr 2 h0
 else
 Kn h0)
structure J1 (w0 : Option Addr) (n0 : Int) (x0 : Bool) (Kn : HP) (Kr : Int → HP) (E : VH) (H : Heap) : Prop where
  h : J1.vc w0 n0 x0 Kn Kr E H
def J3.vc (w0 : Option Addr) (n0 : Int) (x0 : Bool) (Kn : HP) (Kr : Int → HP) (E : VH) (h0 : Heap) : Prop :=
 (if x0 = true then
 Kr 0 h0
 else
 Kn h0)
structure J3 (w0 : Option Addr) (n0 : Int) (x0 : Bool) (Kn : HP) (Kr : Int → HP) (E : VH) (H : Heap) : Prop where
  h : J3.vc w0 n0 x0 Kn Kr E H
def J5.vc (x0 : Bool) (Kn : HP) (Kr : Int → HP) (E : VH) (h0 : Heap) : Prop :=
 (if x0 = true then
 Kr 11 h0
 else
 Kn h0)
structure J5 (x0 : Bool) (Kn : HP) (Kr : Int → HP) (E : VH) (H : Heap) : Prop where
  h : J5.vc x0 Kn Kr E H
def J4.vc (w0 : Option Addr) (n0 : Int) (Kr : Int → HP) (E : VH) (h0 : Heap) : Prop :=
 nilc w0 fun a0 =>
 ldI h0 .i64 ((a0.add 0).add 0) fun x0 =>
 (if (decide ((IntKind.i64.wrap (x0 - n0)) ≥ 64)) = true then
 J5 true (fun h1 =>
 Kr 0 h1) Kr E h0
 else
 nilc w0 fun a1 =>
 ldI h0 .u64 ((a1.add 0).add 1) fun x2 =>
 (0 : Int) ≤ (IntKind.i64.wrap (x0 - n0)) ∧
 J5 ((bits .and .u64 (shrI .u64 x2 (IntKind.i64.wrap (x0 - n0))) 1) == 1) (fun h3 =>
 Kr 0 h3) Kr E h0)
structure J4 (w0 : Option Addr) (n0 : Int) (Kr : Int → HP) (E : VH) (H : Heap) : Prop where
  h : J4.vc w0 n0 Kr E H
def J2.vc (w0 : Option Addr) (n0 : Int) (Kr : Int → HP) (E : VH) (h0 : Heap) : Prop :=
 nilc w0 fun a0 =>
 ldI h0 .u64 ((a0.add 0).add 1) fun x0 =>
 (if (x0 == 0) = true then
 J3 w0 n0 true (fun h1 =>
 J4 w0 n0 Kr E h1) Kr E h0
 else
 nilc w0 fun a1 =>
 ldI h0 .i64 ((a1.add 0).add 0) fun x3 =>
 J3 w0 n0 (decide (n0 > x3)) (fun h4 =>
 J4 w0 n0 Kr E h4) Kr E h0)
structure J2 (w0 : Option Addr) (n0 : Int) (Kr : Int → HP) (E : VH) (H : Heap) : Prop where
  h : J2.vc w0 n0 Kr E H
def vc (w0 : Option Addr) (n0 : Int) (K : Int → HP) (E : VH) (h0 : Heap) : Prop :=
 (if (decide (n0 < 0)) = true then
 J1 w0 n0 true (fun h1 =>
 J2 w0 n0 K E h1) K E h0
 else
 J1 w0 n0 (decide (n0 > 4611686018427387903)) (fun h4 =>
 J2 w0 n0 K E h4) K E h0)
structure c (w0 : Option Addr) (n0 : Int) (K : Int → HP) (E : VH) (H : Heap) : Prop where
  h : vc w0 n0 (fun r0_0 H => ∃ H', Heap.Le H' H ∧ K r0_0 H') E H
def F : FT := fun args K E H => match args with
  | [(.pointer w0), (.int .i64 n0)] => c w0 n0 (fun r0_0 H => K (.int .i64 r0_0) H) E H
  | _ => False
noncomputable def Γ : FuncId → Option FT := Γof []
theorem hΓ : ∀ f F, Γ f = some F → zca Tryz.prog f F := Γof_ok (nilQ)
def J1.t : CT := fun Q E fr H => lenIs 47 fr (slP fr 0 fun w0 => slI fr 1 .i64 fun n0 => slB fr 11 fun x0 => J1 w0 n0 x0 (fun  H => Q .normal (mkF 47 [(0, (.pointer w0)), (1, (.int .i64 n0))]) H) (fun y4_0 H => Q .ret (mkF 47 [(4, (.int .i64 y4_0))]) H) E H)
theorem J1.ok : zaa Tryz.prog (sub [1, 0, 1] body) J1.t := by
  refine zda (zea [0, 1] [4] (fun i => []) (zba hΓ Tryz.hm (.go) _ (of_eq_true (by kernel_rfl)))) fun Q E fr H h => ?_
  obtain ⟨hl, h⟩ := zga h
  obtain ⟨w0, q0, h⟩ := zja h
  obtain ⟨n0, q1, h⟩ := zfa h
  obtain ⟨x0, q11, h⟩ := zwa h
  exact ⟨(mkF 47 [(0, (.pointer w0)), (1, (.int .i64 n0)), (11, (.bool x0))]), fun a ha => ha.mk (Nat.le_of_eq hl.symm) (consQ q0 (consQ q1 (consQ q11 nilQ))), cast (by kernel_rfl) h.h⟩
def J3.t : CT := fun Q E fr H => lenIs 47 fr (slP fr 0 fun w0 => slI fr 1 .i64 fun n0 => slB fr 26 fun x0 => J3 w0 n0 x0 (fun  H => Q .normal (mkF 47 [(0, (.pointer w0)), (1, (.int .i64 n0))]) H) (fun y4_0 H => Q .ret (mkF 47 [(4, (.int .i64 y4_0))]) H) E H)
theorem J3.ok : zaa Tryz.prog (sub [1, 1, 0, 1] body) J3.t := by
  refine zda (zea [0, 1] [4] (fun i => []) (zba hΓ Tryz.hm (.go) _ (of_eq_true (by kernel_rfl)))) fun Q E fr H h => ?_
  obtain ⟨hl, h⟩ := zga h
  obtain ⟨w0, q0, h⟩ := zja h
  obtain ⟨n0, q1, h⟩ := zfa h
  obtain ⟨x0, q26, h⟩ := zwa h
  exact ⟨(mkF 47 [(0, (.pointer w0)), (1, (.int .i64 n0)), (26, (.bool x0))]), fun a ha => ha.mk (Nat.le_of_eq hl.symm) (consQ q0 (consQ q1 (consQ q26 nilQ))), cast (by kernel_rfl) h.h⟩
def J5.t : CT := fun Q E fr H => lenIs 47 fr (slB fr 46 fun x0 => J5 x0 (fun  H => Q .normal (mkF 47 []) H) (fun y4_0 H => Q .ret (mkF 47 [(4, (.int .i64 y4_0))]) H) E H)
theorem J5.ok : zaa Tryz.prog (sub [1, 1, 1, 1, 0, 1] body) J5.t := by
  refine zda (zea [] [4] (fun i => []) (zba hΓ Tryz.hm (.go) _ (of_eq_true (by kernel_rfl)))) fun Q E fr H h => ?_
  obtain ⟨hl, h⟩ := zga h
  obtain ⟨x0, q46, h⟩ := zwa h
  exact ⟨(mkF 47 [(46, (.bool x0))]), fun a ha => ha.mk (Nat.le_of_eq hl.symm) (consQ q46 nilQ), cast (by kernel_rfl) h.h⟩
def J4.t : CT := fun Q E fr H => lenIs 47 fr (slP fr 0 fun w0 => slI fr 1 .i64 fun n0 => J4 w0 n0 (fun y4_0 H => Q .ret (mkF 47 [(4, (.int .i64 y4_0))]) H) E H)
theorem J4.ok : zaa Tryz.prog (sub [1, 1, 1] body) J4.t := by
  refine zda (zea [] [4] (fun i => []) (zba hΓ Tryz.hm (.seq (.go) (.seq (.seq (.go) (.use J5.t)) (.go))) _ (of_eq (show _ = (True ∧ ((True ∧ (zaa Tryz.prog (sub [1, 1, 1, 1, 0, 1] body) J5.t)) ∧ True)) by kernel_rfl) ⟨trivial, ⟨⟨trivial, J5.ok⟩, trivial⟩⟩))) fun Q E fr H h => ?_
  obtain ⟨hl, h⟩ := zga h
  obtain ⟨w0, q0, h⟩ := zja h
  obtain ⟨n0, q1, h⟩ := zfa h
  exact ⟨(mkF 47 [(0, (.pointer w0)), (1, (.int .i64 n0))]), fun a ha => ha.mk (Nat.le_of_eq hl.symm) (consQ q0 (consQ q1 nilQ)), cast (by kernel_rfl) h.h⟩
def J2.t : CT := fun Q E fr H => lenIs 47 fr (slP fr 0 fun w0 => slI fr 1 .i64 fun n0 => J2 w0 n0 (fun y4_0 H => Q .ret (mkF 47 [(4, (.int .i64 y4_0))]) H) E H)
theorem J2.ok : zaa Tryz.prog (sub [1, 1] body) J2.t := by
  refine zda (zea [] [4] (fun i => []) (zba hΓ Tryz.hm (.seq (.seq (.go) (.use J3.t)) (.use J4.t)) _ (of_eq (show _ = ((True ∧ (zaa Tryz.prog (sub [1, 1, 0, 1] body) J3.t)) ∧ (zaa Tryz.prog (sub [1, 1, 1] body) J4.t)) by kernel_rfl) ⟨⟨trivial, J3.ok⟩, J4.ok⟩))) fun Q E fr H h => ?_
  obtain ⟨hl, h⟩ := zga h
  obtain ⟨w0, q0, h⟩ := zja h
  obtain ⟨n0, q1, h⟩ := zfa h
  exact ⟨(mkF 47 [(0, (.pointer w0)), (1, (.int .i64 n0))]), fun a ha => ha.mk (Nat.le_of_eq hl.symm) (consQ q0 (consQ q1 nilQ)), cast (by kernel_rfl) h.h⟩
theorem ok : zca Tryz.prog 109 F := by
  refine zia hΓ (fn := Tryz.f109) (c := body) (by kernel_rfl) (by kernel_rfl) (by kernel_rfl) (zba hΓ Tryz.hm (.seq (.go) (.seq (.seq (.go) (.use J1.t)) (.use J2.t))) _ (of_eq (show _ = (True ∧ ((True ∧ (zaa Tryz.prog (sub [1, 0, 1] body) J1.t)) ∧ (zaa Tryz.prog (sub [1, 1] body) J2.t))) by kernel_rfl) ⟨trivial, ⟨⟨trivial, J1.ok⟩, J2.ok⟩⟩)) fun _ K E H h => ?_
  unfold F at h
  split at h
  · exact cast (by kernel_rfl) h.h
  · exact h.elim
end zza
namespace zed
noncomputable def body : Code := Tryz.f110.body.getD .skip
def J1.vc (w0 : Option Addr) (n0 : Int) (bits0 : Int) (Kn : HP) (E : VH) (h0 : Heap) : Prop :=
 nilc w0 fun a0 =>
 stc h0 ((a0.add 0).add 0) (.int .i64 n0) fun h1 =>
 stc h1 ((a0.add 0).add 1) (.int .u64 bits0) fun h2 =>
 Kn h2
structure J1 (w0 : Option Addr) (n0 : Int) (bits0 : Int) (Kn : HP) (E : VH) (H : Heap) : Prop where
  h : J1.vc w0 n0 bits0 Kn E H
def vc (w0 : Option Addr) (n0 : Int) (K : Int → HP) (E : VH) (h0 : Heap) : Prop :=
 zza.c w0 n0 (fun x0 h1 =>
 (if (x0 != 0) = true then
 K x0 h1
 else
 nilc w0 fun a0 =>
 ldI h1 .u64 ((a0.add 0).add 1) fun x1 =>
 (if (x1 == 0) = true then
 nilc w0 fun a1 =>
 stc h1 ((a1.add 0).add 0) (.int .i64 n0) fun h2 =>
 stc h2 ((a1.add 0).add 1) (.int .u64 1) fun h3 =>
 K 0 h3
 else
 nilc w0 fun a2 =>
 ldI h1 .i64 ((a2.add 0).add 0) fun x2 =>
 (if (decide (n0 > x2)) = true then
 nilc w0 fun a3 =>
 ldI h1 .i64 ((a3.add 0).add 0) fun x3 =>
 (if (decide ((IntKind.i64.wrap (n0 - x3)) < 64)) = true then
 nilc w0 fun a4 =>
 ldI h1 .u64 ((a4.add 0).add 1) fun x4 =>
 (0 : Int) ≤ (IntKind.i64.wrap (n0 - x3)) ∧
 J1 w0 n0 (bits .or .u64 1 (shlI .u64 x4 (IntKind.i64.wrap (n0 - x3)))) (fun h4 =>
 K 0 h4) E h1
 else
 J1 w0 n0 1 (fun h5 =>
 K 0 h5) E h1)
 else
 nilc w0 fun a5 =>
 ldI h1 .u64 ((a5.add 0).add 1) fun x5 =>
 nilc w0 fun a6 =>
 ldI h1 .i64 ((a6.add 0).add 0) fun x6 =>
 (0 : Int) ≤ (IntKind.i64.wrap (x6 - n0)) ∧
 nilc w0 fun a7 =>
 stc h1 ((a7.add 0).add 1) (.int .u64 (bits .or .u64 x5 (shlI .u64 1 (IntKind.i64.wrap (x6 - n0))))) fun h6 =>
 K 0 h6)))) E h0
structure c (w0 : Option Addr) (n0 : Int) (K : Int → HP) (E : VH) (H : Heap) : Prop where
  h : vc w0 n0 (fun r0_0 H => ∃ H', Heap.Le H' H ∧ K r0_0 H') E H
def F : FT := fun args K E H => match args with
  | [(.pointer w0), (.int .i64 n0)] => c w0 n0 (fun r0_0 H => K (.int .i64 r0_0) H) E H
  | _ => False
noncomputable def Γ : FuncId → Option FT := Γof [(109, zza.F)]
theorem hΓ : ∀ f F, Γ f = some F → zca Tryz.prog f F := Γof_ok (consQ zza.ok (nilQ))
def J1.t : CT := fun Q E fr H => lenIs 75 fr (slP fr 0 fun w0 => slI fr 1 .i64 fun n0 => slI fr 7 .u64 fun bits0 => J1 w0 n0 bits0 (fun  H => Q .normal (mkF 75 []) H) E H)
theorem J1.ok : zaa Tryz.prog (sub [1, 1, 0, 0, 1, 1, 1, 0, 1, 1, 1] body) J1.t := by
  refine zda (zea [] [] (fun i => []) (zba hΓ Tryz.hm (.go) _ (of_eq_true (by kernel_rfl)))) fun Q E fr H h => ?_
  obtain ⟨hl, h⟩ := zga h
  obtain ⟨w0, q0, h⟩ := zja h
  obtain ⟨n0, q1, h⟩ := zfa h
  obtain ⟨bits0, q7, h⟩ := zfa h
  exact ⟨(mkF 75 [(0, (.pointer w0)), (1, (.int .i64 n0)), (7, (.int .u64 bits0))]), fun a ha => ha.mk (Nat.le_of_eq hl.symm) (consQ q0 (consQ q1 (consQ q7 nilQ))), cast (by kernel_rfl) h.h⟩
theorem ok : zca Tryz.prog 110 F := by
  refine zia hΓ (fn := Tryz.f110) (c := body) (by kernel_rfl) (by kernel_rfl) (by kernel_rfl) (zba hΓ Tryz.hm (.seq (.go) (.seq (.go) (.seq (.block (.seq (.go) (.cond (.go) (.seq (.go) (.cond (.seq (.go) (.seq (.go) (.seq (.go) (.use J1.t)))) (.draw ⟨[0, 1, 2, 3, 4, 5, 6, 7, 8, 9, 10, 11, 12, 13, 14, 15, 16, 17], (dl [(0, []), (1, []), (2, []), (3, []), (4, []), (5, []), (6, []), (7, []), (8, []), (9, []), (10, []), (11, []), (12, []), (13, []), (14, []), (15, []), (16, []), (17, [16, 13, 0, 1, 2, 3, 4, 5, 6, 7, 8, 9, 10, 11, 12, 15, 14])] .fin), []⟩)))))) (.go)))) _ (of_eq (show _ = (True ∧ (True ∧ ((True ∧ (True ∧ (True ∧ ((True ∧ (True ∧ (True ∧ (zaa Tryz.prog (sub [1, 1, 0, 0, 1, 1, 1, 0, 1, 1, 1] body) J1.t)))) ∧ True)))) ∧ True))) by kernel_rfl) ⟨trivial, ⟨trivial, ⟨⟨trivial, ⟨trivial, ⟨trivial, ⟨⟨trivial, ⟨trivial, ⟨trivial, J1.ok⟩⟩⟩, trivial⟩⟩⟩⟩, trivial⟩⟩⟩)) fun _ K E H h => ?_
  unfold F at h
  split at h
  · exact cast (by kernel_rfl) h.h
  · exact h.elim
end zed
namespace acks_fine
noncomputable def body : Code := Tryz.f144.body.getD .skip
def vc (low0 : Int) (high0 : Int) (K : Bool → HP) (E : VH) (h0 : Heap) : Prop :=
 (if (decide (low0 ≥ 0)) = true then
 (if (decide (low0 ≤ high0)) = true then
 K (decide (high0 ≤ 4611686018427387903)) h0
 else
 K false h0)
 else
 K false h0)
structure c (low0 : Int) (high0 : Int) (K : Bool → HP) (E : VH) (H : Heap) : Prop where
  h : vc low0 high0 (fun r0_0 H => ∃ H', Heap.Le H' H ∧ K r0_0 H') E H
def F : FT := fun args K E H => match args with
  | [(.int .i64 low0), (.int .i64 high0)] => c low0 high0 (fun r0_0 H => K (.bool r0_0) H) E H
  | _ => False
noncomputable def Γ : FuncId → Option FT := Γof []
theorem hΓ : ∀ f F, Γ f = some F → zca Tryz.prog f F := Γof_ok (nilQ)
theorem ok : zca Tryz.prog 144 F := by
  refine zia hΓ (fn := Tryz.f144) (c := body) (by kernel_rfl) (by kernel_rfl) (by kernel_rfl) (zba hΓ Tryz.hm (.go) _ (of_eq_true (by kernel_rfl))) fun _ K E H h => ?_
  unfold F at h
  split at h
  · exact cast (by kernel_rfl) h.h
  · exact h.elim
end acks_fine
namespace zrf
noncomputable def body : Code := Tryz.f146.body.getD .skip
def vc (i0 : Int) (a0 : Addr) (a1 : Addr) (K : Bool → HP) (E : VH) (h0 : Heap) : Prop :=
 ldP h0 a0 fun x0 =>
 nilc x0 fun a2 =>
 ldSl h0 (a2.add 0) fun x1 x2 x3 =>
 nilc x1 fun a3 => (0 : Int) ≤ i0 ∧ i0 < (x2 : Int) ∧
 ldI h0 .i64 ((a3.add (i0.toNat * 2)).add 0) fun x4 =>
 ldI h0 .i64 a1 fun x5 =>
 (if (decide (x4 ≤ x5)) = true then
 K true h0
 else
 ldP h0 a0 fun x6 =>
 nilc x6 fun a4 =>
 ldSl h0 (a4.add 0) fun x7 x8 x9 =>
 nilc x7 fun a5 => (0 : Int) ≤ i0 ∧ i0 < (x8 : Int) ∧
 ldI h0 .i64 ((a5.add (i0.toNat * 2)).add 0) fun x10 =>
 ldI h0 .i64 a1 fun x11 =>
 K ((IntKind.i64.wrap (x10 - x11)) == 1) h0)
structure c (i0 : Int) (a0 : Addr) (a1 : Addr) (K : Bool → HP) (E : VH) (H : Heap) : Prop where
  h : vc i0 a0 a1 (fun r0_0 H => ∃ H', Heap.Le H' H ∧ K r0_0 H') E H
def F : FT := fun args K E H => match args with
  | [(.int .i64 i0), (.pointer (some a0)), (.pointer (some a1))] => c i0 a0 a1 (fun r0_0 H => K (.bool r0_0) H) E H
  | _ => False
noncomputable def Γ : FuncId → Option FT := Γof []
theorem hΓ : ∀ f F, Γ f = some F → zca Tryz.prog f F := Γof_ok (nilQ)
theorem ok : zca Tryz.prog 146 F := by
  refine zia hΓ (fn := Tryz.f146) (c := body) (by kernel_rfl) (by kernel_rfl) (by kernel_rfl) (zba hΓ Tryz.hm (.seq (.go) (.seq (.draw ⟨[0, 1, 2, 3, 4, 5, 6, 7, 8, 9, 10, 11, 12, 13, 14, 15, 16, 17, 18, 19, 20, 21, 22], (dl [(0, []), (1, []), (2, []), (3, []), (4, []), (5, []), (6, []), (7, []), (8, []), (9, []), (10, []), (11, []), (12, []), (13, []), (14, []), (15, []), (16, []), (17, []), (18, []), (19, []), (20, []), (21, []), (22, [])] .fin), [23]⟩) (.go))) _ (of_eq (show _ = (True ∧ (True ∧ True)) by kernel_rfl) ⟨trivial, ⟨trivial, trivial⟩⟩)) fun _ K E H h => ?_
  unfold F at h
  split at h
  · exact cast (by kernel_rfl) h.h
  · exact h.elim
end zrf
namespace zpf
noncomputable def body : Code := Tryz.f147.body.getD .skip
def vc (i0 : Int) (a0 : Addr) (a1 : Addr) (K : Bool → HP) (E : VH) (h0 : Heap) : Prop :=
 ldP h0 a0 fun x0 =>
 nilc x0 fun a2 =>
 ldSl h0 (a2.add 0) fun x1 x2 x3 =>
 nilc x1 fun a3 => (0 : Int) ≤ i0 ∧ i0 < (x2 : Int) ∧
 ldI h0 .i64 ((a3.add (i0.toNat * 2)).add 1) fun x4 =>
 ldI h0 .i64 a1 fun x5 =>
 (if (decide (x4 < x5)) = true then
 ldI h0 .i64 a1 fun x6 =>
 ldP h0 a0 fun x7 =>
 nilc x7 fun a4 =>
 ldSl h0 (a4.add 0) fun x8 x9 x10 =>
 nilc x8 fun a5 => (0 : Int) ≤ i0 ∧ i0 < (x9 : Int) ∧
 ldI h0 .i64 ((a5.add (i0.toNat * 2)).add 1) fun x11 =>
 K (decide ((IntKind.i64.wrap (x6 - x11)) > 1)) h0
 else
 K false h0)
structure c (i0 : Int) (a0 : Addr) (a1 : Addr) (K : Bool → HP) (E : VH) (H : Heap) : Prop where
  h : vc i0 a0 a1 (fun r0_0 H => ∃ H', Heap.Le H' H ∧ K r0_0 H') E H
def F : FT := fun args K E H => match args with
  | [(.int .i64 i0), (.pointer (some a0)), (.pointer (some a1))] => c i0 a0 a1 (fun r0_0 H => K (.bool r0_0) H) E H
  | _ => False
noncomputable def Γ : FuncId → Option FT := Γof []
theorem hΓ : ∀ f F, Γ f = some F → zca Tryz.prog f F := Γof_ok (nilQ)
theorem ok : zca Tryz.prog 147 F := by
  refine zia hΓ (fn := Tryz.f147) (c := body) (by kernel_rfl) (by kernel_rfl) (by kernel_rfl) (zba hΓ Tryz.hm (.seq (.go) (.seq (.draw ⟨[0, 1, 2, 3, 4, 5, 6, 7, 8, 9, 10, 11, 12, 13, 14, 15, 16, 17, 18, 19, 20, 21, 22], (dl [(0, []), (1, []), (2, []), (3, []), (4, []), (5, []), (6, []), (7, []), (8, []), (9, []), (10, []), (11, []), (12, []), (13, []), (14, []), (15, []), (16, []), (17, []), (18, []), (19, []), (20, []), (21, []), (22, [])] .fin), [23]⟩) (.go))) _ (of_eq (show _ = (True ∧ (True ∧ True)) by kernel_rfl) ⟨trivial, ⟨trivial, trivial⟩⟩)) fun _ K E H h => ?_
  unfold F at h
  split at h
  · exact cast (by kernel_rfl) h.h
  · exact h.elim
end zpf
namespace znc
noncomputable def body : Code := Tryz.f182.body.getD .skip
def vc (s0 : Option Addr) (s1 : Nat) (s2 : Nat) (i0 : Int) (v0 : Option Addr) (v1 : Nat) (v2 : Nat) (K : Option Addr → Nat → Nat → HP) (E : VH) (h0 : Heap) : Prop :=
 (0 : Int) ≤ i0 ∧ i0 ≤ (s1 : Int) ∧ s1 ≤ s2 ∧
 (if ((v1 : Int) == 0) = true then
 K s0 s1 s2 h0
 else
 (if (i0 == (s1 : Int)) = true then
 rdRow h0 v0 (v1 * 2) fun cs0 =>
 appT 251 (.agg #[(.int .i64 0), (.int .i64 0)]) s0 s1 v1 s2 2 16 cs0 (fun p0 n0 c0 h1 =>
 K p0 n0 c0 h1) h0
 else
 False))
structure c (s0 : Option Addr) (s1 : Nat) (s2 : Nat) (i0 : Int) (v0 : Option Addr) (v1 : Nat) (v2 : Nat) (K : Option Addr → Nat → Nat → HP) (E : VH) (H : Heap) : Prop where
  h : vc s0 s1 s2 i0 v0 v1 v2 (fun r0_0 r0_1 r0_2 H => ∃ H', Heap.Le H' H ∧ K r0_0 r0_1 r0_2 H') E H
def F : FT := fun args K E H => match args with
  | [(.slice s0 s1 s2), (.int .i64 i0), (.slice v0 v1 v2)] => c s0 s1 s2 i0 v0 v1 v2 (fun r0_0 r0_1 r0_2 H => K (.slice r0_0 r0_1 r0_2) H) E H
  | _ => False
noncomputable def Γ : FuncId → Option FT := Γof []
theorem hΓ : ∀ f F, Γ f = some F → zca Tryz.prog f F := Γof_ok (nilQ)
theorem ok : zca Tryz.prog 182 F := by
  refine zia hΓ (fn := Tryz.f182) (c := body) (by kernel_rfl) (by kernel_rfl) (by kernel_rfl) (zba hΓ Tryz.hm (.seq (.go) (.seq (.go) (.seq (.go) (.seq (.go) (.seq (.go) (.seq (.go) (.use deadT))))))) _ (of_eq (show _ = (True ∧ (True ∧ (True ∧ (True ∧ (True ∧ (True ∧ (zaa Tryz.prog (sub [1, 1, 1, 1, 1, 1] body) deadT))))))) by kernel_rfl) ⟨trivial, ⟨trivial, ⟨trivial, ⟨trivial, ⟨trivial, ⟨trivial, (zid _)⟩⟩⟩⟩⟩⟩)) fun _ K E H h => ?_
  unfold F at h
  split at h
  · exact cast (by kernel_rfl) h.h
  · exact h.elim
end znc
namespace zyb
noncomputable def body : Code := Tryz.f148.body.getD .skip
def J1.vc (s0 : Option Addr) (s1 : Nat) (s2 : Nat) (s20 : Option Addr) (s21 : Nat) (s22 : Nat) (Kr : Option Addr → Nat → Nat → HP) (E : VH) (h0 : Heap) : Prop :=
 (if (decide ((s21 : Int) < (s1 : Int))) = true then
 False
 else
 Kr s20 s21 s22 h0)
structure J1 (s0 : Option Addr) (s1 : Nat) (s2 : Nat) (s20 : Option Addr) (s21 : Nat) (s22 : Nat) (Kr : Option Addr → Nat → Nat → HP) (E : VH) (H : Heap) : Prop where
  h : J1.vc s0 s1 s2 s20 s21 s22 Kr E H
def vc (s0 : Option Addr) (s1 : Nat) (s2 : Nat) (i0 : Int) (j0 : Int) (v0 : Option Addr) (v1 : Nat) (v2 : Nat) (K : Option Addr → Nat → Nat → HP) (E : VH) (h0 : Heap) : Prop :=
 (0 : Int) ≤ i0 ∧ i0 ≤ (j0 : Int) ∧ j0 ≤ (s2 : Int) ∧
 (if (i0 == j0) = true then
 znc.c s0 s1 s2 i0 v0 v1 v2 K E h0
 else
 (if (j0 == (s1 : Int)) = true then
 (0 : Int) ≤ i0 ∧ i0 ≤ (s2 : Int) ∧
 rdRow h0 v0 (v1 * 2) fun cs0 =>
 appT 251 (.agg #[(.int .i64 0), (.int .i64 0)]) (slA s0 s2 0 2) i0.toNat v1 s2 2 16 cs0 (fun p0 n0 c0 h2 =>
 J1 s0 s1 s2 p0 n0 c0 K E h2) h0
 else
 False))
structure c (s0 : Option Addr) (s1 : Nat) (s2 : Nat) (i0 : Int) (j0 : Int) (v0 : Option Addr) (v1 : Nat) (v2 : Nat) (K : Option Addr → Nat → Nat → HP) (E : VH) (H : Heap) : Prop where
  h : vc s0 s1 s2 i0 j0 v0 v1 v2 (fun r0_0 r0_1 r0_2 H => ∃ H', Heap.Le H' H ∧ K r0_0 r0_1 r0_2 H') E H
def F : FT := fun args K E H => match args with
  | [(.slice s0 s1 s2), (.int .i64 i0), (.int .i64 j0), (.slice v0 v1 v2)] => c s0 s1 s2 i0 j0 v0 v1 v2 (fun r0_0 r0_1 r0_2 H => K (.slice r0_0 r0_1 r0_2) H) E H
  | _ => False
noncomputable def Γ : FuncId → Option FT := Γof [(182, znc.F)]
theorem hΓ : ∀ f F, Γ f = some F → zca Tryz.prog f F := Γof_ok (consQ znc.ok (nilQ))
def J1.t : CT := fun Q E fr H => lenIs 224 fr (slSl fr 0 fun s0 s1 s2 => slSl fr 9 fun s20 s21 s22 => J1 s0 s1 s2 s20 s21 s22 (fun y8_0 y8_1 y8_2 H => Q .ret (mkF 224 [(8, (.slice y8_0 y8_1 y8_2))]) H) E H)
theorem J1.ok : zaa Tryz.prog (sub [1, 1, 1, 0, 1, 0, 1] body) J1.t := by
  refine zda (zea [] [8] (fun i => []) (zba hΓ Tryz.hm (.seq (.seq (.go) (.cond (.use deadT) (.go))) (.go)) _ (of_eq (show _ = ((True ∧ ((zaa Tryz.prog (sub [1, 1, 1, 0, 1, 0, 1, 0, 1, 0] body) deadT) ∧ True)) ∧ True) by kernel_rfl) ⟨⟨trivial, ⟨(zid _), trivial⟩⟩, trivial⟩))) fun Q E fr H h => ?_
  obtain ⟨hl, h⟩ := zga h
  obtain ⟨s0, s1, s2, q0, h⟩ := zta h
  obtain ⟨s20, s21, s22, q9, h⟩ := zta h
  exact ⟨(mkF 224 [(0, (.slice s0 s1 s2)), (9, (.slice s20 s21 s22))]), fun a ha => ha.mk (Nat.le_of_eq hl.symm) (consQ q0 (consQ q9 nilQ)), cast (by kernel_rfl) h.h⟩
theorem ok : zca Tryz.prog 148 F := by
  refine zia hΓ (fn := Tryz.f148) (c := body) (by kernel_rfl) (by kernel_rfl) (by kernel_rfl) (zba hΓ Tryz.hm (.seq (.go) (.seq (.go) (.seq (.go) (.seq (.seq (.go) (.cond (.seq (.go) (.use J1.t)) (.go))) (.use deadT))))) _ (of_eq (show _ = (True ∧ (True ∧ (True ∧ ((True ∧ ((True ∧ (zaa Tryz.prog (sub [1, 1, 1, 0, 1, 0, 1] body) J1.t)) ∧ True)) ∧ (zaa Tryz.prog (sub [1, 1, 1, 1] body) deadT))))) by kernel_rfl) ⟨trivial, ⟨trivial, ⟨trivial, ⟨⟨trivial, ⟨⟨trivial, J1.ok⟩, trivial⟩⟩, (zid _)⟩⟩⟩⟩)) fun _ K E H h => ?_
  unfold F at h
  split at h
  · exact cast (by kernel_rfl) h.h
  · exact h.elim
end zyb
namespace zie
noncomputable def body : Code := Tryz.f145.body.getD .skip
def W1.vc (f0 : Addr) (f1 : Addr) (i0 : Int) (j0 : Int) (Kx0 : Int → HP) (RR : Int → Int → HP) (E : VH) (h0 : Heap) : Prop :=
 (if (decide (i0 < j0)) = true then
 (0 : Int) ≤ 1 ∧
 zrf.c (IntKind.i64.wrap (shrI .u64 (IntKind.u64.wrap (IntKind.i64.wrap (i0 + j0))) 1)) f0 f1 (fun x0 h1 =>
 (if (!x0) = true then
 RR (IntKind.i64.wrap ((IntKind.i64.wrap (shrI .u64 (IntKind.u64.wrap (IntKind.i64.wrap (i0 + j0))) 1)) + 1)) j0 h1
 else
 RR i0 (IntKind.i64.wrap (shrI .u64 (IntKind.u64.wrap (IntKind.i64.wrap (i0 + j0))) 1)) h1)) E h0
 else
 Kx0 i0 h0)
structure W1 (f0 : Addr) (f1 : Addr) (i0 : Int) (j0 : Int) (Kx0 : Int → HP) (E : VH) (H : Heap) : Prop where
  h : Loop (fun (RR : Int × Int → HP) (s : Int × Int) (H : Heap) => W1.vc f0 f1 s.1 s.2 Kx0 (fun i0 j0 H => RR (i0, j0) H) E H) (i0, j0) H
def vc (n0 : Int) (f0 : Addr) (f1 : Addr) (K : Int → HP) (E : VH) (h0 : Heap) : Prop :=
 W1 f0 f1 0 n0 K E h0
structure c (n0 : Int) (f0 : Addr) (f1 : Addr) (K : Int → HP) (E : VH) (H : Heap) : Prop where
  h : vc n0 f0 f1 (fun r0_0 H => ∃ H', Heap.Le H' H ∧ K r0_0 H') E H
def F : FT := fun args K E H => match args with
  | [(.int .i64 n0), (.func (.func 146) ⟨[]⟩ ⟨[(.pointer (some f0)), (.pointer (some f1))]⟩)] => c n0 f0 f1 (fun r0_0 H => K (.int .i64 r0_0) H) E H
  | _ => False
noncomputable def Γ : FuncId → Option FT := Γof [(146, zrf.F)]
theorem hΓ : ∀ f F, Γ f = some F → zca Tryz.prog f F := Γof_ok (consQ zrf.ok (nilQ))
def r1 (fr : Fr) (t : Nat) (K : Addr → Addr → Prop) : Prop :=
  match fr.getD t none with
  | some (.func (.func 146) ⟨[]⟩ ⟨[(.pointer (some x0)), (.pointer (some x1))]⟩) => K x0 x1
  | _ => False
theorem r1_elim {fr : Fr} {t : Nat} {K : Addr → Addr → Prop} (h : r1 fr t K) : ∃ x0 x1, fr.getD t none = some (.func (.func 146) #[] #[(.pointer (some x0)), (.pointer (some x1))]) ∧ K x0 x1 := by
  unfold r1 at h
  split at h
  · rename_i e; exact ⟨_, _, e, h⟩
  · exact h.elim
def W1.t : CT := fun Q E fr H => lenIs 26 fr (r1 fr 1 fun f0 f1 => slI fr 5 .i64 fun i0 => slI fr 6 .i64 fun j0 => W1 f0 f1 i0 j0 (fun y5_0 H => Q (.exit 0) (mkF 26 [(5, (.int .i64 y5_0))]) H) E H)
theorem W1.ok : zaa Tryz.prog (sub [1, 1, 0, 0] body) W1.t := by
  have e : (sub [1, 1, 0, 0] body) = .loop (sub [1, 1, 0, 0, 0] body) := by kernel_rfl
  rw [e]
  refine zda (zqa (zea [1, 5, 6] [] (fun i => if i = 0 then [5] else []) (zba hΓ Tryz.hm (.go) _ (of_eq_true (by kernel_rfl))))) fun Q E fr H h => ?_
  obtain ⟨hl, h⟩ := zga h
  obtain ⟨f0, f1, q1, h⟩ := r1_elim h
  obtain ⟨i0, q5, h⟩ := zfa h
  obtain ⟨j0, q6, h⟩ := zfa h
  obtain ⟨m, h⟩ := h.h
  exact ⟨(mkF 26 [(1, (.func (.func 146) #[] #[(.pointer (some f0)), (.pointer (some f1))])), (5, (.int .i64 i0)), (6, (.int .i64 j0))]), fun a ha => ha.mk (Nat.le_of_eq hl.symm) (consQ q1 (consQ q5 (consQ q6 nilQ))), m, cast (zib (B := (fun (RR : Int × Int → HP) (s : Int × Int) (H : Heap) => W1.vc f0 f1 s.1 s.2 (fun y5_0 H => Q (.exit 0) (mkF 26 [(5, (.int .i64 y5_0))]) H) (fun i0 j0 H => RR (i0, j0) H) E H)) (m := (fun (s : Int × Int) => (mkF 26 [(1, (.func (.func 146) #[] #[(.pointer (some f0)), (.pointer (some f1))])), (5, (.int .i64 s.1)), (6, (.int .i64 s.2))]))) (Q := Q) (E := E) (fun RR s H => by kernel_rfl) m (i0, j0) H) h⟩
theorem ok : zca Tryz.prog 145 F := by
  refine zia hΓ (fn := Tryz.f145) (c := body) (by kernel_rfl) (by kernel_rfl) (by kernel_rfl) (zba hΓ Tryz.hm (.seq (.go) (.seq (.go) (.seq (.block (.use W1.t)) (.go)))) _ (of_eq (show _ = (True ∧ (True ∧ ((zaa Tryz.prog (sub [1, 1, 0, 0] body) W1.t) ∧ True))) by kernel_rfl) ⟨trivial, ⟨trivial, ⟨W1.ok, trivial⟩⟩⟩)) fun _ K E H h => ?_
  unfold F at h
  split at h
  · exact cast (by kernel_rfl) h.h
  · exact h.elim
end zie
namespace zhe
noncomputable def body : Code := Tryz.f145.body.getD .skip
def W1.vc (f0 : Addr) (f1 : Addr) (i0 : Int) (j0 : Int) (Kx0 : Int → HP) (RR : Int → Int → HP) (E : VH) (h0 : Heap) : Prop :=
 (if (decide (i0 < j0)) = true then
 (0 : Int) ≤ 1 ∧
 zpf.c (IntKind.i64.wrap (shrI .u64 (IntKind.u64.wrap (IntKind.i64.wrap (i0 + j0))) 1)) f0 f1 (fun x0 h1 =>
 (if (!x0) = true then
 RR (IntKind.i64.wrap ((IntKind.i64.wrap (shrI .u64 (IntKind.u64.wrap (IntKind.i64.wrap (i0 + j0))) 1)) + 1)) j0 h1
 else
 RR i0 (IntKind.i64.wrap (shrI .u64 (IntKind.u64.wrap (IntKind.i64.wrap (i0 + j0))) 1)) h1)) E h0
 else
 Kx0 i0 h0)
structure W1 (f0 : Addr) (f1 : Addr) (i0 : Int) (j0 : Int) (Kx0 : Int → HP) (E : VH) (H : Heap) : Prop where
  h : Loop (fun (RR : Int × Int → HP) (s : Int × Int) (H : Heap) => W1.vc f0 f1 s.1 s.2 Kx0 (fun i0 j0 H => RR (i0, j0) H) E H) (i0, j0) H
def vc (n0 : Int) (f0 : Addr) (f1 : Addr) (K : Int → HP) (E : VH) (h0 : Heap) : Prop :=
 W1 f0 f1 0 n0 K E h0
structure c (n0 : Int) (f0 : Addr) (f1 : Addr) (K : Int → HP) (E : VH) (H : Heap) : Prop where
  h : vc n0 f0 f1 (fun r0_0 H => ∃ H', Heap.Le H' H ∧ K r0_0 H') E H
def F : FT := fun args K E H => match args with
  | [(.int .i64 n0), (.func (.func 147) ⟨[]⟩ ⟨[(.pointer (some f0)), (.pointer (some f1))]⟩)] => c n0 f0 f1 (fun r0_0 H => K (.int .i64 r0_0) H) E H
  | _ => False
noncomputable def Γ : FuncId → Option FT := Γof [(147, zpf.F)]
theorem hΓ : ∀ f F, Γ f = some F → zca Tryz.prog f F := Γof_ok (consQ zpf.ok (nilQ))
def r1 (fr : Fr) (t : Nat) (K : Addr → Addr → Prop) : Prop :=
  match fr.getD t none with
  | some (.func (.func 147) ⟨[]⟩ ⟨[(.pointer (some x0)), (.pointer (some x1))]⟩) => K x0 x1
  | _ => False
theorem r1_elim {fr : Fr} {t : Nat} {K : Addr → Addr → Prop} (h : r1 fr t K) : ∃ x0 x1, fr.getD t none = some (.func (.func 147) #[] #[(.pointer (some x0)), (.pointer (some x1))]) ∧ K x0 x1 := by
  unfold r1 at h
  split at h
  · rename_i e; exact ⟨_, _, e, h⟩
  · exact h.elim
def W1.t : CT := fun Q E fr H => lenIs 26 fr (r1 fr 1 fun f0 f1 => slI fr 5 .i64 fun i0 => slI fr 6 .i64 fun j0 => W1 f0 f1 i0 j0 (fun y5_0 H => Q (.exit 0) (mkF 26 [(5, (.int .i64 y5_0))]) H) E H)
theorem W1.ok : zaa Tryz.prog (sub [1, 1, 0, 0] body) W1.t := by
  have e : (sub [1, 1, 0, 0] body) = .loop (sub [1, 1, 0, 0, 0] body) := by kernel_rfl
  rw [e]
  refine zda (zqa (zea [1, 5, 6] [] (fun i => if i = 0 then [5] else []) (zba hΓ Tryz.hm (.go) _ (of_eq_true (by kernel_rfl))))) fun Q E fr H h => ?_
  obtain ⟨hl, h⟩ := zga h
  obtain ⟨f0, f1, q1, h⟩ := r1_elim h
  obtain ⟨i0, q5, h⟩ := zfa h
  obtain ⟨j0, q6, h⟩ := zfa h
  obtain ⟨m, h⟩ := h.h
  exact ⟨(mkF 26 [(1, (.func (.func 147) #[] #[(.pointer (some f0)), (.pointer (some f1))])), (5, (.int .i64 i0)), (6, (.int .i64 j0))]), fun a ha => ha.mk (Nat.le_of_eq hl.symm) (consQ q1 (consQ q5 (consQ q6 nilQ))), m, cast (zib (B := (fun (RR : Int × Int → HP) (s : Int × Int) (H : Heap) => W1.vc f0 f1 s.1 s.2 (fun y5_0 H => Q (.exit 0) (mkF 26 [(5, (.int .i64 y5_0))]) H) (fun i0 j0 H => RR (i0, j0) H) E H)) (m := (fun (s : Int × Int) => (mkF 26 [(1, (.func (.func 147) #[] #[(.pointer (some f0)), (.pointer (some f1))])), (5, (.int .i64 s.1)), (6, (.int .i64 s.2))]))) (Q := Q) (E := E) (fun RR s H => by kernel_rfl) m (i0, j0) H) h⟩
theorem ok : zca Tryz.prog 145 F := by
  refine zia hΓ (fn := Tryz.f145) (c := body) (by kernel_rfl) (by kernel_rfl) (by kernel_rfl) (zba hΓ Tryz.hm (.seq (.go) (.seq (.go) (.seq (.block (.use W1.t)) (.go)))) _ (of_eq (show _ = (True ∧ (True ∧ ((zaa Tryz.prog (sub [1, 1, 0, 0] body) W1.t) ∧ True))) by kernel_rfl) ⟨trivial, ⟨trivial, ⟨W1.ok, trivial⟩⟩⟩)) fun _ K E H h => ?_
  unfold F at h
  split at h
  · exact cast (by kernel_rfl) h.h
  · exact h.elim
end zhe
namespace zbe
noncomputable def body : Code := Tryz.f111.body.getD .skip
def J1.vc (s0 : Addr) (low0 : Addr) (high0 : Addr) (from0 : Int) (upto0 : Int) (Kr : Int → HP) (E : VH) (h0 : Heap) : Prop :=
 ldP h0 s0 fun x0 =>
 ldP h0 s0 fun x1 =>
 nilc x1 fun a0 =>
 ldSl h0 (a0.add 0) fun x2 x3 x4 =>
 ldI h0 .i64 low0 fun x5 =>
 ldI h0 .i64 high0 fun x6 =>
 newB (.cells #[(.int .i64 x5), (.int .i64 x6)] 251) (fun b0 h1 =>
 (eqv h1 h1 (some (.int .i64 (if upto0 > from0 then upto0 else from0))) (.int .i64 (if upto0 > from0 then upto0 else from0))) ∧
 (ldSl h1 (a0.add 0) fun x7 x8 x9 =>
 eqv h1 h1 (some (.slice x2 x3 x4)) (.slice x7 x8 x9)) ∧
 (ldP h1 s0 fun x10 =>
 eqv h1 h1 (some (.pointer x1)) (.pointer x10)) ∧
 (ldP h1 s0 fun x11 =>
 eqv h1 h1 (some (.pointer x0)) (.pointer x11)) ∧
 zyb.c x2 x3 x4 from0 (if upto0 > from0 then upto0 else from0) (some (⟨b0, 0, none⟩ : Addr)) 1 1 (fun x12 x13 x14 h2 =>
 (ldP h2 s0 fun x15 =>
 eqv h2 h2 (some (.pointer x0)) (.pointer x15)) ∧
 nilc x0 fun a1 =>
 stc h2 (a1.add 0) (.slice x12 x13 x14) fun h3 =>
 ldP h3 s0 fun x16 =>
 ldP h3 s0 fun x17 =>
 nilc x17 fun a2 =>
 ldSl h3 (a2.add 0) fun x18 x19 x20 =>
 ldP h3 s0 fun x21 =>
 nilc x21 fun a3 =>
 ldSl h3 (a3.add 0) fun x22 x23 x24 =>
 (0 : Int) ≤ (if (16 : Int) < (x23 : Int) then 16 else (x23 : Int)) ∧ (if (16 : Int) < (x23 : Int) then 16 else (x23 : Int)) ≤ (x20 : Int) ∧
 nilc x16 fun a4 =>
 stc h3 (a4.add 0) (.slice (slA x18 x20 0 2) (if (16 : Int) < (x23 : Int) then 16 else (x23 : Int)).toNat x20) fun h4 =>
 Kr 0 h4) E h1) h0
structure J1 (s0 : Addr) (low0 : Addr) (high0 : Addr) (from0 : Int) (upto0 : Int) (Kr : Int → HP) (E : VH) (H : Heap) : Prop where
  h : J1.vc s0 low0 high0 from0 upto0 Kr E H
def vc (s0 : Option Addr) (low0 : Int) (high0 : Int) (K : Int → HP) (E : VH) (h0 : Heap) : Prop :=
 newB (.cells #[(.pointer s0)] 65) (fun b0 h1 =>
 newB (.cells #[(.int .i64 low0)] 2) (fun b1 h2 =>
 newB (.cells #[(.int .i64 high0)] 2) (fun b2 h3 =>
 ldI h3 .i64 (⟨b1, 0, none⟩ : Addr) fun x0 =>
 ldI h3 .i64 (⟨b2, 0, none⟩ : Addr) fun x1 =>
 acks_fine.c x0 x1 (fun x2 h4 =>
 (if (!x2) = true then
 K 2 h4
 else
 ldP h4 (⟨b0, 0, none⟩ : Addr) fun x3 =>
 nilc x3 fun a0 =>
 ldSl h4 (a0.add 0) fun x4 x5 x6 =>
 zie.c (x5 : Int) (⟨b0, 0, none⟩ : Addr) (⟨b2, 0, none⟩ : Addr) (fun x7 h5 =>
 ldP h5 (⟨b0, 0, none⟩ : Addr) fun x8 =>
 nilc x8 fun a1 =>
 ldSl h5 (a1.add 0) fun x9 x10 x11 =>
 zhe.c (x10 : Int) (⟨b0, 0, none⟩ : Addr) (⟨b1, 0, none⟩ : Addr) (fun x12 h6 =>
 (if (decide (x7 < x12)) = true then
 ldI h6 .i64 (⟨b1, 0, none⟩ : Addr) fun x13 =>
 ldP h6 (⟨b0, 0, none⟩ : Addr) fun x14 =>
 nilc x14 fun a2 =>
 ldSl h6 (a2.add 0) fun x15 x16 x17 =>
 nilc x15 fun a3 => (0 : Int) ≤ (IntKind.i64.wrap (x12 - 1)) ∧ (IntKind.i64.wrap (x12 - 1)) < (x16 : Int) ∧
 ldI h6 .i64 ((a3.add ((IntKind.i64.wrap (x12 - 1)).toNat * 2)).add 0) fun x18 =>
 ldI h6 .i64 (⟨b2, 0, none⟩ : Addr) fun x19 =>
 ldP h6 (⟨b0, 0, none⟩ : Addr) fun x20 =>
 nilc x20 fun a4 =>
 ldSl h6 (a4.add 0) fun x21 x22 x23 =>
 nilc x21 fun a5 => (0 : Int) ≤ x7 ∧ x7 < (x22 : Int) ∧
 ldI h6 .i64 ((a5.add (x7.toNat * 2)).add 1) fun x24 =>
 stc h6 (⟨b1, 0, none⟩ : Addr) (.int .i64 (if x18 < x13 then x18 else x13)) fun h7 =>
 (eqv h7 h7 (some (.int .i64 (if x24 > x19 then x24 else x19))) (.int .i64 (if x24 > x19 then x24 else x19))) ∧
 (ldI h7 .i64 ((a5.add (x7.toNat * 2)).add 1) fun x25 =>
 eqv h7 h7 (some (.int .i64 x24)) (.int .i64 x25)) ∧
 (ldSl h7 (a4.add 0) fun x26 x27 x28 =>
 eqv h7 h7 (some (.slice x21 x22 x23)) (.slice x26 x27 x28)) ∧
 (ldP h7 (⟨b0, 0, none⟩ : Addr) fun x29 =>
 eqv h7 h7 (some (.pointer x20)) (.pointer x29)) ∧
 (ldI h7 .i64 (⟨b2, 0, none⟩ : Addr) fun x30 =>
 eqv h7 h7 (some (.int .i64 x19)) (.int .i64 x30)) ∧
 stc h7 (⟨b2, 0, none⟩ : Addr) (.int .i64 (if x24 > x19 then x24 else x19)) fun h8 =>
 J1 (⟨b0, 0, none⟩ : Addr) (⟨b1, 0, none⟩ : Addr) (⟨b2, 0, none⟩ : Addr) x7 x12 K E h8
 else
 J1 (⟨b0, 0, none⟩ : Addr) (⟨b1, 0, none⟩ : Addr) (⟨b2, 0, none⟩ : Addr) x7 x12 K E h6)) E h5) E h4)) E h3) h2) h1) h0
structure c (s0 : Option Addr) (low0 : Int) (high0 : Int) (K : Int → HP) (E : VH) (H : Heap) : Prop where
  h : vc s0 low0 high0 (fun r0_0 H => ∃ H', Heap.Le H' H ∧ K r0_0 H') E H
def F : FT := fun args K E H => match args with
  | [(.pointer s0), (.int .i64 low0), (.int .i64 high0)] => c s0 low0 high0 (fun r0_0 H => K (.int .i64 r0_0) H) E H
  | _ => False
def U145 : FT := fun args K E H => match args with
  | [(.int .i64 z0), (.func (.func 146) ⟨[]⟩ ⟨[(.pointer (some z1)), (.pointer (some z2))]⟩)] => zie.c z0 z1 z2 (fun r0_0 H => K (.int .i64 r0_0) H) E H
  | [(.int .i64 z0), (.func (.func 147) ⟨[]⟩ ⟨[(.pointer (some z1)), (.pointer (some z2))]⟩)] => zhe.c z0 z1 z2 (fun r0_0 H => K (.int .i64 r0_0) H) E H
  | _ => False
theorem U145ok : zca Tryz.prog 145 U145 := by
  intro args K E H w hS h
  unfold U145 at h
  split at h
  · exact zie.ok _ K E H w hS h
  · exact zhe.ok _ K E H w hS h
  · exact h.elim
noncomputable def Γ : FuncId → Option FT := Γof [(144, acks_fine.F), (145, U145), (148, zyb.F)]
theorem hΓ : ∀ f F, Γ f = some F → zca Tryz.prog f F := Γof_ok (consQ acks_fine.ok (consQ U145ok (consQ zyb.ok (nilQ))))
def J1.t : CT := fun Q E fr H => lenIs 81 fr (slPA fr 3 fun s0 => slPA fr 4 fun low0 => slPA fr 5 fun high0 => slI fr 7 .i64 fun from0 => slI fr 8 .i64 fun upto0 => J1 s0 low0 high0 from0 upto0 (fun y6_0 H => Q .ret (mkF 81 [(6, (.int .i64 y6_0))]) H) E H)
theorem J1.ok : zaa Tryz.prog (sub [1, 1, 1, 1, 1] body) J1.t := by
  refine zda (zea [] [6] (fun i => []) (zba hΓ Tryz.hm (.seq (.draw ⟨[0, 1, 2, 3, 4, 5, 6, 7, 8, 9, 10, 11, 12, 13, 14, 15, 16], (dl [(0, []), (1, []), (2, []), (3, []), (4, []), (5, []), (6, []), (7, []), (8, []), (9, []), (10, []), (11, []), (12, [11, 9, 10]), (13, [4, 5, 8, 12, 3, 6, 7, 11, 2, 9, 10, 1]), (14, []), (15, []), (16, [15, 13, 0, 1, 2, 3, 4, 5, 6, 7, 8, 9, 10, 11, 12, 14])] .fin), []⟩) (.seq (.draw ⟨[0, 1, 2, 3, 4, 5, 6, 7, 8, 9, 10, 11, 12, 13, 14], (dl [(0, []), (1, []), (2, []), (3, []), (4, []), (5, []), (6, []), (7, []), (8, []), (9, []), (10, []), (11, []), (12, []), (13, []), (14, [13, 11, 0, 1, 2, 3, 4, 5, 6, 7, 8, 9, 10, 12])] .fin), []⟩) (.go))) _ (of_eq (show _ = (True ∧ (True ∧ True)) by kernel_rfl) ⟨trivial, ⟨trivial, trivial⟩⟩))) fun Q E fr H h => ?_
  obtain ⟨hl, h⟩ := zga h
  obtain ⟨s0, q3, h⟩ := zua h
  obtain ⟨low0, q4, h⟩ := zua h
  obtain ⟨high0, q5, h⟩ := zua h
  obtain ⟨from0, q7, h⟩ := zfa h
  obtain ⟨upto0, q8, h⟩ := zfa h
  exact ⟨(mkF 81 [(3, (.pointer (some s0))), (4, (.pointer (some low0))), (5, (.pointer (some high0))), (7, (.int .i64 from0)), (8, (.int .i64 upto0))]), fun a ha => ha.mk (Nat.le_of_eq hl.symm) (consQ q3 (consQ q4 (consQ q5 (consQ q7 (consQ q8 nilQ))))), cast (by kernel_rfl) h.h⟩
theorem ok : zca Tryz.prog 111 F := by
  refine zia hΓ (fn := Tryz.f111) (c := body) (by kernel_rfl) (by kernel_rfl) (by kernel_rfl) (zba hΓ Tryz.hm (.seq (.go) (.seq (.go) (.seq (.go) (.seq (.go) (.seq (.seq (.go) (.cond (.draw ⟨[0, 1, 2, 3, 4, 5, 6, 7, 8, 9, 10, 11, 12, 13, 14, 15, 16, 17, 18, 19, 20, 21, 22], (dl [(0, []), (1, []), (2, []), (3, []), (4, []), (5, []), (6, []), (7, []), (8, []), (9, []), (10, []), (11, []), (12, []), (13, []), (14, []), (15, []), (16, []), (17, []), (18, []), (19, []), (20, []), (21, [10, 0, 1, 2, 3, 4, 5, 6, 7, 8, 9]), (22, [20, 21, 0, 1, 2, 3, 4, 5, 6, 7, 8, 9, 10, 11, 12, 13, 14, 15, 16, 17, 18, 19])] .fin), []⟩) (.go))) (.use J1.t)))))) _ (of_eq (show _ = (True ∧ (True ∧ (True ∧ (True ∧ ((True ∧ (True ∧ True)) ∧ (zaa Tryz.prog (sub [1, 1, 1, 1, 1] body) J1.t)))))) by kernel_rfl) ⟨trivial, ⟨trivial, ⟨trivial, ⟨trivial, ⟨⟨trivial, ⟨trivial, trivial⟩⟩, J1.ok⟩⟩⟩⟩⟩)) fun _ K E H h => ?_
  unfold F at h
  split at h
  · exact cast (by kernel_rfl) h.h
  · exact h.elim
end zbe
namespace zpe
noncomputable def body : Code := Tryz.f87.body.getD .skip
def vc (l0 : Option Addr) (K : Int → HP) (E : VH) (h0 : Heap) : Prop :=
 nilc l0 fun a0 =>
 ldI h0 .i64 (a0.add 5) fun x0 =>
 (0 : Int) ≤ x0 ∧
 K (shlI .i64 8 x0) h0
structure c (l0 : Option Addr) (K : Int → HP) (E : VH) (H : Heap) : Prop where
  h : vc l0 (fun r0_0 H => ∃ H', Heap.Le H' H ∧ K r0_0 H') E H
def F : FT := fun args K E H => match args with
  | [(.pointer l0)] => c l0 (fun r0_0 H => K (.int .i64 r0_0) H) E H
  | _ => False
noncomputable def Γ : FuncId → Option FT := Γof []
theorem hΓ : ∀ f F, Γ f = some F → zca Tryz.prog f F := Γof_ok (nilQ)
theorem ok : zca Tryz.prog 87 F := by
  refine zia hΓ (fn := Tryz.f87) (c := body) (by kernel_rfl) (by kernel_rfl) (by kernel_rfl) (zba hΓ Tryz.hm (.go) _ (of_eq_true (by kernel_rfl))) fun _ K E H h => ?_
  unfold F at h
  split at h
  · exact cast (by kernel_rfl) h.h
  · exact h.elim
end zpe
namespace zee
noncomputable def body : Code := Tryz.f86.body.getD .skip
def vc (p0 : Int) (p1 : Int) (p2 : Int) (a0 : Addr) (a1 : Addr) (K : Bool → HP) (E : VH) (h0 : Heap) : Prop :=
 newB (.cells #[(.int .i64 p0), (.int .i64 p1), (.int .i64 p2)] 157) (fun b0 h1 =>
 ldI h1 .i64 a0 fun x0 =>
 ldI h1 .i64 ((⟨b0, 0, none⟩ : Addr).add 1) fun x1 =>
 (if (decide (x0 > x1)) = true then
 ldI h1 .i64 a0 fun x2 =>
 ldI h1 .i64 ((⟨b0, 0, none⟩ : Addr).add 1) fun x3 =>
 ldP h1 a1 fun x4 =>
 zpe.c x4 (fun x5 h2 =>
 (eqv h2 h2 (some (.int .u64 (IntKind.u64.wrap x3))) (.int .u64 (IntKind.u64.wrap x3))) ∧
 (ldI h2 .i64 ((⟨b0, 0, none⟩ : Addr).add 1) fun x6 =>
 eqv h2 h2 (some (.int .i64 x3)) (.int .i64 x6)) ∧
 (eqv h2 h2 (some (.int .u64 (IntKind.u64.wrap x2))) (.int .u64 (IntKind.u64.wrap x2))) ∧
 (ldI h2 .i64 a0 fun x7 =>
 eqv h2 h2 (some (.int .i64 x2)) (.int .i64 x7)) ∧
 K (decide ((IntKind.u64.wrap ((IntKind.u64.wrap x2) - (IntKind.u64.wrap x3))) ≥ (IntKind.u64.wrap x5))) h2) E h1
 else
 True ∧
 True ∧
 True ∧
 True ∧
 K false h1)) h0
structure c (p0 : Int) (p1 : Int) (p2 : Int) (a0 : Addr) (a1 : Addr) (K : Bool → HP) (E : VH) (H : Heap) : Prop where
  h : vc p0 p1 p2 a0 a1 (fun r0_0 H => ∃ H', Heap.Le H' H ∧ K r0_0 H') E H
def F : FT := fun args K E H => match args with
  | [(.agg ⟨[(.int .i64 p0), (.int .i64 p1), (.int .i64 p2)]⟩), (.pointer (some a0)), (.pointer (some a1))] => c p0 p1 p2 a0 a1 (fun r0_0 H => K (.bool r0_0) H) E H
  | _ => False
noncomputable def Γ : FuncId → Option FT := Γof [(87, zpe.F)]
theorem hΓ : ∀ f F, Γ f = some F → zca Tryz.prog f F := Γof_ok (consQ zpe.ok (nilQ))
theorem ok : zca Tryz.prog 86 F := by
  refine zia hΓ (fn := Tryz.f86) (c := body) (by kernel_rfl) (by kernel_rfl) (by kernel_rfl) (zba hΓ Tryz.hm (.seq (.go) (.seq (.draw ⟨[0, 1, 2, 3, 4, 5, 6, 7, 8, 9, 10, 11, 12, 13, 14, 15], (dl [(0, []), (1, []), (2, []), (3, []), (4, []), (5, []), (6, []), (7, []), (8, []), (9, []), (10, []), (11, []), (12, [11, 4, 3, 0, 2, 1]), (13, []), (14, []), (15, [])] .fin), [16]⟩) (.go))) _ (of_eq (show _ = (True ∧ (True ∧ True)) by kernel_rfl) ⟨trivial, ⟨trivial, trivial⟩⟩)) fun _ K E H h => ?_
  unfold F at h
  split at h
  · exact cast (by kernel_rfl) h.h
  · exact h.elim
end zee
namespace zmb
noncomputable def body : Code := Tryz.f132.body.getD .skip
def W1.vc (s0 : Option Addr) (s1 : Nat) (s2 : Nat) (f0 : Addr) (f1 : Addr) (x0 : Int) (x1 : Int) (Kx0 : HP) (Kr : Int → HP) (RR : Int → HP) (E : VH) (h0 : Heap) : Prop :=
 (if (decide (x1 < x0)) = true then
 nilc s0 fun a0 => (0 : Int) ≤ x1 ∧ x1 < (s1 : Int) ∧
 ldI h0 .i64 ((a0.add (x1.toNat * 3)).add 0) fun x2 => ldI h0 .i64 ((a0.add (x1.toNat * 3)).add 1) fun x3 => ldI h0 .i64 ((a0.add (x1.toNat * 3)).add 2) fun x4 =>
 zee.c x2 x3 x4 f0 f1 (fun x5 h1 =>
 (if x5 = true then
 Kr x1 h1
 else
 RR (IntKind.i64.wrap (x1 + 1)) h1)) E h0
 else
 Kx0 h0)
structure W1 (s0 : Option Addr) (s1 : Nat) (s2 : Nat) (f0 : Addr) (f1 : Addr) (x0 : Int) (x1 : Int) (Kx0 : HP) (Kr : Int → HP) (E : VH) (H : Heap) : Prop where
  h : Loop (fun (RR : Int → HP) (s : Int) (H : Heap) => W1.vc s0 s1 s2 f0 f1 x0 s Kx0 Kr (fun x1 H => RR (x1) H) E H) (x1) H
def vc (s0 : Option Addr) (s1 : Nat) (s2 : Nat) (f0 : Addr) (f1 : Addr) (K : Int → HP) (E : VH) (h0 : Heap) : Prop :=
 W1 s0 s1 s2 f0 f1 (s1 : Int) 0 (fun h1 =>
 K (-1) h1) K E h0
structure c (s0 : Option Addr) (s1 : Nat) (s2 : Nat) (f0 : Addr) (f1 : Addr) (K : Int → HP) (E : VH) (H : Heap) : Prop where
  h : vc s0 s1 s2 f0 f1 (fun r0_0 H => ∃ H', Heap.Le H' H ∧ K r0_0 H') E H
def F : FT := fun args K E H => match args with
  | [(.slice s0 s1 s2), (.func (.func 86) ⟨[]⟩ ⟨[(.pointer (some f0)), (.pointer (some f1))]⟩)] => c s0 s1 s2 f0 f1 (fun r0_0 H => K (.int .i64 r0_0) H) E H
  | _ => False
noncomputable def Γ : FuncId → Option FT := Γof [(86, zee.F)]
theorem hΓ : ∀ f F, Γ f = some F → zca Tryz.prog f F := Γof_ok (consQ zee.ok (nilQ))
def r1 (fr : Fr) (t : Nat) (K : Addr → Addr → Prop) : Prop :=
  match fr.getD t none with
  | some (.func (.func 86) ⟨[]⟩ ⟨[(.pointer (some x0)), (.pointer (some x1))]⟩) => K x0 x1
  | _ => False
theorem r1_elim {fr : Fr} {t : Nat} {K : Addr → Addr → Prop} (h : r1 fr t K) : ∃ x0 x1, fr.getD t none = some (.func (.func 86) #[] #[(.pointer (some x0)), (.pointer (some x1))]) ∧ K x0 x1 := by
  unfold r1 at h
  split at h
  · rename_i e; exact ⟨_, _, e, h⟩
  · exact h.elim
def W1.t : CT := fun Q E fr H => lenIs 19 fr (slSl fr 0 fun s0 s1 s2 => r1 fr 1 fun f0 f1 => slI fr 7 .i64 fun x0 => slI fr 8 .i64 fun x1 => W1 s0 s1 s2 f0 f1 x0 x1 (fun  H => Q (.exit 0) (mkF 19 []) H) (fun y4_0 H => Q .ret (mkF 19 [(4, (.int .i64 y4_0))]) H) E H)
theorem W1.ok : zaa Tryz.prog (sub [1, 0, 1, 0] body) W1.t := by
  have e : (sub [1, 0, 1, 0] body) = .loop (sub [1, 0, 1, 0, 0] body) := by kernel_rfl
  rw [e]
  refine zda (zqa (zea [0, 1, 7, 8] [4] (fun i => if i = 0 then [] else []) (zba hΓ Tryz.hm (.go) _ (of_eq_true (by kernel_rfl))))) fun Q E fr H h => ?_
  obtain ⟨hl, h⟩ := zga h
  obtain ⟨s0, s1, s2, q0, h⟩ := zta h
  obtain ⟨f0, f1, q1, h⟩ := r1_elim h
  obtain ⟨x0, q7, h⟩ := zfa h
  obtain ⟨x1, q8, h⟩ := zfa h
  obtain ⟨m, h⟩ := h.h
  exact ⟨(mkF 19 [(0, (.slice s0 s1 s2)), (1, (.func (.func 86) #[] #[(.pointer (some f0)), (.pointer (some f1))])), (7, (.int .i64 x0)), (8, (.int .i64 x1))]), fun a ha => ha.mk (Nat.le_of_eq hl.symm) (consQ q0 (consQ q1 (consQ q7 (consQ q8 nilQ)))), m, cast (zib (B := (fun (RR : Int → HP) (s : Int) (H : Heap) => W1.vc s0 s1 s2 f0 f1 x0 s (fun  H => Q (.exit 0) (mkF 19 []) H) (fun y4_0 H => Q .ret (mkF 19 [(4, (.int .i64 y4_0))]) H) (fun x1 H => RR (x1) H) E H)) (m := (fun (s : Int) => (mkF 19 [(0, (.slice s0 s1 s2)), (1, (.func (.func 86) #[] #[(.pointer (some f0)), (.pointer (some f1))])), (7, (.int .i64 x0)), (8, (.int .i64 s))]))) (Q := Q) (E := E) (fun RR s H => by kernel_rfl) m (x1) H) h⟩
theorem ok : zca Tryz.prog 132 F := by
  refine zia hΓ (fn := Tryz.f132) (c := body) (by kernel_rfl) (by kernel_rfl) (by kernel_rfl) (zba hΓ Tryz.hm (.seq (.go) (.seq (.seq (.go) (.block (.use W1.t))) (.go))) _ (of_eq (show _ = (True ∧ ((True ∧ (zaa Tryz.prog (sub [1, 0, 1, 0] body) W1.t)) ∧ True)) by kernel_rfl) ⟨trivial, ⟨⟨trivial, W1.ok⟩, trivial⟩⟩)) fun _ K E H h => ?_
  unfold F at h
  split at h
  · exact cast (by kernel_rfl) h.h
  · exact h.elim
end zmb
namespace zqb
noncomputable def body : Code := Tryz.f85.body.getD .skip
def vc (s0 : Option Addr) (s1 : Nat) (s2 : Nat) (f0 : Addr) (f1 : Addr) (K : Bool → HP) (E : VH) (h0 : Heap) : Prop :=
 zmb.c s0 s1 s2 f0 f1 (fun x0 h1 =>
 K (decide (x0 ≥ 0)) h1) E h0
structure c (s0 : Option Addr) (s1 : Nat) (s2 : Nat) (f0 : Addr) (f1 : Addr) (K : Bool → HP) (E : VH) (H : Heap) : Prop where
  h : vc s0 s1 s2 f0 f1 (fun r0_0 H => ∃ H', Heap.Le H' H ∧ K r0_0 H') E H
def F : FT := fun args K E H => match args with
  | [(.slice s0 s1 s2), (.func (.func 86) ⟨[]⟩ ⟨[(.pointer (some f0)), (.pointer (some f1))]⟩)] => c s0 s1 s2 f0 f1 (fun r0_0 H => K (.bool r0_0) H) E H
  | _ => False
noncomputable def Γ : FuncId → Option FT := Γof [(132, zmb.F)]
theorem hΓ : ∀ f F, Γ f = some F → zca Tryz.prog f F := Γof_ok (consQ zmb.ok (nilQ))
theorem ok : zca Tryz.prog 85 F := by
  refine zia hΓ (fn := Tryz.f85) (c := body) (by kernel_rfl) (by kernel_rfl) (by kernel_rfl) (zba hΓ Tryz.hm (.go) _ (of_eq_true (by kernel_rfl))) fun _ K E H h => ?_
  unfold F at h
  split at h
  · exact cast (by kernel_rfl) h.h
  · exact h.elim
end zqb
namespace zjd
noncomputable def body : Code := Tryz.f38.body.getD .skip
def vc (l0 : Option Addr) (now0 : Int) (K : Option Addr → Nat → Nat → HP) (E : VH) (h0 : Heap) : Prop :=
 newB (.cells #[(.pointer l0)] 66) (fun b0 h1 =>
 newB (.cells #[(.int .i64 now0)] 2) (fun b1 h2 =>
 ldP h2 (⟨b0, 0, none⟩ : Addr) fun x0 =>
 nilc x0 fun a0 =>
 ldSl h2 (a0.add 0) fun x1 x2 x3 =>
 zqb.c x1 x2 x3 (⟨b1, 0, none⟩ : Addr) (⟨b0, 0, none⟩ : Addr) (fun x4 h3 =>
 (if (!x4) = true then
 K none 0 0 h3
 else
 False)) E h2) h1) h0
structure c (l0 : Option Addr) (now0 : Int) (K : Option Addr → Nat → Nat → HP) (E : VH) (H : Heap) : Prop where
  h : vc l0 now0 (fun r0_0 r0_1 r0_2 H => ∃ H', Heap.Le H' H ∧ K r0_0 r0_1 r0_2 H') E H
def F : FT := fun args K E H => match args with
  | [(.pointer l0), (.int .i64 now0)] => c l0 now0 (fun r0_0 r0_1 r0_2 H => K (.slice r0_0 r0_1 r0_2) H) E H
  | _ => False
noncomputable def Γ : FuncId → Option FT := Γof [(85, zqb.F)]
theorem hΓ : ∀ f F, Γ f = some F → zca Tryz.prog f F := Γof_ok (consQ zqb.ok (nilQ))
theorem ok : zca Tryz.prog 38 F := by
  refine zia hΓ (fn := Tryz.f38) (c := body) (by kernel_rfl) (by kernel_rfl) (by kernel_rfl) (zba hΓ Tryz.hm (.seq (.go) (.seq (.go) (.seq (.go) (.use deadT)))) _ (of_eq (show _ = (True ∧ (True ∧ (True ∧ (zaa Tryz.prog (sub [1, 1, 1] body) deadT)))) by kernel_rfl) ⟨trivial, ⟨trivial, ⟨trivial, (zid _)⟩⟩⟩)) fun _ K E H h => ?_
  unfold F at h
  split at h
  · exact cast (by kernel_rfl) h.h
  · exact h.elim
end zjd
namespace zwc
noncomputable def body : Code := Tryz.f40.body.getD .skip
def W1.vc (l0 : Option Addr) (n0 : Int) (x0 : Option Addr) (x1 : Nat) (x2 : Nat) (x3 : Int) (x4 : Int) (Kx0 : Int → HP) (RR : Int → Int → HP) (E : VH) (h0 : Heap) : Prop :=
 (if (decide (x4 < x3)) = true then
 nilc x0 fun a0 => (0 : Int) ≤ x4 ∧ x4 < (x1 : Int) ∧
 ldI h0 .i64 ((a0.add (x4.toNat * 3)).add 0) fun x5 => ldI h0 .i64 ((a0.add (x4.toNat * 3)).add 1) fun x6 => ldI h0 .i64 ((a0.add (x4.toNat * 3)).add 2) fun x7 =>
 newB (.cells #[(.int .i64 0), (.int .i64 0), (.int .i64 0)] 157) (fun b0 h1 =>
 stc h1 ((⟨b0, 0, none⟩ : Addr).add 0) (.int .i64 x5) fun h2 =>
 stc h2 ((⟨b0, 0, none⟩ : Addr).add 1) (.int .i64 x6) fun h3 =>
 stc h3 ((⟨b0, 0, none⟩ : Addr).add 2) (.int .i64 x7) fun h4 =>
 ldI h4 .i64 ((⟨b0, 0, none⟩ : Addr).add 2) fun x8 =>
 RR (IntKind.i64.wrap (n0 + x8)) (IntKind.i64.wrap (x4 + 1)) h4) h0
 else
 Kx0 n0 h0)
structure W1 (l0 : Option Addr) (n0 : Int) (x0 : Option Addr) (x1 : Nat) (x2 : Nat) (x3 : Int) (x4 : Int) (Kx0 : Int → HP) (E : VH) (H : Heap) : Prop where
  h : Loop (fun (RR : Int × Int → HP) (s : Int × Int) (H : Heap) => W1.vc l0 s.1 x0 x1 x2 x3 s.2 Kx0 (fun n0 x4 H => RR (n0, x4) H) E H) (n0, x4) H
def vc (l0 : Option Addr) (K : Int → Int → HP) (E : VH) (h0 : Heap) : Prop :=
 nilc l0 fun a0 =>
 ldSl h0 (a0.add 0) fun x0 x1 x2 =>
 W1 l0 0 x0 x1 x2 (x1 : Int) 0 (fun n0 h1 =>
 nilc l0 fun a1 =>
 ldSl h1 (a1.add 0) fun x3 x4 x5 =>
 K (x4 : Int) n0 h1) E h0
structure c (l0 : Option Addr) (K : Int → Int → HP) (E : VH) (H : Heap) : Prop where
  h : vc l0 (fun r0_0 r1_0 H => ∃ H', Heap.Le H' H ∧ K r0_0 r1_0 H') E H
def F : FT := fun args K E H => match args with
  | [(.pointer l0)] => c l0 (fun r0_0 r1_0 H => K (.tuple #[(.int .i64 r0_0), (.int .i64 r1_0)]) H) E H
  | _ => False
noncomputable def Γ : FuncId → Option FT := Γof []
theorem hΓ : ∀ f F, Γ f = some F → zca Tryz.prog f F := Γof_ok (nilQ)
def W1.t : CT := fun Q E fr H => lenIs 27 fr (slP fr 0 fun l0 => slI fr 4 .i64 fun n0 => slSl fr 10 fun x0 x1 x2 => slI fr 11 .i64 fun x3 => slI fr 12 .i64 fun x4 => W1 l0 n0 x0 x1 x2 x3 x4 (fun y4_0 H => Q (.exit 0) (mkF 27 [(0, (.pointer l0)), (4, (.int .i64 y4_0))]) H) E H)
theorem W1.ok : zaa Tryz.prog (sub [1, 1, 0, 1, 0] body) W1.t := by
  have e : (sub [1, 1, 0, 1, 0] body) = .loop (sub [1, 1, 0, 1, 0, 0] body) := by kernel_rfl
  rw [e]
  refine zda (zqa (zea [0, 4, 10, 11, 12] [] (fun i => if i = 0 then [0, 4] else []) (zba hΓ Tryz.hm (.go) _ (of_eq_true (by kernel_rfl))))) fun Q E fr H h => ?_
  obtain ⟨hl, h⟩ := zga h
  obtain ⟨l0, q0, h⟩ := zja h
  obtain ⟨n0, q4, h⟩ := zfa h
  obtain ⟨x0, x1, x2, q10, h⟩ := zta h
  obtain ⟨x3, q11, h⟩ := zfa h
  obtain ⟨x4, q12, h⟩ := zfa h
  obtain ⟨m, h⟩ := h.h
  exact ⟨(mkF 27 [(0, (.pointer l0)), (4, (.int .i64 n0)), (10, (.slice x0 x1 x2)), (11, (.int .i64 x3)), (12, (.int .i64 x4))]), fun a ha => ha.mk (Nat.le_of_eq hl.symm) (consQ q0 (consQ q4 (consQ q10 (consQ q11 (consQ q12 nilQ))))), m, cast (zib (B := (fun (RR : Int × Int → HP) (s : Int × Int) (H : Heap) => W1.vc l0 s.1 x0 x1 x2 x3 s.2 (fun y4_0 H => Q (.exit 0) (mkF 27 [(0, (.pointer l0)), (4, (.int .i64 y4_0))]) H) (fun n0 x4 H => RR (n0, x4) H) E H)) (m := (fun (s : Int × Int) => (mkF 27 [(0, (.pointer l0)), (4, (.int .i64 s.1)), (10, (.slice x0 x1 x2)), (11, (.int .i64 x3)), (12, (.int .i64 s.2))]))) (Q := Q) (E := E) (fun RR s H => by kernel_rfl) m (n0, x4) H) h⟩
theorem ok : zca Tryz.prog 40 F := by
  refine zia hΓ (fn := Tryz.f40) (c := body) (by kernel_rfl) (by kernel_rfl) (by kernel_rfl) (zba hΓ Tryz.hm (.seq (.go) (.seq (.go) (.seq (.seq (.go) (.block (.use W1.t))) (.go)))) _ (of_eq (show _ = (True ∧ (True ∧ ((True ∧ (zaa Tryz.prog (sub [1, 1, 0, 1, 0] body) W1.t)) ∧ True))) by kernel_rfl) ⟨trivial, ⟨trivial, ⟨⟨trivial, W1.ok⟩, trivial⟩⟩⟩)) fun _ K E H h => ?_
  unfold F at h
  split at h
  · exact cast (by kernel_rfl) h.h
  · exact h.elim
end zwc
namespace zxd
noncomputable def body : Code := Tryz.f41.body.getD .skip
def vc (l0 : Option Addr) (K : Int → HP) (E : VH) (h0 : Heap) : Prop :=
 nilc l0 fun a0 =>
 ldI h0 .i64 (a0.add 2) fun x0 =>
 K x0 h0
structure c (l0 : Option Addr) (K : Int → HP) (E : VH) (H : Heap) : Prop where
  h : vc l0 (fun r0_0 H => ∃ H', Heap.Le H' H ∧ K r0_0 H') E H
def F : FT := fun args K E H => match args with
  | [(.pointer l0)] => c l0 (fun r0_0 H => K (.int .i64 r0_0) H) E H
  | _ => False
noncomputable def Γ : FuncId → Option FT := Γof []
theorem hΓ : ∀ f F, Γ f = some F → zca Tryz.prog f F := Γof_ok (nilQ)
theorem ok : zca Tryz.prog 41 F := by
  refine zia hΓ (fn := Tryz.f41) (c := body) (by kernel_rfl) (by kernel_rfl) (by kernel_rfl) (zba hΓ Tryz.hm (.go) _ (of_eq_true (by kernel_rfl))) fun _ K E H h => ?_
  unfold F at h
  split at h
  · exact cast (by kernel_rfl) h.h
  · exact h.elim
end zxd
namespace zoc
noncomputable def body : Code := Tryz.f43.body.getD .skip
def J1.vc (l0 : Option Addr) (n0 : Int) (now0 : Int) (size0 : Int) (x0 : Bool) (Kn : HP) (Kr : Int → HP) (E : VH) (h0 : Heap) : Prop :=
 (if x0 = true then
 Kr 2 h0
 else
 Kn h0)
structure J1 (l0 : Option Addr) (n0 : Int) (now0 : Int) (size0 : Int) (x0 : Bool) (Kn : HP) (Kr : Int → HP) (E : VH) (H : Heap) : Prop where
  h : J1.vc l0 n0 now0 size0 x0 Kn Kr E H
def J3.vc (l0 : Option Addr) (n0 : Int) (Kr : Int → HP) (E : VH) (h0 : Heap) : Prop :=
 nilc l0 fun a0 =>
 stc h0 (a0.add 1) (.int .i64 n0) fun h1 =>
 Kr 0 h1
structure J3 (l0 : Option Addr) (n0 : Int) (Kr : Int → HP) (E : VH) (H : Heap) : Prop where
  h : J3.vc l0 n0 Kr E H
def J2.vc (l0 : Option Addr) (n0 : Int) (now0 : Int) (size0 : Int) (Kr : Int → HP) (E : VH) (h0 : Heap) : Prop :=
 nilc l0 fun a0 =>
 ldSl h0 (a0.add 0) fun x0 x1 x2 =>
 newB (.cells #[(.int .i64 n0), (.int .i64 now0), (.int .i64 size0)] 157) (fun b0 h1 =>
 rdRow h1 (some (⟨b0, 0, none⟩ : Addr)) (1 * 3) fun cs0 =>
 appT 157 (.agg #[(.int .i64 0), (.int .i64 0), (.int .i64 0)]) x0 x1 1 x2 3 24 cs0 (fun p0 n1 c0 h2 =>
 nilc l0 fun a1 =>
 stc h2 (a1.add 0) (.slice p0 n1 c0) fun h3 =>
 J3 l0 n0 Kr E h3) h1) h0
structure J2 (l0 : Option Addr) (n0 : Int) (now0 : Int) (size0 : Int) (Kr : Int → HP) (E : VH) (H : Heap) : Prop where
  h : J2.vc l0 n0 now0 size0 Kr E H
def vc (l0 : Option Addr) (n0 : Int) (now0 : Int) (size0 : Int) (K : Int → HP) (E : VH) (h0 : Heap) : Prop :=
 nilc l0 fun a0 =>
 ldI h0 .i64 (a0.add 1) fun x0 =>
 (if (decide (n0 ≤ x0)) = true then
 J1 l0 n0 now0 size0 true (fun h1 =>
 J2 l0 n0 now0 size0 K E h1) K E h0
 else
 (if (decide (n0 > 4611686018427387903)) = true then
 J1 l0 n0 now0 size0 true (fun h4 =>
 J2 l0 n0 now0 size0 K E h4) K E h0
 else
 (if (decide (size0 < 1)) = true then
 J1 l0 n0 now0 size0 true (fun h7 =>
 J2 l0 n0 now0 size0 K E h7) K E h0
 else
 J1 l0 n0 now0 size0 (decide (size0 > 1200)) (fun h10 =>
 J2 l0 n0 now0 size0 K E h10) K E h0)))
structure c (l0 : Option Addr) (n0 : Int) (now0 : Int) (size0 : Int) (K : Int → HP) (E : VH) (H : Heap) : Prop where
  h : vc l0 n0 now0 size0 (fun r0_0 H => ∃ H', Heap.Le H' H ∧ K r0_0 H') E H
def F : FT := fun args K E H => match args with
  | [(.pointer l0), (.int .i64 n0), (.int .i64 now0), (.int .i64 size0)] => c l0 n0 now0 size0 (fun r0_0 H => K (.int .i64 r0_0) H) E H
  | _ => False
noncomputable def Γ : FuncId → Option FT := Γof []
theorem hΓ : ∀ f F, Γ f = some F → zca Tryz.prog f F := Γof_ok (nilQ)
def J1.t : CT := fun Q E fr H => lenIs 44 fr (slP fr 0 fun l0 => slI fr 1 .i64 fun n0 => slI fr 2 .i64 fun now0 => slI fr 3 .i64 fun size0 => slB fr 26 fun x0 => J1 l0 n0 now0 size0 x0 (fun  H => Q .normal (mkF 44 [(0, (.pointer l0)), (1, (.int .i64 n0)), (2, (.int .i64 now0)), (3, (.int .i64 size0))]) H) (fun y8_0 H => Q .ret (mkF 44 [(8, (.int .i64 y8_0))]) H) E H)
theorem J1.ok : zaa Tryz.prog (sub [1, 0, 1] body) J1.t := by
  refine zda (zea [0, 1, 2, 3] [8] (fun i => []) (zba hΓ Tryz.hm (.go) _ (of_eq_true (by kernel_rfl)))) fun Q E fr H h => ?_
  obtain ⟨hl, h⟩ := zga h
  obtain ⟨l0, q0, h⟩ := zja h
  obtain ⟨n0, q1, h⟩ := zfa h
  obtain ⟨now0, q2, h⟩ := zfa h
  obtain ⟨size0, q3, h⟩ := zfa h
  obtain ⟨x0, q26, h⟩ := zwa h
  exact ⟨(mkF 44 [(0, (.pointer l0)), (1, (.int .i64 n0)), (2, (.int .i64 now0)), (3, (.int .i64 size0)), (26, (.bool x0))]), fun a ha => ha.mk (Nat.le_of_eq hl.symm) (consQ q0 (consQ q1 (consQ q2 (consQ q3 (consQ q26 nilQ))))), cast (by kernel_rfl) h.h⟩
def J3.t : CT := fun Q E fr H => lenIs 44 fr (slP fr 0 fun l0 => slI fr 1 .i64 fun n0 => J3 l0 n0 (fun y8_0 H => Q .ret (mkF 44 [(8, (.int .i64 y8_0))]) H) E H)
theorem J3.ok : zaa Tryz.prog (sub [1, 1, 1] body) J3.t := by
  refine zda (zea [] [8] (fun i => []) (zba hΓ Tryz.hm (.go) _ (of_eq_true (by kernel_rfl)))) fun Q E fr H h => ?_
  obtain ⟨hl, h⟩ := zga h
  obtain ⟨l0, q0, h⟩ := zja h
  obtain ⟨n0, q1, h⟩ := zfa h
  exact ⟨(mkF 44 [(0, (.pointer l0)), (1, (.int .i64 n0))]), fun a ha => ha.mk (Nat.le_of_eq hl.symm) (consQ q0 (consQ q1 nilQ)), cast (by kernel_rfl) h.h⟩
def J2.t : CT := fun Q E fr H => lenIs 44 fr (slP fr 0 fun l0 => slI fr 1 .i64 fun n0 => slI fr 2 .i64 fun now0 => slI fr 3 .i64 fun size0 => J2 l0 n0 now0 size0 (fun y8_0 H => Q .ret (mkF 44 [(8, (.int .i64 y8_0))]) H) E H)
theorem J2.ok : zaa Tryz.prog (sub [1, 1] body) J2.t := by
  refine zda (zea [] [8] (fun i => []) (zba hΓ Tryz.hm (.seq (.go) (.use J3.t)) _ (of_eq (show _ = (True ∧ (zaa Tryz.prog (sub [1, 1, 1] body) J3.t)) by kernel_rfl) ⟨trivial, J3.ok⟩))) fun Q E fr H h => ?_
  obtain ⟨hl, h⟩ := zga h
  obtain ⟨l0, q0, h⟩ := zja h
  obtain ⟨n0, q1, h⟩ := zfa h
  obtain ⟨now0, q2, h⟩ := zfa h
  obtain ⟨size0, q3, h⟩ := zfa h
  exact ⟨(mkF 44 [(0, (.pointer l0)), (1, (.int .i64 n0)), (2, (.int .i64 now0)), (3, (.int .i64 size0))]), fun a ha => ha.mk (Nat.le_of_eq hl.symm) (consQ q0 (consQ q1 (consQ q2 (consQ q3 nilQ)))), cast (by kernel_rfl) h.h⟩
theorem ok : zca Tryz.prog 43 F := by
  refine zia hΓ (fn := Tryz.f43) (c := body) (by kernel_rfl) (by kernel_rfl) (by kernel_rfl) (zba hΓ Tryz.hm (.seq (.go) (.seq (.seq (.go) (.use J1.t)) (.use J2.t))) _ (of_eq (show _ = (True ∧ ((True ∧ (zaa Tryz.prog (sub [1, 0, 1] body) J1.t)) ∧ (zaa Tryz.prog (sub [1, 1] body) J2.t))) by kernel_rfl) ⟨trivial, ⟨⟨trivial, J1.ok⟩, J2.ok⟩⟩)) fun _ K E H h => ?_
  unfold F at h
  split at h
  · exact cast (by kernel_rfl) h.h
  · exact h.elim
end zoc
end Go.Sh
