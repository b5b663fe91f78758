/- Codes' keys: what they hold; pad, keyed, code. -/
import Derived.Test.YtkfkkkalcchpkaaGreatDoorShaG
import Derived.Test.YtkfkkkalcchpkaaGreatDoorGseb
namespace Go.Sh
set_option maxRecDepth 8000
def hRow (S : St) (p : Option Addr) (n c : Nat) (u : Int) : List Value := S.cells ++ [.slice p n c, .int .u64 u]
theorem hash_ld {H : Heap} {a : Addr} {S : St} {p : Option Addr} {n c : Nat} {u : Int} (g : ∀ (i : Nat) (v : Value), (hRow S p n c u)[i]? = some v → H.cell? (a.add i) = some v) {K : Int → Int → Int → Int → Int → Int → Int → Int → Option Addr → Nat → Nat → Int → Prop} (hk : K (wv S.a) (wv S.b) (wv S.c) (wv S.d) (wv S.e) (wv S.f) (wv S.g) (wv S.h) p n c u) :
    ldI H .u32 (a.add 0) fun x0 => ldI H .u32 (a.add 1) fun x1 => ldI H .u32 (a.add 2) fun x2 => ldI H .u32 (a.add 3) fun x3 => ldI H .u32 (a.add 4) fun x4 => ldI H .u32 (a.add 5) fun x5 => ldI H .u32 (a.add 6) fun x6 => ldI H .u32 (a.add 7) fun x7 => ldSl H (a.add 8) fun xp0 xn0 xc0 => ldI H .u64 (a.add 9) fun xu0 => K x0 x1 x2 x3 x4 x5 x6 x7 xp0 xn0 xc0 xu0 :=
  ⟨_, g 0 _ rfl, _, g 1 _ rfl, _, g 2 _ rfl, _, g 3 _ rfl, _, g 4 _ rfl, _, g 5 _ rfl, _, g 6 _ rfl, _, g 7 _ rfl, _, _, _, g 8 _ rfl, _, g 9 _ rfl, hk⟩
theorem mac_ld {H : Heap} {a : Addr} {S T : St} {p q : Option Addr} {n c m d : Nat} {u w : Int} (g : ∀ (i : Nat) (v : Value), (hRow S p n c u ++ hRow T q m d w)[i]? = some v → H.cell? (a.add i) = some v) {K : Int → Int → Int → Int → Int → Int → Int → Int → Option Addr → Nat → Nat → Int → Int → Int → Int → Int → Int → Int → Int → Int → Option Addr → Nat → Nat → Int → Prop} (hk : K (wv S.a) (wv S.b) (wv S.c) (wv S.d) (wv S.e) (wv S.f) (wv S.g) (wv S.h) p n c u (wv T.a) (wv T.b) (wv T.c) (wv T.d) (wv T.e) (wv T.f) (wv T.g) (wv T.h) q m d w) :
    ldI H .u32 (a.add 0) fun x0 => ldI H .u32 (a.add 1) fun x1 => ldI H .u32 (a.add 2) fun x2 => ldI H .u32 (a.add 3) fun x3 => ldI H .u32 (a.add 4) fun x4 => ldI H .u32 (a.add 5) fun x5 => ldI H .u32 (a.add 6) fun x6 => ldI H .u32 (a.add 7) fun x7 => ldSl H (a.add 8) fun xp0 xn0 xc0 => ldI H .u64 (a.add 9) fun xu0 => ldI H .u32 (a.add 10) fun x10 => ldI H .u32 (a.add 11) fun x11 => ldI H .u32 (a.add 12) fun x12 => ldI H .u32 (a.add 13) fun x13 => ldI H .u32 (a.add 14) fun x14 => ldI H .u32 (a.add 15) fun x15 => ldI H .u32 (a.add 16) fun x16 => ldI H .u32 (a.add 17) fun x17 => ldSl H (a.add 18) fun xp10 xn10 xc10 => ldI H .u64 (a.add 19) fun xu10 => K x0 x1 x2 x3 x4 x5 x6 x7 xp0 xn0 xc0 xu0 x10 x11 x12 x13 x14 x15 x16 x17 xp10 xn10 xc10 xu10 :=
  ⟨_, g 0 _ rfl, _, g 1 _ rfl, _, g 2 _ rfl, _, g 3 _ rfl, _, g 4 _ rfl, _, g 5 _ rfl, _, g 6 _ rfl, _, g 7 _ rfl, _, _, _, g 8 _ rfl, _, g 9 _ rfl, _, g 10 _ rfl, _, g 11 _ rfl, _, g 12 _ rfl, _, g 13 _ rfl, _, g 14 _ rfl, _, g 15 _ rfl, _, g 16 _ rfl, _, g 17 _ rfl, _, _, _, g 18 _ rfl, _, g 19 _ rfl, hk⟩
theorem put20 {H : Heap} {b : Nat} {hd row tl : List Value} {e : TypeId} (h : RowO H b hd row tl e) (hl : row.length = 20) {a : Addr} (ha : a = ⟨b, hd.length, none⟩) {v0 v1 v2 v3 v4 v5 v6 v7 v8 v9 v10 v11 v12 v13 v14 v15 v16 v17 v18 v19 : Value} {K : Heap → Prop} (hk : ∀ H', RowO H' b hd [v0, v1, v2, v3, v4, v5, v6, v7, v8, v9, v10, v11, v12, v13, v14, v15, v16, v17, v18, v19] tl e → Step [b] H [b] H' → K H') : stc H (a.add 0) v0 fun h0 => stc h0 (a.add 1) v1 fun h1 => stc h1 (a.add 2) v2 fun h2 => stc h2 (a.add 3) v3 fun h3 => stc h3 (a.add 4) v4 fun h4 => stc h4 (a.add 5) v5 fun h5 => stc h5 (a.add 6) v6 fun h6 => stc h6 (a.add 7) v7 fun h7 => stc h7 (a.add 8) v8 fun h8 => stc h8 (a.add 9) v9 fun h9 => stc h9 (a.add 10) v10 fun h10 => stc h10 (a.add 11) v11 fun h11 => stc h11 (a.add 12) v12 fun h12 => stc h12 (a.add 13) v13 fun h13 => stc h13 (a.add 14) v14 fun h14 => stc h14 (a.add 15) v15 fun h15 => stc h15 (a.add 16) v16 fun h16 => stc h16 (a.add 17) v17 fun h17 => stc h17 (a.add 18) v18 fun h18 => stc h18 (a.add 19) v19 fun h19 => K h19 := by
  subst ha
  have hv : [v0, v1, v2, v3, v4, v5, v6, v7, v8, v9, v10, v11, v12, v13, v14, v15, v16, v17, v18, v19].length = 20 := rfl
  generalize hvs : [v0, v1, v2, v3, v4, v5, v6, v7, v8, v9, v10, v11, v12, v13, v14, v15, v16, v17, v18, v19] = vs at hv hk
  have e1 : putL (hd ++ row ++ tl).toArray.toList (hd.length + 0) vs = hd ++ vs ++ tl := by
    have a1 : (hd ++ row ++ tl).take hd.length = hd := by rw [List.append_assoc, List.take_left]
    have a2 : (hd ++ row ++ tl).drop (hd.length + 20) = tl := List.drop_left' (by rw [List.length_append, hl])
    unfold putL
    rw [List.toList_toArray, Nat.add_zero, hv, a1, a2]
  have key := stcs_at (e := e) (f := (0, 0)) (K := K) vs 0 hd.length _ H h (by rw [List.size_toArray, List.length_append, List.length_append]; omega) (fun k _ _ => by omega) (by
    rw [e1]
    exact hk _ (by unfold RowO; rw [set_self]) (Step.set _ _ _))
  subst hvs
  exact key
theorem eat64 {s : St} {l : List UInt8} (h : l.length = 64) : eat s l = (s.block l, []) := by
  rw [eat_step (by omega), List.take_of_length_le (by omega), List.drop_eq_nil_of_le (by omega), eat_small (by simp)]
theorem seal_pad.run {H : Heap} {key : ByteArray} {x : UInt8} (hk : key.size ≤ 64) {K : ByteArray → Heap → Prop} {E : Value → Heap → Prop} (h : ∀ H', Heap.Le H H' → K ⟨(padK key.data.toList x).toArray⟩ H') : seal_pad.c key (x.toNat : Int) K E H := by
  refine ⟨?_⟩
  unfold seal_pad.vc
  have hkl := ba_len key
  refine ⟨by decide, by decide, by decide, by decide, ?_⟩
  refine newB_le fun b H1 hn1 hl1 hle1 => ?_
  have hmin : Nat.min key.size 64 = key.size := Nat.min_eq_left hk
  have hbl : (byteVals key).take key.size = key.data.toList.map byV := by
    unfold byteVals
    rw [List.take_of_length_le (by rw [List.length_map]; omega)]
    rfl
  rw [hmin, hbl]
  refine ⟨fun v hv => by obtain ⟨y, _, rfl⟩ := List.mem_map.1 hv; rfl, ?_⟩
  have hzl : (zerosOf (.int .u8 0) 64).length = 64 := zerosB_len _
  refine stcs_at (f := (0, 0)) _ 0 0 _ _ hl1 (by rw [List.size_toArray, hzl, List.length_map]; omega) (fun k _ _ => by omega) ?_
  generalize hX : key.data.toList ++ List.replicate (64 - key.data.toList.length) (0 : UInt8) = X
  have hXl : X.length = 64 := by rw [← hX, List.length_append, List.length_replicate]; omega
  have hput : putL (zerosOf (.int .u8 0) 64).toArray.toList (0 + 0) (key.data.toList.map byV) = X.map byV := by
    unfold putL
    rw [List.toList_toArray, zeros_map, ← hX, List.map_append, List.length_map, Nat.add_zero, Nat.zero_add, List.take_zero, List.nil_append, ← List.map_drop, List.drop_replicate]
  rw [hput]
  have ho : OwnB (H1.set b (.cells (X.map byV).toArray 5)) 5 (some ⟨b, 0, none⟩) 64 64 X := OwnB.of_block (set_self _ _ _) hXl (Nat.le_refl _) (by simp [hXl]) (.inr rfl) (by rw [List.toList_toArray, List.take_of_length_le (by simp [hXl])])
  have hle2 : Heap.Le H (H1.set b (.cells (X.map byV).toArray 5)) := fun k o hk => by
    have : k ≠ b := fun e => by subst e; rw [hn1] at hk; cases hk
    rw [set_ne _ _ this]; exact hle1 k o hk
  generalize H1.set b (.cells (X.map byV).toArray 5) = H2 at ho hle2 ⊢
  refine ⟨Loop.of (I := fun st H' m => ∃ k : Nat, st = (k : Int) ∧ k ≤ 64 ∧ m = 64 - k ∧ OwnB H' 5 (some ⟨b, 0, none⟩) 64 64 (xorTo X x k) ∧ Step [b] H2 [b] H') ?_ ⟨0, rfl, by omega, rfl, by simpa [xorTo] using ho, Step.refl _ _⟩⟩
  rintro m st H' ⟨k, rfl, hk, rfl, ho, hst⟩ RR hRR
  unfold seal_pad.W1.vc
  by_cases hc : k < 64
  · rw [if_pos (by rw [decide_eq_true_eq]; omega)]
    obtain ⟨a, ha, hcell⟩ := ho.bytes.get (i := k) (by omega)
    rw [xorTo_get (by omega)] at hcell
    refine ⟨a, ha, by omega, by omega, _, by rw [Int.toNat_natCast]; exact hcell, a, ha, by omega, by omega, ?_⟩
    rw [xor_u8, Int.toNat_natCast]
    refine ho.put (i := k) (x := X.getD k 0 ^^^ x) (by omega) ha fun H3 h3 hst3 => ?_
    rw [xorTo_set (by omega)] at h3
    rw [w_i64 (by omega) (by omega)]
    exact hRR _ _ (64 - (k + 1)) (by omega) ⟨k + 1, by simp, by omega, rfl, h3, hst.trans hst3⟩
  · rw [if_neg (by rw [decide_eq_true_eq]; omega)]
    have : k = 64 := by omega
    subst this
    refine ho.bytes.rdBytes ?_
    have e : xorTo X x 64 = padK key.data.toList x := by
      unfold xorTo padK
      rw [List.take_of_length_le (by omega), List.drop_eq_nil_of_le (by omega), List.append_nil, ← hX]
    rw [e]
    refine ⟨H', Heap.Le.refl _, h H' fun k o hk => (hst k o (hle2 k o hk) ?_).1⟩
    intro hm
    rw [List.mem_singleton] at hm
    subst hm
    rw [hn1] at hk; cases hk
def padS (key : List UInt8) (x : UInt8) : St := st0.block (padK key x)
def macRow (key : List UInt8) : List Value := hRow (padS key 0x36) none 0 0 64 ++ hRow (padS key 0x5C) none 0 0 64
def emptyRow : List Value := hRow st0 none 0 0 0 ++ hRow st0 none 0 0 0
theorem hashO_of {H : Heap} {b : Nat} {hd tl2 : List Value} {e : TypeId} {d : List UInt8} (hd0 : (eat st0 d).2 = []) (h : RowO H b hd (hRow (eat st0 d).1 none 0 0 (d.length : Int)) tl2 e) : HashO H b hd tl2 e none 0 d := by
  refine ⟨?_, ?_, by simp [bl]⟩
  · unfold StO
    rw [hd0]
    exact h
  · rw [hd0]
    exact OwnB.nil
theorem seal_keyed.J1.run {H : Heap} {key : ByteArray} (hk : key.size ≤ 64) {b0 b1 : Nat} (hne : b0 ≠ b1) (n1 : (1 : Nat) ≠ b1) {arr0 : List Value} (h20 : arr0.length = 20) (hb0 : H b0 = some (.cells arr0.toArray 211)) (hb1 : H b1 = some (.cells emptyRow.toArray 211)) (ht : IntsIn H 1 .u32 kTab)
    {Kr : Heap → Prop} {E : Value → Heap → Prop} (h : ∀ H', H' b0 = some (.cells (macRow key.data.toList).toArray 211) → (∀ k o, H k = some o → k ≠ b0 → k ≠ b1 → H' k = some o) → Kr H') : seal_keyed.J1 key ⟨b0, 0, none⟩ ⟨b1, 0, none⟩ Kr E H := by
  have hkl := ba_len key
  have hp1 := padK_len (key := key.data.toList) (x := 0x36) (by omega)
  have hp2 := padK_len (key := key.data.toList) (x := 0x5C) (by omega)
  have n1' : (1 : Nat) ∉ [b1] := by simpa using n1
  refine ⟨?_⟩
  unfold seal_keyed.J1.vc
  refine seal_pad.run (x := 0x36) hk fun H1 hle1 => ?_
  have e0 : eat st0 [] = (st0, []) := eat_small (by simp)
  have ho1 : HashO H1 b1 [] (hRow st0 none 0 0 0) 211 none 0 [] := hashO_of (by rw [e0]) (by
    rw [e0]
    have := hle1 _ _ hb1
    unfold RowO
    rw [this, List.nil_append]
    unfold emptyRow
    rfl)
  refine sha_Hash_Write.runO (hd := []) ho1 (by rw [ba_size, hp1]; decide) (ht.up hle1) n1' fun p2 c2 H2 ho2 hnil2 hst2 => ?_
  rw [ba_list, List.nil_append, eat64 hp1] at hnil2
  obtain ⟨rfl, rfl⟩ := hnil2 rfl
  have hs2 := ho2.1
  rw [ba_list, List.nil_append] at hs2
  unfold StO at hs2
  rw [eat64 hp1, hp1] at hs2
  refine seal_pad.run (x := 0x5C) hk fun H3 hle3 => ?_
  have hr3 : RowO H3 b1 (hRow (padS key.data.toList 0x36) none 0 0 64) (hRow st0 none 0 0 0) [] 211 := by
    have := hle3 _ _ hs2
    unfold RowO
    rw [this, List.append_nil, List.nil_append]
    unfold hRow padS
    rfl
  have ho3 : HashO H3 b1 (hRow (padS key.data.toList 0x36) none 0 0 64) [] 211 none 0 [] := hashO_of (by rw [e0]) (by rw [e0]; exact hr3)
  have k3 : IntsIn H3 1 .u32 kTab := (((ht.up hle1).step hst2 n1')).up hle3
  refine sha_Hash_Write.runO ho3 (by rw [ba_size, hp2]; decide) k3 n1' fun p4 c4 H4 ho4 hnil4 hst4 => ?_
  rw [ba_list, List.nil_append, eat64 hp2] at hnil4
  obtain ⟨rfl, rfl⟩ := hnil4 rfl
  have hs4 := ho4.1
  rw [ba_list, List.nil_append] at hs4
  unfold StO at hs4
  rw [eat64 hp2, hp2] at hs4
  have hr4 : RowO H4 b1 [] (macRow key.data.toList) [] 211 := by
    unfold RowO at hs4 ⊢
    rw [hs4, List.append_nil, List.append_nil, List.nil_append]
    unfold macRow hRow padS
    rfl
  refine mac_ld (fun i v hi => hr4.get hi) ?_
  have keep : ∀ k o, H k = some o → k ≠ b1 → H4 k = some o := fun k o hk hn => by
    have nk : k ∉ [b1] := by simpa using hn
    exact (hst4 k o (hle3 k o (hst2 k o (hle1 k o hk) nk).1) nk).1
  have hr0 : RowO H4 b0 [] arr0 [] 211 := by
    unfold RowO
    rw [keep b0 _ hb0 hne, List.append_nil, List.nil_append]
  refine put20 hr0 h20 rfl fun H5 h5 hst5 => h H5 ?_ fun k o hk hn0 hn1 => (hst5 k o (keep k o hk hn1) (by simpa using hn0)).1
  unfold RowO at h5
  rw [h5, List.append_nil, List.nil_append]
  unfold macRow hRow St.cells St.list
  rfl
end Go.Sh
