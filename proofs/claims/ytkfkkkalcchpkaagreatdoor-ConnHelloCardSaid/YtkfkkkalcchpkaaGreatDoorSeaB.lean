/- Codes' keys made, texts' codes, numbers in bytes. -/
import Derived.Test.YtkfkkkalcchpkaaGreatDoorSeaA
namespace Go.Sh
set_option maxRecDepth 8000
theorem hash_new_cells {H : Heap} {b : Nat} (h : HashAt H b [b] []) : ∀ (i : Nat) (v : Value), (hRow st0 none 0 0 0)[i]? = some v → H.cell? ((⟨b, 0, none⟩ : Addr).add i) = some v := by
  obtain ⟨p, c, e, h1, h2, _, h4⟩ := h
  have e0 : eat st0 [] = (st0, []) := eat_small (by simp)
  rw [e0] at h1 h2
  have hp : p = none ∧ c = 0 := by
    rcases h2.2.2 with h | ⟨b2, off, arr, f, rfl, _⟩
    · exact h
    · simp [bl] at h4
  obtain ⟨rfl, rfl⟩ := hp
  intro i v hi
  refine loc h1 ?_
  rw [List.getElem?_toArray]
  exact hi
theorem le_of_rows {H : Heap} {b : Nat} {row : List Value} {e : TypeId} (h : H b = some (.cells row.toArray e)) : ∀ (i : Nat) (v : Value), row[i]? = some v → H.cell? ((⟨b, 0, none⟩ : Addr).add i) = some v := fun i v hi => loc h (by rw [List.getElem?_toArray]; exact hi)
theorem seal_keyed.tail {H0 H : Heap} (hle : Heap.Le H0 H) {key : ByteArray} (hk : key.size ≤ 64) {b0 b1 : Nat} (n0 : H0 b0 = none) (n1 : H0 b1 = none) (hne : b0 ≠ b1) {arr0 arr1 : List Value} (h20 : arr0.length = 20) (h21 : arr1.length = 20) (hb0 : H b0 = some (.cells arr0.toArray 211)) (hb1 : H b1 = some (.cells arr1.toArray 211)) (ht : IntsIn H0 1 .u32 kTab)
    {Kr : Heap → Prop} {E : Value → Heap → Prop} (h : ∀ H', H' b0 = some (.cells (macRow key.data.toList).toArray 211) → Heap.Le H0 H' → Kr H') : stc H ((⟨b1, 0, none⟩ : Addr).add 0) (.int .u32 (wv st0.a)) fun h0 => stc h0 ((⟨b1, 0, none⟩ : Addr).add 1) (.int .u32 (wv st0.b)) fun h1 => stc h1 ((⟨b1, 0, none⟩ : Addr).add 2) (.int .u32 (wv st0.c)) fun h2 => stc h2 ((⟨b1, 0, none⟩ : Addr).add 3) (.int .u32 (wv st0.d)) fun h3 => stc h3 ((⟨b1, 0, none⟩ : Addr).add 4) (.int .u32 (wv st0.e)) fun h4 => stc h4 ((⟨b1, 0, none⟩ : Addr).add 5) (.int .u32 (wv st0.f)) fun h5 => stc h5 ((⟨b1, 0, none⟩ : Addr).add 6) (.int .u32 (wv st0.g)) fun h6 => stc h6 ((⟨b1, 0, none⟩ : Addr).add 7) (.int .u32 (wv st0.h)) fun h7 => stc h7 ((⟨b1, 0, none⟩ : Addr).add 8) (.slice none 0 0) fun h8 => stc h8 ((⟨b1, 0, none⟩ : Addr).add 9) (.int .u64 0) fun h9 => stc h9 ((⟨b1, 0, none⟩ : Addr).add 10) (.int .u32 (wv st0.a)) fun h10 => stc h10 ((⟨b1, 0, none⟩ : Addr).add 11) (.int .u32 (wv st0.b)) fun h11 => stc h11 ((⟨b1, 0, none⟩ : Addr).add 12) (.int .u32 (wv st0.c)) fun h12 => stc h12 ((⟨b1, 0, none⟩ : Addr).add 13) (.int .u32 (wv st0.d)) fun h13 => stc h13 ((⟨b1, 0, none⟩ : Addr).add 14) (.int .u32 (wv st0.e)) fun h14 => stc h14 ((⟨b1, 0, none⟩ : Addr).add 15) (.int .u32 (wv st0.f)) fun h15 => stc h15 ((⟨b1, 0, none⟩ : Addr).add 16) (.int .u32 (wv st0.g)) fun h16 => stc h16 ((⟨b1, 0, none⟩ : Addr).add 17) (.int .u32 (wv st0.h)) fun h17 => stc h17 ((⟨b1, 0, none⟩ : Addr).add 18) (.slice none 0 0) fun h18 => stc h18 ((⟨b1, 0, none⟩ : Addr).add 19) (.int .u64 0) fun h19 => seal_keyed.J1 key ⟨b0, 0, none⟩ ⟨b1, 0, none⟩ Kr E h19 := by
  have hr : RowO H b1 [] arr1 [] 211 := by
    unfold RowO
    rw [hb1, List.append_nil, List.nil_append]
  have z0 := IntsIn.some0 ht
  refine put20 hr h21 rfl fun H5 h5 s5 => ?_
  have hk5 : ∀ k o, H0 k = some o → H5 k = some o := fun k o hk => (s5 k o (hle k o hk) (fun hm => by
    rw [List.mem_singleton] at hm
    subst hm
    rw [n1] at hk; cases hk)).1
  refine seal_keyed.J1.run hk hne (fun e => z0 (e ▸ n1)) h20 (s5 b0 _ hb0 (by simpa using hne)).1 (by
    unfold RowO at h5
    rw [h5, List.append_nil, List.nil_append]
    unfold emptyRow hRow St.cells St.list
    rfl) (ht.up hk5) fun H6 h6 k6 => h H6 h6 fun k o hk => k6 k o (hk5 k o hk) (fun e => by subst e; rw [n0] at hk; cases hk) (fun e => by subst e; rw [n1] at hk; cases hk)
theorem seal_keyed.run {H : Heap} {key : ByteArray} (hk : key.size ≤ 64) (ht : IntsIn H 1 .u32 kTab) {K : Int → Int → Int → Int → Int → Int → Int → Int → Option Addr → Nat → Nat → Int → Int → Int → Int → Int → Int → Int → Int → Int → Option Addr → Nat → Nat → Int → Heap → Prop} {E : Value → Heap → Prop} (h : ∀ H', Heap.Le H H' → K (wv (padS key.data.toList 0x36).a) (wv (padS key.data.toList 0x36).b) (wv (padS key.data.toList 0x36).c) (wv (padS key.data.toList 0x36).d) (wv (padS key.data.toList 0x36).e) (wv (padS key.data.toList 0x36).f) (wv (padS key.data.toList 0x36).g) (wv (padS key.data.toList 0x36).h) none 0 0 64 (wv (padS key.data.toList 0x5C).a) (wv (padS key.data.toList 0x5C).b) (wv (padS key.data.toList 0x5C).c) (wv (padS key.data.toList 0x5C).d) (wv (padS key.data.toList 0x5C).e) (wv (padS key.data.toList 0x5C).f) (wv (padS key.data.toList 0x5C).g) (wv (padS key.data.toList 0x5C).h) none 0 0 64 H') : seal_keyed.c key K E H := by
  refine ⟨?_⟩
  unfold seal_keyed.vc
  have none_of : ∀ {A B : Heap} {b : Nat}, Heap.Le A B → B b = none → A b = none := fun {A B b} hl hn => by
    cases hh : A b with
    | none => rfl
    | some o => rw [hl _ _ hh] at hn; cases hn
  refine newB_le fun b0 H1 hn0 hl0 hle0 => ⟨?_, ?_⟩
  · refine sha_New.run fun a H2 hh2 hna hle2 => ⟨_, rfl, ?_⟩
    have ga := hash_new_cells hh2
    refine hash_ld ga ⟨?_, ?_⟩
    · refine sha_New.run fun c H3 hh3 hnc hle3 => ⟨?_, ?_⟩
      · exact hash_ld (fun i v hi => Le_cell hle3 (ga i v hi)) ⟨rfl, rfl⟩
      · have gc := hash_new_cells hh3
        refine ⟨_, rfl, hash_ld gc ?_⟩
        refine newB_le fun b1 H4 hn1 hl1 hle4 => ⟨?_, ?_, ?_⟩
        · exact hash_ld (fun i v hi => Le_cell hle4 (gc i v hi)) ⟨rfl, rfl⟩
        · exact hash_ld (fun i v hi => Le_cell (hle3.trans hle4) (ga i v hi)) ⟨rfl, rfl⟩
        · have l1 := (hle2.trans hle3).trans hle4
          refine seal_keyed.tail (hle0.trans l1) hk hn0 (none_of (hle0.trans (hle2.trans hle3)) hn1) (fun e => by subst e; rw [(hle2.trans hle3) _ _ hl0] at hn1; cases hn1) rfl rfl (l1 _ _ hl0) hl1 ht fun H' h' hl' => ?_
          exact mac_ld (le_of_rows h') ⟨H', Heap.Le.refl _, h H' hl'⟩
    · refine newB_le fun b1 H3 hn1 hl1 hle3 => ⟨hash_ld (fun i v hi => Le_cell hle3 (ga i v hi)) ⟨rfl, rfl⟩, ?_⟩
      refine sha_New.run fun c H4 hh4 hnc hle4 => ⟨hash_ld (fun i v hi => Le_cell (hle3.trans hle4) (ga i v hi)) ⟨rfl, rfl⟩, _, rfl, hash_ld (hash_new_cells hh4) ?_⟩
      have l1 := (hle2.trans hle3).trans hle4
      refine seal_keyed.tail (hle0.trans l1) hk hn0 (none_of (hle0.trans hle2) hn1) (fun e => by subst e; rw [hle2 _ _ hl0] at hn1; cases hn1) rfl rfl (l1 _ _ hl0) (hle4 _ _ hl1) ht fun H' h' hl' => ?_
      exact mac_ld (le_of_rows h') ⟨H', Heap.Le.refl _, h H' hl'⟩
  · refine newB_le fun b1 H2 hn1 hl1 hle2 => ?_
    refine sha_New.run fun a H3 hh3 hna hle3 => ⟨_, rfl, ?_⟩
    have ga := hash_new_cells hh3
    refine hash_ld ga ?_
    refine sha_New.run fun c H4 hh4 hnc hle4 => ⟨hash_ld (fun i v hi => Le_cell hle4 (ga i v hi)) ⟨rfl, rfl⟩, _, rfl, hash_ld (hash_new_cells hh4) ?_⟩
    have l1 := (hle2.trans hle3).trans hle4
    refine seal_keyed.tail (hle0.trans l1) hk hn0 (none_of hle0 hn1) (fun e => by subst e; rw [hl0] at hn1; cases hn1) rfl rfl (l1 _ _ hl0) ((hle3.trans hle4) _ _ hl1) ht fun H' h' hl' => ?_
    exact mac_ld (le_of_rows h') ⟨H', Heap.Le.refl _, h H' hl'⟩
theorem seal_mac_code.run {H : Heap} {key s : ByteArray} (hk : key.size ≤ 64) (hs : s.size ≤ 100000000000) (ht : IntsIn H 1 .u32 kTab) {K : ByteArray → Heap → Prop} {E : Value → Heap → Prop} (h : ∀ H', Heap.Le H H' → K ⟨(hmac key.data.toList s.data.toList).toArray⟩ H') :
    seal_mac_code.c (wv (padS key.data.toList 0x36).a) (wv (padS key.data.toList 0x36).b) (wv (padS key.data.toList 0x36).c) (wv (padS key.data.toList 0x36).d) (wv (padS key.data.toList 0x36).e) (wv (padS key.data.toList 0x36).f) (wv (padS key.data.toList 0x36).g) (wv (padS key.data.toList 0x36).h) none 0 0 64 (wv (padS key.data.toList 0x5C).a) (wv (padS key.data.toList 0x5C).b) (wv (padS key.data.toList 0x5C).c) (wv (padS key.data.toList 0x5C).d) (wv (padS key.data.toList 0x5C).e) (wv (padS key.data.toList 0x5C).f) (wv (padS key.data.toList 0x5C).g) (wv (padS key.data.toList 0x5C).h) none 0 0 64 s K E H := by
  have hkl := ba_len key
  have hp1 := padK_len (key := key.data.toList) (x := 0x36) (by omega)
  have hp2 := padK_len (key := key.data.toList) (x := 0x5C) (by omega)
  refine ⟨?_⟩
  unfold seal_mac_code.vc
  refine newB_le fun b H1 hn hl hle => ?_
  have hr1 : RowO H1 b [] (hRow (padS key.data.toList 0x36) none 0 0 64) (hRow (padS key.data.toList 0x5C) none 0 0 64) 211 := by
    unfold RowO
    rw [hl, List.nil_append]
    unfold hRow St.cells St.list
    rfl
  have ho1 : HashO H1 b [] (hRow (padS key.data.toList 0x5C) none 0 0 64) 211 none 0 (padK key.data.toList 0x36) := hashO_of (by rw [eat64 hp1]) (by rw [eat64 hp1, hp1]; exact hr1)
  have st1 : Step [] H [b] H1 := Step.ofNew hn hle
  obtain ⟨t1, z1⟩ := st1.tab ht
  refine sha_Hash_Write.runO (hd := []) ho1 (by rw [hp1]; omega) t1 z1 fun p2 c2 H2 ho2 _ hst2 => ?_
  have st2 := st1.trans hst2
  obtain ⟨t2, z2⟩ := st2.tab ht
  refine sha_Hash_Sum.runO ho2 (by rw [List.length_append, hp1, ba_len]; omega) t2 z2 fun H3 hle3 => ?_
  have hs2 := ho2.1
  unfold StO RowO at hs2
  rw [List.nil_append] at hs2
  generalize hS2 : (eat st0 (padK key.data.toList 0x36 ++ s.data.toList)).1 = S2 at hs2
  generalize (eat st0 (padK key.data.toList 0x36 ++ s.data.toList)).2.length = n2 at hs2
  generalize ((padK key.data.toList 0x36 ++ s.data.toList).length : Int) = u2 at hs2
  have el : (S2.cells ++ [Value.slice p2 n2 c2, .int .u64 u2]).length = 10 := rfl
  have ea : ((⟨b, 0, none⟩ : Addr).add 10) = ⟨b, (S2.cells ++ [Value.slice p2 n2 c2, .int .u64 u2]).length, none⟩ := by rw [el]; rfl
  rw [ea]
  have hr3 : RowO H3 b (S2.cells ++ [Value.slice p2 n2 c2, .int .u64 u2]) (hRow (padS key.data.toList 0x5C) none 0 0 64) [] 211 := by
    unfold RowO
    rw [hle3 _ _ hs2, List.append_nil]
  have ho3 : HashO H3 b (S2.cells ++ [Value.slice p2 n2 c2, .int .u64 u2]) [] 211 none 0 (padK key.data.toList 0x5C) := hashO_of (by rw [eat64 hp2]) (by rw [eat64 hp2, hp2]; exact hr3)
  have st3 : Step [] H [b] H3 := fun k o hk hn => by
    have r := st2 k o hk hn
    exact ⟨hle3 _ _ r.1, fun hm => r.2 (by rw [List.mem_singleton] at hm; simp [hm])⟩
  obtain ⟨t3, z3⟩ := st3.tab ht
  have hsl := sha_len (padK key.data.toList 0x36 ++ s.data.toList)
  refine sha_Hash_Write.runO ho3 (by rw [hp2, ba_size, hsl]; decide) t3 z3 fun p4 c4 H4 ho4 _ hst4 => ?_
  have st4 := st3.trans hst4
  obtain ⟨t4, z4⟩ := st4.tab ht
  refine sha_Hash_Sum.runO ho4 (by rw [ba_list (sha _), List.length_append, hp2, hsl]; decide) t4 z4 fun H5 hle5 => ?_
  rw [ba_list (sha _)]
  have := h H5 (st4.le.trans hle5)
  unfold hmac at this
  rw [if_neg (by omega)] at this
  exact ⟨H5, Heap.Le.refl _, this⟩
/-! ### Numbers in bytes -/
theorem shr_u64 {n a : Nat} (ha : a ≤ 64) : shrI .u64 (n : Int) (a : Int) = ((n / 2 ^ a : Nat) : Int) := by
  unfold shrI
  have e3 : min ((a : Int)).toNat (IntKind.bits .u64) = a := by
    show min ((a : Int)).toNat 64 = _
    omega
  rw [e3, Int.fdiv_eq_ediv_of_nonneg _ (Int.le_of_lt (Int.pow_pos (by decide)))]
  simp
theorem seal_bytes.run {n k : Nat} (hk0 : 1 ≤ k) (hk : k ≤ 8) {H : Heap} {K : ByteArray → Heap → Prop} {E : Value → Heap → Prop} (h : ∀ H', Heap.Le H H' → K ⟨(beN n k).toArray⟩ H') : seal_bytes.c n k K E H := by
  refine ⟨?_⟩
  unfold seal_bytes.vc
  refine ⟨by omega, by omega, by omega, by omega, ?_⟩
  rw [Int.toNat_natCast]
  refine newB_le fun b H1 hn1 hl1 hle1 => ?_
  have hbl := beN_len k n
  have ho := OwnB.zeros hl1
  refine ⟨Loop.of (I := fun st H' m => ∃ j : Nat, st = (j : Int) ∧ j ≤ k ∧ m = k - j ∧ OwnB H' 5 (some ⟨b, 0, none⟩) k k (fillTo (beN n k) j) ∧ Step [b] H1 [b] H') ?_ ⟨0, rfl, by omega, rfl, by simpa [fillTo, hbl] using ho, Step.refl _ _⟩⟩
  rintro m st H' ⟨j, rfl, hj, rfl, ho, hst⟩ RR hRR
  unfold seal_bytes.W1.vc
  by_cases hc : j < k
  · rw [if_pos (by rw [decide_eq_true_eq]; omega)]
    have e1 : IntKind.i64.wrap (8 * (IntKind.i64.wrap ((IntKind.i64.wrap ((k : Int) - 1)) - (j : Int)))) = ((8 * (k - 1 - j) : Nat) : Int) := by
      rw [w_i64 (n := (k : Int) - 1) (by omega) (by omega), w_i64 (n := (k : Int) - 1 - (j : Int)) (by omega) (by omega), w_i64 (by omega) (by omega)]
      omega
    rw [e1, shr_u64 (by omega), u8_nat]
    refine ⟨by omega, _, rfl, by omega, by omega, ?_⟩
    rw [Int.toNat_natCast]
    refine ho.put (i := j) hc rfl fun H2 h2 hst2 => ?_
    rw [fillTo_set (beN_get _ _ _ hc)] at h2
    rw [w_i64 (by omega) (by omega)]
    exact hRR _ _ (k - (j + 1)) (by omega) ⟨j + 1, rfl, by omega, rfl, h2, hst.trans hst2⟩
  · rw [if_neg (by rw [decide_eq_true_eq]; omega)]
    have : j = k := by omega
    subst this
    have e2 : fillTo (beN n j) j = beN n j := by
      unfold fillTo
      rw [List.take_of_length_le (by omega), hbl, Nat.sub_self]
      simp
    rw [e2] at ho
    refine ho.bytes.rdBytes ?_
    refine ⟨H', Heap.Le.refl _, h H' fun q o hq => (hst q o (hle1 q o hq) ?_).1⟩
    intro hm
    rw [List.mem_singleton] at hm
    subst hm
    rw [hn1] at hq; cases hq
theorem beN_cons : ∀ (i n : Nat), beN n (i + 1) = UInt8.ofNat (n / 256 ^ i) :: beN n i
  | 0, n => by simp [beN]
  | i + 1, n => by
    show beN (n / 256) (i + 1) ++ [UInt8.ofNat n] = _
    rw [beN_cons i (n / 256), Nat.div_div_eq_div_mul, show 256 * 256 ^ i = 256 ^ (i + 1) by rw [Nat.pow_succ, Nat.mul_comm]]
    rfl
def un (n : Int) : Nat := (IntKind.u64.wrap n).toNat
theorem un_eq (n : Int) : IntKind.u64.wrap n = (un n : Int) ∧ un n < 18446744073709551616 := by
  have h0 : 0 ≤ IntKind.u64.wrap n ∧ IntKind.u64.wrap n < 18446744073709551616 := by
    simp only [IntKind.wrap, IntKind.bits, IntKind.signed, Bool.false_and, Bool.false_eq_true, if_false]
    exact ⟨Int.emod_nonneg _ (by decide), Int.emod_lt_of_pos _ (by decide)⟩
  unfold un
  omega
theorem vizardref06_Eight.run {n : Int} {H : Heap} {K : ByteArray → Heap → Prop} {E : Value → Heap → Prop} (h : ∀ H', Heap.Le H H' → K ⟨(beN (un n) 8).toArray⟩ H') : vizardref06_Eight.c n K E H := by
  obtain ⟨hu, hlt⟩ := un_eq n
  generalize un n = u at *
  refine ⟨?_⟩
  unfold vizardref06_Eight.vc
  rw [hu]
  refine ⟨Loop.of (I := fun st H' m => ∃ i : Nat, st.2.2.2.2 = (i : Int) ∧ i ≤ 8 ∧ m = 8 - i ∧ st.2.1 = i ∧ st.2.2.2.1 = ((u / 256 ^ i : Nat) : Int) ∧ OwnB H' 5 st.1 st.2.1 st.2.2.1 (beN u i) ∧ Heap.Le H H') ?_ ⟨0, rfl, by omega, rfl, rfl, by simp, OwnB.nil, Heap.Le.refl _⟩⟩
  rintro m ⟨p, n1, c, u1, i'⟩ H' ⟨i, hi', hi, rfl, hn, hu1, ho, hle⟩ RR hRR
  dsimp only at hi' hn hu1 ho
  subst hi'; subst hn; subst hu1
  unfold vizardref06_Eight.W1.vc
  dsimp only
  by_cases hc : n1 < 8
  · rw [if_pos (by rw [decide_eq_true_eq]; omega)]
    refine ⟨by decide, ?_⟩
    have hd := Nat.div_le_self u (256 ^ n1)
    rw [u8_of]
    refine newB_le fun b H1 hnb hlb hleb => ?_
    have ho1 := ho.le hleb
    refine ho1.bytes.rdRow rfl ?_
    have hob : OwnB H1 5 (some ⟨b, 0, none⟩) 1 1 [UInt8.ofNat (u / 256 ^ n1)] := OwnB.of_block hlb rfl (Nat.le_refl _) (Nat.le_refl _) (.inr rfl) rfl
    have hbl := beN_len n1 u
    refine appT_bytes (xs := beN u n1) (m := n1) hob rfl hbl (by omega) fun p' c' H2 h1 h2 => ⟨?_⟩
    unfold vizardref06_Eight.J2.vc
    refine ⟨by decide, ⟨?_⟩⟩
    unfold vizardref06_Eight.J3.vc
    have e0 : ∀ x : Nat, x < 18446744073709551616 → IntKind.u64.wrap (Int.tdiv (x : Int) 256) = ((x / 256 : Nat) : Int) := fun x hx => by
      rw [Int.tdiv_eq_ediv_of_nonneg (by omega), w_u64 (by omega) (by omega)]
      simp
    have e1 : IntKind.u64.wrap (Int.tdiv ((u / 256 ^ n1 : Nat) : Int) 256) = ((u / 256 ^ (n1 + 1) : Nat) : Int) := by
      rw [e0 _ (by omega), Nat.div_div_eq_div_mul, Nat.pow_succ]
    rw [e1, w_i64 (by omega) (by omega), Nat.add_comm 1 n1]
    rw [Nat.add_comm 1 n1] at h1
    have e2 : [UInt8.ofNat (u / 256 ^ n1)] ++ beN u n1 = beN u (n1 + 1) := (beN_cons n1 u).symm
    rw [e2] at h1
    refine hRR (p', n1 + 1, c', _, _) H2 (8 - (n1 + 1)) (by omega) ⟨n1 + 1, by simp, by omega, rfl, rfl, rfl, h1, fun k o hk => ?_⟩
    have nb : k ∉ bl (some (⟨b, 0, none⟩ : Addr)) := by
      simp only [bl, List.mem_singleton]
      intro e
      subst e
      rw [hle k o hk] at hnb; cases hnb
    exact (h2 k o (hleb k o (hle k o hk)) nb).1
  · rw [if_neg (by rw [decide_eq_true_eq]; omega)]
    have : n1 = 8 := by omega
    subst this
    refine ho.bytes.rdBytes ?_
    exact ⟨H', Heap.Le.refl _, h H' hle⟩
end Go.Sh
