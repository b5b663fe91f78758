/- The reference's digest. -/
import Derived.Test.YtkfkkkalcchpkaaGreatDoorShaC
import Derived.Test.YtkfkkkalcchpkaaGreatDoorGshb
namespace Go.Sh
set_option maxRecDepth 8000
def beN : Nat → Nat → List UInt8
  | _, 0 => []
  | n, k + 1 => beN (n / 256) k ++ [UInt8.ofNat n]
theorem beN_len : ∀ (k n : Nat), (beN n k).length = k
  | 0, _ => rfl
  | k + 1, n => by
    unfold beN
    rw [List.length_append, beN_len k]
    rfl
theorem beN8 (n : Nat) : beN n 8 = be64 n := by
  simp [beN, be64, Nat.div_div_eq_div_mul, List.range_succ]
theorem beN4 (x : W) : beN x.toNat 4 = be4 x := by
  simp [beN, be4, Nat.div_div_eq_div_mul]
theorem u8_of (n : Nat) : IntKind.u8.wrap (Int.tmod (n : Int) 256) = ((UInt8.ofNat n).toNat : Int) := by
  rw [Int.tmod_eq_emod_of_nonneg (by omega), UInt8.toNat_ofNat']
  simp only [IntKind.wrap, IntKind.bits, IntKind.signed, Bool.false_and, Bool.false_eq_true, if_false]
  omega
theorem one_bytes {H : Heap} {b : Nat} {x : UInt8} {e : TypeId} {K : ByteArray → Prop} (hb : H b = some (.cells #[(.int .u8 (x.toNat : Int))] e)) (hk : K ⟨#[x]⟩) : rdBytes H (some ⟨b, 0, none⟩) 1 K := by
  have : BytesAt H (some ⟨b, 0, none⟩) 1 [x] := ⟨rfl, (fun h => by cases h), fun a ha i y hi => by
    cases ha
    cases i with
    | zero =>
      have : x = y := by simpa using hi
      subst this
      exact loc hb rfl
    | succ i => simp at hi⟩
  exact this.rdBytes hk
theorem vizardref01_Bytes.ind {E : Value → Heap → Prop} : ∀ (k n : Nat) (H : Heap) (K : ByteArray → Heap → Prop), k ≤ 100 → n ≤ 4611686018427387904 → (∀ H', Heap.Le H H' → K ⟨(beN n k).toArray⟩ H') → vizardref01_Bytes.cn (k + 1) n k K E H
  | 0, n, H, K, _, _, h => by
    unfold vizardref01_Bytes.cn vizardref01_Bytes.vc
    rw [if_pos (by simp)]
    exact ⟨H, Heap.Le.refl _, h H (Heap.Le.refl _)⟩
  | k + 1, n, H, K, hk, hn, h => by
    unfold vizardref01_Bytes.cn vizardref01_Bytes.vc
    rw [if_neg (by rw [beq_iff_eq]; omega)]
    have e1 : IntKind.i64.wrap (Int.tdiv (n : Int) 256) = ((n / 256 : Nat) : Int) := by
      rw [Int.tdiv_eq_ediv_of_nonneg (by omega), w_i64 (by omega) (by omega)]
      simp
    have e2 : IntKind.i64.wrap (((k + 1 : Nat) : Int) - 1) = (k : Int) := by rw [w_i64 (by omega) (by omega)]; omega
    rw [e1, e2, u8_of]
    have fin : ∀ {H' : Heap}, Heap.Le H H' → ∃ H'', Heap.Le H'' H' ∧ K ((⟨(beN (n / 256) k).toArray⟩ : ByteArray) ++ ⟨#[UInt8.ofNat n]⟩) H'' := fun hle => by
      refine ⟨_, Heap.Le.refl _, ?_⟩
      have := h _ hle
      have e : (⟨(beN (n / 256) k).toArray⟩ : ByteArray) ++ ⟨#[UInt8.ofNat n]⟩ = ⟨(beN n (k + 1)).toArray⟩ := by
        apply ByteArray.ext
        rw [ByteArray.data_append]
        apply Array.toList_inj.1
        rw [Array.toList_append]
        rfl
      rw [e]
      exact this
    have sz : (⟨(beN (n / 256) k).toArray⟩ : ByteArray).size = k := by rw [ba_size, beN_len]
    have s1 : (⟨#[UInt8.ofNat n]⟩ : ByteArray).size = 1 := rfl
    refine ⟨by decide, by decide, ?_, ?_⟩
    · refine vizardref01_Bytes.ind k (n / 256) H _ (by omega) (by omega) fun H1 hle1 => ⟨⟨rfl, rfl⟩, ?_⟩
      refine newB_le fun b H2 hn2 hl2 hle2 => one_bytes hl2 ⟨by omega, fin (hle1.trans hle2)⟩
    · refine newB_le fun b H2 hn2 hl2 hle2 => one_bytes hl2 ?_
      refine vizardref01_Bytes.ind k (n / 256) H2 _ (by omega) (by omega) fun H1 hle1 => ⟨?_, ⟨rfl, rfl⟩, by omega, fin (hle2.trans hle1)⟩
      exact one_bytes (hle1 _ _ hl2) ⟨rfl, rfl⟩
theorem vizardref01_Bytes.run {k n : Nat} (hk : k ≤ 100) (hn : n ≤ 4611686018427387904) {H : Heap} {K : ByteArray → Heap → Prop} {E : Value → Heap → Prop} (h : ∀ H', Heap.Le H H' → K ⟨(beN n k).toArray⟩ H') : vizardref01_Bytes.c n k K E H :=
  ⟨⟨k + 1, vizardref01_Bytes.ind k n H K hk hn h⟩⟩
theorem vizardref05_turn.run {x : W} {n : Nat} (h1 : n ≤ 32) {K : Int → Heap → Prop} {E : Value → Heap → Prop} {H : Heap} (h : K (wv (rotr x n)) H) : vizardref05_turn.c (wv x) n K E H := by
  refine ⟨?_⟩
  unfold vizardref05_turn.vc
  have e : IntKind.i64.wrap (32 - (n : Int)) = ((32 - n : Nat) : Int) := by rw [w_i64 (by omega) (by omega)]; omega
  rw [e, shl_w x (by omega) (by omega), shr_w x (by omega) (by omega), or_w, Int.toNat_natCast, Int.toNat_natCast]
  exact ⟨by omega, by omega, H, Heap.Le.refl _, h⟩
theorem be32_nat (a b c d : UInt8) : (be32 a b c d).toNat = a.toNat * 16777216 + b.toNat * 65536 + c.toNat * 256 + d.toNat := by
  have ha := a.toNat_lt; have hb := b.toNat_lt; have hc := c.toNat_lt; have hd := d.toNat_lt
  unfold be32
  simp only [BitVec.toNat_or, BitVec.toNat_shiftLeft, BitVec.toNat_ofNat]
  rw [Nat.mod_eq_of_lt (by omega : a.toNat < 2 ^ 32), Nat.mod_eq_of_lt (by omega : b.toNat < 2 ^ 32), Nat.mod_eq_of_lt (by omega : c.toNat < 2 ^ 32), Nat.mod_eq_of_lt (by omega : d.toNat < 2 ^ 32)]
  have sa : a.toNat <<< 24 = a.toNat * 16777216 := by rw [Nat.shiftLeft_eq]
  have sb : b.toNat <<< 16 = b.toNat * 65536 := by rw [Nat.shiftLeft_eq]
  have sc : c.toNat <<< 8 = c.toNat * 256 := by rw [Nat.shiftLeft_eq]
  rw [Nat.mod_eq_of_lt (by rw [sa]; omega), Nat.mod_eq_of_lt (by rw [sb]; omega), Nat.mod_eq_of_lt (by rw [sc]; omega)]
  rw [← Nat.shiftLeft_add_eq_or_of_lt (by rw [sb]; omega : b.toNat <<< 16 < 2 ^ 24) a.toNat]
  have e1 : a.toNat <<< 24 + b.toNat <<< 16 = (a.toNat * 256 + b.toNat) <<< 16 := by rw [sa, sb, Nat.shiftLeft_eq]; omega
  rw [e1, ← Nat.shiftLeft_add_eq_or_of_lt (by rw [sc]; omega : c.toNat <<< 8 < 2 ^ 16) (a.toNat * 256 + b.toNat)]
  have e2 : (a.toNat * 256 + b.toNat) <<< 16 + c.toNat <<< 8 = (a.toNat * 65536 + b.toNat * 256 + c.toNat) <<< 8 := by rw [sc, Nat.shiftLeft_eq, Nat.shiftLeft_eq]; omega
  rw [e2, ← Nat.shiftLeft_add_eq_or_of_lt (by omega : d.toNat < 2 ^ 8) (a.toNat * 65536 + b.toNat * 256 + c.toNat), Nat.shiftLeft_eq]
  omega
theorem be32_add (a b c d : UInt8) : IntKind.u32.wrap ((IntKind.u32.wrap ((IntKind.u32.wrap ((IntKind.u32.wrap ((IntKind.u32.wrap (a.toNat : Int)) * 16777216)) + (IntKind.u32.wrap ((IntKind.u32.wrap (b.toNat : Int)) * 65536)))) + (IntKind.u32.wrap ((IntKind.u32.wrap (c.toNat : Int)) * 256)))) + (IntKind.u32.wrap (d.toNat : Int))) = wv (be32 a b c d) := by
  have ha := a.toNat_lt; have hb := b.toNat_lt; have hc := c.toNat_lt; have hd := d.toNat_lt
  unfold wv
  rw [be32_nat, w_u32 (n := (a.toNat : Int)) (by omega) (by omega), w_u32 (n := (b.toNat : Int)) (by omega) (by omega), w_u32 (n := (c.toNat : Int)) (by omega) (by omega), w_u32 (n := (d.toNat : Int)) (by omega) (by omega),
    w_u32 (n := (a.toNat : Int) * 16777216) (by omega) (by omega), w_u32 (n := (b.toNat : Int) * 65536) (by omega) (by omega), w_u32 (n := (c.toNat : Int) * 256) (by omega) (by omega),
    w_u32 (n := (a.toNat : Int) * 16777216 + (b.toNat : Int) * 65536) (by omega) (by omega), w_u32 (n := (a.toNat : Int) * 16777216 + (b.toNat : Int) * 65536 + (c.toNat : Int) * 256) (by omega) (by omega), w_u32 (by omega) (by omega)]
  simp
theorem bt_getD (s : ByteArray) (i : Nat) : bt s (i : Int) = ((s.data.toList.getD i 0).toNat : Int) := by unfold bt; rw [Int.toNat_natCast]
theorem vizardref05_words.loop1 {H0 : Heap} {b3 : Nat} {s : ByteArray} (hs : s.size = 64) (hw : H0 b3 = some (.cells (wArr []) 197)) {Kx : Heap → Prop} {E : Value → Heap → Prop}
    (hx : ∀ H, H b3 = some (.cells (wArr (words16 s.data.toList)) 197) → Step [b3] H0 [b3] H → Kx H) : vizardref05_words.W1 s (some ⟨b3, 0, none⟩) 64 64 0 Kx E H0 := by
  refine ⟨Loop.of (I := fun st H m => ∃ k : Nat, st = (k : Int) ∧ k ≤ 16 ∧ m = 16 - k ∧ H b3 = some (.cells (wArr ((List.range k).map (wordAt s.data.toList))) 197) ∧ Step [b3] H0 [b3] H) ?_ ⟨0, rfl, by omega, rfl, hw, Step.refl _ _⟩⟩
  rintro m st H ⟨k, rfl, hk, rfl, hw, hst⟩ RR hRR
  unfold vizardref05_words.W1.vc
  by_cases hlt : k < 16
  · rw [if_pos (by rw [decide_eq_true_eq]; omega)]
    have e0 : IntKind.i64.wrap (4 * (k : Int)) = ((4 * k : Nat) : Int) := by rw [w_i64 (by omega) (by omega)]; simp
    have e1 : ∀ j : Nat, j < 4 → IntKind.i64.wrap (((4 * k : Nat) : Int) + (j : Int)) = ((4 * k + j : Nat) : Int) := fun j hj => by rw [w_i64 (by omega) (by omega)]; simp
    rw [e0, show (1 : Int) = ((1 : Nat) : Int) from rfl, show (2 : Int) = ((2 : Nat) : Int) from rfl, show (3 : Int) = ((3 : Nat) : Int) from rfl, e1 1 (by decide), e1 2 (by decide), e1 3 (by decide), bt_getD, bt_getD, bt_getD, bt_getD, be32_add]
    refine ⟨by omega, by omega, by omega, by omega, by omega, by omega, by omega, by omega, _, rfl, by omega, by omega, ?_⟩
    rw [Int.toNat_natCast, Nat.mul_one]
    have hlen : ((List.range k).map (wordAt s.data.toList)).length = k := by simp
    refine stc_loc hw (by rw [wArr_size (by omega)]; omega) ?_
    have e3 : (wArr ((List.range k).map (wordAt s.data.toList))).setIfInBounds k (wV (wordAt s.data.toList k)) = wArr ((List.range (k + 1)).map (wordAt s.data.toList)) := by
      have := wArr_set (xs := (List.range k).map (wordAt s.data.toList)) (x := wordAt s.data.toList k) (by omega)
      rw [hlen, words_take] at this
      exact this
    have hgoal := hRR ((k + 1 : Nat) : Int) (H.set b3 (.cells (wArr ((List.range (k + 1)).map (wordAt s.data.toList))) 197)) (16 - (k + 1)) (by omega) ⟨k + 1, rfl, by omega, rfl, set_self _ _ _, hst.trans (Step.set _ _ _)⟩
    rw [← e3] at hgoal
    rw [show IntKind.i64.wrap ((k : Int) + ((1 : Nat) : Int)) = ((k + 1 : Nat) : Int) by rw [w_i64 (by omega) (by omega)]; simp]
    exact hgoal
  · rw [if_neg (by rw [decide_eq_true_eq]; omega)]
    have : k = 16 := by omega
    subst this
    exact hx H hw hst
theorem wNxt_ref {xs : List W} {t : Nat} (h : xs.length = t) : ((((rotr (xs.getD (t - 2) 0) 17 ^^^ rotr (xs.getD (t - 2) 0) 19) ^^^ (xs.getD (t - 2) 0 >>> 10)) + xs.getD (t - 7) 0) + ((rotr (xs.getD (t - 15) 0) 7 ^^^ rotr (xs.getD (t - 15) 0) 18) ^^^ (xs.getD (t - 15) 0 >>> 3))) + xs.getD (t - 16) 0 = wNxt xs := by
  rw [wNxt_eq h]
  ac_rfl
theorem vizardref05_words.loop2 {H0 : Heap} {b3 : Nat} {l : List UInt8} (hw : H0 b3 = some (.cells (wArr (words16 l)) 197)) {Kx : Heap → Prop} {E : Value → Heap → Prop}
    (hx : ∀ H, H b3 = some (.cells (wArr (sched l)) 197) → Step [b3] H0 [b3] H → Kx H) : vizardref05_words.W2 (some ⟨b3, 0, none⟩) 64 64 16 Kx E H0 := by
  refine ⟨Loop.of (I := fun st H m => ∃ k : Nat, st = ((16 + k : Nat) : Int) ∧ k ≤ 48 ∧ m = 48 - k ∧ H b3 = some (.cells (wArr (wExt k (words16 l))) 197) ∧ Step [b3] H0 [b3] H) ?_ ⟨0, rfl, by omega, rfl, hw, Step.refl _ _⟩⟩
  rintro m st H ⟨k, rfl, hk, rfl, hw, hst⟩ RR hRR
  unfold vizardref05_words.W2.vc
  have hlen : (wExt k (words16 l)).length = 16 + k := by rw [wExt_len]; simp [words16]
  by_cases hlt : k < 48
  · rw [if_pos (by rw [decide_eq_true_eq]; omega)]
    have e15 : IntKind.i64.wrap (((16 + k : Nat) : Int) - 15) = ((16 + k - 15 : Nat) : Int) := by rw [w_i64 (by omega) (by omega)]; omega
    have e2 : IntKind.i64.wrap (((16 + k : Nat) : Int) - 2) = ((16 + k - 2 : Nat) : Int) := by rw [w_i64 (by omega) (by omega)]; omega
    have e16 : IntKind.i64.wrap (((16 + k : Nat) : Int) - 16) = ((16 + k - 16 : Nat) : Int) := by rw [w_i64 (by omega) (by omega)]; omega
    have e7 : IntKind.i64.wrap (((16 + k : Nat) : Int) - 7) = ((16 + k - 7 : Nat) : Int) := by rw [w_i64 (by omega) (by omega)]; omega
    rw [e15, e2, e16, e7]
    simp only [Int.toNat_natCast]
    have g : ∀ i, i < 16 + k → H.cell? ((⟨b3, 0, none⟩ : Addr).add (i * 1)) = some (wV ((wExt k (words16 l)).getD i 0)) := fun i hi => loc0 hw (wArr_get (by omega))
    have g16 := g (16 + k - 16) (by omega)
    have g7 := g (16 + k - 7) (by omega)
    refine ⟨_, rfl, by omega, by omega, _, g (16 + k - 15) (by omega), _, rfl, by omega, by omega, _, g (16 + k - 2) (by omega), ?_⟩
    refine vizardref05_turn.run (n := 7) (by decide) ?_
    refine vizardref05_turn.run (n := 18) (by decide) ⟨by decide, ?_⟩
    refine vizardref05_turn.run (n := 17) (by decide) ?_
    refine vizardref05_turn.run (n := 19) (by decide) ⟨by decide, _, rfl, by omega, by omega, _, g7, _, rfl, by omega, by omega, _, g16, _, rfl, by omega, by omega, ?_⟩
    simp only [add_w, xor_w, shr3, shr10]
    rw [wNxt_ref hlen, Nat.mul_one]
    refine stc_loc hw (by rw [wArr_size (by omega)]; omega) ?_
    have e3 : (wArr (wExt k (words16 l))).setIfInBounds (16 + k) (.int .u32 (wv (wNxt (wExt k (words16 l))))) = wArr (wExt (k + 1) (words16 l)) := by
      have := wArr_set (xs := wExt k (words16 l)) (x := wNxt (wExt k (words16 l))) (by omega)
      rw [hlen, ← wExt_succ] at this
      exact this
    rw [e3, w_i64 (by omega) (by omega)]
    exact hRR _ _ (48 - (k + 1)) (by omega) ⟨k + 1, rfl, by omega, rfl, set_self _ _ _, hst.trans (Step.set _ _ _)⟩
  · rw [if_neg (by rw [decide_eq_true_eq]; omega)]
    have : k = 48 := by omega
    subst this
    exact hx H hw hst
theorem vizardref05_words.run {H : Heap} {s : ByteArray} (hs : s.size = 64) {K : Option Addr → Nat → Nat → Heap → Prop} {E : Value → Heap → Prop} (h : ∀ b H', Heap.Le H H' → H' b = some (.cells (wArr (sched s.data.toList)) 197) → K (some ⟨b, 0, none⟩) 64 64 H') : vizardref05_words.c s K E H := by
  refine ⟨?_⟩
  unfold vizardref05_words.vc
  refine ⟨by decide, by decide, by decide, by decide, ?_⟩
  refine newB_le fun b3 H1 hn3 hl3 hle1 => ?_
  refine vizardref05_words.loop1 hs (hl3.trans (by kernel_rfl)) fun H2 hw2 hs2 => ?_
  refine vizardref05_words.loop2 hw2 fun H3 hw3 hs3 => ⟨H3, Heap.Le.refl _, h b3 H3 (fun k o hk => ?_) hw3⟩
  have n : k ∉ [b3] := fun hm => by
    rw [List.mem_singleton] at hm
    subst hm
    rw [hn3] at hk; cases hk
  exact ((hs2.trans hs3) k o (hle1 k o hk) n).1
/-- Words that stand in known memory. -/
def WAt (H : Heap) (b : Nat) (ws : List W) : Prop := ∀ (i : Nat) (x : W), ws[i]? = some x → H.cell? ((⟨b, 0, none⟩ : Addr).add (i * 1)) = some (wV x)
theorem WAt.le {H H' : Heap} {b : Nat} {ws : List W} (h : WAt H b ws) (hl : Heap.Le H H') : WAt H' b ws := fun i x hi => Le_cell hl (h i x hi)
theorem WAt.of {H : Heap} {b : Nat} {ws : List W} {e : TypeId} (h : H b = some (.cells (ws.map wV).toArray e)) : WAt H b ws := fun i x hi => loc0 h (by rw [List.getElem?_toArray, List.getElem?_map, hi]; rfl)
theorem vizardref05_block.run {H : Heap} {s : ByteArray} (hs : s.size = 64) {ob kb : Nat} {S : St} (ho : WAt H ob S.list) (hk : ∀ t : Nat, t < 64 → H.cell? ((⟨kb, 0, none⟩ : Addr).add (t * 1)) = some (wV (kW t))) {K : Option Addr → Nat → Nat → Heap → Prop} {E : Value → Heap → Prop}
    (h : ∀ b H', Heap.Le H H' → WAt H' b (S.block s.data.toList).list → K (some ⟨b, 0, none⟩) 8 8 H') : vizardref05_block.c (some ⟨ob, 0, none⟩) 8 8 (some ⟨kb, 0, none⟩) 64 64 s K E H := by
  refine ⟨?_⟩
  unfold vizardref05_block.vc
  refine vizardref05_words.run hs fun wb H1 hle1 hw1 => ?_
  have ho1 := ho.le hle1
  refine ⟨_, rfl, by decide, by decide, _, ho1 0 _ rfl, _, rfl, by decide, by decide, _, ho1 1 _ rfl, _, rfl, by decide, by decide, _, ho1 2 _ rfl, _, rfl, by decide, by decide, _, ho1 3 _ rfl, _, rfl, by decide, by decide, _, ho1 4 _ rfl, _, rfl, by decide, by decide, _, ho1 5 _ rfl, _, rfl, by decide, by decide, _, ho1 6 _ rfl, _, rfl, by decide, by decide, _, ho1 7 _ rfl, ?_⟩
  refine ⟨Loop.of (I := fun st H' m => ∃ k : Nat, st = (wv (rnds (sched s.data.toList) k S).a, wv (rnds (sched s.data.toList) k S).b, wv (rnds (sched s.data.toList) k S).c, wv (rnds (sched s.data.toList) k S).d, wv (rnds (sched s.data.toList) k S).e, wv (rnds (sched s.data.toList) k S).f, wv (rnds (sched s.data.toList) k S).g, wv (rnds (sched s.data.toList) k S).h, (k : Int)) ∧ k ≤ 64 ∧ m = 64 - k ∧ H' = H1) ?_ ⟨0, rfl, by omega, rfl, rfl⟩⟩
  rintro m st H' ⟨k, rfl, hk64, rfl, rfl⟩ RR hRR
  unfold vizardref05_block.W1.vc
  dsimp only
  by_cases hlt : k < 64
  · rw [if_pos (by rw [decide_eq_true_eq]; omega)]
    have gk : H'.cell? ((⟨kb, 0, none⟩ : Addr).add (k * 1)) = some (wV (kW k)) := Le_cell hle1 (hk k hlt)
    have gw : H'.cell? ((⟨wb, 0, none⟩ : Addr).add (k * 1)) = some (wV ((sched s.data.toList).getD k 0)) := loc0 hw1 (wArr_get (by rw [sched_len]; exact hlt))
    simp only [Int.toNat_natCast]
    refine ⟨_, rfl, by omega, by omega, _, gk, _, rfl, by omega, by omega, _, gw, ?_⟩
    refine vizardref05_turn.run (n := 6) (by decide) ⟨⟨_, gw, rfl, rfl⟩, ⟨_, gk, rfl, rfl⟩, ?_⟩
    refine vizardref05_turn.run (n := 11) (by decide) ⟨⟨_, gw, rfl, rfl⟩, ⟨_, gk, rfl, rfl⟩, ?_⟩
    refine vizardref05_turn.run (n := 25) (by decide) ⟨⟨_, gw, rfl, rfl⟩, ⟨_, gk, rfl, rfl⟩, ?_⟩
    refine vizardref05_turn.run (n := 2) (by decide) ?_
    refine vizardref05_turn.run (n := 13) (by decide) ?_
    refine vizardref05_turn.run (n := 22) (by decide) ?_
    simp only [add_w, xor_w, and_w, sub_w, chW_xor, majW_xor]
    rw [w_i64 (by omega) (by omega)]
    exact hRR _ _ (64 - (k + 1)) (by omega) ⟨k + 1, rfl, by omega, rfl, rfl⟩
  · rw [if_neg (by rw [decide_eq_true_eq]; omega)]
    have : k = 64 := by omega
    subst this
    refine ⟨_, rfl, by decide, by decide, _, ho1 0 _ rfl, _, rfl, by decide, by decide, _, ho1 1 _ rfl, _, rfl, by decide, by decide, _, ho1 2 _ rfl, _, rfl, by decide, by decide, _, ho1 3 _ rfl, _, rfl, by decide, by decide, _, ho1 4 _ rfl, _, rfl, by decide, by decide, _, ho1 5 _ rfl, _, rfl, by decide, by decide, _, ho1 6 _ rfl, _, rfl, by decide, by decide, _, ho1 7 _ rfl, ?_⟩
    simp only [add_w]
    refine newB_le fun b H2 hn2 hl2 hle2 => ⟨H2, Heap.Le.refl _, h b H2 (hle1.trans hle2) (WAt.of (e := 197) hl2)⟩
theorem vizardref05_Sum.run {H : Heap} {s : ByteArray} (hs : s.size ≤ 1000000000000) {K : ByteArray → Heap → Prop} {E : Value → Heap → Prop} (h : ∀ H', Heap.Le H H' → K ⟨(sha s.data.toList).toArray⟩ H') : vizardref05_Sum.c s K E H := by
  have hsl := ba_len s
  refine ⟨?_⟩
  unfold vizardref05_Sum.vc
  have s128 : (⟨#[128]⟩ : ByteArray).size = 1 := rfl
  have s0 : (⟨#[0]⟩ : ByteArray).size = 1 := rfl
  refine ⟨by omega, ?_⟩
  have hz : zpad s.size = (119 - s.size % 64) % 64 := rfl
  refine ⟨Loop.of (I := fun t H' m => ∃ j, j ≤ zpad s.size ∧ m = zpad s.size - j ∧ t.data.toList = (s.data.toList ++ [128]) ++ List.replicate j 0 ∧ H' = H) ?_ ⟨0, Nat.zero_le _, rfl, by rw [ba_app]; simp, rfl⟩⟩
  rintro m t H' ⟨j, hj, rfl, ht, rfl⟩ RR hRR
  have htl : t.size = s.size + 1 + j := by
    rw [← ba_len t, ht]
    simp [hsl]
    omega
  unfold vizardref05_Sum.W1.vc
  have htm : Int.tmod ((t.size : Nat) : Int) 64 = ((t.size % 64 : Nat) : Int) := by
    rw [Int.tmod_eq_emod_of_nonneg (by omega)]
    simp
  refine ⟨by decide, ?_⟩
  rw [htm]
  by_cases hc : j < zpad s.size
  · rw [if_pos (by rw [bne_iff_ne]; omega)]
    refine ⟨by omega, hRR _ _ (zpad s.size - (j + 1)) (by omega) ⟨j + 1, by omega, rfl, ?_, rfl⟩⟩
    rw [ba_app, ht, List.append_assoc]
    congr 1
    rw [List.replicate_succ']
  · have hjz : j = zpad s.size := by omega
    subst hjz
    rw [if_neg (by rw [bne_iff_ne]; omega)]
    have e8 : IntKind.i64.wrap (8 * (s.size : Int)) = ((8 * s.size : Nat) : Int) := by rw [w_i64 (by omega) (by omega)]; simp
    rw [e8]
    refine vizardref01_Bytes.run (k := 8) (by decide) (by omega) fun H1 hle1 => ?_
    rw [beN8]
    generalize hT : t ++ (⟨(be64 (8 * s.size)).toArray⟩ : ByteArray) = T
    have hb8 : (⟨(be64 (8 * s.size)).toArray⟩ : ByteArray).size = 8 := by rw [ba_size]; simp [be64]
    refine ⟨by omega, ⟨?_⟩⟩
    have hTl : T.data.toList = padded s.data.toList s.data.toList.length := by
      rw [← hT, ba_app, ht, ba_list]
      unfold padded
      rw [hsl]
    have hTs : T.size % 64 = 0 := by rw [← ba_len T, hTl]; exact padded_len _ _
    have hTb : T.size ≤ 1000000001000 := by
      rw [← hT, ByteArray.size_append, hb8, htl]
      omega
    unfold vizardref05_first.vc
    refine newB_le fun hb0 H2 hn2 hl2 hle2 => ⟨H2, Heap.Le.refl _, ⟨?_⟩⟩
    have hw0 : WAt H2 hb0 st0.list := WAt.of (e := 197) (hl2.trans (by kernel_rfl))
    unfold vizardref05_constants.vc
    refine newB_le fun kb H3 hn3 hl3 hle3 => ⟨H3, Heap.Le.refl _, ?_⟩
    have hk3 : ∀ t : Nat, t < 64 → H3.cell? ((⟨kb, 0, none⟩ : Addr).add (t * 1)) = some (wV (kW t)) := fun t ht => by
      have e1 : H3 kb = some (.cells (kTab.map fun x => Value.int .u32 x).toArray 197) := hl3.trans (by kernel_rfl)
      refine loc0 e1 ?_
      have := kW_at ⟨t, ht⟩
      dsimp only at this
      rw [List.getElem?_toArray, List.getElem?_map, this]
      rfl
    refine ⟨Loop.of (I := fun st H' m => ∃ (j b : Nat) (S : St), st = (some ⟨b, 0, none⟩, 8, 8, ((64 * j : Nat) : Int)) ∧ 64 * j ≤ T.size ∧ m = T.size - 64 * j ∧ WAt H' b S.list ∧ Heap.Le H3 H' ∧ eat S (T.data.toList.drop (64 * j)) = eat st0 T.data.toList) ?_ ⟨0, hb0, st0, rfl, by omega, rfl, hw0.le hle3, Heap.Le.refl _, rfl⟩⟩
    rintro m st H4 ⟨j, b, S, rfl, hj, rfl, hw4, hle4, heq⟩ RR hRR
    have hTl2 := ba_len T
    unfold vizardref05_Sum.W2.vc
    dsimp only
    by_cases hc : 64 * j < T.size
    · rw [if_pos (by rw [decide_eq_true_eq]; omega)]
      have e64 : IntKind.i64.wrap (((64 * j : Nat) : Int) + 64) = ((64 * (j + 1) : Nat) : Int) := by rw [w_i64 (by omega) (by omega)]; omega
      rw [e64, Int.toNat_natCast, Int.toNat_natCast]
      refine ⟨by omega, by omega, by omega, ?_⟩
      have hxs : (T.extract (64 * j) (64 * (j + 1))).size = 64 := by rw [ByteArray.size_extract]; omega
      have hxl : (T.extract (64 * j) (64 * (j + 1))).data.toList = (T.data.toList.drop (64 * j)).take 64 := by
        rw [ByteArray.data_extract, Array.toList_extract, List.extract_eq_take_drop, show 64 * (j + 1) - 64 * j = 64 by omega]
      refine vizardref05_block.run hxs hw4 (fun t ht => Le_cell hle4 (hk3 t ht)) fun b2 H5 hle5 hw5 => ?_
      rw [hxl] at hw5
      refine hRR (_, 8, 8, _) H5 (T.size - 64 * (j + 1)) (by omega) ⟨j + 1, b2, S.block ((T.data.toList.drop (64 * j)).take 64), rfl, by omega, rfl, hw5, hle4.trans hle5, ?_⟩
      rw [← heq, eat_step (l := T.data.toList.drop (64 * j)) (by rw [List.length_drop]; omega), List.drop_drop, show 64 * j + 64 = 64 * (j + 1) by omega]
    · rw [if_neg (by rw [decide_eq_true_eq]; omega)]
      have hd : T.data.toList.drop (64 * j) = [] := List.drop_eq_nil_of_le (by omega)
      rw [hd, eat_small (by simp)] at heq
      have hS : S.bytes = sha s.data.toList := by
        unfold sha
        rw [← hTl, ← heq]
      have hl8 : S.list.length = 8 := rfl
      refine ⟨Loop.of (I := fun st H' m => ∃ j, j ≤ 8 ∧ m = 8 - j ∧ st.1.data.toList = (S.list.take j).flatMap be4 ∧ st.2 = (j : Int) ∧ Heap.Le H4 H') ?_ ⟨0, Nat.zero_le _, rfl, rfl, rfl, Heap.Le.refl _⟩⟩
      rintro m ⟨out, i⟩ H5 ⟨j, hj, rfl, hout, hi, hle5⟩ RR hRR
      dsimp only at hout hi
      subst hi
      have hol : out.size = 4 * j := by rw [← ba_len out, hout, flat_len4, List.length_take]; omega
      unfold vizardref05_Sum.W3.vc
      dsimp only
      by_cases hc : j < 8
      · rw [if_pos (by rw [decide_eq_true_eq]; omega)]
        have hx : S.list[j]? = some (S.list[j]'(by omega)) := List.getElem?_eq_getElem (by omega)
        have hxe : S.list[j]'(by omega) = S.list[j]'(by omega) := rfl
        generalize S.list[j]'(by omega) = w at hx hxe
        refine ⟨_, rfl, by omega, by omega, wv w, by rw [Int.toNat_natCast]; exact (hw4.le hle5) j w hx, ?_⟩
        have hwr := wv_range w
        dsimp only
        rw [w_i64 (n := wv w) (by omega) (by omega)]
        refine vizardref01_Bytes.run (k := 4) (n := w.toNat) (by decide) (by have := w.isLt; omega) fun H6 hle6 => ?_
        rw [beN4]
        have s4 : (⟨(be4 w).toArray⟩ : ByteArray).size = 4 := rfl
        refine ⟨by rw [s4]; omega, ?_⟩
        rw [w_i64 (by omega) (by omega)]
        refine hRR (_, _) H6 (8 - (j + 1)) (by omega) ⟨j + 1, by omega, rfl, ?_, by simp, hle5.trans hle6⟩
        rw [ba_app, hout, ba_list]
        have hlt : j < S.list.length := by omega
        have : S.list[j] = w := (List.getElem?_eq_some_iff.1 hx).2
        rw [List.take_succ_eq_append_getElem hlt, List.flatMap_append, this]
        simp
      · rw [if_neg (by rw [decide_eq_true_eq]; omega)]
        have : j = 8 := by omega
        subst this
        have e : S.list.take 8 = S.list := List.take_of_length_le (by omega)
        rw [e] at hout
        have e2 : out = ⟨(sha s.data.toList).toArray⟩ := by
          rw [← hS]
          unfold St.bytes
          rw [← hout, ba_mk]
        rw [e2]
        exact ⟨H5, Heap.Le.refl _, h H5 ((((hle1.trans hle2).trans hle3).trans hle4).trans hle5)⟩
end Go.Sh
