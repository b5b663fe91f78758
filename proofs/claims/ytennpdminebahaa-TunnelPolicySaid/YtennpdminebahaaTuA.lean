/- The document's packets of IPv4: what the functions do. -/
import Derived.Test.YtennpdminebahaaGtu
namespace Go.Sh
open Go.Proofs
set_option maxRecDepth 8000
theorem vizardref01_Bytes.steps {K : ByteArray → Heap → Prop} {E : Value → Heap → Prop} {H : Heap} : ∀ (k n : Nat), k ≤ 1000 → n ≤ 9223372036854775807 → K ⟨(bbe n k).toArray⟩ H → vizardref01_Bytes.cn (k + 1) (n : Int) (k : Int) K E H := by
  intro k
  induction k generalizing K H with
  | zero =>
    intro n _ _ h
    show vizardref01_Bytes.vc _ _ _ _ _ _
    unfold vizardref01_Bytes.vc
    rw [if_pos (by simp)]
    exact ⟨H, Heap.Le.refl H, h⟩
  | succ k ih =>
    intro n hk hn h
    show vizardref01_Bytes.vc _ _ _ _ _ _
    unfold vizardref01_Bytes.vc
    rw [if_neg (by simp; omega)]
    have e1 : IntKind.i64.wrap (Int.tdiv (n : Int) 256) = ((n / 256 : Nat) : Int) := by
      rw [Int.tdiv_eq_ediv_of_nonneg (by omega), w_i64 (by omega) (by omega)]; rfl
    have e2 : IntKind.i64.wrap (((k + 1 : Nat) : Int) - 1) = (k : Int) := by rw [w_i64 (by omega) (by omega)]; omega
    have e3 : IntKind.u8.wrap (Int.tmod (n : Int) 256) = ((UInt8.ofNat (n % 256)).toNat : Int) := by
      rw [Int.tmod_eq_emod_of_nonneg (by omega), w_u8 (by omega) (by omega), UInt8.toNat_ofNat']
      omega
    rw [e1, e2, e3]
    have fin : (⟨(bbe (n / 256) k).toArray⟩ : ByteArray) ++ (⟨[UInt8.ofNat (n % 256)].toArray⟩ : ByteArray) = ⟨(bbe n (k + 1)).toArray⟩ := by
      apply ByteArray.ext
      simp [bbe]
    have hsz : (⟨(bbe (n / 256) k).toArray⟩ : ByteArray).size = k := by simp [ByteArray.size, bbe_len]
    have hsz1 : (⟨[UInt8.ofNat (n % 256)].toArray⟩ : ByteArray).size = 1 := rfl
    have rd : ∀ {H' : Heap} {b : Nat} {Q : ByteArray → Prop}, H' b = some (.cells #[.int .u8 ((UInt8.ofNat (n % 256)).toNat : Int)] 5) → Q ⟨[UInt8.ofNat (n % 256)].toArray⟩ → rdBytes H' (some ⟨b, 0, none⟩) 1 Q := fun hb hq =>
      rdBytes_of (bs := [UInt8.ofNat (n % 256)]) hb rfl (fun i x hi => by
        cases i with
        | zero => simp at hi; subst hi; simp
        | succ i => simp at hi) hq
    refine ⟨by decide, by decide, ih (n / 256) (by omega) (by omega) ⟨⟨rfl, rfl⟩, fun b hb => ?_⟩, fun b hb => ?_⟩
    · refine rd (set_self _ _ _) ⟨by rw [hsz, hsz1]; omega, leave hb ?_⟩
      rw [fin]; exact h
    · refine rd (set_self _ _ _) ?_
      refine ih (n / 256) (by omega) (by omega) ?_
      refine ⟨?_, ⟨rfl, rfl⟩, by rw [hsz, hsz1]; omega, leave hb ?_⟩
      · exact rd (set_self _ _ _) ⟨rfl, rfl⟩
      · rw [fin]; exact h
theorem vizardref01_Bytes.run {K : ByteArray → Heap → Prop} {E : Value → Heap → Prop} {H : Heap} {n : Int} {k : Nat} (h0 : 0 ≤ n) (h1 : n ≤ 9223372036854775807) (hk : k ≤ 1000) (h : K ⟨(bbe n.toNat k).toArray⟩ H) : vizardref01_Bytes.c n (k : Int) K E H := by
  obtain ⟨m, rfl⟩ := Int.eq_ofNat_of_zero_le h0
  exact ⟨k + 1, vizardref01_Bytes.steps k m hk (by omega) h⟩
theorem vizardref01_Number.run {s : ByteArray} (hs : s.size ≤ 7) {K : Int → Heap → Prop} {E : Value → Heap → Prop} {H : Heap} (h : K (num s.data.toList : Int) H) : vizardref01_Number.c s K E H := by
  refine ⟨⟨Loop.of (I := fun st H' m => ∃ k : Nat, st = ((num (s.data.toList.take k) : Int), (k : Int)) ∧ k ≤ s.size ∧ m = s.size - k ∧ H' = H) ?_ ⟨0, rfl, Nat.zero_le _, rfl, rfl⟩⟩⟩
  rintro m st H' ⟨k, rfl, hk, rfl, rfl⟩ RR hRR
  have hl := size_list s
  unfold vizardref01_Number.W1.vc
  dsimp only
  by_cases hlt : k < s.size
  · rw [if_pos (by simp; omega)]
    obtain ⟨x, hx⟩ : ∃ x, s.data.toList[k]? = some x := ⟨_, List.getElem?_eq_getElem (by omega)⟩
    refine ⟨by omega, by omega, ?_⟩
    have h1 : num (s.data.toList.take k) < 256 ^ 6 := Nat.lt_of_lt_of_le num_take_lt (Nat.pow_le_pow_right (by decide) (by omega))
    have hb := x.toNat_lt
    have e6 : 256 ^ 6 = 281474976710656 := by decide
    rw [bt_get hx, w_i64 (n := (num (s.data.toList.take k) : Int) * 256) (by omega) (by omega), w_i64 (n := (x.toNat : Int)) (by omega) (by omega), w_i64 (by omega) (by omega), w_i64 (by omega) (by omega)]
    refine hRR _ _ (s.size - (k + 1)) (by omega) ⟨k + 1, ?_, by omega, rfl, rfl⟩
    rw [num_take hx, Prod.mk.injEq]
    exact ⟨by omega, by omega⟩
  · rw [if_neg (by simp; omega)]
    rw [List.take_of_length_le (by omega)]
    exact ⟨H', Heap.Le.refl H', h⟩
theorem b_run {n : Int} {m k : Nat} {K : ByteArray → Heap → Prop} {E : Value → Heap → Prop} {H : Heap} (hn : n = (m : Int)) (hm : m ≤ 4611686018427387904) (hk : k ≤ 8) (h : K ⟨(bbe m k).toArray⟩ H) : vizardref02_b.c n (k : Int) K E H := by
  refine ⟨?_⟩
  unfold vizardref02_b.vc
  subst hn
  refine vizardref01_Bytes.run (by omega) (by omega) (by omega) ?_
  rw [Int.toNat_natCast]
  exact ⟨H, Heap.Le.refl _, h⟩
theorem bsz (m k : Nat) : (⟨(bbe m k).toArray⟩ : ByteArray).size = k := by simp [ByteArray.size, bbe_len]
theorem vizardref02_header.run {H : Heap} {h : Hd} (hi : h.In) {x : Nat} (hx : x ≤ 65535) {K : ByteArray → Heap → Prop} {E : Value → Heap → Prop} (hK : ∀ H', Heap.Le H H' → K ⟨(hd20 h (20 + h.data.size) x).toArray⟩ H') :
    vizardref02_header.c h.tos h.id h.frag h.ttl h.proto h.src h.dst h.data x K E H := by
  refine ⟨?_⟩
  unfold vizardref02_header.vc
  refine newB_le fun b0 H1 hn0 hl0 hle0 => ?_
  obtain ⟨t1, t2, t3, t4, t5, t6, t7, t8⟩ := hi
  refine ⟨_, loc (o := 0) hl0 rfl, _, loc (o := 7) hl0 rfl, _, loc (o := 1) hl0 rfl, _, loc (o := 2) hl0 rfl, _, loc (o := 3) hl0 rfl, _, loc (o := 4) hl0 rfl, _, loc (o := 5) hl0 rfl, _, loc (o := 6) hl0 rfl, ?_⟩
  dsimp only
  have w1 : IntKind.i64.wrap (20 + (h.data.size : Int)) = ((20 + h.data.size : Nat) : Int) := by rw [w_i64 (by omega) (by omega)]; omega
  rw [w1, w_i64 (n := (h.src : Int)) (by omega) (by omega), w_i64 (n := (h.dst : Int)) (by omega) (by omega)]
  have z1 : (⟨#[69]⟩ : ByteArray).size = 1 := rfl
  have b1 : ∀ {m : Nat} {K : ByteArray → Heap → Prop} {E : Value → Heap → Prop} {H : Heap}, m ≤ 4611686018427387904 → K ⟨(bbe m 1).toArray⟩ H → vizardref02_b.c (m : Int) 1 K E H := fun hm hk => b_run (k := 1) rfl hm (by decide) hk
  have b2 : ∀ {m : Nat} {K : ByteArray → Heap → Prop} {E : Value → Heap → Prop} {H : Heap}, m ≤ 4611686018427387904 → K ⟨(bbe m 2).toArray⟩ H → vizardref02_b.c (m : Int) 2 K E H := fun hm hk => b_run (k := 2) rfl hm (by decide) hk
  have b4 : ∀ {m : Nat} {K : ByteArray → Heap → Prop} {E : Value → Heap → Prop} {H : Heap}, m ≤ 4611686018427387904 → K ⟨(bbe m 4).toArray⟩ H → vizardref02_b.c (m : Int) 4 K E H := fun hm hk => b_run (k := 4) rfl hm (by decide) hk
  refine b1 (by omega) ⟨⟨rfl, rfl⟩, ⟨_, loc (o := 6) hl0 rfl, rfl, rfl⟩, ⟨rfl, rfl⟩, ⟨_, loc (o := 5) hl0 rfl, rfl, rfl⟩, ⟨_, loc (o := 4) hl0 rfl, rfl, rfl⟩, ⟨_, loc (o := 3) hl0 rfl, rfl, rfl⟩, ⟨_, loc (o := 2) hl0 rfl, rfl, rfl⟩, ⟨_, loc (o := 1) hl0 rfl, rfl, rfl⟩, ⟨rfl, rfl⟩, ⟨_, loc (o := 7) hl0 rfl, rfl, rfl⟩, by rw [z1, bsz]; decide, ?_⟩
  refine b2 (by omega) ⟨⟨rfl, rfl⟩, ⟨_, loc (o := 6) hl0 rfl, rfl, rfl⟩, ⟨rfl, rfl⟩, ⟨_, loc (o := 5) hl0 rfl, rfl, rfl⟩, ⟨_, loc (o := 4) hl0 rfl, rfl, rfl⟩, ⟨_, loc (o := 3) hl0 rfl, rfl, rfl⟩, ⟨_, loc (o := 2) hl0 rfl, rfl, rfl⟩, ⟨_, loc (o := 1) hl0 rfl, rfl, rfl⟩, by simp only [ByteArray.size_append, z1, bsz]; decide, ?_⟩
  refine b2 (by omega) ⟨⟨rfl, rfl⟩, ⟨_, loc (o := 6) hl0 rfl, rfl, rfl⟩, ⟨rfl, rfl⟩, ⟨_, loc (o := 5) hl0 rfl, rfl, rfl⟩, ⟨_, loc (o := 4) hl0 rfl, rfl, rfl⟩, ⟨_, loc (o := 3) hl0 rfl, rfl, rfl⟩, ⟨_, loc (o := 2) hl0 rfl, rfl, rfl⟩, by simp only [ByteArray.size_append, z1, bsz]; decide, ?_⟩
  refine b2 (by omega) ⟨⟨rfl, rfl⟩, ⟨_, loc (o := 6) hl0 rfl, rfl, rfl⟩, ⟨rfl, rfl⟩, ⟨_, loc (o := 5) hl0 rfl, rfl, rfl⟩, ⟨_, loc (o := 4) hl0 rfl, rfl, rfl⟩, ⟨_, loc (o := 3) hl0 rfl, rfl, rfl⟩, by simp only [ByteArray.size_append, z1, bsz]; decide, ?_⟩
  refine b1 (by omega) ⟨⟨rfl, rfl⟩, ⟨_, loc (o := 6) hl0 rfl, rfl, rfl⟩, ⟨rfl, rfl⟩, ⟨_, loc (o := 5) hl0 rfl, rfl, rfl⟩, ⟨_, loc (o := 4) hl0 rfl, rfl, rfl⟩, by simp only [ByteArray.size_append, z1, bsz]; decide, ?_⟩
  refine b1 (by omega) ⟨⟨rfl, rfl⟩, ⟨_, loc (o := 6) hl0 rfl, rfl, rfl⟩, ⟨rfl, rfl⟩, ⟨_, loc (o := 5) hl0 rfl, rfl, rfl⟩, by simp only [ByteArray.size_append, z1, bsz]; decide, ?_⟩
  refine b2 (by omega) ⟨⟨rfl, rfl⟩, ⟨_, loc (o := 6) hl0 rfl, rfl, rfl⟩, ⟨rfl, rfl⟩, ⟨_, loc (o := 5) hl0 rfl, rfl, rfl⟩, by simp only [ByteArray.size_append, z1, bsz]; decide, ?_⟩
  refine b4 (by omega) ⟨⟨rfl, rfl⟩, ⟨_, loc (o := 6) hl0 rfl, rfl, rfl⟩, by simp only [ByteArray.size_append, z1, bsz]; decide, ?_⟩
  refine b4 (by omega) ⟨by simp only [ByteArray.size_append, z1, bsz]; decide, H1, Heap.Le.refl _, ?_⟩
  have e : (((((((((⟨#[69]⟩ : ByteArray) ++ ⟨(bbe h.tos 1).toArray⟩) ++ ⟨(bbe (20 + h.data.size) 2).toArray⟩) ++ ⟨(bbe h.id 2).toArray⟩) ++ ⟨(bbe h.frag 2).toArray⟩) ++ ⟨(bbe h.ttl 1).toArray⟩) ++ ⟨(bbe h.proto 1).toArray⟩) ++ ⟨(bbe x 2).toArray⟩) ++ ⟨(bbe h.src 4).toArray⟩) ++ ⟨(bbe h.dst 4).toArray⟩ = (⟨(hd20 h (20 + h.data.size) x).toArray⟩ : ByteArray) := by
    apply ByteArray.ext
    apply Array.toList_inj.1
    simp only [ByteArray.data_append, Array.toList_append]
    rfl
  rw [e]
  exact hK H1 hle0
theorem wsum_two {l : List UInt8} {k : Nat} {c d : UInt8} (hk : k % 2 = 0) (hc : l[k]? = some c) (hd : l[k + 1]? = some d) : wsum true (l.take (k + 2)) = wsum true (l.take k) + (c.toNat * 256 + d.toNat) := by
  have hlt : k + 1 < l.length := (List.getElem?_eq_some_iff.1 hd).1
  rw [show k + 2 = k + 1 + 1 by omega, List.take_add_one, hd, List.take_add_one, hc]
  show wsum true ((l.take k ++ [c]) ++ [d]) = _
  rw [wsum_snoc, wsum_snoc, List.length_append, List.length_take, Nat.min_eq_left (by omega), List.length_singleton]
  rw [if_pos (decide_eq_true hk), if_neg (by rw [decide_eq_false (by omega)]; simp)]
  omega
theorem vizardref02_Sum.run {s : ByteArray} (hs : s.size ≤ 1000000) (hev : s.size % 2 = 0) {K : Int → Heap → Prop} {E : Value → Heap → Prop} {H : Heap} (h : K (sumL s.data.toList : Int) H) : vizardref02_Sum.c s K E H := by
  refine ⟨?_⟩
  unfold vizardref02_Sum.vc
  have hl := size_list s
  rw [Int.tmod_eq_emod_of_nonneg (by omega), if_neg (by rw [beq_iff_eq]; omega)]
  refine ⟨by decide, ⟨?_⟩⟩
  unfold vizardref02_Sum.J1.vc
  refine ⟨Loop.of (I := fun st H' m => ∃ k : Nat, st = ((wsum true (s.data.toList.take k) : Int), (k : Int)) ∧ k % 2 = 0 ∧ k ≤ s.size ∧ m = s.size - k ∧ H' = H) ?_ ⟨0, rfl, rfl, Nat.zero_le _, rfl, rfl⟩⟩
  rintro m st H' ⟨k, rfl, hke, hk, rfl, rfl⟩ RR hRR
  unfold vizardref02_Sum.W2.vc
  dsimp only
  rw [w_i64 (n := (k : Int) + 1) (by omega) (by omega), w_i64 (n := (k : Int) + 2) (by omega) (by omega)]
  by_cases hlt : k + 1 < s.size
  · rw [if_pos (by rw [decide_eq_true_eq]; omega)]
    obtain ⟨c, hc⟩ : ∃ c, s.data.toList[k]? = some c := ⟨_, List.getElem?_eq_getElem (by omega)⟩
    obtain ⟨d, hd⟩ : ∃ d, s.data.toList[k + 1]? = some d := ⟨_, List.getElem?_eq_getElem (by omega)⟩
    rw [Int.toNat_natCast, show ((k : Int) + 2).toNat = k + 2 by omega]
    have hsz : (s.extract k (k + 2)).size = 2 := by rw [ByteArray.size_extract]; omega
    refine ⟨by omega, by omega, by omega, vizardref01_Number.run (by omega) ?_⟩
    have hx : (s.extract k (k + 2)).data.toList = [c, d] := by
      rw [ext_sl]
      unfold sl
      rw [show k + 2 - k = 1 + 1 by omega, List.take_add_one, List.take_add_one]
      simp [hc, hd]
    rw [hx, num2]
    have hw := wsum_le (s.data.toList.take k)
    rw [List.length_take] at hw
    have h1 := c.toNat_lt
    have h2 := d.toNat_lt
    rw [w_i64 (by omega) (by omega)]
    refine hRR _ _ (s.size - (k + 2)) (by omega) ⟨k + 2, ?_, by omega, by omega, rfl, rfl⟩
    rw [wsum_two hke hc hd]
    rfl
  · rw [if_neg (by rw [decide_eq_true_eq]; omega), List.take_of_length_le (by omega)]
    have hw := wsum_le s.data.toList
    refine ⟨Loop.of (I := fun st H2 m => st = (m : Int) ∧ H2 = H' ∧ carry m = carry (wsum true s.data.toList) ∧ m ≤ wsum true s.data.toList) ?_ ⟨rfl, rfl, rfl, Nat.le_refl _⟩⟩
    rintro m st H2 ⟨rfl, rfl, hc, hm⟩ RR2 hRR2
    unfold vizardref02_Sum.W3.vc
    by_cases hg : 65535 < m
    · rw [if_pos (by rw [decide_eq_true_eq]; omega)]
      rw [Int.tmod_eq_emod_of_nonneg (by omega), Int.tdiv_eq_ediv_of_nonneg (by omega), w_i64 (n := (m : Int) / 65536) (by omega) (by omega), w_i64 (by omega) (by omega)]
      refine ⟨by decide, by decide, hRR2 _ _ (m % 65536 + m / 65536) (by omega) ⟨by omega, rfl, ?_, by omega⟩⟩
      rw [← hc]
      conv => rhs; rw [carry, if_pos hg]
    · rw [if_neg (by rw [decide_eq_true_eq]; omega)]
      dsimp only
      rw [w_i64 (by omega) (by omega)]
      have : sumL s.data.toList = 65535 - m := by
        unfold sumL
        rw [← hc, carry, if_neg hg]
      rw [this] at h
      rw [show (65535 : Int) - (m : Int) = ((65535 - m : Nat) : Int) by omega]
      exact ⟨H2, Heap.Le.refl _, h⟩
theorem byteOf_run {n : Nat} (hn : n ≤ 255) {K : Bool → Heap → Prop} {E : Value → Heap → Prop} {H : Heap} (h : K true H) : vizardref02_byteOf.c (n : Int) K E H := by
  refine ⟨?_⟩
  unfold vizardref02_byteOf.vc
  rw [if_pos (by rw [decide_eq_true_eq]; omega), decide_eq_true (by omega)]
  exact ⟨H, Heap.Le.refl _, h⟩
theorem wordOf_run {n : Nat} (hn : n ≤ 65535) {K : Bool → Heap → Prop} {E : Value → Heap → Prop} {H : Heap} (h : K true H) : vizardref02_wordOf.c (n : Int) K E H := by
  refine ⟨?_⟩
  unfold vizardref02_wordOf.vc
  rw [if_pos (by rw [decide_eq_true_eq]; omega), decide_eq_true (by omega)]
  exact ⟨H, Heap.Le.refl _, h⟩
/-- The loads of a header that lies in a box. -/
theorem ld8 {H : Heap} {b : Nat} {h : Hd} {e : TypeId} {K : Int → Int → Int → Int → Int → Int → Int → ByteArray → Prop} (hl : H b = some (.cells (hcells h) e)) (hk : K h.tos h.id h.frag h.ttl h.proto h.src h.dst h.data) :
    ldI H .i64 ((⟨b, 0, none⟩ : Addr).add 0) fun x0 => ldI H .i64 ((⟨b, 0, none⟩ : Addr).add 1) fun x1 => ldI H .i64 ((⟨b, 0, none⟩ : Addr).add 2) fun x2 => ldI H .i64 ((⟨b, 0, none⟩ : Addr).add 3) fun x3 => ldI H .i64 ((⟨b, 0, none⟩ : Addr).add 4) fun x4 => ldI H .u32 ((⟨b, 0, none⟩ : Addr).add 5) fun x5 => ldI H .u32 ((⟨b, 0, none⟩ : Addr).add 6) fun x6 => ldS H ((⟨b, 0, none⟩ : Addr).add 7) fun x7 => K x0 x1 x2 x3 x4 x5 x6 x7 :=
  ⟨_, loc (o := 0) hl rfl, _, loc (o := 1) hl rfl, _, loc (o := 2) hl rfl, _, loc (o := 3) hl rfl, _, loc (o := 4) hl rfl, _, loc (o := 5) hl rfl, _, loc (o := 6) hl rfl, _, loc (o := 7) hl rfl, hk⟩
theorem hd20_len (h : Hd) (n x : Nat) : (hd20 h n x).length = 20 := rfl
theorem vizardref02_Build.run {H : Heap} {h : Hd} (hi : h.In) {K : ByteArray → Int → Heap → Prop} {E : Value → Heap → Prop} (hK : ∀ H', Heap.Le H H' → K (buildB h) 0 H') : vizardref02_Build.c h.tos h.id h.frag h.ttl h.proto h.src h.dst h.data K E H := by
  refine ⟨?_⟩
  unfold vizardref02_Build.vc
  refine newB_le fun b0 H1 hn0 hl0 hle0 => ?_
  have hl0 : H1 b0 = some (.cells (hcells h) 58) := hl0
  refine ⟨_, loc (o := 0) hl0 rfl, byteOf_run hi.tos ?_⟩
  rw [if_neg (by simp)]
  refine ⟨_, loc (o := 3) hl0 rfl, byteOf_run hi.ttl ?_⟩
  rw [if_neg (by simp)]
  refine ⟨_, loc (o := 4) hl0 rfl, byteOf_run hi.proto ?_⟩
  rw [if_neg (by simp)]
  refine ⟨_, loc (o := 1) hl0 rfl, wordOf_run hi.id ?_⟩
  rw [if_neg (by simp)]
  refine ⟨_, loc (o := 2) hl0 rfl, wordOf_run hi.frag ⟨?_⟩⟩
  unfold vizardref02_Build.J1.vc
  rw [if_neg (by simp)]
  refine ⟨?_⟩
  unfold vizardref02_Build.J2.vc
  have hd := hi.data
  refine ⟨_, loc (o := 7) hl0 rfl, ?_⟩
  dsimp only
  rw [if_neg (by rw [decide_eq_true_eq]; omega)]
  refine ld8 hl0 (ld8 hl0 ⟨_, loc (o := 7) hl0 rfl, vizardref02_header.run hi (x := 0) (by decide) fun H2 hle2 => ?_⟩)
  have l2 := hle2 _ _ hl0
  refine ⟨⟨_, loc (o := 7) l2 rfl, rfl, rfl⟩, ld8 l2 ⟨rfl, rfl⟩, ?_⟩
  have sz : ∀ x, (⟨(hd20 h (20 + h.data.size) x).toArray⟩ : ByteArray).size = 20 := fun x => by show (hd20 h (20 + h.data.size) x).toArray.size = 20; simp [hd20_len]
  refine vizardref02_Sum.run (by rw [sz]; decide) (by rw [sz]) ?_
  have tl : (⟨(hd20 h (20 + h.data.size) 0).toArray⟩ : ByteArray).data.toList = hd20 h (20 + h.data.size) 0 := by simp
  rw [tl]
  refine ⟨⟨_, loc (o := 7) l2 rfl, rfl, rfl⟩, ld8 l2 ⟨rfl, rfl⟩, ?_⟩
  refine vizardref02_header.run hi (sumL_le _) fun H3 hle3 => ?_
  have l3 := hle3 _ _ l2
  refine ⟨⟨_, loc (o := 7) l3 rfl, rfl, rfl⟩, by rw [sz]; omega, H3, Heap.Le.refl _, ?_⟩
  have hb : (⟨(hd20 h (20 + h.data.size) (sumL (hd20 h (20 + h.data.size) 0))).toArray⟩ : ByteArray) ++ h.data = buildB h := by
    apply ByteArray.ext
    apply Array.toList_inj.1
    rw [ByteArray.data_append, Array.toList_append]
    unfold buildB buildL
    simp
  rw [hb]
  exact hK H3 ((hle0.trans hle2).trans hle3)
end Go.Sh
