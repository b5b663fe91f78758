/- A packet that comes once more changes nothing (part 27 of the walk and its laws) -/
import Derived.Test.YtkfkkkalcchpkaaGreatDoorTw2z
namespace Go.Sh
open Go.Proofs
set_option maxRecDepth 8000
def wk (n : Nat) : Nat := if n < 64 then 1 else if n < 16384 then 2 else if n < 1073741824 then 4 else 8
def wi (n : Nat) : Nat := if n < 64 then 0 else if n < 16384 then 1 else if n < 1073741824 then 2 else 3
def wput (n : Nat) : List UInt8 := headUp (UInt8.ofNat (64 * wi n)) (beN n (wk n))
def wtext (s : List UInt8) : List UInt8 := wput s.length ++ s
theorem wi_cases (n : Nat) : (n < 64 ∧ wk n = 1 ∧ wi n = 0) ∨ (¬ n < 64 ∧ n < 16384 ∧ wk n = 2 ∧ wi n = 1) ∨ (¬ n < 64 ∧ ¬ n < 16384 ∧ n < 1073741824 ∧ wk n = 4 ∧ wi n = 2) ∨ (¬ n < 64 ∧ ¬ n < 16384 ∧ ¬ n < 1073741824 ∧ wk n = 8 ∧ wi n = 3) := by
  unfold wk wi
  by_cases h1 : n < 64
  · simp [h1]
  · by_cases h2 : n < 16384
    · simp [h1, h2]
    · by_cases h3 : n < 1073741824
      · simp [h1, h2, h3]
      · simp [h1, h2, h3]
theorem wi_le (n : Nat) : wi n ≤ 3 := by have := wi_cases n; omega
theorem zmd (n : Nat) : 1 ≤ wk n ∧ wk n ≤ 8 := by have := wi_cases n; omega
theorem wk_eq (n : Nat) : wk n = 2 ^ wi n := by
  rcases wi_cases n with ⟨_, h, h'⟩ | ⟨_, _, h, h'⟩ | ⟨_, _, _, h, h'⟩ | ⟨_, _, _, h, h'⟩ <;> rw [h, h'] <;> rfl
theorem zfd (n : Nat) : (wput n).length = wk n := by
  unfold wput
  have h := beN_len (wk n) n
  have := zmd n
  cases hb : beN n (wk n) with
  | nil => rw [hb] at h; simp at h; omega
  | cons y r => rw [hb] at h; simpa [headUp] using h
theorem wi_test {n i : Nat} (hn : n < 4611686018427387904) (hi : i ≤ 3) : n / 2 ^ (8 * 2 ^ i - 2) = 0 ↔ wi n ≤ i := by
  rw [Nat.div_eq_zero_iff]
  have := wi_cases n
  match i, hi with
  | 0, _ =>
    have e : 2 ^ (8 * 2 ^ 0 - 2) = 64 := rfl
    rw [e]; omega
  | 1, _ =>
    have e : 2 ^ (8 * 2 ^ 1 - 2) = 16384 := rfl
    rw [e]; omega
  | 2, _ =>
    have e : 2 ^ (8 * 2 ^ 2 - 2) = 1073741824 := rfl
    rw [e]; omega
  | 3, _ =>
    have e : 2 ^ (8 * 2 ^ 3 - 2) = 4611686018427387904 := rfl
    rw [e]; omega
theorem sz_at3 (i : Nat) (hi : i ≤ 3) : (#[(.int .i64 1), (.int .i64 2), (.int .i64 4), (.int .i64 8)] : Array Value)[i]? = some (.int .i64 ((2 ^ i : Nat) : Int)) := by
  match i, hi with
  | 0, _ => rfl
  | 1, _ => rfl
  | 2, _ => rfl
  | 3, _ => rfl
theorem pow_small3 {i : Nat} (hi : i ≤ 3) : 1 ≤ 2 ^ i ∧ 2 ^ i ≤ 8 := by
  match i, hi with
  | 0, _ => decide
  | 1, _ => decide
  | 2, _ => decide
  | 3, _ => decide
theorem sz_tab {H : Heap} (ht : IntsIn H 0 .i64 szTab) {i : Nat} (hi : i ≤ 3) : H.cell? ((⟨0, 0, none⟩ : Addr).add (i * 1)) = some (.int .i64 ((2 ^ i : Nat) : Int)) := by
  rw [Nat.mul_one, add_mk, Nat.zero_add]
  have hp : szTab[i]? = some ((2 ^ i : Nat) : Int) := by
    match i, hi with
    | 0, _ => rfl
    | 1, _ => rfl
    | 2, _ => rfl
    | 3, _ => rfl
  exact ht _ _ hp
theorem ztc.wrun {n : Nat} (hn : n < 4611686018427387904) {H : Heap} (ht : IntsIn H 0 .i64 szTab) {K : Int → Heap → Prop} {E : Value → Heap → Prop} (h : K (wi n) H) : ztc.c n K E H := by
  refine ⟨?_⟩
  unfold ztc.vc
  have g : ∀ (i : Nat) (x : Int), szTab[i]? = some x → H.cell? ((⟨0, 0, none⟩ : Addr).add i) = some (.int .i64 x) := fun i x hi => by
    rw [add_mk, Nat.zero_add]
    exact ht i x hi
  refine ⟨_, g 0 _ rfl, _, g 1 _ rfl, _, g 2 _ rfl, _, g 3 _ rfl, ?_⟩
  refine ⟨Loop.of (I := fun st H' m => ∃ i : Nat, st = (i : Int) ∧ i ≤ wi n ∧ m = 4 - i ∧ H' = H) ?_ ⟨0, rfl, Nat.zero_le _, rfl, rfl⟩⟩
  rintro m st H' ⟨i, rfl, hi, rfl, rfl⟩ RR hRR
  have hv := wi_le n
  unfold ztc.W1.vc
  rw [if_pos (by rw [decide_eq_true_eq]; omega)]
  have hp := pow_small3 (i := i) (by omega)
  refine ⟨by omega, by omega, _, by rw [Int.toNat_natCast]; exact sz_at3 i (by omega), _, rfl, ?_⟩
  rw [if_pos (by rw [decide_eq_true_eq]; omega)]
  have e1 : IntKind.i64.wrap (IntKind.i64.wrap (8 * ((2 ^ i : Nat) : Int)) - 2) = ((8 * 2 ^ i - 2 : Nat) : Int) := by
    rw [w_i64 (n := 8 * ((2 ^ i : Nat) : Int)) (by omega) (by omega), w_i64 (by omega) (by omega)]; omega
  rw [e1, shr_i64 (by omega)]
  refine ⟨by omega, ⟨?_⟩⟩
  unfold ztc.J2.vc
  have ht := wi_test hn (i := i) (by omega)
  by_cases hc : wi n ≤ i
  · rw [if_pos (by rw [beq_iff_eq]; have := ht.2 hc; omega)]
    have : wi n = i := by omega
    rw [this] at h
    exact ⟨H', Heap.Le.refl _, h⟩
  · rw [if_neg (by rw [beq_iff_eq]; intro e; exact hc (ht.1 (by omega)))]
    refine ⟨?_⟩
    unfold ztc.J3.vc
    rw [w_i64 (by omega) (by omega)]
    exact hRR _ _ (4 - (i + 1)) (by omega) ⟨i + 1, rfl, by omega, rfl, rfl⟩
theorem first_smallw {n : Nat} (hn : n < 4611686018427387904) : n / 2 ^ (8 * (wk n - 1 - 0)) < 64 := by
  rcases wi_cases n with ⟨h, e, _⟩ | ⟨_, h, e, _⟩ | ⟨_, _, h, e, _⟩ | ⟨_, _, _, e, _⟩ <;> rw [e]
  · have e : 2 ^ (8 * (1 - 1 - 0)) = 1 := rfl
    rw [e]; omega
  · have e : 2 ^ (8 * (2 - 1 - 0)) = 256 := rfl
    rw [e]; omega
  · have e : 2 ^ (8 * (4 - 1 - 0)) = 16777216 := rfl
    rw [e]; omega
  · have e : 2 ^ (8 * (8 - 1 - 0)) = 72057594037927936 := rfl
    rw [e]; omega
theorem mark_or3 {x : Nat} {i : Nat} (hx : x < 64) (hi : i ≤ 3) : bits .or .u8 ((UInt8.ofNat x).toNat : Int) (shlI .u8 (IntKind.u8.wrap (i : Int)) 6) = ((UInt8.ofNat x + UInt8.ofNat (64 * i)).toNat : Int) := by
  have e1 : shlI .u8 (IntKind.u8.wrap (i : Int)) 6 = ((64 * i : Nat) : Int) := by
    match i, hi with
    | 0, _ => decide
    | 1, _ => decide
    | 2, _ => decide
    | 3, _ => decide
  rw [e1, or_u8n _ _ (UInt8.toNat_lt _) (by omega), UInt8.toNat_add, UInt8.toNat_ofNat', UInt8.toNat_ofNat', Nat.mod_eq_of_lt (by omega : x < 2 ^ 8), Nat.mod_eq_of_lt (by omega : 64 * i < 2 ^ 8), Nat.mod_eq_of_lt (by omega)]
  have := Nat.shiftLeft_add_eq_or_of_lt (by omega : x < 2 ^ 6) i
  rw [Nat.shiftLeft_eq] at this
  rw [Nat.or_comm, Nat.mul_comm, show 64 = 2 ^ 6 from rfl, ← this, Nat.add_comm]
theorem wput_eq (n : Nat) : wput n = (beN n (wk n)).set 0 (UInt8.ofNat (n / 2 ^ (8 * (wk n - 1 - 0))) + UInt8.ofNat (64 * wi n)) := by
  have hk := zmd n
  have hbl := beN_len (wk n) n
  have hg := beN_get (wk n) n 0 (by omega)
  unfold wput
  cases hb : beN n (wk n) with
  | nil => rw [hb] at hbl; simp at hbl; omega
  | cons y r =>
    rw [hb] at hg
    have : y = UInt8.ofNat (n / 2 ^ (8 * (wk n - 1 - 0))) := by simpa using hg
    rw [← this]
    rfl
theorem zac.wrun {n : Nat} (hn : n < 4611686018427387904) {H : Heap} (ht : IntsIn H 0 .i64 szTab) {K : ByteArray → Heap → Prop} {E : Value → Heap → Prop} (h : ∀ H', Heap.Le H H' → K ⟨(wput n).toArray⟩ H') : zac.c n K E H := by
  have hv := wi_le n
  have hk := zmd n
  refine ⟨?_⟩
  unfold zac.vc
  refine ztc.wrun hn ht ?_
  rw [if_neg (by rw [decide_eq_true_eq]; omega)]
  have hsz := sz_tab ht hv
  rw [← wk_eq] at hsz
  refine ⟨by omega, by omega, (wk n : Int), by rw [Int.toNat_natCast]; exact hsz, by omega, by omega, by omega, by omega, ?_⟩
  rw [Int.toNat_natCast]
  refine zna fun b H1 hn1 hl1 hle1 => ?_
  have hbl := beN_len (wk n) n
  have ho := OwnB.zeros hl1
  refine ⟨Loop.of (I := fun st H' m => ∃ j : Nat, st = (j : Int) ∧ j ≤ wk n ∧ m = wk n - j ∧ OwnB H' 5 (some ⟨b, 0, none⟩) (wk n) (wk n) (fillTo (beN n (wk n)) j) ∧ Step [b] H1 [b] H') ?_ ⟨0, rfl, by omega, rfl, by simpa [fillTo, hbl] using ho, Step.refl _ _⟩⟩
  rintro m st H' ⟨j, rfl, hj, rfl, ho, hst⟩ RR hRR
  unfold zac.W1.vc
  by_cases hc : j < wk n
  · rw [if_pos (by rw [decide_eq_true_eq]; omega)]
    have e1 : IntKind.i64.wrap (8 * (IntKind.i64.wrap ((IntKind.i64.wrap ((wk n : Int) - 1)) - (j : Int)))) = ((8 * (wk n - 1 - j) : Nat) : Int) := by
      rw [w_i64 (n := (wk n : Int) - 1) (by omega) (by omega), w_i64 (n := (wk n : Int) - 1 - (j : Int)) (by omega) (by omega), w_i64 (by omega) (by omega)]
      omega
    rw [e1, shr_i64 (by omega), u8_nat]
    refine ⟨by omega, _, rfl, by omega, by omega, ?_⟩
    rw [Int.toNat_natCast]
    refine ho.put (i := j) hc rfl fun H2 h2 hst2 => ?_
    rw [fillTo_set (beN_get _ _ _ hc)] at h2
    rw [w_i64 (by omega) (by omega)]
    exact hRR _ _ (wk n - (j + 1)) (by omega) ⟨j + 1, rfl, by omega, rfl, h2, hst.trans hst2⟩
  · rw [if_neg (by rw [decide_eq_true_eq]; omega)]
    have : j = wk n := by omega
    subst this
    have e2 : fillTo (beN n (wk n)) (wk n) = beN n (wk n) := by
      unfold fillTo
      rw [List.take_of_length_le (by omega), hbl, Nat.sub_self]
      simp
    rw [e2] at ho
    obtain ⟨a, ha, hc0⟩ := ho.bytes.get (i := 0) (by omega)
    cases ha
    have hg := beN_get (wk n) n 0 (by omega)
    have e3 : (beN n (wk n)).getD 0 0 = UInt8.ofNat (n / 2 ^ (8 * (wk n - 1 - 0))) := by rw [List.getD_eq_getElem?_getD, hg]; rfl
    rw [e3] at hc0
    refine ⟨_, rfl, by decide, by omega, _, hc0, by decide, _, rfl, by decide, by omega, ?_⟩
    rw [mark_or3 (first_smallw hn) hv]
    refine ho.put (i := 0) (by omega) rfl fun H2 h2 hst2 => ?_
    refine h2.bytes.rdBytes ?_
    rw [← wput_eq]
    refine ⟨H2, Heap.Le.refl _, h H2 fun k o hk => ?_⟩
    have hn : k ∉ [b] := fun hm => by
      rw [List.mem_singleton] at hm
      subst hm
      rw [hn1] at hk; cases hk
    exact ((hst.trans hst2) k o (hle1 k o hk) hn).1
theorem zec.wrun {s : ByteArray} (hs : s.size < 4611686018427387904) {H : Heap} (ht : IntsIn H 0 .i64 szTab) {K : ByteArray → Heap → Prop} {E : Value → Heap → Prop} (h : ∀ H', Heap.Le H H' → K ⟨(wtext s.data.toList).toArray⟩ H') : zec.c s K E H := by
  refine ⟨?_⟩
  unfold zec.vc
  refine zac.wrun hs ht fun H1 hle1 => ?_
  have hk := zmd s.size
  refine ⟨by rw [zxa, zfd]; omega, H1, Heap.Le.refl _, ?_⟩
  have e : (⟨(wput s.size).toArray⟩ : ByteArray) ++ s = ⟨(wtext s.data.toList).toArray⟩ := by
    apply ByteArray.ext
    rw [ByteArray.data_append]
    apply Array.toList_inj.1
    unfold wtext
    rw [Array.toList_append, ba_len]
  rw [e]
  exact h H1 hle1
theorem zte (s : ByteArray) : s.data.toList.length = s.size := by rw [Array.length_toList]; rfl
theorem bt_at {s : ByteArray} {i : Nat} {c : UInt8} (h : s.data.toList[i]? = some c) : bt s (i : Int) = (c.toNat : Int) := by
  unfold bt
  rw [Int.toNat_natCast, List.getD_eq_getElem?_getD, h]
  rfl
theorem ext_lst (x : ByteArray) (a z : Nat) : (x.extract a z).data.toList = (x.data.toList.drop a).take (z - a) := by
  rw [ByteArray.data_extract, Array.toList_extract, List.extract_eq_take_drop]
theorem wput_get {n j : Nat} (h0 : 0 < j) (hj : j < wk n) : (wput n)[j]? = some (UInt8.ofNat (n / 2 ^ (8 * (wk n - 1 - j)))) := by
  rw [wput_eq, List.getElem?_set_ne (by omega)]
  exact beN_get _ _ _ hj
theorem wput_head (n : Nat) : (wput n)[0]? = some (UInt8.ofNat (n / 2 ^ (8 * (wk n - 1 - 0))) + UInt8.ofNat (64 * wi n)) := by
  rw [wput_eq, List.getElem?_set_self (by rw [beN_len]; have := zmd n; omega)]
theorem head_nat {n : Nat} (hn : n < 4611686018427387904) : (UInt8.ofNat (n / 2 ^ (8 * (wk n - 1 - 0))) + UInt8.ofNat (64 * wi n)).toNat = n / 2 ^ (8 * (wk n - 1)) + 64 * wi n := by
  have h1 := first_smallw hn
  have h2 := wi_le n
  rw [UInt8.toNat_add, UInt8.toNat_ofNat', UInt8.toNat_ofNat', Nat.mod_eq_of_lt (a := n / _) (by omega), Nat.mod_eq_of_lt (a := 64 * wi n) (by omega), Nat.mod_eq_of_lt (by omega)]
  rfl
theorem shr6 {x i : Nat} (hx : x < 64) (hi : i ≤ 3) : shrI .u8 ((x + 64 * i : Nat) : Int) 6 = (i : Int) := by
  unfold shrI
  have e3 : min ((6 : Int)).toNat (IntKind.bits .u8) = 6 := by decide
  rw [e3, Int.fdiv_eq_ediv_of_nonneg _ (by decide)]
  have : (x + 64 * i) / 64 = i := by omega
  norm_cast
theorem and63 {x i : Nat} (hx : x < 64) (hi : i ≤ 3) : bits .and .u8 ((x + 64 * i : Nat) : Int) 63 = (x : Int) := by
  have key : (x + 64 * i) &&& 63 = x := by
    rw [show 63 = 2 ^ 6 - 1 from rfl, Nat.and_two_pow_sub_one_eq_mod]; omega
  show IntKind.u8.wrap ((BitVec.ofInt 8 ((x + 64 * i : Nat) : Int) &&& BitVec.ofInt 8 (63 : Int)).toNat : Int) = _
  have e : (BitVec.ofInt 8 ((x + 64 * i : Nat) : Int)).toNat = x + 64 * i := by
    rw [BitVec.ofInt_natCast, BitVec.toNat_ofNat]; exact Nat.mod_eq_of_lt (by omega)
  have e' : (BitVec.ofInt 8 (63 : Int)).toNat = 63 := rfl
  rw [BitVec.toNat_and, e, e', key, w_u8 (by omega) (by omega)]
theorem ofInt_i64 (a : Nat) (h : a < 18446744073709551616) : (BitVec.ofInt 64 (a : Int)).toNat = a := by
  rw [BitVec.ofInt_natCast, BitVec.toNat_ofNat]; exact Nat.mod_eq_of_lt (by omega)
theorem shl_or {a x : Nat} (ha : a < 18014398509481984) (hx : x < 256) : bits .or .i64 (shlI .i64 (a : Int) 8) ((x : Nat) : Int) = ((a * 256 + x : Nat) : Int) := by
  have e1 : shlI .i64 (a : Int) 8 = ((a * 256 : Nat) : Int) := by
    show (if ((8 : Int)).toNat ≥ IntKind.bits .i64 then 0 else IntKind.i64.wrap ((a : Int) * 2 ^ ((8 : Int)).toNat)) = _
    rw [if_neg (by decide), show ((8 : Int)).toNat = 8 from rfl, w_i64 (by omega) (by omega)]
    omega
  rw [e1]
  show IntKind.i64.wrap ((BitVec.ofInt 64 ((a * 256 : Nat) : Int) ||| BitVec.ofInt 64 (x : Int)).toNat : Int) = _
  have key : a * 256 ||| x = a * 256 + x := by
    have := Nat.shiftLeft_add_eq_or_of_lt (by omega : x < 2 ^ 8) a
    rw [Nat.shiftLeft_eq] at this
    exact this.symm
  rw [BitVec.toNat_or, ofInt_i64 _ (by omega), ofInt_i64 _ (by omega), key, w_i64 (by omega) (by omega)]
theorem step_val {n k i : Nat} (hi : i < k) (hk : k ≤ 8) : n / 2 ^ (8 * (k - i)) * 256 + (UInt8.ofNat (n / 2 ^ (8 * (k - 1 - i)))).toNat = n / 2 ^ (8 * (k - (i + 1))) := by
  rw [UInt8.toNat_ofNat', show k - 1 - i = k - (i + 1) by omega]
  have e : 8 * (k - i) = 8 * (k - (i + 1)) + 8 := by omega
  rw [e, Nat.pow_add, ← Nat.div_div_eq_div_mul]
  show _ / 256 * 256 + _ % 256 = _
  omega
theorem zre.wrun {n : Nat} (hn : n < 4611686018427387904) {r : List UInt8} {s : ByteArray} (hs : s.data.toList = wput n ++ r) (hsz : s.size ≤ 1000000) {H : Heap} (ht : IntsIn H 0 .i64 szTab) {K : Int → Int → Int → Heap → Prop} {E : Value → Heap → Prop} (h : K n (wk n) 0 H) : zre.c s K E H := by
  have hv := wi_le n
  have hk := zmd n
  have hf := first_smallw hn
  rw [Nat.sub_zero] at hf
  have hlen : s.size = wk n + r.length := by rw [← zte, hs, List.length_append, zfd]
  have hb0 : bt s 0 = ((n / 2 ^ (8 * (wk n - 1)) + 64 * wi n : Nat) : Int) := by
    rw [← head_nat hn]
    refine bt_at (i := 0) ?_
    rw [hs, List.getElem?_append_left (by rw [zfd]; omega)]
    exact wput_head n
  refine ⟨?_⟩
  unfold zre.vc
  rw [if_neg (by rw [str_eq]; intro e; have h0 : s.size = 0 := (by rw [e]; rfl); omega)]
  rw [hb0, shr6 hf hv, and63 hf hv]
  have htab := sz_tab ht hv
  rw [← wk_eq] at htab
  refine ⟨by omega, by omega, by decide, by omega, by omega, (wk n : Int), by rw [Int.toNat_natCast]; exact htab, ?_⟩
  dsimp only
  rw [if_neg (by rw [decide_eq_true_eq]; omega)]
  refine ⟨by omega, by omega, ?_⟩
  have hw : IntKind.i64.wrap ((n / 2 ^ (8 * (wk n - 1)) : Nat) : Int) = ((n / 2 ^ (8 * (wk n - 1)) : Nat) : Int) := by
    generalize n / 2 ^ (8 * (wk n - 1)) = y at hf
    exact w_i64 (by omega) (by omega)
  rw [hw]
  refine ⟨Loop.of (I := fun st H' m => ∃ i : Nat, st = (((n / 2 ^ (8 * (wk n - i)) : Nat) : Int), (i : Int)) ∧ 1 ≤ i ∧ i ≤ wk n ∧ m = wk n - i ∧ H' = H) ?_ ⟨1, rfl, by omega, by omega, rfl, rfl⟩⟩
  rintro m st H' ⟨i, rfl, h1, hi, rfl, rfl⟩ RR hRR
  unfold zre.W1.vc
  dsimp only
  by_cases hc : i < wk n
  · rw [if_pos (by rw [decide_eq_true_eq]; omega)]
    refine ⟨by decide, by omega, by omega, ?_⟩
    have hbi : bt s (i : Int) = ((UInt8.ofNat (n / 2 ^ (8 * (wk n - 1 - i)))).toNat : Int) := by
      refine bt_at (i := i) ?_
      rw [hs, List.getElem?_append_left (by rw [zfd]; omega)]
      exact wput_get (by omega) hc
    have hu := UInt8.toNat_lt (UInt8.ofNat (n / 2 ^ (8 * (wk n - 1 - i))))
    have hsm : n / 2 ^ (8 * (wk n - i)) < 18014398509481984 := by
      refine Nat.lt_of_le_of_lt (Nat.div_le_div_left (Nat.pow_le_pow_right (by decide) (show 8 ≤ 8 * (wk n - i) by omega)) (by decide)) ?_
      show n / 256 < _
      omega
    rw [hbi, w_i64 (n := ((UInt8.ofNat _).toNat : Int)) (by omega) (by omega), shl_or hsm hu, step_val hc hk.2, w_i64 (by omega) (by omega)]
    exact hRR (_, _) _ (wk n - (i + 1)) (by omega) ⟨i + 1, rfl, by omega, by omega, rfl, rfl⟩
  · rw [if_neg (by rw [decide_eq_true_eq]; omega)]
    have : i = wk n := by omega
    subst this
    have e : n / 2 ^ (8 * (wk n - wk n)) = n := by rw [Nat.sub_self]; simp
    rw [e]
    exact ⟨H', Heap.Le.refl _, h⟩
theorem zef.wrun {d r : List UInt8} {s : ByteArray} (hs : s.data.toList = wtext d ++ r) (hsz : s.size ≤ 1000000) {H : Heap} (ht : IntsIn H 0 .i64 szTab) {K : ByteArray → Int → Int → Heap → Prop} {E : Value → Heap → Prop} (h : K ⟨d.toArray⟩ ((wk d.length + d.length : Nat) : Int) 0 H) : zef.c s K E H := by
  have hk := zmd d.length
  have hs2 : s.data.toList = wput d.length ++ (d ++ r) := by rw [hs]; unfold wtext; rw [List.append_assoc]
  have hlen : s.size = wk d.length + d.length + r.length := by rw [← zte, hs2]; simp only [List.length_append, zfd]; omega
  refine ⟨?_⟩
  unfold zef.vc
  refine zre.wrun (by omega) hs2 hsz ht ?_
  rw [if_neg (by decide)]
  rw [w_i64 (n := (s.size : Int) - _) (by omega) (by omega)]
  refine ⟨?_⟩
  unfold zef.J1.vc
  rw [if_neg (by rw [decide_eq_true_eq]; omega)]
  refine ⟨?_⟩
  unfold zef.J2.vc
  rw [w_i64 (by omega) (by omega)]
  refine ⟨by omega, by omega, by omega, H, Heap.Le.refl _, ?_⟩
  have e : s.extract ((wk d.length : Nat) : Int).toNat ((wk d.length : Int) + (d.length : Int)).toNat = ⟨d.toArray⟩ := by
    apply ByteArray.ext
    apply Array.toList_inj.1
    rw [ext_lst, hs2, Int.toNat_natCast, show ((wk d.length : Int) + (d.length : Int)).toNat = wk d.length + d.length by omega, List.drop_left' (zfd _), Nat.add_sub_cancel_left, List.take_left' rfl]
  rw [e]
  have e2 : ((wk d.length : Int) + (d.length : Int)) = ((wk d.length + d.length : Nat) : Int) := by omega
  rw [e2]
  exact h
end Go.Sh
namespace Go.Sh
open Go.Proofs
set_option maxRecDepth 8000
structure Fm where
  k : Int
  id : Nat
  off : Nat
  fin : Bool
  code : Nat
  data : ByteArray
def Fm.arr (f : Fm) : Array Value := #[.int .i64 f.k, .int .i64 f.id, .int .i64 f.off, .bool f.fin, .int .i64 f.code, .string f.data, .slice none 0 0]
def nmK (k : Int) : ByteArray := if k = 8 then ⟨#[105, 111, 102, 100]⟩ else if k = 28 then ⟨#[99]⟩ else if k = 48 then ⟨#[100]⟩ else ⟨#[]⟩
structure Fm.ok (f : Fm) : Prop where
  k : f.k = 0 ∨ f.k = 8 ∨ f.k = 28 ∨ f.k = 48
  i : f.id ≠ 0 → f.k = 8
  o : f.off ≠ 0 → f.k = 8
  n : f.fin = true → f.k = 8
  c : f.code ≠ 0 → f.k = 28
  d : f.data ≠ ⟨#[]⟩ → f.k = 8 ∨ f.k = 48
  bi : f.id < 4611686018427387904
  bo : f.off + f.data.size < 4611686018427387904
  bc : f.code < 4611686018427387904
  bd : f.data.size ≤ 1200
def fldB (f : Fm) (c : UInt8) : List UInt8 :=
  if c = 105 then wput f.id else if c = 111 then wput f.off else if c = 99 then wput f.code else if c = 102 then [if f.fin then 1 else 0] else wtext f.data.data.toList
def wr (f : Fm) : List UInt8 := wput f.k.toNat ++ (nmK f.k).data.toList.flatMap (fldB f)
theorem nm_mem {k : Int} {c : UInt8} (h : c ∈ (nmK k).data.toList) : c = 105 ∨ c = 111 ∨ c = 99 ∨ c = 102 ∨ c = 100 := by
  unfold nmK at h
  split at h
  · simp only [List.mem_cons, List.not_mem_nil, or_false] at h
    rcases h with rfl | rfl | rfl | rfl <;> decide
  · split at h
    · simp only [List.mem_cons, List.not_mem_nil, or_false] at h
      subst h; decide
    · split at h
      · simp only [List.mem_cons, List.not_mem_nil, or_false] at h
        subst h; decide
      · simp at h
theorem setCell_arr {H : Heap} {b o : Nat} {arr : Array Value} {e : TypeId} {f : Nat × Nat} {v : Value} (hb : H b = some (.cells arr e f)) : H.setCell ⟨b, o, none⟩ v = H.set b (.cells (arr.setIfInBounds o v) e f) := by
  funext i
  by_cases hi : i = b <;> simp [Heap.setCell, Heap.upd, Heap.set, Heap.setObj, hi, hb]
theorem stc_at {H : Heap} {b o : Nat} {arr arr' : Array Value} {e : TypeId} {v : Value} {K : Heap → Prop} (hb : H b = some (.cells arr e)) (ho : o < arr.size) (ha : arr.setIfInBounds o v = arr') (h : K (H.set b (.cells arr' e))) : stc H ((⟨b, 0, none⟩ : Addr).add o) v K :=
  stc_loc hb ho (by rw [ha]; exact h)
def BAt (H : Heap) (b : Nat) (L : List Nat) (l : List UInt8) : Prop :=
  ∃ p c x, H b = some (.cells #[.pointer x, .slice p l.length c] 234) ∧ (x = none ∨ x = some ⟨b, 0, none⟩) ∧ zlb H 5 1 p l.length c (vrow l) ∧ b ∉ bl p ∧ L = b :: bl p
section
variable {H : Heap} {E : Value → Heap → Prop}
theorem copyCheck.run {b : Nat} {L : List Nat} {l : List UInt8} (hb : BAt H b L l) {K : Heap → Prop} (h : ∀ H1 p c, H1 b = some (.cells #[.pointer (some ⟨b, 0, none⟩), .slice p l.length c] 234) → zlb H1 5 1 p l.length c (vrow l) → b ∉ bl p → Step L H (b :: bl p) H1 → K H1) : zjb.c (some ⟨b, 0, none⟩) K E H := by
  obtain ⟨p, c, x, hH, hx, ho, hbp, rfl⟩ := hb
  refine ⟨⟨b, x, _, rfl, hH, hx, ?_⟩⟩
  rw [setCell_arr hH]
  have hs1 := Step.set H b (.cells #[.pointer (some ⟨b, 0, none⟩), .slice p l.length c] 234)
  refine h _ p c (set_self _ _ _) (ho.step hs1 fun k hk hm => ?_) hbp (hs1.frame (fun k hk => ?_) (fun k hk _ => hk))
  · rw [List.mem_singleton] at hm
    exact hbp (hm ▸ hk)
  · rw [List.mem_singleton]
    exact fun e => hk (by rw [e]; simp)
theorem build_app {b : Nat} {l xs : List UInt8} {new : List Value} {p : Option Addr} {c m : Nat} (h1 : H b = some (.cells #[.pointer (some ⟨b, 0, none⟩), .slice p l.length c] 234)) (ho : zlb H 5 1 p l.length c (vrow l)) (hbp : b ∉ bl p) (hl : l.length + xs.length ≤ 1000000) (hm : xs.length = m) (hnew : new = (vrow xs).flatten) {K : Heap → Prop} (h : ∀ L' H', BAt H' b L' (l ++ xs) → Step (b :: bl p) H L' H' → K H') :
    appT 5 (.int .u8 0) p l.length m c 1 1 new (fun p0 n0 c0 h2 => nilc (some ⟨b, 0, none⟩) fun a1 => stc h2 (a1.add 1) (.slice p0 n0 c0) fun h3 => K h3) H := by
  subst hm
  refine appT_step (xs := vrow xs) ho (by decide) rfl hnew (by simp [vrow]) (vrow_len xs) ?_ (by omega) (by omega) fun p' c' H2 h2 hst => ?_
  · intro v hv
    rw [hnew, zvd] at hv
    obtain ⟨y, _, rfl⟩ := List.mem_map.1 hv
    rfl
  obtain ⟨hb2, hbp2⟩ := hst b _ h1 hbp
  refine ⟨_, rfl, stc_at (o := 1) (arr' := #[.pointer (some ⟨b, 0, none⟩), .slice p' (l.length + xs.length) c']) hb2 (show 1 < 2 by decide) rfl ?_⟩
  refine h (b :: bl p') _ ⟨p', c', _, by rw [List.length_append]; exact set_self _ _ _, .inr rfl, ?_, hbp2, rfl⟩ ?_
  · have e : vrow (l ++ xs) = vrow l ++ vrow xs := by simp [vrow]
    rw [e, List.length_append]
    refine h2.keep fun ob o hp hob => ?_
    rw [set_ne _ _ (fun e => hbp2 (by rw [hp, ← e]; simp [bl]))]
    exact hob
  · intro k o hk hn
    have hkb : k ≠ b := fun e => hn (by rw [e]; simp)
    obtain ⟨k3, k4⟩ := hst k o hk (fun hm => hn (by simp [hm]))
    exact ⟨by rw [set_ne _ _ hkb]; exact k3, by simp [hkb, k4]⟩
theorem zra.run {b : Nat} {L : List Nat} {l : List UInt8} {s : ByteArray} (hb : BAt H b L l) (hl : l.length + s.size ≤ 1000000) {K : Int → Value → Heap → Prop} (h : ∀ L' H', BAt H' b L' (l ++ s.data.toList) → Step L H L' H' → K s.size .nilIface H') : zra.c (some ⟨b, 0, none⟩) s K E H := by
  refine ⟨?_⟩
  unfold zra.vc
  have hsz := zte s
  refine copyCheck.run hb fun H1 p c h1 ho hbp hs => ⟨_, rfl, _, _, _, loc (o := 1) h1 rfl, ?_⟩
  exact build_app h1 ho hbp (xs := s.data.toList) (by omega) hsz (by rw [zvd]; rfl) fun L' H' h2 h3 => ⟨⟨H', Heap.Le.refl _, h L' H' h2 (hs.trans h3)⟩⟩
theorem rdOne {H : Heap} {b : Nat} {v : Value} {e : TypeId} (hb : H b = some (.cells #[v] e)) {K : List Value → Prop} (h : K [v]) : rdRow H (some ⟨b, 0, none⟩) (1 * 1) K := by
  refine ⟨[v], rfl, fun ad ha i x hi => ?_, (fun h => by cases h), h⟩
  cases ha
  match i with
  | 0 => simp at hi; subst hi; exact loc (o := 0) hb rfl
  | i + 1 => simp at hi
theorem zlc.run {b : Nat} {L : List Nat} {l : List UInt8} {x : UInt8} (hb : BAt H b L l) (hl : l.length + 1 ≤ 1000000) {K : Value → Heap → Prop} (h : ∀ L' H', BAt H' b L' (l ++ [x]) → Step L H L' H' → K .nilIface H') : zlc.c (some ⟨b, 0, none⟩) (x.toNat : Int) K E H := by
  refine ⟨?_⟩
  unfold zlc.vc
  refine copyCheck.run hb fun H1 p c h1 ho hbp hs => ⟨_, rfl, _, _, _, loc (o := 1) h1 rfl, ?_⟩
  refine zna fun bx H2 hn2 hl2 hle2 => rdOne hl2 ?_
  refine build_app (hle2 _ _ h1) (ho.le hle2) hbp (xs := [x]) (by simpa using hl) rfl rfl fun L' H' h2 h3 => ⟨H', Heap.Le.refl _, h L' H' h2 (hs.trans ((Step.of_le hle2).trans h3))⟩
theorem zke.run {b : Nat} {L : List Nat} {l : List UInt8} (hb : BAt H b L l) {K : Int → Heap → Prop} (h : K l.length H) : zke.c (some ⟨b, 0, none⟩) K E H := by
  obtain ⟨p, c, x, hH, hx, ho, hbp, rfl⟩ := hb
  exact ⟨⟨_, rfl, _, _, _, loc (o := 1) hH rfl, H, Heap.Le.refl _, h⟩⟩
theorem zvb.run {b : Nat} {L : List Nat} {l : List UInt8} (hb : BAt H b L l) (h0 : l ≠ []) (hl : l.length ≤ 1000000) {K : ByteArray → Heap → Prop} (h : ∀ H', Step L H [] H' → K ⟨l.toArray⟩ H') : zvb.c (some ⟨b, 0, none⟩) K E H := by
  obtain ⟨p, c, x, hH, hx, ho, hbp, rfl⟩ := hb
  obtain ⟨h1, h2, h3, h4⟩ := ho
  have hl0 : l.length ≠ 0 := by simpa using h0
  rcases h4 with ⟨rfl, rfl⟩ | ⟨g, arr, rfl, hg, hsz, ht⟩
  · omega
  · refine ⟨⟨b, _, g, _, c, arr, l, rfl, hH, hg, hl0, h3, hl, by omega, ?_, rfl, h _ fun k o hk hn => ⟨?_, by simp⟩⟩⟩
    · rw [Nat.mul_one] at ht
      rw [ht, zvd]
      rfl
    · unfold Heap.freeze
      rw [if_neg hl0]
      unfold Heap.upd
      rw [if_neg (fun e => hn (by rw [e]; simp [bl]))]
      exact hk
theorem zrb.run {k : Int} (hk : k = 0 ∨ k = 8 ∨ k = 28 ∨ k = 48) {K : ByteArray → Bool → Heap → Prop} (h : K (nmK k) true H) : zrb.c k K E H := by
  refine ⟨?_⟩
  unfold zrb.vc
  rcases hk with rfl | rfl | rfl | rfl
  · rw [if_pos (by decide)]
    refine ⟨?_⟩
    unfold zrb.J1.vc
    rw [if_pos (by decide)]
    exact ⟨H, Heap.Le.refl _, h⟩
  · rw [if_neg (by decide)]
    refine ⟨?_⟩
    unfold zrb.J1.vc
    rw [if_neg (by decide), if_neg (by decide), if_neg (by decide), if_pos (by decide)]
    exact ⟨H, Heap.Le.refl _, h⟩
  · rw [if_neg (by decide)]
    refine ⟨?_⟩
    unfold zrb.J1.vc
    rw [if_neg (by decide), if_neg (by decide), if_neg (by decide), if_neg (by decide), if_neg (by decide), if_pos (by decide)]
    exact ⟨H, Heap.Le.refl _, h⟩
  · rw [if_neg (by decide)]
    refine ⟨?_⟩
    unfold zrb.J1.vc
    rw [if_neg (by decide), if_neg (by decide), if_neg (by decide), if_neg (by decide), if_neg (by decide), if_neg (by decide), if_pos (by decide)]
    exact ⟨H, Heap.Le.refl _, h⟩
theorem zpd.run {n : Nat} (hn : n < 4611686018427387904) {K : Bool → Heap → Prop} (h : K true H) : zpd.c n K E H := by
  refine ⟨?_⟩
  unfold zpd.vc
  rw [if_pos (by rw [decide_eq_true_eq]; omega), decide_eq_true (by omega)]
  exact ⟨H, Heap.Le.refl _, h⟩
def hasC (fields : ByteArray) (c : UInt8) : Prop := 0 ≤ Lib.indexByte fields.data.toList c
theorem zgc.loop {fields : ByteArray} {b0 b1 b2 b3 b4 b5 : Bool} (h0 : b0 = true → hasC fields 105) (h1 : b1 = true → hasC fields 111) (h2 : b2 = true → hasC fields 99) (h3 : b3 = true → hasC fields 102) (h4 : b4 = true → hasC fields 100) (h5 : b5 = true → hasC fields 114) {Kx : Heap → Prop} {Kr : Bool → Heap → Prop} (h : ∀ H', Heap.Le H H' → Kx H') :
    zgc.W1 fields ⟨#[105]⟩ b0 ⟨#[111]⟩ b1 ⟨#[99]⟩ b2 ⟨#[102]⟩ b3 ⟨#[100]⟩ b4 ⟨#[114]⟩ b5 0 Kx Kr E H := by
  refine ⟨Loop.of (I := fun st H' m => ∃ i : Nat, st = (i : Int) ∧ i ≤ 6 ∧ m = 6 - i ∧ Heap.Le H H') ?_ ⟨0, rfl, by decide, rfl, Heap.Le.refl _⟩⟩
  rintro m st H' ⟨i, rfl, hi, rfl, hle⟩ RR hRR
  unfold zgc.W1.vc
  by_cases hc : i < 6
  · rw [if_pos (by rw [decide_eq_true_eq]; omega)]
    have key : ∃ (c : UInt8) (b : Bool), (#[(.string ⟨#[105]⟩), (.bool b0), (.string ⟨#[111]⟩), (.bool b1), (.string ⟨#[99]⟩), (.bool b2), (.string ⟨#[102]⟩), (.bool b3), (.string ⟨#[100]⟩), (.bool b4), (.string ⟨#[114]⟩), (.bool b5)] : Array Value)[i * 2]? = some (.string ⟨#[c]⟩) ∧ (#[(.string ⟨#[105]⟩), (.bool b0), (.string ⟨#[111]⟩), (.bool b1), (.string ⟨#[99]⟩), (.bool b2), (.string ⟨#[102]⟩), (.bool b3), (.string ⟨#[100]⟩), (.bool b4), (.string ⟨#[114]⟩), (.bool b5)] : Array Value)[i * 2 + 1]? = some (.bool b) ∧ (b = true → hasC fields c) := by
      match i, hc with
      | 0, _ => exact ⟨_, _, rfl, rfl, h0⟩
      | 1, _ => exact ⟨_, _, rfl, rfl, h1⟩
      | 2, _ => exact ⟨_, _, rfl, rfl, h2⟩
      | 3, _ => exact ⟨_, _, rfl, rfl, h3⟩
      | 4, _ => exact ⟨_, _, rfl, rfl, h4⟩
      | 5, _ => exact ⟨_, _, rfl, rfl, h5⟩
    obtain ⟨c, b, e1, e2, hb⟩ := key
    refine ⟨by omega, by omega, _, by rw [Int.toNat_natCast]; exact e1, _, rfl, _, by rw [Int.toNat_natCast]; exact e2, _, rfl, ?_⟩
    refine new2_le fun bx H1 hn1 hl1 hle1 => ⟨_, loc (o := 1) hl1 rfl, ?_⟩
    have next : ∀ {RR' : Heap → Prop}, True → zgc.J2 fields ⟨#[105]⟩ b0 ⟨#[111]⟩ b1 ⟨#[99]⟩ b2 ⟨#[102]⟩ b3 ⟨#[100]⟩ b4 ⟨#[114]⟩ b5 i false (fun h5 => zgc.J3 fields ⟨#[105]⟩ b0 ⟨#[111]⟩ b1 ⟨#[99]⟩ b2 ⟨#[102]⟩ b3 ⟨#[100]⟩ b4 ⟨#[114]⟩ b5 i RR E h5) Kr E H1 := fun _ => by
      refine ⟨?_⟩
      unfold zgc.J2.vc
      rw [if_neg (by decide)]
      refine ⟨?_⟩
      unfold zgc.J3.vc
      rw [w_i64 (by omega) (by omega)]
      exact hRR _ _ (6 - (i + 1)) (by omega) ⟨i + 1, rfl, by omega, rfl, hle.trans hle1⟩
    try dsimp only
    cases b with
    | true =>
      rw [if_pos rfl]
      refine ⟨_, loc (o := 0) hl1 rfl, ⟨⟨c, rfl, ?_⟩⟩⟩
      have := hb rfl
      unfold hasC at this
      rw [decide_eq_true this]
      exact next (RR' := fun _ => True) trivial
    | false =>
      rw [if_neg (by decide)]
      exact next (RR' := fun _ => True) trivial
  · rw [if_neg (by rw [decide_eq_true_eq]; omega)]
    exact h H' hle
theorem Fm.has {f : Fm} (hf : f.ok) : (f.id ≠ 0 → hasC (nmK f.k) 105) ∧ (f.off ≠ 0 → hasC (nmK f.k) 111) ∧ (f.code ≠ 0 → hasC (nmK f.k) 99) ∧ (f.fin = true → hasC (nmK f.k) 102) ∧ (f.data ≠ ⟨#[]⟩ → hasC (nmK f.k) 100) := by
  have k8 : ∀ c : UInt8, (c = 105 ∨ c = 111 ∨ c = 102 ∨ c = 100) → hasC (nmK 8) c := by
    rintro c (rfl | rfl | rfl | rfl) <;> (unfold hasC; decide)
  refine ⟨fun h => ?_, fun h => ?_, fun h => ?_, fun h => ?_, fun h => ?_⟩
  · rw [hf.i h]; exact k8 _ (by decide)
  · rw [hf.o h]; exact k8 _ (by decide)
  · rw [hf.c h]; unfold hasC; decide
  · rw [hf.n h]; exact k8 _ (by decide)
  · rcases hf.d h with e | e
    · rw [e]; exact k8 _ (by decide)
    · rw [e]; unfold hasC; decide
theorem ne_of_bne {n : Nat} (h : ((n : Int) != 0) = true) : n ≠ 0 := by
  intro e; subst e; exact absurd h (by decide)
theorem zgc.run {f : Fm} (hf : f.ok) {K : Bool → Heap → Prop} (h : K false H) : zgc.c f.k f.id f.off f.fin f.code f.data none 0 0 (nmK f.k) K E H := by
  obtain ⟨a1, a2, a3, a4, a5⟩ := Fm.has hf
  refine ⟨?_⟩
  unfold zgc.vc
  refine zna fun b H1 hn hl hle => ⟨_, loc (o := 1) hl rfl, _, loc (o := 2) hl rfl, _, loc (o := 4) hl rfl, _, loc (o := 3) hl rfl, _, loc (o := 5) hl rfl, _, _, _, loc (o := 6) hl rfl, ?_⟩
  refine zgc.loop (fun hb => a1 (ne_of_bne hb)) (fun hb => a2 (ne_of_bne hb)) (fun hb => a3 (ne_of_bne hb)) a4 (fun hb => a5 fun e => ?_) (fun hb => absurd hb (by decide)) fun H' hle' => ⟨H, hle.trans hle', h⟩
  rw [e, Bool.not_eq_true'] at hb
  exact absurd ((str_eq _ _).2 rfl) (by rw [hb]; decide)
theorem zwb.run {f : Fm} (hf : f.ok) {K : Int → Heap → Prop} (h : K 0 H) : zwb.c f.k f.id f.off f.fin f.code f.data none 0 0 K E H := by
  refine ⟨?_⟩
  unfold zwb.vc
  refine zna fun b H1 hn hl hle => ⟨_, loc (o := 0) hl rfl, ?_⟩
  refine zrb.run hf.k ?_
  rw [if_neg (by decide)]
  refine ⟨_, loc (o := 0) hl rfl, _, loc (o := 1) hl rfl, _, loc (o := 2) hl rfl, _, loc (o := 3) hl rfl, _, loc (o := 4) hl rfl, _, loc (o := 5) hl rfl, _, _, _, loc (o := 6) hl rfl, ?_⟩
  refine zgc.run hf ?_
  rw [if_neg (by decide)]
  refine ⟨_, loc (o := 1) hl rfl, zpd.run hf.bi ?_⟩
  try dsimp only
  rw [if_neg (by decide)]
  have hbo := hf.bo
  have hbd := hf.bd
  refine ⟨_, loc (o := 2) hl rfl, zpd.run (by omega) ?_⟩
  try dsimp only
  rw [if_neg (by decide)]
  refine ⟨_, loc (o := 4) hl rfl, zpd.run hf.bc ⟨?_⟩⟩
  unfold zwb.J1.vc
  rw [if_neg (by decide)]
  refine ⟨_, loc (o := 0) hl rfl, ?_⟩
  have j3 : zwb.J3 false (fun h9 => ∃ H', Heap.Le H' h9 ∧ K 0 H') E H1 := by
    refine ⟨?_⟩
    unfold zwb.J3.vc
    rw [if_neg (by decide)]
    exact ⟨H, hle, h⟩
  have j2 : zwb.J2 ⟨b, 0, none⟩ false (fun h9 => ∃ H', Heap.Le H' h9 ∧ K 0 H') E H1 := by
    refine ⟨?_⟩
    unfold zwb.J2.vc
    rw [if_neg (by decide)]
    refine ⟨_, loc (o := 5) hl rfl, ?_⟩
    try dsimp only
    rw [if_neg (by rw [decide_eq_true_eq]; omega)]
    refine ⟨_, loc (o := 0) hl rfl, ?_⟩
    try dsimp only
    rw [if_neg (by rw [beq_iff_eq]; have := hf.k; omega)]
    exact j3
  show (if (f.k == 8) = true then _ else _ : Prop)
  by_cases hk : f.k = 8
  · rw [if_pos (by rw [hk]; decide)]
    refine ⟨_, loc (o := 5) hl rfl, _, loc (o := 2) hl rfl, ?_⟩
    try dsimp only
    rw [w_i64 (by omega) (by omega), decide_eq_false (by omega)]
    exact j2
  · rw [if_neg (by rw [beq_iff_eq]; exact hk)]
    exact j2
theorem dec_ascii {s : ByteArray} {i : Nat} {c : UInt8} (h : s.data.toList[i]? = some c) (hc : c.toNat < 128) : Utf8.decode s i = (c.toNat, 1) := by
  have hg : (s.get! (i + 0)).toNat = c.toNat := by
    have : s.get! (i + 0) = c := by
      show s.data[i + 0]! = c
      rw [Nat.add_zero, getElem!_def, ← Array.getElem?_toList, h]
    rw [this]
  unfold Utf8.decode
  simp only [hg]
  rw [if_pos hc]
theorem BAt.step {H' : Heap} {b : Nat} {L M M' : List Nat} {l : List UInt8} (hb : BAt H b L l) (hs : Step M H M' H') (hn : ∀ k ∈ L, k ∉ M) : BAt H' b L l := by
  obtain ⟨p, c, x, hH, hx, ho, hbp, rfl⟩ := hb
  exact ⟨p, c, x, (hs b _ hH (hn b (by simp))).1, hx, ho.step hs fun k hk => hn k (by simp [hk]), hbp, rfl⟩
theorem BAt.le {H' : Heap} {b : Nat} {L : List Nat} {l : List UInt8} (hb : BAt H b L l) (hs : Heap.Le H H') : BAt H' b L l := hb.step (Step.of_le (L := []) hs) (by simp)
theorem fld_len {f : Fm} (hf : f.ok) (c : UInt8) : (fldB f c).length ≤ 1208 := by
  have hd := hf.bd
  have := zte f.data
  unfold fldB
  split
  · rw [zfd]; have := zmd f.id; omega
  · split
    · rw [zfd]; have := zmd f.off; omega
    · split
      · rw [zfd]; have := zmd f.code; omega
      · split
        · simp
        · unfold wtext
          rw [List.length_append, zfd]
          have := zmd f.data.data.toList.length
          omega
theorem flat_bound {f : Fm} (hf : f.ok) : ∀ l : List UInt8, (l.flatMap (fldB f)).length ≤ 1208 * l.length
  | [] => by simp
  | c :: l => by
    have := flat_bound hf l
    have := fld_len hf c
    rw [List.flatMap_cons, List.length_append, List.length_cons]
    omega
theorem nm_len (k : Int) : (nmK k).size ≤ 4 := by
  unfold nmK
  split
  · decide
  · split
    · decide
    · split <;> decide
theorem wr_len {f : Fm} (hf : f.ok) : (wr f).length ≤ 5000 := by
  unfold wr
  have h1 := flat_bound hf (nmK f.k).data.toList
  have h2 := nm_len f.k
  have h3 := zte (nmK f.k)
  have h4 := zmd f.k.toNat
  rw [List.length_append, zfd]
  omega
theorem wr_ne (f : Fm) : wr f ≠ [] := by
  intro e
  have := congrArg List.length e
  have h4 := zmd f.k.toNat
  unfold wr at this
  rw [List.length_append, zfd] at this
  simp at this
  omega
theorem take_snoc {α : Type} {l : List α} {i : Nat} {c : α} (h : l[i]? = some c) : l.take (i + 1) = l.take i ++ [c] := by
  obtain ⟨hi, e⟩ := List.getElem?_eq_some_iff.1 h
  rw [List.take_succ_eq_append_getElem hi, e]
theorem zmc.loop {f : Fm} (hf : f.ok) {b bf it : Nat} {L : List Nat} {l : List UInt8} (ht : IntsIn H 0 .i64 szTab) (h0 : 0 ∉ L) (hb : BAt H b L l) (hl : l.length + 10000 ≤ 1000000) (hbf : H bf = some (.cells f.arr 83)) (hfL : bf ∉ L) (hit : H it = some (.stringIter (nmK f.k) 0)) (hiL : it ∉ L) {Kx : Heap → Prop}
    (h : ∀ L' H', BAt H' b L' (l ++ (nmK f.k).data.toList.flatMap (fldB f)) → Step (it :: L) H (it :: L') H' → Kx H') : zmc.W1 (some ⟨b, 0, none⟩) ⟨bf, 0, none⟩ ⟨it, 0, none⟩ Kx E H := by
  obtain ⟨N, hN⟩ : ∃ N, N = (nmK f.k).data.toList := ⟨_, rfl⟩
  have hNs : N.length = (nmK f.k).size := by rw [hN, zte]
  have hN4 := nm_len f.k
  have hnf : it ≠ bf := fun e => by rw [e, hbf] at hit; cases hit
  have hn0 : it ≠ 0 := fun e => by
    rw [e] at hit
    have := ht 0 1 rfl
    unfold Heap.cell? at this
    rw [hit] at this
    cases this
  refine ⟨Loop.of (I := fun _ H' m => ∃ i L', i ≤ N.length ∧ m = N.length - i ∧ H' it = some (.stringIter (nmK f.k) i) ∧ BAt H' b L' (l ++ (N.take i).flatMap (fldB f)) ∧ Step (it :: L) H (it :: L') H') ?_ ⟨0, L, Nat.zero_le _, rfl, hit, by simpa using hb, Step.refl _ _⟩⟩
  rintro m st H' ⟨i, L', hi, rfl, hit', hb', hst⟩ RR hRR
  unfold zmc.W1.vc
  refine ⟨rfl, _, i, hit', fun hlt => ?_, fun hge => ?_⟩
  · obtain ⟨c, hc⟩ : ∃ c, N[i]? = some c := ⟨_, List.getElem?_eq_getElem (by omega)⟩
    have hmem := nm_mem (k := f.k) (c := c) (by rw [← hN]; exact List.mem_of_getElem? hc)
    rw [hN] at hc
    rw [dec_ascii hc (by rcases hmem with rfl | rfl | rfl | rfl | rfl <;> decide)]
    dsimp only
    rw [← hN] at hc
    -- behind the step
    have hbl := flat_bound hf (N.take i)
    have htl : (N.take i).length ≤ 4 := by rw [List.length_take]; omega
    have hsz : (l ++ (N.take i).flatMap (fldB f)).length + 1208 ≤ 1000000 := by rw [List.length_append]; omega
    have hiL' : it ∉ L' := by
      intro hm
      obtain ⟨p, cc, x, hH, hx, ho, hbp, rfl⟩ := hb'
      rcases List.mem_cons.1 hm with e | e
      · rw [e, hH] at hit'; cases hit'
      · rcases ho.2.2.2 with ⟨rfl, _⟩ | ⟨g, arr, rfl, hg, _⟩
        · simp [bl] at e
        · simp [bl] at e
          rw [e, hg] at hit'; cases hit'
    obtain ⟨H2, hH2⟩ : ∃ H2, H2 = H'.set it (.stringIter (nmK f.k) (i + 1)) := ⟨_, rfl⟩
    rw [← hH2]
    have hs2 : Step [it] H' [it] H2 := by rw [hH2]; exact Step.set _ _ _
    have hit2 : H2 it = some (.stringIter (nmK f.k) (i + 1)) := by rw [hH2]; exact set_self _ _ _
    have hb2 : BAt H2 b L' (l ++ (N.take i).flatMap (fldB f)) := hb'.step hs2 fun k hk hm => by
      rw [List.mem_singleton] at hm
      exact hiL' (by rw [← hm]; exact hk)
    have hst2 : Step (it :: L) H (it :: L') H2 := hst.trans (hs2.frame (fun k hk => by rw [List.mem_singleton]; exact fun e => hk (by rw [e]; simp)) (fun k hk _ => hk))
    obtain ⟨hbf2, _⟩ := hst2 bf _ hbf (by simp [hfL, Ne.symm hnf])
    have ht2 : IntsIn H2 0 .i64 szTab := fun j x hj => hst2.cell (ht j x hj) (by show (0 : Nat) ∉ _; simp [h0, Ne.symm hn0])
    have fin : ∀ (xs : List UInt8) L3 H3, xs = fldB f c → BAt H3 b L3 ((l ++ (N.take i).flatMap (fldB f)) ++ xs) → Step L' H2 L3 H3 → RR () H3 := fun xs L3 H3 hxs h3 hs3 => by
      subst hxs
      have e : (l ++ (N.take i).flatMap (fldB f)) ++ fldB f c = l ++ (N.take (i + 1)).flatMap (fldB f) := by
        rw [take_snoc hc, List.flatMap_append, List.append_assoc]
        simp
      rw [e] at h3
      obtain ⟨hit3, hi3⟩ := hs3 it _ hit2 hiL'
      refine hRR _ _ (N.length - (i + 1)) (by omega) ⟨i + 1, L3, by omega, rfl, hit3, h3, hst2.trans (hs3.frame (fun k hk hm => hk (by simp [hm])) (fun k hk hm => ?_))⟩
      intro hm2
      rcases List.mem_cons.1 hm2 with e | e
      · exact hk (by rw [e]; simp)
      · exact hm e
    rcases hmem with rfl | rfl | rfl | rfl | rfl
    · rw [if_pos (by decide)]
      refine ⟨_, loc (o := 1) hbf2 rfl, zac.wrun hf.bi ht2 fun H3 hle3 => ?_⟩
      refine zra.run (hb2.le hle3) ?_ fun L3 H4 h3 hs3 => ?_
      · rw [zxa, zfd]; have := zmd f.id; omega
      · exact fin (wput f.id) L3 H4 rfl (by simpa using h3) ((Step.of_le hle3).trans hs3)
    · rw [if_neg (by decide), if_pos (by decide)]
      refine ⟨_, loc (o := 2) hbf2 rfl, zac.wrun (by have := hf.bo; omega) ht2 fun H3 hle3 => ?_⟩
      refine zra.run (hb2.le hle3) ?_ fun L3 H4 h3 hs3 => ?_
      · rw [zxa, zfd]; have := zmd f.off; omega
      · exact fin (wput f.off) L3 H4 rfl (by simpa using h3) ((Step.of_le hle3).trans hs3)
    · rw [if_neg (by decide), if_neg (by decide), if_pos (by decide)]
      refine ⟨_, loc (o := 4) hbf2 rfl, zac.wrun hf.bc ht2 fun H3 hle3 => ?_⟩
      refine zra.run (hb2.le hle3) ?_ fun L3 H4 h3 hs3 => ?_
      · rw [zxa, zfd]; have := zmd f.code; omega
      · exact fin (wput f.code) L3 H4 rfl (by simpa using h3) ((Step.of_le hle3).trans hs3)
    · rw [if_neg (by decide), if_neg (by decide), if_neg (by decide), if_pos (by decide)]
      refine ⟨_, loc (o := 3) hbf2 rfl, ?_⟩
      have w : ∀ x : UInt8, x = (if f.fin then 1 else 0) → zmc.J2 (some ⟨b, 0, none⟩) ⟨bf, 0, none⟩ (x.toNat : Int) ⟨it, 0, none⟩ (RR ()) E H2 := fun x hx => by
        refine ⟨zlc.run hb2 (by omega) fun L3 H4 h3 hs3 => ?_⟩
        exact fin [x] L3 H4 (by rw [hx]; rfl) h3 hs3
      dsimp only
      cases hfin : f.fin with
      | true => rw [if_pos rfl]; exact w 1 (by rw [hfin]; rfl)
      | false => rw [if_neg (by decide)]; exact w 0 (by rw [hfin]; rfl)
    · rw [if_neg (by decide), if_neg (by decide), if_neg (by decide), if_neg (by decide), if_pos (by decide)]
      have hd := hf.bd
      refine ⟨_, loc (o := 5) hbf2 rfl, zec.wrun (by omega) ht2 fun H3 hle3 => ?_⟩
      refine zra.run (hb2.le hle3) ?_ fun L3 H4 h3 hs3 => ?_
      · rw [zxa]
        have := fld_len hf 100
        have e : fldB f 100 = wtext f.data.data.toList := rfl
        rw [e] at this
        omega
      · exact fin (wtext f.data.data.toList) L3 H4 rfl (by simpa using h3) ((Step.of_le hle3).trans hs3)
  · have : i = N.length := by omega
    subst this
    rw [List.take_length, hN] at hb'
    exact h L' H' hb' hst
theorem zmc.run {f : Fm} (hf : f.ok) {b : Nat} {L : List Nat} {l : List UInt8} (ht : IntsIn H 0 .i64 szTab) (h0 : 0 ∉ L) (hb : BAt H b L l) (hl : l.length + 20000 ≤ 1000000) {K : Heap → Prop} (h : ∀ L' H', BAt H' b L' (l ++ wr f) → Step L H L' H' → K H') :
    zmc.c (some ⟨b, 0, none⟩) f.k f.id f.off f.fin f.code f.data none 0 0 K E H := by
  have hkN : f.k = (f.k.toNat : Int) := by have := hf.k; omega
  have h0H : ∀ {Hx : Heap}, IntsIn Hx 0 .i64 szTab → Hx 0 ≠ none := fun {Hx} hx => by
    have := hx 0 1 rfl
    intro e
    unfold Heap.cell? at this
    rw [e] at this
    cases this
  have hlive : ∀ k ∈ L, H k ≠ none := by
    obtain ⟨p, c, x, hH, hx, ho, hbp, rfl⟩ := hb
    intro k hk
    rcases List.mem_cons.1 hk with rfl | hk
    · rw [hH]; simp
    · exact ho.live k hk
  refine ⟨?_⟩
  unfold zmc.vc
  refine zna fun bf H1 hn1 hl1 hle1 => ⟨_, loc (o := 0) hl1 rfl, ?_⟩
  rw [hkN]
  refine zac.wrun (by have := hf.k; omega) (fun j x hj => zcc hle1 (ht j x hj)) fun H2 hle2 => ?_
  have hfL : bf ∉ L := fun hm => hlive bf hm hn1
  refine zra.run ((hb.le hle1).le hle2) (by rw [zxa, zfd]; have := zmd f.k.toNat; omega) fun L3 H3 h3 hs3 => ?_
  obtain ⟨hf3, hfL3⟩ := hs3 bf _ (hle2 _ _ hl1) hfL
  have ht3 : IntsIn H3 0 .i64 szTab := fun j x hj => hs3.cell (zcc hle2 (zcc hle1 (ht j x hj))) h0
  have h03 : 0 ∉ L3 := by
    cases e0 : H 0 with
    | none => exact absurd e0 (h0H ht)
    | some o => exact (hs3 0 _ (hle2 _ _ (hle1 _ _ e0)) h0).2
  refine ⟨_, loc (o := 0) hf3 rfl, zrb.run hf.k ?_⟩
  refine zna fun it H4 hn4 hl4 hle4 => ?_
  have hlive3 : ∀ k ∈ L3, H3 k ≠ none := by
    obtain ⟨p, c, x, hH, hx, ho, hbp, rfl⟩ := h3
    intro k hk
    rcases List.mem_cons.1 hk with rfl | hk
    · rw [hH]; simp
    · exact ho.live k hk
  have hw := zmd f.k.toNat
  refine zmc.loop hf (fun j x hj => zcc hle4 (ht3 j x hj)) h03 (h3.le hle4) (by rw [List.length_append]; show l.length + (wput f.k.toNat).length + 10000 ≤ 1000000; rw [zfd]; omega) (hle4 _ _ hf3) hfL3 hl4 (fun hm => hlive3 it hm hn4) fun L' H5 h5 hs5 => ?_
  refine ⟨H5, Heap.Le.refl _, h L' H5 (by unfold wr; rw [← List.append_assoc]; exact h5) fun k o hk hn => ?_⟩
  obtain ⟨k1, k2⟩ := hs3 k o (hle2 _ _ (hle1 _ _ hk)) hn
  have hki : k ≠ it := fun e => by rw [e, hn4] at k1; cases k1
  obtain ⟨k3, k4⟩ := hs5 k o (hle4 _ _ k1) (by simp [hki, k2])
  exact ⟨k3, fun hm => k4 (by simp [hm])⟩
theorem BAt.new {b : Nat} (hb : H b = some (.cells #[.pointer none, .slice none 0 0] 234)) : BAt H b [b] [] :=
  ⟨none, 0, none, hb, .inl rfl, ⟨rfl, by simp [vrow], Nat.le_refl _, .inl ⟨rfl, rfl⟩⟩, by simp [bl], rfl⟩
theorem znf.run {f : Fm} (hf : f.ok) (ht : IntsIn H 0 .i64 szTab) {K : Int → Heap → Prop} (h : K (wr f).length H) : znf.c f.k f.id f.off f.fin f.code f.data none 0 0 K E H := by
  refine ⟨?_⟩
  unfold znf.vc
  refine zna fun bf H1 hn1 hl1 hle1 => ⟨_, loc (o := 0) hl1 rfl, _, loc (o := 1) hl1 rfl, _, loc (o := 2) hl1 rfl, _, loc (o := 3) hl1 rfl, _, loc (o := 4) hl1 rfl, _, loc (o := 5) hl1 rfl, _, _, _, loc (o := 6) hl1 rfl, ?_⟩
  refine zwb.run hf ?_
  rw [if_neg (by decide)]
  refine zna fun b H2 hn2 hl2 hle2 => ?_
  have hl3 := hle2 _ _ hl1
  refine ⟨_, loc (o := 0) hl3 rfl, _, loc (o := 1) hl3 rfl, _, loc (o := 2) hl3 rfl, _, loc (o := 3) hl3 rfl, _, loc (o := 4) hl3 rfl, _, loc (o := 5) hl3 rfl, _, _, _, loc (o := 6) hl3 rfl, ?_⟩
  have ht2 : IntsIn H2 0 .i64 szTab := fun j x hj => zcc hle2 (zcc hle1 (ht j x hj))
  have h0 : (0 : Nat) ∉ [b] := by
    rw [List.mem_singleton]
    intro e
    have := zcc hle1 (ht 0 1 rfl)
    unfold Heap.cell? at this
    rw [e, hn2] at this
    cases this
  refine zmc.run hf ht2 h0 (BAt.new hl2) (by decide) fun L' H3 h3 hs3 => ?_
  refine zke.run h3 ⟨H, fun k o hk => ?_, by simpa using h⟩
  have hkb : k ≠ b := fun e => by rw [e] at hk; rw [hle1 _ _ hk] at hn2; cases hn2
  exact (hs3 k o (hle2 _ _ (hle1 _ _ hk)) (by simpa using hkb)).1
end
end Go.Sh
namespace Go.Sh
open Go.Proofs
set_option linter.unusedVariables false
set_option maxRecDepth 8000
namespace zeb
noncomputable def body : Code := Tryz.f112.body.getD .skip
def J1.vc (s0 : ByteArray) (Kn : Addr → Addr → HP) (E : VH) (h0 : Heap) : Prop :=
 newB (.cells #[(.slice none 0 0)] 84) (fun b0 h1 =>
 newB (.cells #[(.int .i64 0)] 22) (fun b1 h2 =>
 Kn (⟨b0, 0, none⟩ : Addr) (⟨b1, 0, none⟩ : Addr) h2) h1) h0
structure J1 (s0 : ByteArray) (Kn : Addr → Addr → HP) (E : VH) (H : Heap) : Prop where
  h : J1.vc s0 Kn E H
def W3.vc (l0 : Addr) (e0 : Addr) (r0 : Addr) (Kx0 : HP) (RR : HP) (E : VH) (h0 : Heap) : Prop :=
 nilc (some r0) fun a0 =>
 ldS h0 (a0.add 0) fun x0 =>
 (if (!(x0.toList == (⟨#[]⟩ : ByteArray).toList)) = true then
 zsb.c (some r0) (fun x1 x2 x3 x4 x5 x6 x7 x8 x9 h1 =>
 newB (.cells #[(.int .i64 0), (.int .i64 0), (.int .i64 0), (.bool false), (.int .i64 0), (.string (⟨#[]⟩ : ByteArray)), (.slice none 0 0)] 83) (fun b0 h2 =>
 stc h2 ((⟨b0, 0, none⟩ : Addr).add 0) (.int .i64 x1) fun h3 =>
 stc h3 ((⟨b0, 0, none⟩ : Addr).add 1) (.int .i64 x2) fun h4 =>
 stc h4 ((⟨b0, 0, none⟩ : Addr).add 2) (.int .i64 x3) fun h5 =>
 stc h5 ((⟨b0, 0, none⟩ : Addr).add 3) (.bool x4) fun h6 =>
 stc h6 ((⟨b0, 0, none⟩ : Addr).add 4) (.int .i64 x5) fun h7 =>
 stc h7 ((⟨b0, 0, none⟩ : Addr).add 5) (.string x6) fun h8 =>
 stc h8 ((⟨b0, 0, none⟩ : Addr).add 6) (.slice x7 x8 x9) fun h9 =>
 ldI h9 .i64 ((⟨b0, 0, none⟩ : Addr).add 0) fun x10 =>
 (if (x10 == 0) = true then
 RR h9
 else
 ldSl h9 l0 fun x11 x12 x13 =>
 zhb.c (decide ((x12 : Int) < 64)) 8 (fun h10 =>
 ldSl h10 l0 fun x14 x15 x16 =>
 ldI h10 .i64 ((⟨b0, 0, none⟩ : Addr).add 0) fun x17 => ldI h10 .i64 ((⟨b0, 0, none⟩ : Addr).add 1) fun x18 => ldI h10 .i64 ((⟨b0, 0, none⟩ : Addr).add 2) fun x19 => ldB h10 ((⟨b0, 0, none⟩ : Addr).add 3) fun x20 => ldI h10 .i64 ((⟨b0, 0, none⟩ : Addr).add 4) fun x21 => ldS h10 ((⟨b0, 0, none⟩ : Addr).add 5) fun x22 => ldSl h10 ((⟨b0, 0, none⟩ : Addr).add 6) fun x23 x24 x25 =>
 newB (.cells #[(.int .i64 x17), (.int .i64 x18), (.int .i64 x19), (.bool x20), (.int .i64 x21), (.string x22), (.slice x23 x24 x25)] 83) (fun b1 h11 =>
 rdRow h11 (some (⟨b1, 0, none⟩ : Addr)) (1 * 7) fun cs0 =>
 appT 83 (.agg #[(.int .i64 0), (.int .i64 0), (.int .i64 0), (.bool false), (.int .i64 0), (.string (⟨#[]⟩ : ByteArray)), (.slice none 0 0)]) x14 x15 1 x16 7 80 cs0 (fun p0 n0 c0 h12 =>
 stc h12 l0 (.slice p0 n0 c0) fun h13 =>
 RR h13) h11) h10) E h9)) h1) E h0
 else
 Kx0 h0)
structure W3 (l0 : Addr) (e0 : Addr) (r0 : Addr) (Kx0 : HP) (E : VH) (H : Heap) : Prop where
  h : Loop (fun (RR : Unit → HP) (s : Unit) (H : Heap) => W3.vc l0 e0 r0 Kx0 (fun  H => RR () H) E H) () H
def J2.vc (s0 : ByteArray) (l0 : Addr) (e0 : Addr) (Kr : HP) (E : VH) (h0 : Heap) : Prop :=
 newB (.cells #[(.string s0)] 259) (fun b0 h1 =>
 W3 l0 e0 (⟨b0, 0, none⟩ : Addr) (fun h2 =>
 ldSl h2 l0 fun x0 x1 x2 =>
 stc h2 l0 (.slice x0 x1 x2) fun h3 =>
 stc h3 e0 (.int .i64 0) fun h4 =>
 Kr h4) E h1) h0
structure J2 (s0 : ByteArray) (l0 : Addr) (e0 : Addr) (Kr : HP) (E : VH) (H : Heap) : Prop where
  h : J2.vc s0 l0 e0 Kr E H
noncomputable def Γ : FuncId → Option FT := Γof [(150, zsb.F), (151, zhb.F)]
theorem hΓ : ∀ f F, Γ f = some F → zca Tryz.prog f F := Γof_ok (consQ zsb.ok (consQ zhb.ok (nilQ)))
def J1.t : CT := fun Q E fr H => lenIs 29 fr (slS fr 0 fun s0 => J1 s0 (fun y2_0 y3_0 H => Q .normal (mkF 29 [(0, (.string s0)), (2, (.pointer (some y2_0))), (3, (.pointer (some y3_0)))]) H) E H)
theorem J1.ok : zaa Tryz.prog (sub [0] body) J1.t := by
  refine zda (zea [0, 2, 3] [] (fun i => []) (zba hΓ Tryz.hm (.go) _ (of_eq_true (by kernel_rfl)))) fun Q E fr H h => ?_
  obtain ⟨hl, h⟩ := zga h
  obtain ⟨s0, q0, h⟩ := zfb h
  exact ⟨(mkF 29 [(0, (.string s0))]), fun a ha => ha.mk (Nat.le_of_eq hl.symm) (consQ q0 nilQ), cast (by kernel_rfl) h.h⟩
def W3.t : CT := fun Q E fr H => lenIs 29 fr (slPA fr 2 fun l0 => slPA fr 3 fun e0 => slPA fr 4 fun r0 => W3 l0 e0 r0 (fun  H => Q (.exit 0) (mkF 29 [(2, (.pointer (some l0))), (3, (.pointer (some e0)))]) H) E H)
theorem W3.ok : zaa Tryz.prog (sub [1, 1, 1, 0, 0] body) W3.t := by
  have e : (sub [1, 1, 1, 0, 0] body) = .loop (sub [1, 1, 1, 0, 0, 0] body) := by kernel_rfl
  rw [e]
  refine zda (zqa (zea [2, 3, 4] [] (fun i => if i = 0 then [2, 3] else []) (zba hΓ Tryz.hm (.go) _ (of_eq_true (by kernel_rfl))))) fun Q E fr H h => ?_
  obtain ⟨hl, h⟩ := zga h
  obtain ⟨l0, q2, h⟩ := zua h
  obtain ⟨e0, q3, h⟩ := zua h
  obtain ⟨r0, q4, h⟩ := zua h
  obtain ⟨m, h⟩ := h.h
  exact ⟨(mkF 29 [(2, (.pointer (some l0))), (3, (.pointer (some e0))), (4, (.pointer (some r0)))]), fun a ha => ha.mk (Nat.le_of_eq hl.symm) (consQ q2 (consQ q3 (consQ q4 nilQ))), m, cast (zib (B := (fun (RR : Unit → HP) (s : Unit) (H : Heap) => W3.vc l0 e0 r0 (fun  H => Q (.exit 0) (mkF 29 [(2, (.pointer (some l0))), (3, (.pointer (some e0)))]) H) (fun  H => RR () H) E H)) (m := (fun (s : Unit) => (mkF 29 [(2, (.pointer (some l0))), (3, (.pointer (some e0))), (4, (.pointer (some r0)))]))) (Q := Q) (E := E) (fun RR s H => by kernel_rfl) m () H) h⟩
def J2.t : CT := fun Q E fr H => lenIs 29 fr (slS fr 0 fun s0 => slPA fr 2 fun l0 => slPA fr 3 fun e0 => J2 s0 l0 e0 (fun  H => Q .ret (mkF 29 [(2, (.pointer (some l0))), (3, (.pointer (some e0)))]) H) E H)
theorem J2.ok : zaa Tryz.prog (sub [1, 1] body) J2.t := by
  refine zda (zea [] [2, 3] (fun i => []) (zba hΓ Tryz.hm (.seq (.go) (.seq (.block (.use W3.t)) (.go))) _ (of_eq (show _ = (True ∧ ((zaa Tryz.prog (sub [1, 1, 1, 0, 0] body) W3.t) ∧ True)) by kernel_rfl) ⟨trivial, ⟨W3.ok, trivial⟩⟩))) fun Q E fr H h => ?_
  obtain ⟨hl, h⟩ := zga h
  obtain ⟨s0, q0, h⟩ := zfb h
  obtain ⟨l0, q2, h⟩ := zua h
  obtain ⟨e0, q3, h⟩ := zua h
  exact ⟨(mkF 29 [(0, (.string s0)), (2, (.pointer (some l0))), (3, (.pointer (some e0)))]), fun a ha => ha.mk (Nat.le_of_eq hl.symm) (consQ q0 (consQ q2 (consQ q3 nilQ))), cast (by kernel_rfl) h.h⟩
end zeb
end Go.Sh
namespace Go.Sh
open Go.Proofs
set_option maxRecDepth 8000
theorem new7_le {e : TypeId} {z0 z1 z2 z3 z4 z5 z6 v0 v1 v2 v3 v4 v5 v6 : Value} {K : Nat → Heap → Prop} {H : Heap} (h : ∀ b H', H b = none → H' b = some (.cells #[v0, v1, v2, v3, v4, v5, v6] e) → Heap.Le H H' → K b H') :
    newB (.cells #[z0, z1, z2, z3, z4, z5, z6] e) (fun b h1 => stc h1 ((⟨b, 0, none⟩ : Addr).add 0) v0 fun h2 => stc h2 ((⟨b, 0, none⟩ : Addr).add 1) v1 fun h3 => stc h3 ((⟨b, 0, none⟩ : Addr).add 2) v2 fun h4 => stc h4 ((⟨b, 0, none⟩ : Addr).add 3) v3 fun h5 => stc h5 ((⟨b, 0, none⟩ : Addr).add 4) v4 fun h6 => stc h6 ((⟨b, 0, none⟩ : Addr).add 5) v5 fun h7 => stc h7 ((⟨b, 0, none⟩ : Addr).add 6) v6 fun h8 => K b h8) H := by
  intro b hb
  refine stc_at (o := 0) (arr' := #[v0, z1, z2, z3, z4, z5, z6]) (set_self _ _ _) (show 0 < 7 by decide) rfl (stc_at (o := 1) (arr' := #[v0, v1, z2, z3, z4, z5, z6]) (set_self _ _ _) (show 1 < 7 by decide) rfl (stc_at (o := 2) (arr' := #[v0, v1, v2, z3, z4, z5, z6]) (set_self _ _ _) (show 2 < 7 by decide) rfl (stc_at (o := 3) (arr' := #[v0, v1, v2, v3, z4, z5, z6]) (set_self _ _ _) (show 3 < 7 by decide) rfl (stc_at (o := 4) (arr' := #[v0, v1, v2, v3, v4, z5, z6]) (set_self _ _ _) (show 4 < 7 by decide) rfl (stc_at (o := 5) (arr' := #[v0, v1, v2, v3, v4, v5, z6]) (set_self _ _ _) (show 5 < 7 by decide) rfl (stc_at (o := 6) (arr' := #[v0, v1, v2, v3, v4, v5, v6]) (set_self _ _ _) (show 6 < 7 by decide) rfl ?_))))))
  rw [zdc, zdc, zdc, zdc, zdc, zdc, zdc]
  exact h b _ hb (set_self _ _ _) (Le_set hb _)
theorem st7_loc {H : Heap} {b : Nat} {e : TypeId} {z0 z1 z2 z3 z4 z5 z6 v0 v1 v2 v3 v4 v5 v6 : Value} {K : Heap → Prop} (hb : H b = some (.cells #[z0, z1, z2, z3, z4, z5, z6] e)) (h : K (H.set b (.cells #[v0, v1, v2, v3, v4, v5, v6] e))) :
    stc H ((⟨b, 0, none⟩ : Addr).add 0) v0 fun h2 => stc h2 ((⟨b, 0, none⟩ : Addr).add 1) v1 fun h3 => stc h3 ((⟨b, 0, none⟩ : Addr).add 2) v2 fun h4 => stc h4 ((⟨b, 0, none⟩ : Addr).add 3) v3 fun h5 => stc h5 ((⟨b, 0, none⟩ : Addr).add 4) v4 fun h6 => stc h6 ((⟨b, 0, none⟩ : Addr).add 5) v5 fun h7 => stc h7 ((⟨b, 0, none⟩ : Addr).add 6) v6 K := by
  refine stc_at (o := 0) (arr' := #[v0, z1, z2, z3, z4, z5, z6]) hb (show 0 < 7 by decide) rfl (stc_at (o := 1) (arr' := #[v0, v1, z2, z3, z4, z5, z6]) (set_self _ _ _) (show 1 < 7 by decide) rfl (stc_at (o := 2) (arr' := #[v0, v1, v2, z3, z4, z5, z6]) (set_self _ _ _) (show 2 < 7 by decide) rfl (stc_at (o := 3) (arr' := #[v0, v1, v2, v3, z4, z5, z6]) (set_self _ _ _) (show 3 < 7 by decide) rfl (stc_at (o := 4) (arr' := #[v0, v1, v2, v3, v4, z5, z6]) (set_self _ _ _) (show 4 < 7 by decide) rfl (stc_at (o := 5) (arr' := #[v0, v1, v2, v3, v4, v5, z6]) (set_self _ _ _) (show 5 < 7 by decide) rfl (stc_at (o := 6) (arr' := #[v0, v1, v2, v3, v4, v5, v6]) (set_self _ _ _) (show 6 < 7 by decide) rfl ?_))))))
  rw [zdc, zdc, zdc, zdc, zdc, zdc]
  exact h
def Fm.row (f : Fm) : List Value := f.arr.toList
def FrAt (H : Heap) (p : Option Addr) (l : List Fm) : Prop := RowsAt H p l.length 7 (l.map Fm.row)
theorem FrAt.cells {H : Heap} {p : Option Addr} {l : List Fm} (h : FrAt H p l) {i : Nat} {f : Fm} (hi : l[i]? = some f) : ∃ a, p = some a ∧ H.cell? ((a.add (i * 7)).add 0) = some (.int .i64 f.k) ∧ H.cell? ((a.add (i * 7)).add 1) = some (.int .i64 f.id) ∧ H.cell? ((a.add (i * 7)).add 2) = some (.int .i64 f.off) ∧ H.cell? ((a.add (i * 7)).add 3) = some (.bool f.fin) ∧ H.cell? ((a.add (i * 7)).add 4) = some (.int .i64 f.code) ∧ H.cell? ((a.add (i * 7)).add 5) = some (.string f.data) ∧ H.cell? ((a.add (i * 7)).add 6) = some (.slice none 0 0) := by
  obtain ⟨a, ha, hc⟩ := RowsAt.cell h (i := i) (es := f.row) (by rw [List.getElem?_map, hi]; rfl)
  exact ⟨a, ha, hc 0 _ rfl, hc 1 _ rfl, hc 2 _ rfl, hc 3 _ rfl, hc 4 _ rfl, hc 5 _ rfl, hc 6 _ rfl⟩
def wrs (l : List Fm) : List UInt8 := l.flatMap wr
theorem wrs_len {l : List Fm} (hl : ∀ f ∈ l, f.ok) : (wrs l).length ≤ 5000 * l.length := by
  unfold wrs
  induction l with
  | nil => simp
  | cons f l ih =>
    have h1 := ih fun g hg => hl g (by simp [hg])
    have h2 := wr_len (hl f (by simp))
    rw [List.flatMap_cons, List.length_append, List.length_cons]
    omega
theorem cell_block {H : Heap} {a : Addr} {v : Value} (h : H.cell? a = some v) : H a.block ≠ none := by
  intro e
  unfold Heap.cell? at h
  rw [e] at h
  cases h
section
variable {H : Heap} {E : Value → Heap → Prop}
theorem tab_block (ht : IntsIn H 0 .i64 szTab) : H 0 ≠ none := cell_block (ht 0 1 rfl)
theorem zhf.run {l : List Fm} (hl : ∀ f ∈ l, f.ok) (hn : l.length ≤ 100) (hne : l ≠ []) {p : Option Addr} {c : Nat} (hr : FrAt H p l) (ht : IntsIn H 0 .i64 szTab) {K : ByteArray → Int → Heap → Prop} (h : K ⟨(wrs l).toArray⟩ 0 H) : zhf.c p l.length c K E H := by
  refine ⟨?_⟩
  unfold zhf.vc
  refine zna fun b H1 hn1 hl1 hle1 => ?_
  have hpb : ∀ a, p = some a → a.block ∉ [b] := by
    intro a ha hm
    rw [List.mem_singleton] at hm
    obtain ⟨f, hf⟩ := List.exists_mem_of_ne_nil _ hne
    obtain ⟨i, hi⟩ := List.getElem?_of_mem hf
    obtain ⟨a', ha', hc, _⟩ := hr.cells hi
    rw [ha] at ha'; cases ha'
    have := cell_block hc
    rw [add_block, add_block, hm, hn1] at this
    exact this rfl
  have h0b : (0 : Nat) ≠ b := fun e => tab_block ht (by rw [e]; exact hn1)
  refine ⟨Loop.of (I := fun st H' m => ∃ i L', st = ((i : Nat) : Int) ∧ i ≤ l.length ∧ m = l.length - i ∧ BAt H' b L' (wrs (l.take i)) ∧ Step [b] H1 L' H') ?_ ⟨0, [b], rfl, Nat.zero_le _, rfl, BAt.new hl1, Step.refl _ _⟩⟩
  rintro m st H' ⟨i, L', rfl, hi, rfl, hb, hst⟩ RR hRR
  unfold zhf.W1.vc
  have hlt : ∀ j, (wrs (l.take j)).length ≤ 500000 := fun j => by
    have := wrs_len (l := l.take j) (fun g hg => hl g (List.mem_of_mem_take hg))
    rw [List.length_take] at this
    omega
  by_cases hc : i < l.length
  · rw [if_pos (by rw [decide_eq_true_eq]; omega)]
    obtain ⟨f, hfi⟩ : ∃ f, l[i]? = some f := ⟨_, List.getElem?_eq_getElem hc⟩
    have hf := hl f (List.mem_of_getElem? hfi)
    have hr' : FrAt H' p l := hst.rows (hr.mono hle1) hpb
    obtain ⟨a, ha, c0, c1, c2, c3, c4, c5, c6⟩ := hr'.cells hfi
    refine ⟨a, ha, by omega, by omega, ?_⟩
    rw [Int.toNat_natCast]
    refine ⟨_, c0, _, c1, _, c2, _, c3, _, c4, _, c5, _, _, _, c6, ?_⟩
    refine new7_le fun bx H2 hn2 hl2 hle2 => ?_
    refine ⟨_, loc (o := 0) hl2 rfl, _, loc (o := 1) hl2 rfl, _, loc (o := 2) hl2 rfl, _, loc (o := 3) hl2 rfl, _, loc (o := 4) hl2 rfl, _, loc (o := 5) hl2 rfl, _, _, _, loc (o := 6) hl2 rfl, ?_⟩
    refine zwb.run hf ?_
    rw [if_neg (by decide)]
    refine ⟨_, loc (o := 0) hl2 rfl, _, loc (o := 1) hl2 rfl, _, loc (o := 2) hl2 rfl, _, loc (o := 3) hl2 rfl, _, loc (o := 4) hl2 rfl, _, loc (o := 5) hl2 rfl, _, _, _, loc (o := 6) hl2 rfl, ?_⟩
    have h0H' : IntsIn H' 0 .i64 szTab := fun j x hj => hst.cell (zcc hle1 (ht j x hj)) (by simpa using h0b)
    have h0L : 0 ∉ L' := by
      cases e0 : H 0 with
      | none => exact absurd e0 (tab_block ht)
      | some o => exact (hst 0 _ (hle1 _ _ e0) (by simpa using h0b)).2
    refine zmc.run hf (fun j x hj => zcc hle2 (h0H' j x hj)) h0L (hb.le hle2) (by have := hlt i; omega) fun L3 H3 h3 hs3 => ?_
    rw [w_i64 (by omega) (by omega)]
    refine hRR _ _ (l.length - (i + 1)) (by omega) ⟨i + 1, L3, rfl, by omega, rfl, ?_, hst.trans ((Step.of_le hle2).trans hs3)⟩
    have e : wrs (l.take (i + 1)) = wrs (l.take i) ++ wr f := by
      unfold wrs
      rw [take_snoc hfi, List.flatMap_append]
      simp
    rw [e]
    exact h3
  · rw [if_neg (by rw [decide_eq_true_eq]; omega)]
    have : i = l.length := by omega
    subst this
    rw [List.take_length] at hb
    have hl' := hlt l.length
    rw [List.take_length] at hl'
    refine zvb.run hb ?_ (by omega) fun H4 hs4 => ⟨H, fun k o hk => ?_, h⟩
    · intro e
      cases l with
      | nil => exact hne rfl
      | cons f l => exact wr_ne f (by unfold wrs at e; rw [List.flatMap_cons] at e; exact (List.append_eq_nil_iff.1 e).1)
    · have hkb : k ≠ b := fun e => by rw [e, hn1] at hk; cases hk
      obtain ⟨k1, k2⟩ := hst k o (hle1 _ _ hk) (by simpa using hkb)
      exact (hs4 k o k1 k2).1
def RdAt (H : Heap) (rb : Nat) (s : List UInt8) : Prop := H rb = some (.cells #[.string ⟨s.toArray⟩] 259)
theorem chk_ok {x : Int} {K : Heap → Prop} (h : K H) : zhb.c true x K E H := ⟨by rw [if_pos rfl]; exact h⟩
theorem ext_drop {l r : List UInt8} : (⟨(l ++ r).toArray⟩ : ByteArray).extract l.length (⟨(l ++ r).toArray⟩ : ByteArray).size = ⟨r.toArray⟩ := by
  apply ByteArray.ext
  apply Array.toList_inj.1
  rw [ext_lst, zxa]
  show ((l ++ r).drop l.length).take _ = _
  rw [List.drop_left' rfl, List.length_append, Nat.add_sub_cancel_left, List.take_length]
theorem zob.run {rb n : Nat} (hn : n < 4611686018427387904) {r : List UInt8} (hs : RdAt H rb (wput n ++ r)) (hz : r.length ≤ 900000) (ht : IntsIn H 0 .i64 szTab) {K : Int → Heap → Prop} (h : K n (H.set rb (.cells #[.string ⟨r.toArray⟩] 259))) : zob.c (some ⟨rb, 0, none⟩) K E H := by
  have hk := zmd n
  have hwl := zfd n
  refine ⟨?_⟩
  unfold zob.vc
  refine ⟨_, rfl, _, loc (o := 0) hs rfl, ?_⟩
  refine zre.wrun hn (r := r) (by simp) (by rw [zxa, List.length_append]; omega) ht ?_
  refine chk_ok ⟨_, rfl, _, loc (o := 0) hs rfl, by omega, by rw [zxa, List.length_append]; omega, Nat.le_refl _, _, rfl, ?_⟩
  rw [Int.toNat_natCast, ← hwl, ext_drop]
  exact stc_at (o := 0) (arr' := #[.string ⟨r.toArray⟩]) hs (show 0 < 1 by decide) rfl ⟨_, Heap.Le.refl _, h⟩
theorem zud.run {rb : Nat} {d r : List UInt8} (hd : d.length ≤ 2000) (hs : RdAt H rb (wtext d ++ r)) (hz : r.length ≤ 900000) (ht : IntsIn H 0 .i64 szTab) {K : ByteArray → Heap → Prop} (h : K ⟨d.toArray⟩ (H.set rb (.cells #[.string ⟨r.toArray⟩] 259))) : zud.c (some ⟨rb, 0, none⟩) K E H := by
  have hk := zmd d.length
  have hwl : (wtext d).length = wk d.length + d.length := by unfold wtext; rw [List.length_append, zfd]
  refine ⟨?_⟩
  unfold zud.vc
  refine ⟨_, rfl, _, loc (o := 0) hs rfl, ?_⟩
  refine zef.wrun (d := d) (r := r) (by simp) (by rw [zxa, List.length_append]; omega) ht ?_
  refine chk_ok ⟨_, rfl, _, loc (o := 0) hs rfl, by omega, by rw [zxa, List.length_append]; omega, Nat.le_refl _, _, rfl, ?_⟩
  rw [Int.toNat_natCast, ← hwl, ext_drop]
  exact stc_at (o := 0) (arr' := #[.string ⟨r.toArray⟩]) hs (show 0 < 1 by decide) rfl ⟨_, Heap.Le.refl _, h⟩
theorem zje.run {rb : Nat} {b : Bool} {r : List UInt8} (hs : RdAt H rb ((if b then 1 else 0) :: r)) {K : Bool → Heap → Prop} (h : K b (H.set rb (.cells #[.string ⟨r.toArray⟩] 259))) : zje.c (some ⟨rb, 0, none⟩) K E H := by
  obtain ⟨x, hx⟩ : ∃ x : UInt8, x = if b then 1 else 0 := ⟨_, rfl⟩
  rw [← hx] at hs
  have hb0 : bt ⟨(x :: r).toArray⟩ 0 = (x.toNat : Int) := bt_at (i := 0) rfl
  have hsz : (⟨(x :: r).toArray⟩ : ByteArray).size = r.length + 1 := by rw [zxa]; rfl
  refine ⟨?_⟩
  unfold zje.vc
  refine ⟨_, rfl, _, loc (o := 0) hs rfl, ?_⟩
  have e1 : (!((⟨(x :: r).toArray⟩ : ByteArray).toList == (⟨#[]⟩ : ByteArray).toList)) = true := by
    rw [Bool.not_eq_true', Bool.eq_false_iff]
    intro e
    have := congrArg ByteArray.size ((str_eq _ _).1 e)
    rw [hsz] at this
    cases this
  try dsimp only
  rw [e1]
  refine chk_ok ⟨_, rfl, _, loc (o := 0) hs rfl, by omega, by omega, ?_⟩
  try dsimp only
  rw [hb0]
  have e2 : decide ((x.toNat : Int) < 2) = true := by rw [hx]; cases b <;> rfl
  rw [e2]
  refine chk_ok ⟨_, rfl, _, loc (o := 0) hs rfl, by omega, by omega, Nat.le_refl _, _, rfl, ?_⟩
  have e3 := ext_drop (l := [x]) (r := r)
  have e4 : ((x.toNat : Int) == 1) = b := by rw [hx]; cases b <;> rfl
  rw [e4]
  refine stc_at (o := 0) (arr' := #[.string ⟨r.toArray⟩]) hs (show 0 < 1 by decide) (by show #[Value.string _] = _; rw [← e3]; rfl) ⟨_, Heap.Le.refl _, h⟩
def Fm.upto (f : Fm) (D : List UInt8) : Fm := ⟨f.k, if 105 ∈ D then f.id else 0, if 111 ∈ D then f.off else 0, if 102 ∈ D then f.fin else false, if 99 ∈ D then f.code else 0, if 100 ∈ D then f.data else ⟨#[]⟩⟩
theorem Fm.upto_all {f : Fm} (hf : f.ok) : f.upto (nmK f.k).data.toList = f := by
  have k8 : ∀ c : UInt8, (c = 105 ∨ c = 111 ∨ c = 102 ∨ c = 100) → c ∈ (nmK 8).data.toList := by
    rintro c (rfl | rfl | rfl | rfl) <;> decide
  obtain ⟨k, id, off, fin, code, data⟩ := f
  unfold Fm.upto
  congr 1
  · by_cases h : id = 0
    · simp [h]
    · rw [if_pos (by rw [hf.i h]; exact k8 _ (by decide))]
  · by_cases h : off = 0
    · simp [h]
    · rw [if_pos (by rw [hf.o h]; exact k8 _ (by decide))]
  · cases fin with
    | false => simp
    | true => rw [if_pos (by rw [hf.n rfl]; exact k8 _ (by decide))]
  · by_cases h : code = 0
    · simp [h]
    · rw [if_pos (by rw [hf.c h]; decide)]
  · by_cases h : data = ⟨#[]⟩
    · simp [h]
    · rcases hf.d h with e | e
      · rw [if_pos (by rw [e]; exact k8 _ (by decide))]
      · rw [if_pos (by rw [e]; decide)]
end
end Go.Sh
namespace Go.Sh
open Go.Proofs Go.RowKit
set_option maxRecDepth 8000
theorem upto_i (f : Fm) (D : List UInt8) : f.upto (D ++ [105]) = { f.upto D with id := f.id } := by unfold Fm.upto; simp
theorem upto_o (f : Fm) (D : List UInt8) : f.upto (D ++ [111]) = { f.upto D with off := f.off } := by unfold Fm.upto; simp
theorem upto_c (f : Fm) (D : List UInt8) : f.upto (D ++ [99]) = { f.upto D with code := f.code } := by unfold Fm.upto; simp
theorem upto_f (f : Fm) (D : List UInt8) : f.upto (D ++ [102]) = { f.upto D with fin := f.fin } := by unfold Fm.upto; simp
theorem upto_d (f : Fm) (D : List UInt8) : f.upto (D ++ [100]) = { f.upto D with data := f.data } := by unfold Fm.upto; simp
section
variable {H : Heap} {E : Value → Heap → Prop}
theorem zsb.loop {f : Fm} (hf : f.ok) {rb bb fb it : Nat} {r : List UInt8} (ht : IntsIn H 0 .i64 szTab) (n1 : rb ≠ fb) (n2 : rb ≠ it) (n3 : fb ≠ it) (m1 : rb ≠ 0) (m2 : fb ≠ 0) (m3 : it ≠ 0) (hs : RdAt H rb ((nmK f.k).data.toList.flatMap (fldB f) ++ r)) (hz : r.length ≤ 800000) (hfb : H fb = some (.cells (f.upto []).arr 83)) (hit : H it = some (.stringIter (nmK f.k) 0)) {Kx : Heap → Prop}
    (h : ∀ H', RdAt H' rb r → H' fb = some (.cells f.arr 83) → Step [it, rb, fb] H [it, rb, fb] H' → Kx H') : zsb.W1 (some ⟨rb, 0, none⟩) ⟨bb, 0, none⟩ ⟨fb, 0, none⟩ ⟨it, 0, none⟩ Kx E H := by
  obtain ⟨N, hN⟩ : ∃ N, N = (nmK f.k).data.toList := ⟨_, rfl⟩
  have hNs : N.length = (nmK f.k).size := by rw [hN, zte]
  have hN4 := nm_len f.k
  have hfl := flat_bound hf
  rw [← hN] at hs
  refine ⟨Loop.of (I := fun _ H' m => ∃ i, i ≤ N.length ∧ m = N.length - i ∧ H' it = some (.stringIter (nmK f.k) i) ∧ RdAt H' rb ((N.drop i).flatMap (fldB f) ++ r) ∧ H' fb = some (.cells (f.upto (N.take i)).arr 83) ∧ Step [it, rb, fb] H [it, rb, fb] H') ?_ ⟨0, Nat.zero_le _, rfl, hit, by simpa using hs, by simpa using hfb, Step.refl _ _⟩⟩
  rintro m st H' ⟨i, hi, rfl, hit', hs', hfb', hst⟩ RR hRR
  unfold zsb.W1.vc
  refine ⟨rfl, _, i, hit', fun hlt => ?_, fun hge => ?_⟩
  · obtain ⟨c, hc⟩ : ∃ c, N[i]? = some c := ⟨_, List.getElem?_eq_getElem (by omega)⟩
    have hmem := nm_mem (k := f.k) (c := c) (by rw [← hN]; exact List.mem_of_getElem? hc)
    rw [hN] at hc
    rw [dec_ascii hc (by rcases hmem with rfl | rfl | rfl | rfl | rfl <;> decide)]
    dsimp only
    rw [← hN] at hc
    have hdrop : N.drop i = c :: N.drop (i + 1) := by
      obtain ⟨hi2, e⟩ := List.getElem?_eq_some_iff.1 hc
      rw [List.drop_eq_getElem_cons hi2, e]
    rw [hdrop, List.flatMap_cons, List.append_assoc] at hs'
    have hrl : ((N.drop (i + 1)).flatMap (fldB f) ++ r).length ≤ 900000 := by
      have := hfl (N.drop (i + 1))
      have e : (N.drop (i + 1)).length ≤ 4 := by rw [List.length_drop]; omega
      rw [List.length_append]
      omega
    obtain ⟨R, hR⟩ : ∃ R, R = (N.drop (i + 1)).flatMap (fldB f) ++ r := ⟨_, rfl⟩
    rw [← hR] at hs' hrl
    obtain ⟨H2, hH2⟩ : ∃ H2, H2 = H'.set it (.stringIter (nmK f.k) (i + 1)) := ⟨_, rfl⟩
    rw [← hH2]
    have hit2 : H2 it = some (.stringIter (nmK f.k) (i + 1)) := by rw [hH2]; exact set_self _ _ _
    have hs2 : RdAt H2 rb (fldB f c ++ R) := by rw [hH2]; unfold RdAt; rw [set_ne _ _ n2]; exact hs'
    have hfb2 : H2 fb = some (.cells (f.upto (N.take i)).arr 83) := by rw [hH2, set_ne _ _ n3]; exact hfb'
    have hst2 : Step [it, rb, fb] H [it, rb, fb] H2 := hst.trans fun k o hk hn => ⟨by rw [hH2, set_ne _ _ (fun e => hn (by rw [e]; simp))]; exact hk, hn⟩
    have ht2 : IntsIn H2 0 .i64 szTab := fun j x hj => hst2.cell (ht j x hj) (by show (0 : Nat) ∉ _; simp [Ne.symm m1, Ne.symm m2, Ne.symm m3])
    have fin : ∀ {o : Nat} {v : Value}, o < 7 → (f.upto (N.take i)).arr.setIfInBounds o v = (f.upto (N.take i ++ [c])).arr → stc (H2.set rb (.cells #[.string ⟨R.toArray⟩] 259)) ((⟨fb, 0, none⟩ : Addr).add o) v (fun h => RR () h) := fun {o v} ho ha => by
      have h3 : (H2.set rb (.cells #[.string ⟨R.toArray⟩] 259)) fb = some (.cells (f.upto (N.take i)).arr 83) := by rw [set_ne _ _ (Ne.symm n1)]; exact hfb2
      refine stc_at h3 ho ha (hRR _ _ (N.length - (i + 1)) (by omega) ⟨i + 1, by omega, rfl, ?_, ?_, ?_, hst2.trans fun k o' hk hn => ⟨?_, hn⟩⟩)
      · rw [set_ne _ _ (Ne.symm n3), set_ne _ _ (Ne.symm n2)]; exact hit2
      · unfold RdAt
        rw [set_ne _ _ n1, set_self, hR]
      · rw [set_self, take_snoc hc]
      · rw [set_ne _ _ (fun e => hn (by rw [e]; simp)), set_ne _ _ (fun e => hn (by rw [e]; simp))]; exact hk
    rcases hmem with rfl | rfl | rfl | rfl | rfl
    · rw [if_pos (by decide)]
      exact zob.run hf.bi hs2 hrl ht2 (fin (by decide) (by rw [upto_i]; rfl))
    · rw [if_neg (by decide), if_pos (by decide)]
      exact zob.run (by have := hf.bo; omega) hs2 hrl ht2 (fin (by decide) (by rw [upto_o]; rfl))
    · rw [if_neg (by decide), if_neg (by decide), if_pos (by decide)]
      exact zob.run hf.bc hs2 hrl ht2 (fin (by decide) (by rw [upto_c]; rfl))
    · rw [if_neg (by decide), if_neg (by decide), if_neg (by decide), if_pos (by decide)]
      exact zje.run (b := f.fin) hs2 (fin (by decide) (by rw [upto_f]; rfl))
    · rw [if_neg (by decide), if_neg (by decide), if_neg (by decide), if_neg (by decide), if_pos (by decide)]
      have hd := hf.bd
      have hd2 := zte f.data
      refine zud.run (d := f.data.data.toList) (by omega) hs2 hrl ht2 (fin (by decide) (by rw [upto_d]; rfl))
  · have : i = N.length := by omega
    subst this
    rw [List.take_length, hN, Fm.upto_all hf] at hfb'
    rw [List.drop_length] at hs'
    exact h H' hs' hfb' hst
theorem zsb.run {f : Fm} (hf : f.ok) {rb : Nat} {r : List UInt8} (ht : IntsIn H 0 .i64 szTab) (m1 : rb ≠ 0) (hs : RdAt H rb (wr f ++ r)) (hz : r.length ≤ 800000) {K : Int → Int → Int → Bool → Int → ByteArray → Option Addr → Nat → Nat → Heap → Prop}
    (h : ∀ H', RdAt H' rb r → Step [rb] H [rb] H' → K f.k f.id f.off f.fin f.code f.data none 0 0 H') : zsb.c (some ⟨rb, 0, none⟩) K E H := by
  have hkN : f.k = (f.k.toNat : Int) := by have := hf.k; omega
  have hfl := flat_bound hf (nmK f.k).data.toList
  have hN4 := nm_len f.k
  have hNs := zte (nmK f.k)
  refine ⟨?_⟩
  unfold zsb.vc
  refine zna fun bb H1 hn1 hl1 hle1 => ?_
  have hr1 : RdAt H1 rb (wput f.k.toNat ++ ((nmK f.k).data.toList.flatMap (fldB f) ++ r)) := by
    have := hle1 _ _ hs
    unfold wr at this
    rw [List.append_assoc] at this
    exact this
  have nb : ∀ {k : Nat} {Hc : Heap}, Hc k = none → Heap.Le H Hc → k ≠ 0 := fun {k Hc} hk hl e => by
    cases e0 : H 0 with
    | none => exact tab_block ht e0
    | some o => rw [e, hl _ _ e0] at hk; cases hk
  have n1 : rb ≠ bb := fun e => by rw [← e, show H rb = _ from hs] at hn1; cases hn1
  refine zob.run (by have := hf.k; omega) hr1 (by rw [List.length_append]; omega) (fun j x hj => zcc hle1 (ht j x hj)) ?_
  obtain ⟨H2, hH2⟩ : ∃ H2, H2 = H1.set rb (.cells #[.string ⟨((nmK f.k).data.toList.flatMap (fldB f) ++ r).toArray⟩] 259) := ⟨_, rfl⟩
  rw [← hH2, ← hkN]
  have hs2 : RdAt H2 rb ((nmK f.k).data.toList.flatMap (fldB f) ++ r) := by rw [hH2]; exact set_self _ _ _
  have hst2 : Step [rb] H [rb] H2 := (Step.of_le hle1).trans (by rw [hH2]; exact Step.set _ _ _)
  have hb2 : H2 bb = some (.cells #[(.int .i64 0), (.int .i64 0), (.int .i64 0), (.bool false), (.int .i64 0), (.string (⟨#[]⟩ : ByteArray)), (.slice none 0 0)] 83) := by rw [hH2, set_ne _ _ (Ne.symm n1)]; exact hl1
  refine zrb.run hf.k (chk_ok ?_)
  refine new7_le fun fb H3 hn3 hl3 hle3 => ?_
  refine zna fun it H4 hn4 hl4 hle4 => ?_
  have hs4 : RdAt H4 rb _ := hle4 _ _ (hle3 _ _ hs2)
  have e1 : rb ≠ fb := fun e => by rw [← e, show H2 rb = _ from hs2] at hn3; cases hn3
  have e2 : rb ≠ it := fun e => by rw [← e, hle3 _ _ (show H2 rb = _ from hs2)] at hn4; cases hn4
  have e3 : fb ≠ it := fun e => by rw [← e, hl3] at hn4; cases hn4
  have e4 : fb ≠ bb := fun e => by rw [e, hb2] at hn3; cases hn3
  have e5 : it ≠ bb := fun e => by rw [e, hle3 _ _ hb2] at hn4; cases hn4
  have h0 : ∀ {Hc : Heap} {k : Nat}, Hc 0 ≠ none → Hc k = none → k ≠ 0 := fun a b e => a (by rw [← e]; exact b)
  have t2 : IntsIn H2 0 .i64 szTab := fun j x hj => hst2.cell (ht j x hj) (by simpa using Ne.symm m1)
  have t3 : IntsIn H3 0 .i64 szTab := fun j x hj => zcc hle3 (t2 j x hj)
  refine zsb.loop hf (fun j x hj => zcc hle4 (t3 j x hj)) e1 e2 e3 m1 (h0 (tab_block t2) hn3) (h0 (tab_block t3) hn4) hs4 hz (by rw [hle4 _ _ hl3]; rfl) hl4 fun H5 r5 f5 st5 => ?_
  refine ⟨_, loc (o := 0) f5 rfl, _, loc (o := 1) f5 rfl, _, loc (o := 2) f5 rfl, _, loc (o := 3) f5 rfl, _, loc (o := 4) f5 rfl, _, loc (o := 5) f5 rfl, _, _, _, loc (o := 6) f5 rfl, ?_⟩
  refine zwb.run hf (chk_ok ?_)
  have b5 := (st5 bb _ (hle4 _ _ (hle3 _ _ hb2)) (by simp [Ne.symm e5, Ne.symm n1, Ne.symm e4])).1
  refine ⟨_, loc (o := 0) f5 rfl, _, loc (o := 1) f5 rfl, _, loc (o := 2) f5 rfl, _, loc (o := 3) f5 rfl, _, loc (o := 4) f5 rfl, _, loc (o := 5) f5 rfl, _, _, _, loc (o := 6) f5 rfl, ?_⟩
  refine st7_loc b5 ?_
  have f6 := set_self H5 bb (.cells #[(.int .i64 f.k), (.int .i64 f.id), (.int .i64 f.off), (.bool f.fin), (.int .i64 f.code), (.string f.data), (.slice none 0 0)] 83)
  refine ⟨_, loc (o := 0) f6 rfl, _, loc (o := 1) f6 rfl, _, loc (o := 2) f6 rfl, _, loc (o := 3) f6 rfl, _, loc (o := 4) f6 rfl, _, loc (o := 5) f6 rfl, _, _, _, loc (o := 6) f6 rfl, ?_⟩
  refine ⟨_, Heap.Le.refl _, h _ (by unfold RdAt; rw [set_ne _ _ n1]; exact r5) fun k o hk hn => ⟨?_, hn⟩⟩
  have hkr : k ≠ rb := by simpa using hn
  have k2 := (hst2 k o hk hn).1
  have kb : k ≠ bb := fun e => by rw [e, hn1] at hk; cases hk
  have kf : k ≠ fb := fun e => by rw [e, hn3] at k2; cases k2
  have k3 := hle3 _ _ k2
  have ki : k ≠ it := fun e => by rw [e, hn4] at k3; cases k3
  rw [set_ne _ _ kb]
  exact (st5 k o (hle4 _ _ k3) (by simp [ki, hkr, kf])).1
end
end Go.Sh
namespace Go.Sh
open Go.Proofs Go.RowKit
set_option maxRecDepth 8000
theorem cell0 {H : Heap} {b : Nat} {v : Value} {arr : Array Value} {e : TypeId} (h : H b = some (.cells arr e)) (hv : arr[0]? = some v) : H.cell? ⟨b, 0, none⟩ = some v := loc (o := 0) h hv
theorem stc_one {H : Heap} {b : Nat} {u v : Value} {e : TypeId} {K : Heap → Prop} (hb : H b = some (.cells #[u] e)) (h : K (H.set b (.cells #[v] e))) : stc H ⟨b, 0, none⟩ v K := stc_at (o := 0) (arr' := #[v]) hb (show 0 < 1 by decide) rfl h
def padF : Fm := ⟨0, 0, 0, false, 0, ⟨#[]⟩⟩
theorem padF_ok : padF.ok := ⟨.inl rfl, fun h => absurd rfl h, fun h => absurd rfl h, (fun h => by cases h), fun h => absurd rfl h, fun h => absurd rfl h, by decide, by decide, by decide, by decide⟩
theorem padF_wr : wr padF = [0] := by decide
structure FrIn (s : ByteArray) (l : List Fm) (z : Nat) : Prop where
  e : s.data.toList = wrs l ++ List.replicate z 0
  ok : ∀ f ∈ l, f.ok ∧ f.k ≠ 0
  n : l.length ≤ 64
  z : s.size ≤ 2000
structure zeb.c (s : ByteArray) (K : Option Addr → Nat → Nat → Int → Heap → Prop) (E : Value → Heap → Prop) (H : Heap) : Prop where
  h : ∃ l z, FrIn s l z ∧ IntsIn H 0 .i64 szTab ∧ ∀ p c H', FrAt H' p l → Step [] H (bl p) H' → K p l.length c 0 H'
def zeb.F : FT := fun args K E H => match args with
  | [.string s] => zeb.c s (fun p n c e H => K (.tuple #[.slice p n c, .int .i64 e]) H) E H
  | _ => False
section
variable {H : Heap} {E : Value → Heap → Prop}
theorem ne_empty {s : List UInt8} (h : s ≠ []) : (!((⟨s.toArray⟩ : ByteArray).toList == (⟨#[]⟩ : ByteArray).toList)) = true := by
  rw [Bool.not_eq_true', Bool.eq_false_iff]
  intro e
  have e2 := congrArg ByteArray.size ((str_eq _ _).1 e)
  rw [zxa] at e2
  exact h (List.length_eq_zero_iff.1 e2)
theorem zeb.J2.run {s : ByteArray} {l : List Fm} {z : Nat} (hin : FrIn s l z) (ht : IntsIn H 0 .i64 szTab) {lb eb : Nat} (hl : H lb = some (.cells #[.slice none 0 0] 84)) (he : H eb = some (.cells #[.int .i64 0] 22)) {Kr : Heap → Prop}
    (h : ∀ p c H', FrAt H' p l → H' lb = some (.cells #[.slice p l.length c] 84) → H' eb = some (.cells #[.int .i64 0] 22) → Step [lb] H (lb :: bl p) H' → Kr H') : zeb.J2 s ⟨lb, 0, none⟩ ⟨eb, 0, none⟩ Kr E H := by
  have nle : lb ≠ eb := fun e => by rw [e, he] at hl; cases hl
  have nl0 : lb ≠ 0 := fun e => by
    have := ht 0 1 rfl
    unfold Heap.cell? at this
    rw [e] at hl
    rw [show (⟨0, 0, none⟩ : Addr).block = 0 from rfl, hl] at this
    cases this
  refine ⟨?_⟩
  unfold zeb.J2.vc
  refine zna fun rb H1 hn1 hl1 hle1 => ?_
  have nrl : rb ≠ lb := fun e => by rw [e, hl] at hn1; cases hn1
  have nre : rb ≠ eb := fun e => by rw [e, he] at hn1; cases hn1
  have nr0 : rb ≠ 0 := fun e => by rw [e] at hn1; exact tab_block ht hn1
  have hs : s = ⟨(wrs l ++ List.replicate z 0).toArray⟩ := by rw [← hin.e, ba_mk]
  have hsl : (wrs l ++ List.replicate z 0).length ≤ 2000 := by rw [← hin.e, zte]; exact hin.z
  refine ⟨Loop.of (I := fun _ H' m => ∃ i z' p c, i ≤ l.length ∧ m = (l.length - i) + z' ∧ z' ≤ z ∧ (i < l.length → z' = z) ∧ RdAt H' rb (wrs (l.drop i) ++ List.replicate z' 0) ∧ H' lb = some (.cells #[.slice p i c] 84) ∧ zlb H' 83 7 p i c ((l.take i).map Fm.row) ∧ lb ∉ bl p ∧ rb ∉ bl p ∧ Step [lb, rb] H1 (lb :: rb :: bl p) H') ?_
    ⟨0, z, none, 0, Nat.zero_le _, rfl, Nat.le_refl _, fun _ => rfl, by unfold RdAt; rw [hl1, hs]; rfl, hle1 _ _ hl, ⟨rfl, by simp, Nat.le_refl _, .inl ⟨rfl, rfl⟩⟩, by simp [bl], by simp [bl], by simpa [bl] using Step.refl [lb, rb] H1⟩⟩
  rintro m st H' ⟨i, z', p, c, hi, rfl, hz', hzz, hr, hlb, ho, hlp, hrp, hst⟩ RR hRR
  unfold zeb.W3.vc
  have t' : IntsIn H' 0 .i64 szTab := fun j x hj => hst.cell (zcc hle1 (ht j x hj)) (by show (0 : Nat) ∉ _; simp [Ne.symm nl0, Ne.symm nr0])
  have hlen : (wrs (l.drop i)).length + z' ≤ 2000 := by
    have e : wrs l = wrs (l.take i) ++ wrs (l.drop i) := by
      unfold wrs
      rw [← List.flatMap_append, List.take_append_drop]
    rw [e, List.length_append, List.length_append, List.length_replicate] at hsl
    omega
  refine ⟨_, rfl, _, loc (o := 0) hr rfl, ?_⟩
  by_cases hrest : wrs (l.drop i) ++ List.replicate z' 0 = []
  · have hi2 : i = l.length := by
      have h1 := (List.append_eq_nil_iff.1 hrest).1
      rcases Nat.lt_or_ge i l.length with hlt | hge
      · rw [List.drop_eq_getElem_cons hlt] at h1
        unfold wrs at h1
        rw [List.flatMap_cons] at h1
        exact absurd (List.append_eq_nil_iff.1 h1).1 (wr_ne _)
      · omega
    dsimp only
    rw [if_neg (by rw [hrest, (str_eq _ _).2 rfl]; decide)]
    subst hi2
    rw [List.take_length] at ho
    have hfr : FrAt H' p l := ho.at
    obtain ⟨he', _⟩ := hst eb _ (hle1 _ _ he) (by simp [Ne.symm nle, Ne.symm nre])
    have hep : ∀ Hx : Heap, ∀ o, eb ∉ bl p → FrAt H' p l → FrAt ((H'.set lb o)) p l := fun Hx o hx hf => hf
      |> fun hf => (Step.set H' lb o).rows hf fun a ha hm => by
        rw [List.mem_singleton] at hm
        exact hlp (by rw [ha, ← hm]; simp [bl])
    refine ⟨_, _, _, cell0 hlb rfl, stc_one hlb ?_⟩
    have heb2 : (H'.set lb (.cells #[.slice p l.length c] 84)) eb = some (.cells #[.int .i64 0] 22) := by rw [set_ne _ _ (Ne.symm nle)]; exact he'
    refine stc_one heb2 ?_
    have hebp : eb ∉ bl p := (hst eb _ (hle1 _ _ he) (by simp [Ne.symm nle, Ne.symm nre])).2 |> fun hx hm => hx (by simp [hm])
    refine h p c _ ?_ ?_ (set_self _ _ _) fun k o hk hn => ?_
    · refine (Step.set _ eb _).rows ((Step.set H' lb _).rows hfr fun a ha hm => ?_) fun a ha hm => ?_
      · rw [List.mem_singleton] at hm
        exact hlp (by rw [ha, ← hm]; simp [bl])
      · rw [List.mem_singleton] at hm
        exact hebp (by rw [ha, ← hm]; simp [bl])
    · rw [set_ne _ _ nle]; exact set_self _ _ _
    · have kl : k ≠ lb := by simpa using hn
      have kr : k ≠ rb := fun e => by rw [e, hn1] at hk; cases hk
      obtain ⟨k1, k2⟩ := hst k o (hle1 _ _ hk) (by simp [kl, kr])
      refine ⟨?_, fun hm => k2 (by
        rcases List.mem_cons.1 hm with e | e
        · exact absurd e kl
        · simp [e])⟩
      by_cases ke : k = eb
      · subst ke
        rw [set_self]
        rw [he] at hk
        exact hk
      · rw [set_ne _ _ ke, set_ne _ _ kl]; exact k1
  · dsimp only
    rw [if_pos (ne_empty hrest)]
    by_cases hlt : i < l.length
    · obtain ⟨f, hfi⟩ : ∃ f, l[i]? = some f := ⟨_, List.getElem?_eq_getElem hlt⟩
      obtain ⟨hf, hk0⟩ := hin.ok f (List.mem_of_getElem? hfi)
      have hd : l.drop i = f :: l.drop (i + 1) := by
        obtain ⟨h1, h2⟩ := List.getElem?_eq_some_iff.1 hfi
        rw [List.drop_eq_getElem_cons h1, h2]
      rw [hd] at hr hlen
      have er : wrs (f :: l.drop (i + 1)) = wr f ++ wrs (l.drop (i + 1)) := by unfold wrs; rw [List.flatMap_cons]
      rw [er] at hr hlen
      rw [List.append_assoc] at hr
      rw [List.length_append] at hlen
      refine zsb.run hf t' nr0 hr (by rw [List.length_append, List.length_replicate]; omega) fun H2 r2 st2 => ?_
      have hlb2 := (st2 lb _ hlb (by simpa using Ne.symm nrl)).1
      have ho2 : zlb H2 83 7 p i c ((l.take i).map Fm.row) := ho.step st2 fun k hk hm => by
        rw [List.mem_singleton] at hm
        exact hrp (hm ▸ hk)
      refine new7_le fun b1 H3 hn3 hl3 hle3 => ⟨_, loc (o := 0) hl3 rfl, ?_⟩
      dsimp only
      rw [if_neg (by rw [beq_iff_eq]; exact hk0)]
      refine ⟨_, _, _, cell0 (hle3 _ _ hlb2) rfl, ?_⟩
      have hn64 := hin.n
      dsimp only
      rw [decide_eq_true (by omega)]
      refine chk_ok ⟨_, _, _, cell0 (hle3 _ _ hlb2) rfl, ?_⟩
      refine ⟨_, loc (o := 0) hl3 rfl, _, loc (o := 1) hl3 rfl, _, loc (o := 2) hl3 rfl, _, loc (o := 3) hl3 rfl, _, loc (o := 4) hl3 rfl, _, loc (o := 5) hl3 rfl, _, _, _, loc (o := 6) hl3 rfl, ?_⟩
      refine zna fun b2 H4 hn4 hl4 hle4 => ?_
      have hrow : FrAt H4 (some ⟨b2, 0, none⟩) [f] := by
        refine ⟨rfl, (fun e => by cases e), fun a ha j es hj => ?_⟩
        cases ha
        match j with
        | 0 =>
          simp at hj; subst hj
          refine ⟨rfl, fun q v hq => ?_⟩
          rw [Nat.zero_mul]
          exact loc (o := q) hl4 (by rw [← Array.getElem?_toList]; exact hq)
        | j + 1 => simp at hj
      refine rdRow_of (n := 1) (rows := [f.row]) hrow (by decide) rfl ?_
      refine appT_step (xs := [f.row]) ((ho2.le hle3).le hle4) (by decide) rfl rfl rfl (by simp [Fm.row, Fm.arr]) ?_ (by omega) (by omega) fun p' c' H5 h5 hs5 => ?_
      · intro v hv
        simp [Fm.row, Fm.arr] at hv
        rcases hv with rfl | rfl | rfl | rfl | rfl | rfl | rfl <;> rfl
      obtain ⟨hlb5, hlp5⟩ := hs5 lb _ (hle4 _ _ (hle3 _ _ hlb2)) hlp
      obtain ⟨r5, hrp5⟩ := hs5 rb _ (hle4 _ _ (hle3 _ _ r2)) hrp
      refine stc_one hlb5 ?_
      refine hRR _ _ ((l.length - (i + 1)) + z') (by omega) ⟨i + 1, z', p', c', by omega, rfl, hz', fun _ => hzz hlt, ?_, set_self _ _ _, ?_, hlp5, hrp5, ?_⟩
      · unfold RdAt
        rw [set_ne _ _ nrl]
        exact r5
      · rw [take_snoc hfi, List.map_append]
        refine h5.keep fun ob o hp hob => ?_
        rw [set_ne _ _ (fun e => hlp5 (by rw [hp, ← e]; simp [bl]))]
        exact hob
      · intro k o hk hn
        have kl : k ≠ lb := fun e => hn (by rw [e]; simp)
        have kr : k ≠ rb := fun e => hn (by rw [e]; simp)
        obtain ⟨k1, k2⟩ := hst k o hk hn
        have k3 := (st2 k o k1 (by simpa using kr)).1
        obtain ⟨k4, k5⟩ := hs5 k o (hle4 _ _ (hle3 _ _ k3)) (fun hm => k2 (by simp [hm]))
        exact ⟨by rw [set_ne _ _ kl]; exact k4, by simp [kl, kr, k5]⟩
    · have hi2 : i = l.length := by omega
      subst hi2
      rw [List.drop_length] at hr hrest hlen
      obtain ⟨y, rfl⟩ : ∃ y, z' = y + 1 := by
        cases z' with
        | zero => exact absurd rfl hrest
        | succ y => exact ⟨y, rfl⟩
      have hr2 : RdAt H' rb (wr padF ++ List.replicate y 0) := by
        rw [padF_wr]
        exact hr
      refine zsb.run padF_ok t' nr0 hr2 (by rw [List.length_replicate]; omega) fun H2 r2 st2 => ?_
      have hlb2 := (st2 lb _ hlb (by simpa using Ne.symm nrl)).1
      have ho2 : zlb H2 83 7 p l.length c ((l.take l.length).map Fm.row) := ho.step st2 fun k hk hm => by
        rw [List.mem_singleton] at hm
        exact hrp (hm ▸ hk)
      refine new7_le fun b1 H3 hn3 hl3 hle3 => ⟨_, loc (o := 0) hl3 rfl, ?_⟩
      dsimp only
      rw [if_pos (by decide)]
      refine hRR _ _ ((l.length - l.length) + y) (by omega) ⟨l.length, y, p, c, Nat.le_refl _, rfl, by omega, fun h => absurd h (Nat.lt_irrefl _), ?_, hle3 _ _ hlb2, ho2.le hle3, hlp, hrp, ?_⟩
      · rw [List.drop_length]
        exact hle3 _ _ r2
      · intro k o hk hn
        obtain ⟨k1, k2⟩ := hst k o hk hn
        exact ⟨hle3 _ _ (st2 k o k1 (by simp; exact fun e => hn (by rw [e]; simp))).1, k2⟩
end
abbrev PA (b : Nat) : Value := .pointer (some ⟨b, 0, none⟩)
noncomputable def zeb.mop : Oper := (match Tryz.f112.body with | some (.seq _ (.seq (.region _ ops _) _)) => ops[0]? | _ => none).getD default
noncomputable def zeb.dop : Oper := (match Tryz.f112.body with | some (.seq _ (.seq (.region _ ops _) _)) => ops[1]? | _ => none).getD default
theorem zeb.body_eq : Tryz.f112.body = some (.seq (sub [0] zeb.body) (.seq (.region 1 #[zeb.mop, zeb.dop] false) (sub [1, 1] zeb.body))) := by kernel_rfl
theorem zeb.res {fr : Fr} {G : Heap} {b0 b1 : Nat} {p : Option Addr} {n c : Nat} {x : Int} {Kv : Value → Prop} (g2 : fr.getD 2 none = some (PA b0)) (g3 : fr.getD 3 none = some (PA b1)) (h0 : G b0 = some (.cells #[.slice p n c] 84)) (h1 : G b1 = some (.cells #[.int .i64 x] 22)) (hk : Kv (.tuple #[.slice p n c, .int .i64 x])) :
    resW Tryz.prog fr G Tryz.f112.results.toList [] Kv := by
  have e : Tryz.f112.results.toList = [.cell 2 84, .cell 3 22] := by kernel_rfl
  rw [e]
  have e1 : ∀ (K : Value → Prop) (b : Nat) (G : Heap), wLoad Tryz.prog 84 (PA b) K G = ldSl G ⟨b, 0, none⟩ fun x y z => K (.slice x y z) := fun K b G => by kernel_rfl
  have e2 : ∀ (K : Value → Prop) (b : Nat) (G : Heap), wLoad Tryz.prog 22 (PA b) K G = ldI G .i64 ⟨b, 0, none⟩ fun x => K (.int .i64 x) := fun K b G => by kernel_rfl
  unfold resW
  rw [g2]
  unfold with1
  dsimp only
  rw [e1]
  refine ⟨p, n, c, cell0 h0 rfl, ?_⟩
  unfold resW
  rw [g3]
  unfold with1
  dsimp only
  rw [e2]
  refine ⟨x, cell0 h1 rfl, ?_⟩
  unfold resW
  exact hk
theorem zeb.ok : zca Tryz.prog 112 zeb.F := by
  refine catchG_ok (pins := [2, 3]) (te := 22) (t := 6) (g := 149) (caps := #[.tmp 2, .tmp 3]) (m := zeb.mop) (o := zeb.dop) Tryz.func112 zeb.body_eq (by kernel_rfl) (by kernel_rfl) (by kernel_rfl) (by kernel_rfl) (by kernel_rfl) (by kernel_rfl) (by kernel_rfl) zce.ok ⟨Tryz.f149, Tryz.func149, by kernel_rfl, by kernel_rfl⟩ zeb.J1.ok zeb.J2.ok (by kernel_rfl) ?_
  intro args K E H h
  unfold zeb.F at h
  split at h
  rotate_left
  · exact h.elim
  rename_i s
  obtain ⟨l, z, hin, ht, hk⟩ := h.h
  have hnt : Tryz.f112.ntmps = 29 := by kernel_rfl
  unfold catchGT
  rw [hnt]
  refine lenIs_in rfl (slS_in rfl ⟨?_⟩)
  unfold zeb.J1.vc
  refine zna fun b0 H1 hn0 hl0 hle0 => zna fun b1 H2 hn1 hl1 hle1 => ?_
  have h01 : b1 ≠ b0 := fun e => by rw [e, hl0] at hn1; cases hn1
  have hle : Heap.Le H H2 := hle0.trans hle1
  have hnb1 : H b1 = none := by
    cases hh : H b1 with
    | none => rfl
    | some o => rw [hle0 _ _ hh] at hn1; cases hn1
  refine ⟨rfl, [PA b0, PA b1], [none, none, some (PA b0), some (PA b1)], ?_, show 6 < 29 by decide, ⟨_, _, rfl⟩, fun t v ht => ?_, ⟨[none, none, some (PA b0)], PA b1, rfl⟩, ?_⟩
  · intro a hR
    have e2 := hR.eval (x := .tmp 2) (v := PA b0) rfl
    have e3 := hR.eval (x := .tmp 3) (v := PA b1) rfl
    rw [List.map_toArray]
    simp only [List.map_cons, List.map_nil]
    rw [e2, e3]
  · match t, ht with
    | 2, ht => exact ⟨ht, by simp⟩
    | 3, ht => exact ⟨ht, by simp⟩
  refine lenIs_in rfl (slS_in rfl (slPA_in (n := ⟨b0, 0, none⟩) rfl (slPA_in (n := ⟨b1, 0, none⟩) rfl ?_)))
  refine zeb.J2.run hin (fun j x hj => zcc hle (ht j x hj)) (hle1 _ _ hl0) hl1 fun p c H' hf h0 h1 hs => ?_
  refine ⟨.inr rfl, zeb.res rfl rfl h0 h1 ⟨H', Heap.Le.refl _, hk p c H' hf fun k o hk2 _ => ?_⟩⟩
  have hz := hs k o (hle _ _ hk2) (by simp; exact fun e => by rw [e, hn0] at hk2; cases hk2)
  exact ⟨hz.1, fun hm => hz.2 (by simp [hm])⟩
end Go.Sh
namespace Go.Sh
open Go.Proofs
set_option linter.unusedVariables false
set_option maxRecDepth 8000
namespace zoe
noncomputable def body : Code := Tryz.f74.body.getD .skip
def vc (K : Option Addr → Nat → Nat → HP) (E : VH) (h0 : Heap) : Prop :=
 newB (.cells #[(.int .i64 0), (.int .i64 2), (.int .i64 3), (.int .i64 4), (.int .i64 8), (.int .i64 12), (.int .i64 16), (.int .i64 20), (.int .i64 24), (.int .i64 28)] 2) (fun b0 h1 =>
 K (some (⟨b0, 0, none⟩ : Addr)) 10 10 h1) h0
structure c (K : Option Addr → Nat → Nat → HP) (E : VH) (H : Heap) : Prop where
  h : vc  (fun r0_0 r0_1 r0_2 H => ∃ H', Heap.Le H' H ∧ K r0_0 r0_1 r0_2 H') E H
def F : FT := fun args K E H => match args with
  | [] => c  (fun r0_0 r0_1 r0_2 H => K (.slice r0_0 r0_1 r0_2) H) E H
  | _ => False
noncomputable def Γ : FuncId → Option FT := Γof []
theorem hΓ : ∀ f F, Γ f = some F → zca Tryz.prog f F := Γof_ok (nilQ)
theorem ok : zca Tryz.prog 74 F := by
  refine zia hΓ (fn := Tryz.f74) (c := body) (by kernel_rfl) (by kernel_rfl) (by kernel_rfl) (zba hΓ Tryz.hm (.go) _ (of_eq_true (by kernel_rfl))) fun _ K E H h => ?_
  unfold F at h
  split at h
  · exact cast (by kernel_rfl) h.h
  · exact h.elim
end zoe
namespace zge
noncomputable def body : Code := Tryz.f32.body.getD .skip
def W1.vc (c0 : Addr) (x0 : Option Addr) (x1 : Nat) (x2 : Nat) (x3 : Int) (x4 : Int) (Kx0 : HP) (RR : Int → HP) (E : VH) (h0 : Heap) : Prop :=
 (if (decide (x4 < x3)) = true then
 nilc x0 fun a0 => (0 : Int) ≤ x4 ∧ x4 < (x1 : Int) ∧
 ldI h0 .i64 (a0.add (x4.toNat * 1)) fun x5 =>
 nilc (some c0) fun a1 =>
 ldM h0 (a1.add 17) fun x6 =>
 inbox_New.c (fun x7 h1 =>
 (ldM h1 (a1.add 17) fun x8 =>
 eqv h1 h1 (some (.map x6)) (.map x8)) ∧
 outbox_New.c (fun x9 h2 =>
 (ldM h2 (a1.add 17) fun x10 =>
 eqv h2 h2 (some (.map x6)) (.map x10)) ∧
 newB (.cells #[(.pointer x7), (.pointer x9), (.int .i64 0), (.int .i64 0), (.bool false), (.int .i64 4096), (.bool false), (.int .i64 0)] 113) (fun b0 h3 =>
 (ldM h3 (a1.add 17) fun x11 =>
 eqv h3 h3 (some (.map x6)) (.map x11)) ∧
 putW (.int .i64) x6 (.int .i64 x5) (.pointer (some (⟨b0, 0, none⟩ : Addr))) (fun h4 =>
 RR (IntKind.i64.wrap (x4 + 1)) h4) h3) h2) E h1) E h0
 else
 Kx0 h0)
structure W1 (c0 : Addr) (x0 : Option Addr) (x1 : Nat) (x2 : Nat) (x3 : Int) (x4 : Int) (Kx0 : HP) (E : VH) (H : Heap) : Prop where
  h : Loop (fun (RR : Int → HP) (s : Int) (H : Heap) => W1.vc c0 x0 x1 x2 x3 s Kx0 (fun x4 H => RR (x4) H) E H) (x4) H
def vc (psk0 : ByteArray) (cid0 : ByteArray) (nonce0 : ByteArray) (K : Option Addr → HP) (E : VH) (h0 : Heap) : Prop :=
 replay_New.c (fun x0 h1 =>
 acks_New.c (fun x1 h2 =>
 ledger_New.c (fun x2 h3 =>
 newB (.map #[] 0) (fun b0 h4 =>
 newB (.map #[] 0) (fun b1 h5 =>
 newB (.cells #[(.string psk0), (.string cid0), (.bool false), (.string nonce0), (.int .i64 0), (.int .i64 0), (.bool false), (.bool false), (.int .i64 0), (.bool false), (.bool false), (.int .i64 0), (.pointer none), (.pointer none), (.pointer x0), (.pointer x1), (.pointer x2), (.map (some b0)), (.map (some b1)), (.slice none 0 0), (.slice none 0 0), (.string (⟨#[]⟩ : ByteArray))] 70) (fun b2 h6 =>
 zoe.c (fun x3 x4 x5 h7 =>
 W1 (⟨b2, 0, none⟩ : Addr) x3 x4 x5 (x4 : Int) 0 (fun h8 =>
 K (some (⟨b2, 0, none⟩ : Addr)) h8) E h7) E h6) h5) h4) h3) E h2) E h1) E h0
structure c (psk0 : ByteArray) (cid0 : ByteArray) (nonce0 : ByteArray) (K : Option Addr → HP) (E : VH) (H : Heap) : Prop where
  h : vc psk0 cid0 nonce0 (fun r0_0 H => ∃ H', Heap.Le H' H ∧ K r0_0 H') E H
def F : FT := fun args K E H => match args with
  | [(.string psk0), (.string cid0), (.string nonce0)] => c psk0 cid0 nonce0 (fun r0_0 H => K (.pointer r0_0) H) E H
  | _ => False
noncomputable def Γ : FuncId → Option FT := Γof [(71, replay_New.F), (72, acks_New.F), (73, ledger_New.F), (74, zoe.F), (75, inbox_New.F), (76, outbox_New.F)]
theorem hΓ : ∀ f F, Γ f = some F → zca Tryz.prog f F := Γof_ok (consQ replay_New.ok (consQ acks_New.ok (consQ ledger_New.ok (consQ zoe.ok (consQ inbox_New.ok (consQ outbox_New.ok (nilQ)))))))
def W1.t : CT := fun Q E fr H => lenIs 37 fr (slPA fr 7 fun c0 => slSl fr 20 fun x0 x1 x2 => slI fr 21 .i64 fun x3 => slI fr 22 .i64 fun x4 => W1 c0 x0 x1 x2 x3 x4 (fun  H => Q (.exit 0) (mkF 37 [(7, (.pointer (some c0)))]) H) E H)
theorem W1.ok : zaa Tryz.prog (sub [1, 1, 0, 1, 0] body) W1.t := by
  have e : (sub [1, 1, 0, 1, 0] body) = .loop (sub [1, 1, 0, 1, 0, 0] body) := by kernel_rfl
  rw [e]
  refine zda (zqa (zea [7, 20, 21, 22] [] (fun i => if i = 0 then [7] else []) (zba hΓ Tryz.hm (.seq (.go) (.seq (.go) (.seq (.block (.seq (.go) (.draw ⟨[0, 1, 2, 3, 4, 5, 6, 7, 8, 9], (dl [(0, []), (1, []), (2, []), (3, []), (4, []), (5, []), (6, [5]), (7, []), (8, [7, 5, 6]), (9, [3, 4, 8, 6, 0, 1, 2, 5, 7])] .fin), []⟩))) (.go)))) _ (of_eq (show _ = (True ∧ (True ∧ ((True ∧ True) ∧ True))) by kernel_rfl) ⟨trivial, ⟨trivial, ⟨⟨trivial, trivial⟩, trivial⟩⟩⟩)))) fun Q E fr H h => ?_
  obtain ⟨hl, h⟩ := zga h
  obtain ⟨c0, q7, h⟩ := zua h
  obtain ⟨x0, x1, x2, q20, h⟩ := zta h
  obtain ⟨x3, q21, h⟩ := zfa h
  obtain ⟨x4, q22, h⟩ := zfa h
  obtain ⟨m, h⟩ := h.h
  exact ⟨(mkF 37 [(7, (.pointer (some c0))), (20, (.slice x0 x1 x2)), (21, (.int .i64 x3)), (22, (.int .i64 x4))]), fun a ha => ha.mk (Nat.le_of_eq hl.symm) (consQ q7 (consQ q20 (consQ q21 (consQ q22 nilQ)))), m, cast (zib (B := (fun (RR : Int → HP) (s : Int) (H : Heap) => W1.vc c0 x0 x1 x2 x3 s (fun  H => Q (.exit 0) (mkF 37 [(7, (.pointer (some c0)))]) H) (fun x4 H => RR (x4) H) E H)) (m := (fun (s : Int) => (mkF 37 [(7, (.pointer (some c0))), (20, (.slice x0 x1 x2)), (21, (.int .i64 x3)), (22, (.int .i64 s))]))) (Q := Q) (E := E) (fun RR s H => by kernel_rfl) m (x4) H) h⟩
theorem ok : zca Tryz.prog 32 F := by
  refine zia hΓ (fn := Tryz.f32) (c := body) (by kernel_rfl) (by kernel_rfl) (by kernel_rfl) (zba hΓ Tryz.hm (.seq (.go) (.seq (.go) (.seq (.seq (.go) (.block (.use W1.t))) (.go)))) _ (of_eq (show _ = (True ∧ (True ∧ ((True ∧ (zaa Tryz.prog (sub [1, 1, 0, 1, 0] body) W1.t)) ∧ True))) by kernel_rfl) ⟨trivial, ⟨trivial, ⟨⟨trivial, W1.ok⟩, trivial⟩⟩⟩)) fun _ K E H h => ?_
  unfold F at h
  split at h
  · exact cast (by kernel_rfl) h.h
  · exact h.elim
end zge
namespace conn_Dial
noncomputable def body : Code := Tryz.f10.body.getD .skip
def J1.vc (psk0 : ByteArray) (cid0 : ByteArray) (nonce0 : ByteArray) (x0 : Bool) (Kn : HP) (Kr : Option Addr → Int → HP) (E : VH) (h0 : Heap) : Prop :=
 (if x0 = true then
 Kr none 3 h0
 else
 Kn h0)
structure J1 (psk0 : ByteArray) (cid0 : ByteArray) (nonce0 : ByteArray) (x0 : Bool) (Kn : HP) (Kr : Option Addr → Int → HP) (E : VH) (H : Heap) : Prop where
  h : J1.vc psk0 cid0 nonce0 x0 Kn Kr E H
def J2.vc (psk0 : ByteArray) (cid0 : ByteArray) (nonce0 : ByteArray) (Kr : Option Addr → Int → HP) (E : VH) (h0 : Heap) : Prop :=
 zge.c psk0 cid0 nonce0 (fun x0 h1 =>
 nilc x0 fun a0 =>
 stc h1 (a0.add 4) (.int .i64 1) fun h2 =>
 Kr x0 0 h2) E h0
structure J2 (psk0 : ByteArray) (cid0 : ByteArray) (nonce0 : ByteArray) (Kr : Option Addr → Int → HP) (E : VH) (H : Heap) : Prop where
  h : J2.vc psk0 cid0 nonce0 Kr E H
def vc (psk0 : ByteArray) (cid0 : ByteArray) (nonce0 : ByteArray) (K : Option Addr → Int → HP) (E : VH) (h0 : Heap) : Prop :=
 (if ((cid0.size : Int) != 8) = true then
 J1 psk0 cid0 nonce0 true (fun h1 =>
 J2 psk0 cid0 nonce0 K E h1) K E h0
 else
 J1 psk0 cid0 nonce0 ((nonce0.size : Int) != 16) (fun h4 =>
 J2 psk0 cid0 nonce0 K E h4) K E h0)
structure c (psk0 : ByteArray) (cid0 : ByteArray) (nonce0 : ByteArray) (K : Option Addr → Int → HP) (E : VH) (H : Heap) : Prop where
  h : vc psk0 cid0 nonce0 (fun r0_0 r1_0 H => ∃ H', Heap.Le H' H ∧ K r0_0 r1_0 H') E H
def F : FT := fun args K E H => match args with
  | [(.string psk0), (.string cid0), (.string nonce0)] => c psk0 cid0 nonce0 (fun r0_0 r1_0 H => K (.tuple #[(.pointer r0_0), (.int .i64 r1_0)]) H) E H
  | _ => False
noncomputable def Γ : FuncId → Option FT := Γof [(32, zge.F)]
theorem hΓ : ∀ f F, Γ f = some F → zca Tryz.prog f F := Γof_ok (consQ zge.ok (nilQ))
def J1.t : CT := fun Q E fr H => lenIs 25 fr (slS fr 0 fun psk0 => slS fr 1 fun cid0 => slS fr 2 fun nonce0 => slB fr 16 fun x0 => J1 psk0 cid0 nonce0 x0 (fun  H => Q .normal (mkF 25 [(0, (.string psk0)), (1, (.string cid0)), (2, (.string nonce0))]) H) (fun y6_0 y7_0 H => Q .ret (mkF 25 [(6, (.pointer y6_0)), (7, (.int .i64 y7_0))]) H) E H)
theorem J1.ok : zaa Tryz.prog (sub [1, 0, 1] body) J1.t := by
  refine zda (zea [0, 1, 2] [6, 7] (fun i => []) (zba hΓ Tryz.hm (.go) _ (of_eq_true (by kernel_rfl)))) fun Q E fr H h => ?_
  obtain ⟨hl, h⟩ := zga h
  obtain ⟨psk0, q0, h⟩ := zfb h
  obtain ⟨cid0, q1, h⟩ := zfb h
  obtain ⟨nonce0, q2, h⟩ := zfb h
  obtain ⟨x0, q16, h⟩ := zwa h
  exact ⟨(mkF 25 [(0, (.string psk0)), (1, (.string cid0)), (2, (.string nonce0)), (16, (.bool x0))]), fun a ha => ha.mk (Nat.le_of_eq hl.symm) (consQ q0 (consQ q1 (consQ q2 (consQ q16 nilQ)))), cast (by kernel_rfl) h.h⟩
def J2.t : CT := fun Q E fr H => lenIs 25 fr (slS fr 0 fun psk0 => slS fr 1 fun cid0 => slS fr 2 fun nonce0 => J2 psk0 cid0 nonce0 (fun y6_0 y7_0 H => Q .ret (mkF 25 [(6, (.pointer y6_0)), (7, (.int .i64 y7_0))]) H) E H)
theorem J2.ok : zaa Tryz.prog (sub [1, 1] body) J2.t := by
  refine zda (zea [] [6, 7] (fun i => []) (zba hΓ Tryz.hm (.go) _ (of_eq_true (by kernel_rfl)))) fun Q E fr H h => ?_
  obtain ⟨hl, h⟩ := zga h
  obtain ⟨psk0, q0, h⟩ := zfb h
  obtain ⟨cid0, q1, h⟩ := zfb h
  obtain ⟨nonce0, q2, h⟩ := zfb h
  exact ⟨(mkF 25 [(0, (.string psk0)), (1, (.string cid0)), (2, (.string nonce0))]), fun a ha => ha.mk (Nat.le_of_eq hl.symm) (consQ q0 (consQ q1 (consQ q2 nilQ))), cast (by kernel_rfl) h.h⟩
theorem ok : zca Tryz.prog 10 F := by
  refine zia hΓ (fn := Tryz.f10) (c := body) (by kernel_rfl) (by kernel_rfl) (by kernel_rfl) (zba hΓ Tryz.hm (.seq (.go) (.seq (.seq (.go) (.use J1.t)) (.use J2.t))) _ (of_eq (show _ = (True ∧ ((True ∧ (zaa Tryz.prog (sub [1, 0, 1] body) J1.t)) ∧ (zaa Tryz.prog (sub [1, 1] body) J2.t))) by kernel_rfl) ⟨trivial, ⟨⟨trivial, J1.ok⟩, J2.ok⟩⟩)) fun _ K E H h => ?_
  unfold F at h
  split at h
  · exact cast (by kernel_rfl) h.h
  · exact h.elim
end conn_Dial
namespace zaf
noncomputable def body : Code := Tryz.f80.body.getD .skip
def vc (key0 : Option Addr) (kind0 : Int) (cid0 : ByteArray) (n0 : Int) (s0 : ByteArray) (K : ByteArray → HP) (E : VH) (h0 : Heap) : Prop :=
 newB (.cells #[(.int .u8 kind0)] 5) (fun b0 h1 =>
 rdBytes h1 (some (⟨b0, 0, none⟩ : Addr)) 1 fun x0 =>
 x0.size + cid0.size ≤ 9223372036854775807 ∧
 (0 : Int) ≤ 24 ∧
 (0 : Int) ≤ 16 ∧
 (0 : Int) ≤ 8 ∧
 newB (.cells #[(.int .u8 (IntKind.u8.wrap (shrI .i64 n0 24))), (.int .u8 (IntKind.u8.wrap (shrI .i64 n0 16))), (.int .u8 (IntKind.u8.wrap (shrI .i64 n0 8))), (.int .u8 (IntKind.u8.wrap n0))] 5) (fun b1 h2 =>
 rdBytes h2 (some (⟨b1, 0, none⟩ : Addr)) 4 fun x1 =>
 (x0 ++ cid0).size + x1.size ≤ 9223372036854775807 ∧
 zye.c key0 n0 ((x0 ++ cid0) ++ x1) s0 (fun x2 h3 =>
 ((x0 ++ cid0) ++ x1).size + x2.size ≤ 9223372036854775807 ∧
 K (((x0 ++ cid0) ++ x1) ++ x2) h3) E h2) h1) h0
structure c (key0 : Option Addr) (kind0 : Int) (cid0 : ByteArray) (n0 : Int) (s0 : ByteArray) (K : ByteArray → HP) (E : VH) (H : Heap) : Prop where
  h : vc key0 kind0 cid0 n0 s0 (fun r0_0 H => ∃ H', Heap.Le H' H ∧ K r0_0 H') E H
def F : FT := fun args K E H => match args with
  | [(.pointer key0), (.int .u8 kind0), (.string cid0), (.int .i64 n0), (.string s0)] => c key0 kind0 cid0 n0 s0 (fun r0_0 H => K (.string r0_0) H) E H
  | _ => False
noncomputable def Γ : FuncId → Option FT := Γof [(123, zye.F)]
theorem hΓ : ∀ f F, Γ f = some F → zca Tryz.prog f F := Γof_ok (consQ zye.ok (nilQ))
theorem ok : zca Tryz.prog 80 F := by
  refine zia hΓ (fn := Tryz.f80) (c := body) (by kernel_rfl) (by kernel_rfl) (by kernel_rfl) (zba hΓ Tryz.hm (.go) _ (of_eq_true (by kernel_rfl))) fun _ K E H h => ?_
  unfold F at h
  split at h
  · exact cast (by kernel_rfl) h.h
  · exact h.elim
end zaf
namespace zdd
noncomputable def body : Code := Tryz.f35.body.getD .skip
def J1.vc (c0 : Option Addr) (now0 : Int) (x0 : Bool) (Kn : HP) (Kr : ByteArray → Bool → HP) (E : VH) (h0 : Heap) : Prop :=
 (if x0 = true then
 Kr (⟨#[]⟩ : ByteArray) false h0
 else
 Kn h0)
structure J1 (c0 : Option Addr) (now0 : Int) (x0 : Bool) (Kn : HP) (Kr : ByteArray → Bool → HP) (E : VH) (H : Heap) : Prop where
  h : J1.vc c0 now0 x0 Kn Kr E H
def J2.vc (c0 : Option Addr) (now0 : Int) (Kr : ByteArray → Bool → HP) (E : VH) (h0 : Heap) : Prop :=
 nilc c0 fun a0 =>
 stc h0 (a0.add 7) (.bool true) fun h1 =>
 nilc c0 fun a1 =>
 stc h1 (a1.add 8) (.int .i64 now0) fun h2 =>
 nilc c0 fun a2 =>
 ldS h2 (a2.add 0) fun x0 =>
 nilc c0 fun a3 =>
 ldS h2 (a3.add 1) fun x1 =>
 nilc c0 fun a4 =>
 ldS h2 (a4.add 3) fun x2 =>
 znb.c x0 (⟨#[104, 101, 108, 108, 111]⟩ : ByteArray) (⟨#[]⟩ : ByteArray) (fun x3 h3 =>
 (ldS h3 (a4.add 3) fun x4 =>
 eqv h3 h3 (some (.string x2)) (.string x4)) ∧
 (ldS h3 (a3.add 1) fun x5 =>
 eqv h3 h3 (some (.string x1)) (.string x5)) ∧
 ztd.c x3 (fun x6 h4 =>
 (ldS h4 (a4.add 3) fun x7 =>
 eqv h4 h4 (some (.string x2)) (.string x7)) ∧
 (ldS h4 (a3.add 1) fun x8 =>
 eqv h4 h4 (some (.string x1)) (.string x8)) ∧
 zaf.c x6 1 x1 0 x2 (fun x9 h5 =>
 Kr x9 true h5) E h4) E h3) E h2
structure J2 (c0 : Option Addr) (now0 : Int) (Kr : ByteArray → Bool → HP) (E : VH) (H : Heap) : Prop where
  h : J2.vc c0 now0 Kr E H
def vc (c0 : Option Addr) (now0 : Int) (K : ByteArray → Bool → HP) (E : VH) (h0 : Heap) : Prop :=
 nilc c0 fun a0 =>
 ldI h0 .i64 (a0.add 4) fun x0 =>
 (if (x0 == 1) = true then
 nilc c0 fun a1 =>
 ldB h0 (a1.add 7) fun x1 =>
 (if x1 = true then
 nilc c0 fun a2 =>
 ldI h0 .i64 (a2.add 8) fun x2 =>
 (if (decide (now0 < x2)) = true then
 J1 c0 now0 true (fun h1 =>
 J2 c0 now0 K E h1) K E h0
 else
 nilc c0 fun a3 =>
 ldI h0 .i64 (a3.add 8) fun x7 =>
 J1 c0 now0 (decide ((IntKind.u64.wrap ((IntKind.u64.wrap now0) - (IntKind.u64.wrap x7))) < 8)) (fun h4 =>
 J2 c0 now0 K E h4) K E h0)
 else
 J1 c0 now0 false (fun h7 =>
 J2 c0 now0 K E h7) K E h0)
 else
 nilc c0 fun a4 =>
 stc h0 (a4.add 9) (.bool false) fun h10 =>
 nilc c0 fun a5 =>
 ldS h10 (a5.add 0) fun x16 =>
 nilc c0 fun a6 =>
 ldS h10 (a6.add 3) fun x17 =>
 nilc c0 fun a7 =>
 ldS h10 (a7.add 1) fun x18 =>
 nilc c0 fun a8 =>
 ldS h10 (a8.add 21) fun x19 =>
 znb.c x16 (⟨#[119, 101, 108, 99, 111, 109, 101]⟩ : ByteArray) x17 (fun x20 h11 =>
 (ldS h11 (a8.add 21) fun x21 =>
 eqv h11 h11 (some (.string x19)) (.string x21)) ∧
 (ldS h11 (a7.add 1) fun x22 =>
 eqv h11 h11 (some (.string x18)) (.string x22)) ∧
 ztd.c x20 (fun x23 h12 =>
 (ldS h12 (a8.add 21) fun x24 =>
 eqv h12 h12 (some (.string x19)) (.string x24)) ∧
 (ldS h12 (a7.add 1) fun x25 =>
 eqv h12 h12 (some (.string x18)) (.string x25)) ∧
 zaf.c x23 2 x18 0 x19 (fun x26 h13 =>
 K x26 true h13) E h12) E h11) E h10)
structure c (c0 : Option Addr) (now0 : Int) (K : ByteArray → Bool → HP) (E : VH) (H : Heap) : Prop where
  h : vc c0 now0 (fun r0_0 r1_0 H => ∃ H', Heap.Le H' H ∧ K r0_0 r1_0 H') E H
def F : FT := fun args K E H => match args with
  | [(.pointer c0), (.int .i64 now0)] => c c0 now0 (fun r0_0 r1_0 H => K (.tuple #[(.string r0_0), (.bool r1_0)]) H) E H
  | _ => False
noncomputable def Γ : FuncId → Option FT := Γof [(29, znb.F), (64, ztd.F), (80, zaf.F)]
theorem hΓ : ∀ f F, Γ f = some F → zca Tryz.prog f F := Γof_ok (consQ znb.ok (consQ ztd.ok (consQ zaf.ok (nilQ))))
def J1.t : CT := fun Q E fr H => lenIs 78 fr (slP fr 0 fun c0 => slI fr 1 .i64 fun now0 => slB fr 33 fun x0 => J1 c0 now0 x0 (fun  H => Q .normal (mkF 78 [(0, (.pointer c0)), (1, (.int .i64 now0))]) H) (fun y4_0 y5_0 H => Q .ret (mkF 78 [(4, (.string y4_0)), (5, (.bool y5_0))]) H) E H)
theorem J1.ok : zaa Tryz.prog (sub [1, 0, 1, 0, 0, 1] body) J1.t := by
  refine zda (zea [0, 1] [4, 5] (fun i => []) (zba hΓ Tryz.hm (.go) _ (of_eq_true (by kernel_rfl)))) fun Q E fr H h => ?_
  obtain ⟨hl, h⟩ := zga h
  obtain ⟨c0, q0, h⟩ := zja h
  obtain ⟨now0, q1, h⟩ := zfa h
  obtain ⟨x0, q33, h⟩ := zwa h
  exact ⟨(mkF 78 [(0, (.pointer c0)), (1, (.int .i64 now0)), (33, (.bool x0))]), fun a ha => ha.mk (Nat.le_of_eq hl.symm) (consQ q0 (consQ q1 (consQ q33 nilQ))), cast (by kernel_rfl) h.h⟩
def J2.t : CT := fun Q E fr H => lenIs 78 fr (slP fr 0 fun c0 => slI fr 1 .i64 fun now0 => J2 c0 now0 (fun y4_0 y5_0 H => Q .ret (mkF 78 [(4, (.string y4_0)), (5, (.bool y5_0))]) H) E H)
theorem J2.ok : zaa Tryz.prog (sub [1, 0, 1, 0, 1] body) J2.t := by
  refine zda (zea [] [4, 5] (fun i => []) (zba hΓ Tryz.hm (.seq (.go) (.seq (.draw ⟨[0, 1, 2, 3, 4, 5, 6, 7, 8, 9, 10, 11, 12, 13, 14], (dl [(0, []), (1, []), (2, []), (3, []), (6, []), (7, []), (8, []), (9, []), (10, []), (11, []), (12, []), (13, []), (4, [3, 2, 1, 0]), (5, [4, 3, 2, 1, 0]), (14, [5, 9, 13, 4, 8, 12, 3, 7, 11, 2, 6, 10, 1, 0])] .fin), [15, 16]⟩) (.go))) _ (of_eq (show _ = (True ∧ (True ∧ True)) by kernel_rfl) ⟨trivial, ⟨trivial, trivial⟩⟩))) fun Q E fr H h => ?_
  obtain ⟨hl, h⟩ := zga h
  obtain ⟨c0, q0, h⟩ := zja h
  obtain ⟨now0, q1, h⟩ := zfa h
  exact ⟨(mkF 78 [(0, (.pointer c0)), (1, (.int .i64 now0))]), fun a ha => ha.mk (Nat.le_of_eq hl.symm) (consQ q0 (consQ q1 nilQ)), cast (by kernel_rfl) h.h⟩
theorem ok : zca Tryz.prog 35 F := by
  refine zia hΓ (fn := Tryz.f35) (c := body) (by kernel_rfl) (by kernel_rfl) (by kernel_rfl) (zba hΓ Tryz.hm (.seq (.go) (.seq (.seq (.go) (.cond (.seq (.seq (.go) (.use J1.t)) (.use J2.t)) (.go))) (.seq (.go) (.seq (.draw ⟨[0, 1, 2, 3, 4, 5, 6, 7, 8, 9, 10, 11, 12, 13, 14, 15, 16, 17, 18], (dl [(0, []), (1, []), (2, []), (3, []), (4, []), (5, []), (6, []), (7, []), (10, []), (11, []), (12, []), (13, []), (14, []), (15, []), (16, []), (17, []), (8, [3, 7, 2, 6, 1, 5, 0, 4]), (9, [8, 3, 7, 2, 6, 1, 5, 0, 4]), (18, [9, 13, 17, 8, 12, 16, 3, 7, 11, 15, 2, 6, 10, 14, 1, 5, 0, 4])] .fin), [19, 20]⟩) (.go))))) _ (of_eq (show _ = (True ∧ ((True ∧ (((True ∧ (zaa Tryz.prog (sub [1, 0, 1, 0, 0, 1] body) J1.t)) ∧ (zaa Tryz.prog (sub [1, 0, 1, 0, 1] body) J2.t)) ∧ True)) ∧ (True ∧ (True ∧ True)))) by kernel_rfl) ⟨trivial, ⟨⟨trivial, ⟨⟨⟨trivial, J1.ok⟩, J2.ok⟩, trivial⟩⟩, ⟨trivial, ⟨trivial, trivial⟩⟩⟩⟩)) fun _ K E H h => ?_
  unfold F at h
  split at h
  · exact cast (by kernel_rfl) h.h
  · exact h.elim
end zdd
namespace zae
noncomputable def body : Code := Tryz.f36.body.getD .skip
def vc (c0 : Option Addr) (l0 : Option Addr) (l1 : Nat) (l2 : Nat) (size0 : Int) (K : ByteArray → HP) (E : VH) (h0 : Heap) : Prop :=
 zhf.c l0 l1 l2 (fun x0 x1 h1 =>
 strings_Repeat.c (⟨#[0]⟩ : ByteArray) (IntKind.i64.wrap ((IntKind.i64.wrap (size0 - 29)) - (x0.size : Int))) (fun x2 h2 =>
 x0.size + x2.size ≤ 9223372036854775807 ∧
 nilc c0 fun a0 =>
 ldP h2 (a0.add 13) fun x3 =>
 nilc c0 fun a1 =>
 ldS h2 (a1.add 1) fun x4 =>
 nilc c0 fun a2 =>
 ldI h2 .i64 (a2.add 11) fun x5 =>
 zaf.c x3 3 x4 x5 (x0 ++ x2) (fun x6 h3 =>
 nilc c0 fun a3 =>
 ldI h3 .i64 (a3.add 11) fun x7 =>
 nilc c0 fun a4 =>
 stc h3 (a4.add 11) (.int .i64 (IntKind.i64.wrap (x7 + 1))) fun h4 =>
 K x6 h4) E h2) E h1) E h0
structure c (c0 : Option Addr) (l0 : Option Addr) (l1 : Nat) (l2 : Nat) (size0 : Int) (K : ByteArray → HP) (E : VH) (H : Heap) : Prop where
  h : vc c0 l0 l1 l2 size0 (fun r0_0 H => ∃ H', Heap.Le H' H ∧ K r0_0 H') E H
def F : FT := fun args K E H => match args with
  | [(.pointer c0), (.slice l0 l1 l2), (.int .i64 size0)] => c c0 l0 l1 l2 size0 (fun r0_0 H => K (.string r0_0) H) E H
  | _ => False
noncomputable def Γ : FuncId → Option FT := Γof [(80, zaf.F), (81, zhf.F), (82, strings_Repeat.F)]
theorem hΓ : ∀ f F, Γ f = some F → zca Tryz.prog f F := Γof_ok (consQ zaf.ok (consQ zhf.ok (consQ strings_Repeat.ok (nilQ))))
theorem ok : zca Tryz.prog 36 F := by
  refine zia hΓ (fn := Tryz.f36) (c := body) (by kernel_rfl) (by kernel_rfl) (by kernel_rfl) (zba hΓ Tryz.hm (.seq (.go) (.seq (.go) (.seq (.go) (.seq (.draw ⟨[0, 1, 2, 3, 4, 5, 6, 7, 8, 9, 10, 11, 12, 13], (dl [(0, []), (1, []), (2, []), (3, []), (4, []), (5, []), (6, []), (7, []), (8, []), (9, []), (10, []), (11, []), (12, []), (13, [3, 7, 11, 12, 2, 6, 10, 1, 5, 9, 0, 4, 8])] .fin), [14]⟩) (.go))))) _ (of_eq (show _ = (True ∧ (True ∧ (True ∧ (True ∧ True)))) by kernel_rfl) ⟨trivial, ⟨trivial, ⟨trivial, ⟨trivial, trivial⟩⟩⟩⟩)) fun _ K E H h => ?_
  unfold F at h
  split at h
  · exact cast (by kernel_rfl) h.h
  · exact h.elim
end zae
namespace zkf
noncomputable def body : Code := Tryz.f37.body.getD .skip
def W1.vc (x0 : Int) (x1 : Int) (Kx0 : HP) (RR : Int → HP) (E : VH) (h0 : Heap) : Prop :=
 (if (decide (x1 < x0)) = true then
 False
 else
 Kx0 h0)
structure W1 (x0 : Int) (x1 : Int) (Kx0 : HP) (E : VH) (H : Heap) : Prop where
  h : Loop (fun (RR : Int → HP) (s : Int) (H : Heap) => W1.vc x0 s Kx0 (fun x1 H => RR (x1) H) E H) (x1) H
def vc (c0 : Option Addr) (l0 : Option Addr) (l1 : Nat) (l2 : Nat) (K : HP) (E : VH) (h0 : Heap) : Prop :=
 W1 (l1 : Int) 0 K E h0
structure c (c0 : Option Addr) (l0 : Option Addr) (l1 : Nat) (l2 : Nat) (K : HP) (E : VH) (H : Heap) : Prop where
  h : vc c0 l0 l1 l2 (fun  H => ∃ H', Heap.Le H' H ∧ K  H') E H
def F : FT := fun args K E H => match args with
  | [(.pointer c0), (.slice l0 l1 l2)] => c c0 l0 l1 l2 (fun  H => K (.tuple #[]) H) E H
  | _ => False
noncomputable def Γ : FuncId → Option FT := Γof []
theorem hΓ : ∀ f F, Γ f = some F → zca Tryz.prog f F := Γof_ok (nilQ)
def W1.t : CT := fun Q E fr H => lenIs 72 fr (slI fr 9 .i64 fun x0 => slI fr 10 .i64 fun x1 => W1 x0 x1 (fun  H => Q (.exit 0) (mkF 72 []) H) E H)
theorem W1.ok : zaa Tryz.prog (sub [1, 0] body) W1.t := by
  have e : (sub [1, 0] body) = .loop (sub [1, 0, 0] body) := by kernel_rfl
  rw [e]
  refine zda (zqa (zea [9, 10] [] (fun i => if i = 0 then [] else []) (zba hΓ Tryz.hm (.seq (.go) (.seq (.go) (.use deadT))) _ (of_eq (show _ = (True ∧ (True ∧ (zaa Tryz.prog (sub [1, 0, 0, 1, 1] body) deadT))) by kernel_rfl) ⟨trivial, ⟨trivial, (zid _)⟩⟩)))) fun Q E fr H h => ?_
  obtain ⟨hl, h⟩ := zga h
  obtain ⟨x0, q9, h⟩ := zfa h
  obtain ⟨x1, q10, h⟩ := zfa h
  obtain ⟨m, h⟩ := h.h
  exact ⟨(mkF 72 [(9, (.int .i64 x0)), (10, (.int .i64 x1))]), fun a ha => ha.mk (Nat.le_of_eq hl.symm) (consQ q9 (consQ q10 nilQ)), m, cast (zib (B := (fun (RR : Int → HP) (s : Int) (H : Heap) => W1.vc x0 s (fun  H => Q (.exit 0) (mkF 72 []) H) (fun x1 H => RR (x1) H) E H)) (m := (fun (s : Int) => (mkF 72 [(9, (.int .i64 x0)), (10, (.int .i64 s))]))) (Q := Q) (E := E) (fun RR s H => by kernel_rfl) m (x1) H) h⟩
theorem ok : zca Tryz.prog 37 F := by
  refine zia hΓ (fn := Tryz.f37) (c := body) (by kernel_rfl) (by kernel_rfl) (by kernel_rfl) (zba hΓ Tryz.hm (.seq (.go) (.block (.use W1.t))) _ (of_eq (show _ = (True ∧ (zaa Tryz.prog (sub [1, 0] body) W1.t)) by kernel_rfl) ⟨trivial, W1.ok⟩)) fun _ K E H h => ?_
  unfold F at h
  split at h
  · exact cast (by kernel_rfl) h.h
  · exact h.elim
end zkf
structure zve.c (z0 : Option Addr) (K : Option Addr → Nat → Nat → Heap → Prop) (E : Value → Heap → Prop) (H : Heap) : Prop where
  h : False
def zve.F : FT := fun args K E H => match args with
  | [(.pointer z0)] => zve.c z0 (fun r0_0 r0_1 r0_2 H => K (.slice r0_0 r0_1 r0_2) H) E H
  | _ => False
theorem zve.ok : zca Tryz.prog 93 zve.F := by
  intro args K E H w hS h
  unfold zve.F at h
  split at h
  · exact h.h.elim
  · exact h.elim
namespace zkb
noncomputable def body : Code := Tryz.f92.body.getD .skip
def J1.vc (b0 : Option Addr) (f0 : Addr) (Kr : Bool → HP) (E : VH) (h0 : Heap) : Prop :=
 nilc b0 fun a0 =>
 ldB h0 (a0.add 2) fun x0 =>
 (if x0 = true then
 nilc b0 fun a1 =>
 stc h0 (a1.add 2) (.bool true) fun h1 =>
 Kr true h1
 else
 ldI h0 .i64 (f0.add 0) fun x1 => ldI h0 .i64 (f0.add 1) fun x2 => ldI h0 .i64 (f0.add 2) fun x3 => ldB h0 (f0.add 3) fun x4 => ldI h0 .i64 (f0.add 4) fun x5 => ldS h0 (f0.add 5) fun x6 => ldSl h0 (f0.add 6) fun x7 x8 x9 =>
 zrc.c x1 x2 x3 x4 x5 x6 x7 x8 x9 (fun x10 h2 =>
 nilc b0 fun a2 =>
 stc h2 (a2.add 2) (.bool x10) fun h3 =>
 Kr true h3) E h0)
structure J1 (b0 : Option Addr) (f0 : Addr) (Kr : Bool → HP) (E : VH) (H : Heap) : Prop where
  h : J1.vc b0 f0 Kr E H
def vc (b0 : Option Addr) (f0 : Int) (f1 : Int) (f2 : Int) (f3 : Bool) (f4 : Int) (f5 : ByteArray) (f6 : Option Addr) (f7 : Nat) (f8 : Nat) (K : Bool → HP) (E : VH) (h0 : Heap) : Prop :=
 newB (.cells #[(.int .i64 f0), (.int .i64 f1), (.int .i64 f2), (.bool f3), (.int .i64 f4), (.string f5), (.slice f6 f7 f8)] 83) (fun b1 h1 =>
 ldI h1 .i64 ((⟨b1, 0, none⟩ : Addr).add 0) fun x0 => ldI h1 .i64 ((⟨b1, 0, none⟩ : Addr).add 1) fun x1 => ldI h1 .i64 ((⟨b1, 0, none⟩ : Addr).add 2) fun x2 => ldB h1 ((⟨b1, 0, none⟩ : Addr).add 3) fun x3 => ldI h1 .i64 ((⟨b1, 0, none⟩ : Addr).add 4) fun x4 => ldS h1 ((⟨b1, 0, none⟩ : Addr).add 5) fun x5 => ldSl h1 ((⟨b1, 0, none⟩ : Addr).add 6) fun x6 x7 x8 =>
 znf.c x0 x1 x2 x3 x4 x5 x6 x7 x8 (fun x9 h2 =>
 nilc b0 fun a0 =>
 ldI h2 .i64 (a0.add 1) fun x10 =>
 (if (decide (x9 > x10)) = true then
 K false h2
 else
 nilc b0 fun a1 =>
 ldI h2 .i64 (a1.add 1) fun x11 =>
 nilc b0 fun a2 =>
 stc h2 (a2.add 1) (.int .i64 (IntKind.i64.wrap (x11 - x9))) fun h3 =>
 nilc b0 fun a3 =>
 ldSl h3 (a3.add 0) fun x12 x13 x14 =>
 ldI h3 .i64 ((⟨b1, 0, none⟩ : Addr).add 0) fun x15 => ldI h3 .i64 ((⟨b1, 0, none⟩ : Addr).add 1) fun x16 => ldI h3 .i64 ((⟨b1, 0, none⟩ : Addr).add 2) fun x17 => ldB h3 ((⟨b1, 0, none⟩ : Addr).add 3) fun x18 => ldI h3 .i64 ((⟨b1, 0, none⟩ : Addr).add 4) fun x19 => ldS h3 ((⟨b1, 0, none⟩ : Addr).add 5) fun x20 => ldSl h3 ((⟨b1, 0, none⟩ : Addr).add 6) fun x21 x22 x23 =>
 newB (.cells #[(.int .i64 x15), (.int .i64 x16), (.int .i64 x17), (.bool x18), (.int .i64 x19), (.string x20), (.slice x21 x22 x23)] 83) (fun b2 h4 =>
 (ldSl h4 (a3.add 0) fun x24 x25 x26 =>
 eqv h4 h4 (some (.slice x12 x13 x14)) (.slice x24 x25 x26)) ∧
 rdRow h4 (some (⟨b2, 0, none⟩ : Addr)) (1 * 7) fun cs0 =>
 appT 83 (.agg #[(.int .i64 0), (.int .i64 0), (.int .i64 0), (.bool false), (.int .i64 0), (.string (⟨#[]⟩ : ByteArray)), (.slice none 0 0)]) x12 x13 1 x14 7 80 cs0 (fun p0 n0 c0 h5 =>
 nilc b0 fun a4 =>
 stc h5 (a4.add 0) (.slice p0 n0 c0) fun h6 =>
 J1 b0 (⟨b1, 0, none⟩ : Addr) K E h6) h4) h3)) E h1) h0
structure c (b0 : Option Addr) (f0 : Int) (f1 : Int) (f2 : Int) (f3 : Bool) (f4 : Int) (f5 : ByteArray) (f6 : Option Addr) (f7 : Nat) (f8 : Nat) (K : Bool → HP) (E : VH) (H : Heap) : Prop where
  h : vc b0 f0 f1 f2 f3 f4 f5 f6 f7 f8 (fun r0_0 H => ∃ H', Heap.Le H' H ∧ K r0_0 H') E H
def F : FT := fun args K E H => match args with
  | [(.pointer b0), (.agg ⟨[(.int .i64 f0), (.int .i64 f1), (.int .i64 f2), (.bool f3), (.int .i64 f4), (.string f5), (.slice f6 f7 f8)]⟩)] => c b0 f0 f1 f2 f3 f4 f5 f6 f7 f8 (fun r0_0 H => K (.bool r0_0) H) E H
  | _ => False
noncomputable def Γ : FuncId → Option FT := Γof [(115, zrc.F), (135, znf.F)]
theorem hΓ : ∀ f F, Γ f = some F → zca Tryz.prog f F := Γof_ok (consQ zrc.ok (consQ znf.ok (nilQ)))
def J1.t : CT := fun Q E fr H => lenIs 43 fr (slP fr 0 fun b0 => slPA fr 3 fun f0 => J1 b0 f0 (fun y4_0 H => Q .ret (mkF 43 [(4, (.bool y4_0))]) H) E H)
theorem J1.ok : zaa Tryz.prog (sub [1, 1, 1, 1, 1] body) J1.t := by
  refine zda (zea [] [4] (fun i => []) (zba hΓ Tryz.hm (.go) _ (of_eq_true (by kernel_rfl)))) fun Q E fr H h => ?_
  obtain ⟨hl, h⟩ := zga h
  obtain ⟨b0, q0, h⟩ := zja h
  obtain ⟨f0, q3, h⟩ := zua h
  exact ⟨(mkF 43 [(0, (.pointer b0)), (3, (.pointer (some f0)))]), fun a ha => ha.mk (Nat.le_of_eq hl.symm) (consQ q0 (consQ q3 nilQ)), cast (by kernel_rfl) h.h⟩
theorem ok : zca Tryz.prog 92 F := by
  refine zia hΓ (fn := Tryz.f92) (c := body) (by kernel_rfl) (by kernel_rfl) (by kernel_rfl) (zba hΓ Tryz.hm (.seq (.go) (.seq (.go) (.seq (.go) (.seq (.go) (.seq (.draw ⟨[0, 1, 2, 3, 4, 5, 6, 7, 8, 9, 10], (dl [(0, []), (1, []), (2, []), (3, []), (4, []), (5, []), (6, [5]), (7, [4, 6, 3, 5, 2, 1]), (8, []), (9, []), (10, [9, 7, 0, 1, 2, 3, 4, 5, 6, 8])] .fin), []⟩) (.use J1.t)))))) _ (of_eq (show _ = (True ∧ (True ∧ (True ∧ (True ∧ (True ∧ (zaa Tryz.prog (sub [1, 1, 1, 1, 1] body) J1.t)))))) by kernel_rfl) ⟨trivial, ⟨trivial, ⟨trivial, ⟨trivial, ⟨trivial, J1.ok⟩⟩⟩⟩⟩)) fun _ K E H h => ?_
  unfold F at h
  split at h
  · exact cast (by kernel_rfl) h.h
  · exact h.elim
end zkb
namespace zpa
noncomputable def body : Code := Tryz.f53.body.getD .skip
def J2.vc (s0 : Option Addr) (ok0 : Bool) (x0 : Bool) (Kn : HP) (Kr : Option Addr → Bool → HP) (E : VH) (h0 : Heap) : Prop :=
 (if x0 = true then
 Kr none false h0
 else
 Kn h0)
structure J2 (s0 : Option Addr) (ok0 : Bool) (x0 : Bool) (Kn : HP) (Kr : Option Addr → Bool → HP) (E : VH) (H : Heap) : Prop where
  h : J2.vc s0 ok0 x0 Kn Kr E H
def J3.vc (s0 : Option Addr) (ok0 : Bool) (Kr : Option Addr → Bool → HP) (E : VH) (h0 : Heap) : Prop :=
 Kr s0 ok0 h0
structure J3 (s0 : Option Addr) (ok0 : Bool) (Kr : Option Addr → Bool → HP) (E : VH) (H : Heap) : Prop where
  h : J3.vc s0 ok0 Kr E H
def J1.vc (c0 : Option Addr) (id0 : Int) (read0 : Bool) (s0 : Option Addr) (ok0 : Bool) (Kr : Option Addr → Bool → HP) (E : VH) (h0 : Heap) : Prop :=
 (if (id0 == 2) = true then
 nilc c0 fun a0 =>
 ldB h0 (a0.add 2) fun x0 =>
 (if (!(x0 == read0)) = true then
 J2 s0 ok0 true (fun h1 =>
 J3 s0 ok0 Kr E h1) Kr E h0
 else
 (if (id0 == 3) = true then
 nilc c0 fun a1 =>
 ldB h0 (a1.add 2) fun x5 =>
 J2 s0 ok0 (x5 == read0) (fun h4 =>
 J3 s0 ok0 Kr E h4) Kr E h0
 else
 J2 s0 ok0 false (fun h7 =>
 J3 s0 ok0 Kr E h7) Kr E h0))
 else
 (if (id0 == 3) = true then
 nilc c0 fun a2 =>
 ldB h0 (a2.add 2) fun x14 =>
 J2 s0 ok0 (x14 == read0) (fun h10 =>
 J3 s0 ok0 Kr E h10) Kr E h0
 else
 J2 s0 ok0 false (fun h13 =>
 J3 s0 ok0 Kr E h13) Kr E h0))
structure J1 (c0 : Option Addr) (id0 : Int) (read0 : Bool) (s0 : Option Addr) (ok0 : Bool) (Kr : Option Addr → Bool → HP) (E : VH) (H : Heap) : Prop where
  h : J1.vc c0 id0 read0 s0 ok0 Kr E H
def vc (c0 : Option Addr) (id0 : Int) (read0 : Bool) (K : Option Addr → Bool → HP) (E : VH) (h0 : Heap) : Prop :=
 nilc c0 fun a0 =>
 ldM h0 (a0.add 17) fun x0 =>
 lookP (.int .i64) x0 (.int .i64 id0)  (fun x1 ok0 =>
 J1 c0 id0 read0 x1 ok0 K E h0) h0
structure c (c0 : Option Addr) (id0 : Int) (read0 : Bool) (K : Option Addr → Bool → HP) (E : VH) (H : Heap) : Prop where
  h : vc c0 id0 read0 (fun r0_0 r1_0 H => ∃ H', Heap.Le H' H ∧ K r0_0 r1_0 H') E H
def F : FT := fun args K E H => match args with
  | [(.pointer c0), (.int .i64 id0), (.bool read0)] => c c0 id0 read0 (fun r0_0 r1_0 H => K (.tuple #[(.pointer r0_0), (.bool r1_0)]) H) E H
  | _ => False
noncomputable def Γ : FuncId → Option FT := Γof []
theorem hΓ : ∀ f F, Γ f = some F → zca Tryz.prog f F := Γof_ok (nilQ)
def J2.t : CT := fun Q E fr H => lenIs 43 fr (slP fr 8 fun s0 => slB fr 9 fun ok0 => slB fr 40 fun x0 => J2 s0 ok0 x0 (fun  H => Q .normal (mkF 43 [(8, (.pointer s0)), (9, (.bool ok0))]) H) (fun y6_0 y7_0 H => Q .ret (mkF 43 [(6, (.pointer y6_0)), (7, (.bool y7_0))]) H) E H)
theorem J2.ok : zaa Tryz.prog (sub [1, 1, 0, 1] body) J2.t := by
  refine zda (zea [8, 9] [6, 7] (fun i => []) (zba hΓ Tryz.hm (.go) _ (of_eq_true (by kernel_rfl)))) fun Q E fr H h => ?_
  obtain ⟨hl, h⟩ := zga h
  obtain ⟨s0, q8, h⟩ := zja h
  obtain ⟨ok0, q9, h⟩ := zwa h
  obtain ⟨x0, q40, h⟩ := zwa h
  exact ⟨(mkF 43 [(8, (.pointer s0)), (9, (.bool ok0)), (40, (.bool x0))]), fun a ha => ha.mk (Nat.le_of_eq hl.symm) (consQ q8 (consQ q9 (consQ q40 nilQ))), cast (by kernel_rfl) h.h⟩
def J3.t : CT := fun Q E fr H => lenIs 43 fr (slP fr 8 fun s0 => slB fr 9 fun ok0 => J3 s0 ok0 (fun y6_0 y7_0 H => Q .ret (mkF 43 [(6, (.pointer y6_0)), (7, (.bool y7_0))]) H) E H)
theorem J3.ok : zaa Tryz.prog (sub [1, 1, 1] body) J3.t := by
  refine zda (zea [] [6, 7] (fun i => []) (zba hΓ Tryz.hm (.go) _ (of_eq_true (by kernel_rfl)))) fun Q E fr H h => ?_
  obtain ⟨hl, h⟩ := zga h
  obtain ⟨s0, q8, h⟩ := zja h
  obtain ⟨ok0, q9, h⟩ := zwa h
  exact ⟨(mkF 43 [(8, (.pointer s0)), (9, (.bool ok0))]), fun a ha => ha.mk (Nat.le_of_eq hl.symm) (consQ q8 (consQ q9 nilQ)), cast (by kernel_rfl) h.h⟩
def J1.t : CT := fun Q E fr H => lenIs 43 fr (slP fr 0 fun c0 => slI fr 1 .i64 fun id0 => slB fr 2 fun read0 => slP fr 8 fun s0 => slB fr 9 fun ok0 => J1 c0 id0 read0 s0 ok0 (fun y6_0 y7_0 H => Q .ret (mkF 43 [(6, (.pointer y6_0)), (7, (.bool y7_0))]) H) E H)
theorem J1.ok : zaa Tryz.prog (sub [1, 1] body) J1.t := by
  refine zda (zea [] [6, 7] (fun i => []) (zba hΓ Tryz.hm (.seq (.seq (.go) (.use J2.t)) (.use J3.t)) _ (of_eq (show _ = ((True ∧ (zaa Tryz.prog (sub [1, 1, 0, 1] body) J2.t)) ∧ (zaa Tryz.prog (sub [1, 1, 1] body) J3.t)) by kernel_rfl) ⟨⟨trivial, J2.ok⟩, J3.ok⟩))) fun Q E fr H h => ?_
  obtain ⟨hl, h⟩ := zga h
  obtain ⟨c0, q0, h⟩ := zja h
  obtain ⟨id0, q1, h⟩ := zfa h
  obtain ⟨read0, q2, h⟩ := zwa h
  obtain ⟨s0, q8, h⟩ := zja h
  obtain ⟨ok0, q9, h⟩ := zwa h
  exact ⟨(mkF 43 [(0, (.pointer c0)), (1, (.int .i64 id0)), (2, (.bool read0)), (8, (.pointer s0)), (9, (.bool ok0))]), fun a ha => ha.mk (Nat.le_of_eq hl.symm) (consQ q0 (consQ q1 (consQ q2 (consQ q8 (consQ q9 nilQ))))), cast (by kernel_rfl) h.h⟩
theorem ok : zca Tryz.prog 53 F := by
  refine zia hΓ (fn := Tryz.f53) (c := body) (by kernel_rfl) (by kernel_rfl) (by kernel_rfl) (zba hΓ Tryz.hm (.seq (.go) (.seq (.go) (.use J1.t))) _ (of_eq (show _ = (True ∧ (True ∧ (zaa Tryz.prog (sub [1, 1] body) J1.t))) by kernel_rfl) ⟨trivial, ⟨trivial, J1.ok⟩⟩)) fun _ K E H h => ?_
  unfold F at h
  split at h
  · exact cast (by kernel_rfl) h.h
  · exact h.elim
end zpa
namespace zcb
noncomputable def body : Code := Tryz.f39.body.getD .skip
def J1.vc (c0 : Option Addr) (b0 : Option Addr) (x0 : Bool) (Kn : HP) (E : VH) (h0 : Heap) : Prop :=
 (if x0 = true then
 False
 else
 Kn h0)
structure J1 (c0 : Option Addr) (b0 : Option Addr) (x0 : Bool) (Kn : HP) (E : VH) (H : Heap) : Prop where
  h : J1.vc c0 b0 x0 Kn E H
def J4.vc (c0 : Option Addr) (b0 : Option Addr) (x0 : Option Addr) (x1 : Nat) (x2 : Nat) (x3 : Int) (x4 : Int) (Kn : Int → HP) (E : VH) (h0 : Heap) : Prop :=
 Kn (IntKind.i64.wrap (x4 + 1)) h0
structure J4 (c0 : Option Addr) (b0 : Option Addr) (x0 : Option Addr) (x1 : Nat) (x2 : Nat) (x3 : Int) (x4 : Int) (Kn : Int → HP) (E : VH) (H : Heap) : Prop where
  h : J4.vc c0 b0 x0 x1 x2 x3 x4 Kn E H
def J5.vc (c0 : Option Addr) (b0 : Option Addr) (x0 : Option Addr) (x1 : Nat) (x2 : Nat) (x3 : Int) (x4 : Int) (x5 : Bool) (Kn : HP) (E : VH) (h0 : Heap) : Prop :=
 (if x5 = true then
 False
 else
 Kn h0)
structure J5 (c0 : Option Addr) (b0 : Option Addr) (x0 : Option Addr) (x1 : Nat) (x2 : Nat) (x3 : Int) (x4 : Int) (x5 : Bool) (Kn : HP) (E : VH) (H : Heap) : Prop where
  h : J5.vc c0 b0 x0 x1 x2 x3 x4 x5 Kn E H
def W3.vc (c0 : Option Addr) (b0 : Option Addr) (x0 : Option Addr) (x1 : Nat) (x2 : Nat) (x3 : Int) (x4 : Int) (Kx0 : HP) (RR : Int → HP) (E : VH) (h0 : Heap) : Prop :=
 (if (decide (x4 < x3)) = true then
 nilc x0 fun a0 => (0 : Int) ≤ x4 ∧ x4 < (x1 : Int) ∧
 ldI h0 .i64 (a0.add (x4.toNat * 1)) fun x5 =>
 zpa.c c0 x5 true (fun x6 x7 h1 =>
 (if (!x7) = true then
 J4 c0 b0 x0 x1 x2 x3 x4 RR E h1
 else
 nilc x6 fun a1 =>
 ldP h1 (a1.add 0) fun x9 =>
 zkc.c x9 (fun x10 x11 x12 h3 =>
 nilc x6 fun a2 =>
 ldB h3 (a2.add 6) fun x13 =>
 (if x13 = true then
 zkb.c b0 17 x5 x11 false 0 (⟨#[]⟩ : ByteArray) none 0 0 (fun x14 h4 =>
 J5 c0 b0 x0 x1 x2 x3 x4 x14 (fun h5 =>
 J4 c0 b0 x0 x1 x2 x3 x4 RR E h5) E h4) E h3
 else
 nilc x6 fun a3 =>
 ldI h3 .i64 (a3.add 5) fun x16 =>
 (if (decide ((IntKind.i64.wrap (x11 - x16)) ≥ 2048)) = true then
 zkb.c b0 17 x5 x11 false 0 (⟨#[]⟩ : ByteArray) none 0 0 (fun x17 h7 =>
 J5 c0 b0 x0 x1 x2 x3 x4 x17 (fun h8 =>
 J4 c0 b0 x0 x1 x2 x3 x4 RR E h8) E h7) E h3
 else
 J5 c0 b0 x0 x1 x2 x3 x4 false (fun h10 =>
 J4 c0 b0 x0 x1 x2 x3 x4 RR E h10) E h3))) E h1)) E h0
 else
 Kx0 h0)
structure W3 (c0 : Option Addr) (b0 : Option Addr) (x0 : Option Addr) (x1 : Nat) (x2 : Nat) (x3 : Int) (x4 : Int) (Kx0 : HP) (E : VH) (H : Heap) : Prop where
  h : Loop (fun (RR : Int → HP) (s : Int) (H : Heap) => W3.vc c0 b0 x0 x1 x2 x3 s Kx0 (fun x4 H => RR (x4) H) E H) (x4) H
def J7.vc (c0 : Option Addr) (b0 : Option Addr) (x0 : Option Addr) (x1 : Nat) (x2 : Nat) (x3 : Int) (x4 : Int) (x5 : Bool) (Kn : HP) (E : VH) (h0 : Heap) : Prop :=
 (if x5 = true then
 False
 else
 Kn h0)
structure J7 (c0 : Option Addr) (b0 : Option Addr) (x0 : Option Addr) (x1 : Nat) (x2 : Nat) (x3 : Int) (x4 : Int) (x5 : Bool) (Kn : HP) (E : VH) (H : Heap) : Prop where
  h : J7.vc c0 b0 x0 x1 x2 x3 x4 x5 Kn E H
def J8.vc (c0 : Option Addr) (b0 : Option Addr) (x0 : Option Addr) (x1 : Nat) (x2 : Nat) (x3 : Int) (x4 : Int) (Kn : Int → HP) (E : VH) (h0 : Heap) : Prop :=
 Kn (IntKind.i64.wrap (x4 + 1)) h0
structure J8 (c0 : Option Addr) (b0 : Option Addr) (x0 : Option Addr) (x1 : Nat) (x2 : Nat) (x3 : Int) (x4 : Int) (Kn : Int → HP) (E : VH) (H : Heap) : Prop where
  h : J8.vc c0 b0 x0 x1 x2 x3 x4 Kn E H
def W6.vc (c0 : Option Addr) (b0 : Option Addr) (x0 : Option Addr) (x1 : Nat) (x2 : Nat) (x3 : Int) (x4 : Int) (Kx2 : HP) (RR : Int → HP) (E : VH) (h0 : Heap) : Prop :=
 (if (decide (x4 < x3)) = true then
 nilc x0 fun a0 => (0 : Int) ≤ x4 ∧ x4 < (x1 : Int) ∧
 ldI h0 .i64 (a0.add (x4.toNat * 1)) fun x5 =>
 zpa.c c0 x5 false (fun x6 x7 h1 =>
 (if x7 = true then
 nilc x6 fun a1 =>
 ldI h1 .i64 ((a1.add 2).add 0) fun x8 =>
 (if (x8 == 1) = true then
 nilc x6 fun a2 =>
 ldI h1 .i64 ((a2.add 2).add 1) fun x9 =>
 nilc x6 fun a3 =>
 ldI h1 .i64 (a3.add 7) fun x10 =>
 zkb.c b0 4 x5 x10 false x9 (⟨#[]⟩ : ByteArray) none 0 0 (fun x11 h2 =>
 J7 c0 b0 x0 x1 x2 x3 x4 x11 (fun h3 =>
 J8 c0 b0 x0 x1 x2 x3 x4 RR E h3) E h2) E h1
 else
 J7 c0 b0 x0 x1 x2 x3 x4 false (fun h5 =>
 J8 c0 b0 x0 x1 x2 x3 x4 RR E h5) E h1)
 else
 J7 c0 b0 x0 x1 x2 x3 x4 false (fun h7 =>
 J8 c0 b0 x0 x1 x2 x3 x4 RR E h7) E h1)) E h0
 else
 Kx2 h0)
structure W6 (c0 : Option Addr) (b0 : Option Addr) (x0 : Option Addr) (x1 : Nat) (x2 : Nat) (x3 : Int) (x4 : Int) (Kx2 : HP) (E : VH) (H : Heap) : Prop where
  h : Loop (fun (RR : Int → HP) (s : Int) (H : Heap) => W6.vc c0 b0 x0 x1 x2 x3 s Kx2 (fun x4 H => RR (x4) H) E H) (x4) H
def J2.vc (c0 : Option Addr) (b0 : Option Addr) (Kn : HP) (E : VH) (h0 : Heap) : Prop :=
 zoe.c (fun x0 x1 x2 h1 =>
 W3 c0 b0 x0 x1 x2 (x1 : Int) 0 (fun h2 =>
 zoe.c (fun x3 x4 x5 h3 =>
 W6 c0 b0 x3 x4 x5 (x4 : Int) 0 Kn E h3) E h2) E h1) E h0
structure J2 (c0 : Option Addr) (b0 : Option Addr) (Kn : HP) (E : VH) (H : Heap) : Prop where
  h : J2.vc c0 b0 Kn E H
def vc (c0 : Option Addr) (b0 : Option Addr) (K : HP) (E : VH) (h0 : Heap) : Prop :=
 nilc c0 fun a0 =>
 ldB h0 (a0.add 10) fun x0 =>
 (if x0 = true then
 nilc c0 fun a1 =>
 ldP h0 (a1.add 15) fun x1 =>
 zve.c x1 (fun x2 x3 x4 h1 =>
 zkb.c b0 2 0 0 false 0 (⟨#[]⟩ : ByteArray) x2 x3 x4 (fun x5 h2 =>
 J1 c0 b0 x5 (fun h3 =>
 J2 c0 b0 K E h3) E h2) E h1) E h0
 else
 J1 c0 b0 false (fun h5 =>
 J2 c0 b0 K E h5) E h0)
structure c (c0 : Option Addr) (b0 : Option Addr) (K : HP) (E : VH) (H : Heap) : Prop where
  h : vc c0 b0 (fun  H => ∃ H', Heap.Le H' H ∧ K  H') E H
def F : FT := fun args K E H => match args with
  | [(.pointer c0), (.pointer b0)] => c c0 b0 (fun  H => K (.tuple #[]) H) E H
  | _ => False
noncomputable def Γ : FuncId → Option FT := Γof [(53, zpa.F), (57, zkc.F), (74, zoe.F), (92, zkb.F), (93, zve.F)]
theorem hΓ : ∀ f F, Γ f = some F → zca Tryz.prog f F := Γof_ok (consQ zpa.ok (consQ zkc.ok (consQ zoe.ok (consQ zkb.ok (consQ zve.ok (nilQ))))))
def J1.t : CT := fun Q E fr H => lenIs 124 fr (slP fr 0 fun c0 => slP fr 1 fun b0 => slB fr 28 fun x0 => J1 c0 b0 x0 (fun  H => Q .normal (mkF 124 [(0, (.pointer c0)), (1, (.pointer b0))]) H) E H)
theorem J1.ok : zaa Tryz.prog (sub [0, 1] body) J1.t := by
  refine zda (zea [0, 1] [] (fun i => []) (zba hΓ Tryz.hm (.cond (.use deadT) (.go)) _ (of_eq (show _ = ((zaa Tryz.prog (sub [0, 1, 0] body) deadT) ∧ True) by kernel_rfl) ⟨(zid _), trivial⟩))) fun Q E fr H h => ?_
  obtain ⟨hl, h⟩ := zga h
  obtain ⟨c0, q0, h⟩ := zja h
  obtain ⟨b0, q1, h⟩ := zja h
  obtain ⟨x0, q28, h⟩ := zwa h
  exact ⟨(mkF 124 [(0, (.pointer c0)), (1, (.pointer b0)), (28, (.bool x0))]), fun a ha => ha.mk (Nat.le_of_eq hl.symm) (consQ q0 (consQ q1 (consQ q28 nilQ))), cast (by kernel_rfl) h.h⟩
def J4.t : CT := fun Q E fr H => lenIs 124 fr (slP fr 0 fun c0 => slP fr 1 fun b0 => slSl fr 32 fun x0 x1 x2 => slI fr 33 .i64 fun x3 => slI fr 34 .i64 fun x4 => J4 c0 b0 x0 x1 x2 x3 x4 (fun y34_0 H => Q .normal (mkF 124 [(0, (.pointer c0)), (1, (.pointer b0)), (32, (.slice x0 x1 x2)), (33, (.int .i64 x3)), (34, (.int .i64 y34_0))]) H) E H)
theorem J4.ok : zaa Tryz.prog (sub [1, 0, 1, 0, 0, 1, 1, 1] body) J4.t := by
  refine zda (zea [0, 1, 32, 33, 34] [] (fun i => []) (zba hΓ Tryz.hm (.go) _ (of_eq_true (by kernel_rfl)))) fun Q E fr H h => ?_
  obtain ⟨hl, h⟩ := zga h
  obtain ⟨c0, q0, h⟩ := zja h
  obtain ⟨b0, q1, h⟩ := zja h
  obtain ⟨x0, x1, x2, q32, h⟩ := zta h
  obtain ⟨x3, q33, h⟩ := zfa h
  obtain ⟨x4, q34, h⟩ := zfa h
  exact ⟨(mkF 124 [(0, (.pointer c0)), (1, (.pointer b0)), (32, (.slice x0 x1 x2)), (33, (.int .i64 x3)), (34, (.int .i64 x4))]), fun a ha => ha.mk (Nat.le_of_eq hl.symm) (consQ q0 (consQ q1 (consQ q32 (consQ q33 (consQ q34 nilQ))))), cast (by kernel_rfl) h.h⟩
def J5.t : CT := fun Q E fr H => lenIs 124 fr (slP fr 0 fun c0 => slP fr 1 fun b0 => slSl fr 32 fun x0 x1 x2 => slI fr 33 .i64 fun x3 => slI fr 34 .i64 fun x4 => slB fr 74 fun x5 => J5 c0 b0 x0 x1 x2 x3 x4 x5 (fun  H => Q .normal (mkF 124 [(0, (.pointer c0)), (1, (.pointer b0)), (32, (.slice x0 x1 x2)), (33, (.int .i64 x3)), (34, (.int .i64 x4))]) H) E H)
theorem J5.ok : zaa Tryz.prog (sub [1, 0, 1, 0, 0, 1, 1, 0, 0, 1, 1, 1, 1, 1] body) J5.t := by
  refine zda (zea [0, 1, 32, 33, 34] [] (fun i => []) (zba hΓ Tryz.hm (.cond (.use deadT) (.go)) _ (of_eq (show _ = ((zaa Tryz.prog (sub [1, 0, 1, 0, 0, 1, 1, 0, 0, 1, 1, 1, 1, 1, 0] body) deadT) ∧ True) by kernel_rfl) ⟨(zid _), trivial⟩))) fun Q E fr H h => ?_
  obtain ⟨hl, h⟩ := zga h
  obtain ⟨c0, q0, h⟩ := zja h
  obtain ⟨b0, q1, h⟩ := zja h
  obtain ⟨x0, x1, x2, q32, h⟩ := zta h
  obtain ⟨x3, q33, h⟩ := zfa h
  obtain ⟨x4, q34, h⟩ := zfa h
  obtain ⟨x5, q74, h⟩ := zwa h
  exact ⟨(mkF 124 [(0, (.pointer c0)), (1, (.pointer b0)), (32, (.slice x0 x1 x2)), (33, (.int .i64 x3)), (34, (.int .i64 x4)), (74, (.bool x5))]), fun a ha => ha.mk (Nat.le_of_eq hl.symm) (consQ q0 (consQ q1 (consQ q32 (consQ q33 (consQ q34 (consQ q74 nilQ)))))), cast (by kernel_rfl) h.h⟩
def W3.t : CT := fun Q E fr H => lenIs 124 fr (slP fr 0 fun c0 => slP fr 1 fun b0 => slSl fr 32 fun x0 x1 x2 => slI fr 33 .i64 fun x3 => slI fr 34 .i64 fun x4 => W3 c0 b0 x0 x1 x2 x3 x4 (fun  H => Q (.exit 0) (mkF 124 [(0, (.pointer c0)), (1, (.pointer b0))]) H) E H)
theorem W3.ok : zaa Tryz.prog (sub [1, 0, 1, 0] body) W3.t := by
  have e : (sub [1, 0, 1, 0] body) = .loop (sub [1, 0, 1, 0, 0] body) := by kernel_rfl
  rw [e]
  refine zda (zqa (zea [0, 1, 32, 33, 34] [] (fun i => if i = 0 then [0, 1] else []) (zba hΓ Tryz.hm (.seq (.go) (.seq (.go) (.seq (.block (.seq (.go) (.seq (.go) (.seq (.go) (.seq (.go) (.seq (.go) (.use J5.t))))))) (.use J4.t)))) _ (of_eq (show _ = (True ∧ (True ∧ ((True ∧ (True ∧ (True ∧ (True ∧ (True ∧ (zaa Tryz.prog (sub [1, 0, 1, 0, 0, 1, 1, 0, 0, 1, 1, 1, 1, 1] body) J5.t)))))) ∧ (zaa Tryz.prog (sub [1, 0, 1, 0, 0, 1, 1, 1] body) J4.t)))) by kernel_rfl) ⟨trivial, ⟨trivial, ⟨⟨trivial, ⟨trivial, ⟨trivial, ⟨trivial, ⟨trivial, J5.ok⟩⟩⟩⟩⟩, J4.ok⟩⟩⟩)))) fun Q E fr H h => ?_
  obtain ⟨hl, h⟩ := zga h
  obtain ⟨c0, q0, h⟩ := zja h
  obtain ⟨b0, q1, h⟩ := zja h
  obtain ⟨x0, x1, x2, q32, h⟩ := zta h
  obtain ⟨x3, q33, h⟩ := zfa h
  obtain ⟨x4, q34, h⟩ := zfa h
  obtain ⟨m, h⟩ := h.h
  exact ⟨(mkF 124 [(0, (.pointer c0)), (1, (.pointer b0)), (32, (.slice x0 x1 x2)), (33, (.int .i64 x3)), (34, (.int .i64 x4))]), fun a ha => ha.mk (Nat.le_of_eq hl.symm) (consQ q0 (consQ q1 (consQ q32 (consQ q33 (consQ q34 nilQ))))), m, cast (zib (B := (fun (RR : Int → HP) (s : Int) (H : Heap) => W3.vc c0 b0 x0 x1 x2 x3 s (fun  H => Q (.exit 0) (mkF 124 [(0, (.pointer c0)), (1, (.pointer b0))]) H) (fun x4 H => RR (x4) H) E H)) (m := (fun (s : Int) => (mkF 124 [(0, (.pointer c0)), (1, (.pointer b0)), (32, (.slice x0 x1 x2)), (33, (.int .i64 x3)), (34, (.int .i64 s))]))) (Q := Q) (E := E) (fun RR s H => by kernel_rfl) m (x4) H) h⟩
def J7.t : CT := fun Q E fr H => lenIs 124 fr (slP fr 0 fun c0 => slP fr 1 fun b0 => slSl fr 83 fun x0 x1 x2 => slI fr 84 .i64 fun x3 => slI fr 85 .i64 fun x4 => slB fr 118 fun x5 => J7 c0 b0 x0 x1 x2 x3 x4 x5 (fun  H => Q .normal (mkF 124 [(0, (.pointer c0)), (1, (.pointer b0)), (83, (.slice x0 x1 x2)), (84, (.int .i64 x3)), (85, (.int .i64 x4))]) H) E H)
theorem J7.ok : zaa Tryz.prog (sub [1, 1, 1, 0, 0, 1, 1, 0, 0, 1, 1, 1] body) J7.t := by
  refine zda (zea [0, 1, 83, 84, 85] [] (fun i => []) (zba hΓ Tryz.hm (.cond (.use deadT) (.go)) _ (of_eq (show _ = ((zaa Tryz.prog (sub [1, 1, 1, 0, 0, 1, 1, 0, 0, 1, 1, 1, 0] body) deadT) ∧ True) by kernel_rfl) ⟨(zid _), trivial⟩))) fun Q E fr H h => ?_
  obtain ⟨hl, h⟩ := zga h
  obtain ⟨c0, q0, h⟩ := zja h
  obtain ⟨b0, q1, h⟩ := zja h
  obtain ⟨x0, x1, x2, q83, h⟩ := zta h
  obtain ⟨x3, q84, h⟩ := zfa h
  obtain ⟨x4, q85, h⟩ := zfa h
  obtain ⟨x5, q118, h⟩ := zwa h
  exact ⟨(mkF 124 [(0, (.pointer c0)), (1, (.pointer b0)), (83, (.slice x0 x1 x2)), (84, (.int .i64 x3)), (85, (.int .i64 x4)), (118, (.bool x5))]), fun a ha => ha.mk (Nat.le_of_eq hl.symm) (consQ q0 (consQ q1 (consQ q83 (consQ q84 (consQ q85 (consQ q118 nilQ)))))), cast (by kernel_rfl) h.h⟩
def J8.t : CT := fun Q E fr H => lenIs 124 fr (slP fr 0 fun c0 => slP fr 1 fun b0 => slSl fr 83 fun x0 x1 x2 => slI fr 84 .i64 fun x3 => slI fr 85 .i64 fun x4 => J8 c0 b0 x0 x1 x2 x3 x4 (fun y85_0 H => Q .normal (mkF 124 [(0, (.pointer c0)), (1, (.pointer b0)), (83, (.slice x0 x1 x2)), (84, (.int .i64 x3)), (85, (.int .i64 y85_0))]) H) E H)
theorem J8.ok : zaa Tryz.prog (sub [1, 1, 1, 0, 0, 1, 1, 1] body) J8.t := by
  refine zda (zea [0, 1, 83, 84, 85] [] (fun i => []) (zba hΓ Tryz.hm (.go) _ (of_eq_true (by kernel_rfl)))) fun Q E fr H h => ?_
  obtain ⟨hl, h⟩ := zga h
  obtain ⟨c0, q0, h⟩ := zja h
  obtain ⟨b0, q1, h⟩ := zja h
  obtain ⟨x0, x1, x2, q83, h⟩ := zta h
  obtain ⟨x3, q84, h⟩ := zfa h
  obtain ⟨x4, q85, h⟩ := zfa h
  exact ⟨(mkF 124 [(0, (.pointer c0)), (1, (.pointer b0)), (83, (.slice x0 x1 x2)), (84, (.int .i64 x3)), (85, (.int .i64 x4))]), fun a ha => ha.mk (Nat.le_of_eq hl.symm) (consQ q0 (consQ q1 (consQ q83 (consQ q84 (consQ q85 nilQ))))), cast (by kernel_rfl) h.h⟩
def W6.t : CT := fun Q E fr H => lenIs 124 fr (slP fr 0 fun c0 => slP fr 1 fun b0 => slSl fr 83 fun x0 x1 x2 => slI fr 84 .i64 fun x3 => slI fr 85 .i64 fun x4 => W6 c0 b0 x0 x1 x2 x3 x4 (fun  H => Q (.exit 2) (mkF 124 []) H) E H)
theorem W6.ok : zaa Tryz.prog (sub [1, 1, 1, 0] body) W6.t := by
  have e : (sub [1, 1, 1, 0] body) = .loop (sub [1, 1, 1, 0, 0] body) := by kernel_rfl
  rw [e]
  refine zda (zqa (zea [0, 1, 83, 84, 85] [] (fun i => if i = 2 then [] else []) (zba hΓ Tryz.hm (.seq (.go) (.seq (.go) (.seq (.block (.seq (.go) (.seq (.go) (.seq (.draw ⟨[0, 1, 2, 3, 4, 5, 6, 7, 8, 9, 10, 11, 12, 13, 14, 15, 16, 17, 18, 19, 20, 21, 22, 23], (dl [(0, []), (1, []), (2, []), (3, []), (4, []), (5, []), (6, []), (7, []), (8, []), (9, []), (10, []), (11, []), (12, []), (13, []), (14, []), (15, []), (16, []), (17, []), (18, []), (19, []), (20, []), (21, []), (22, [10, 21, 9, 11, 16, 20, 8, 1, 15, 19, 7, 0, 14, 18, 6, 13, 17, 5, 12, 4, 3, 2]), (23, [])] .fin), []⟩) (.use J7.t))))) (.use J8.t)))) _ (of_eq (show _ = (True ∧ (True ∧ ((True ∧ (True ∧ (True ∧ (zaa Tryz.prog (sub [1, 1, 1, 0, 0, 1, 1, 0, 0, 1, 1, 1] body) J7.t)))) ∧ (zaa Tryz.prog (sub [1, 1, 1, 0, 0, 1, 1, 1] body) J8.t)))) by kernel_rfl) ⟨trivial, ⟨trivial, ⟨⟨trivial, ⟨trivial, ⟨trivial, J7.ok⟩⟩⟩, J8.ok⟩⟩⟩)))) fun Q E fr H h => ?_
  obtain ⟨hl, h⟩ := zga h
  obtain ⟨c0, q0, h⟩ := zja h
  obtain ⟨b0, q1, h⟩ := zja h
  obtain ⟨x0, x1, x2, q83, h⟩ := zta h
  obtain ⟨x3, q84, h⟩ := zfa h
  obtain ⟨x4, q85, h⟩ := zfa h
  obtain ⟨m, h⟩ := h.h
  exact ⟨(mkF 124 [(0, (.pointer c0)), (1, (.pointer b0)), (83, (.slice x0 x1 x2)), (84, (.int .i64 x3)), (85, (.int .i64 x4))]), fun a ha => ha.mk (Nat.le_of_eq hl.symm) (consQ q0 (consQ q1 (consQ q83 (consQ q84 (consQ q85 nilQ))))), m, cast (zib (B := (fun (RR : Int → HP) (s : Int) (H : Heap) => W6.vc c0 b0 x0 x1 x2 x3 s (fun  H => Q (.exit 2) (mkF 124 []) H) (fun x4 H => RR (x4) H) E H)) (m := (fun (s : Int) => (mkF 124 [(0, (.pointer c0)), (1, (.pointer b0)), (83, (.slice x0 x1 x2)), (84, (.int .i64 x3)), (85, (.int .i64 s))]))) (Q := Q) (E := E) (fun RR s H => by kernel_rfl) m (x4) H) h⟩
def J2.t : CT := fun Q E fr H => lenIs 124 fr (slP fr 0 fun c0 => slP fr 1 fun b0 => J2 c0 b0 (fun  H => Q .normal (mkF 124 []) H) E H)
theorem J2.ok : zaa Tryz.prog (sub [1] body) J2.t := by
  refine zda (zea [] [] (fun i => []) (zba hΓ Tryz.hm (.seq (.seq (.go) (.block (.use W3.t))) (.seq (.go) (.block (.use W6.t)))) _ (of_eq (show _ = ((True ∧ (zaa Tryz.prog (sub [1, 0, 1, 0] body) W3.t)) ∧ (True ∧ (zaa Tryz.prog (sub [1, 1, 1, 0] body) W6.t))) by kernel_rfl) ⟨⟨trivial, W3.ok⟩, ⟨trivial, W6.ok⟩⟩))) fun Q E fr H h => ?_
  obtain ⟨hl, h⟩ := zga h
  obtain ⟨c0, q0, h⟩ := zja h
  obtain ⟨b0, q1, h⟩ := zja h
  exact ⟨(mkF 124 [(0, (.pointer c0)), (1, (.pointer b0))]), fun a ha => ha.mk (Nat.le_of_eq hl.symm) (consQ q0 (consQ q1 nilQ)), cast (by kernel_rfl) h.h⟩
theorem ok : zca Tryz.prog 39 F := by
  refine zia hΓ (fn := Tryz.f39) (c := body) (by kernel_rfl) (by kernel_rfl) (by kernel_rfl) (zba hΓ Tryz.hm (.seq (.seq (.go) (.use J1.t)) (.use J2.t)) _ (of_eq (show _ = ((True ∧ (zaa Tryz.prog (sub [0, 1] body) J1.t)) ∧ (zaa Tryz.prog (sub [1] body) J2.t)) by kernel_rfl) ⟨⟨trivial, J1.ok⟩, J2.ok⟩)) fun _ K E H h => ?_
  unfold F at h
  split at h
  · exact cast (by kernel_rfl) h.h
  · exact h.elim
end zcb
namespace zdb
noncomputable def body : Code := Tryz.f42.body.getD .skip
def J2.vc (c0 : Option Addr) (b0 : Option Addr) (x0 : Option Addr) (x1 : Nat) (x2 : Nat) (x3 : Int) (x4 : Int) (Kn : Int → HP) (E : VH) (h0 : Heap) : Prop :=
 Kn (IntKind.i64.wrap (x4 + 1)) h0
structure J2 (c0 : Option Addr) (b0 : Option Addr) (x0 : Option Addr) (x1 : Nat) (x2 : Nat) (x3 : Int) (x4 : Int) (Kn : Int → HP) (E : VH) (H : Heap) : Prop where
  h : J2.vc c0 b0 x0 x1 x2 x3 x4 Kn E H
def J5.vc (c0 : Option Addr) (b0 : Option Addr) (id0 : Int) (s0 : Option Addr) (p0 : Addr) (ok0 : Bool) (x0 : Option Addr) (x1 : Nat) (x2 : Nat) (x3 : Int) (x4 : Int) (Kx2 : HP) (Kn : HP) (E : VH) (h0 : Heap) : Prop :=
 (if (!ok0) = true then
 Kx2 h0
 else
 nilc s0 fun a0 =>
 ldI h0 .i64 (a0.add 7) fun x5 =>
 ldI h0 .i64 (p0.add 0) fun x6 =>
 ldS h0 (p0.add 1) fun x7 =>
 nilc s0 fun a1 =>
 stc h0 (a1.add 7) (.int .i64 (if (IntKind.i64.wrap (x6 + (x7.size : Int))) > x5 then (IntKind.i64.wrap (x6 + (x7.size : Int))) else x5)) fun h1 =>
 ldI h1 .i64 (p0.add 0) fun x8 =>
 ldB h1 (p0.add 2) fun x9 =>
 ldS h1 (p0.add 1) fun x10 =>
 zkb.c b0 8 id0 x8 x9 0 x10 none 0 0 (fun x11 h2 =>
 Kn h2) E h1)
structure J5 (c0 : Option Addr) (b0 : Option Addr) (id0 : Int) (s0 : Option Addr) (p0 : Addr) (ok0 : Bool) (x0 : Option Addr) (x1 : Nat) (x2 : Nat) (x3 : Int) (x4 : Int) (Kx2 : HP) (Kn : HP) (E : VH) (H : Heap) : Prop where
  h : J5.vc c0 b0 id0 s0 p0 ok0 x0 x1 x2 x3 x4 Kx2 Kn E H
def W4.vc (c0 : Option Addr) (b0 : Option Addr) (id0 : Int) (s0 : Option Addr) (x0 : Option Addr) (x1 : Nat) (x2 : Nat) (x3 : Int) (x4 : Int) (Kx2 : HP) (RR : HP) (E : VH) (h0 : Heap) : Prop :=
 nilc b0 fun a0 =>
 ldI h0 .i64 (a0.add 1) fun x5 =>
 (if (decide (x5 > 20)) = true then
 nilc s0 fun a1 =>
 ldP h0 (a1.add 1) fun x6 =>
 nilc b0 fun a2 =>
 ldI h0 .i64 (a2.add 1) fun x7 =>
 (zya.c x6 (IntKind.i64.wrap (x7 - 20)) (fun x8 x9 x10 x11 h1 =>
 newB (.cells #[(.int .i64 0), (.string (⟨#[]⟩ : ByteArray)), (.bool false)] 152) (fun b1 h2 =>
 (ldI h2 .i64 (a2.add 1) fun x12 =>
 eqv h2 h2 (some (.int .i64 x7)) (.int .i64 x12)) ∧
 (ldP h2 (a1.add 1) fun x13 =>
 eqv h2 h2 (some (.pointer x6)) (.pointer x13)) ∧
 stc h2 ((⟨b1, 0, none⟩ : Addr).add 0) (.int .i64 x8) fun h3 =>
 stc h3 ((⟨b1, 0, none⟩ : Addr).add 1) (.string x9) fun h4 =>
 stc h4 ((⟨b1, 0, none⟩ : Addr).add 2) (.bool x10) fun h5 =>
 J5 c0 b0 id0 s0 (⟨b1, 0, none⟩ : Addr) x11 x0 x1 x2 x3 x4 Kx2 RR E h5) h1) E h0) ∧
 newB (.cells #[(.int .i64 0), (.string (⟨#[]⟩ : ByteArray)), (.bool false)] 152) (fun b2 h8 =>
 (ldI h8 .i64 (a2.add 1) fun x14 =>
 eqv h8 h8 (some (.int .i64 x7)) (.int .i64 x14)) ∧
 (ldP h8 (a1.add 1) fun x15 =>
 eqv h8 h8 (some (.pointer x6)) (.pointer x15)) ∧
 zya.c x6 (IntKind.i64.wrap (x7 - 20)) (fun x16 x17 x18 x19 h9 =>
 stc h9 ((⟨b2, 0, none⟩ : Addr).add 0) (.int .i64 x16) fun h10 =>
 stc h10 ((⟨b2, 0, none⟩ : Addr).add 1) (.string x17) fun h11 =>
 stc h11 ((⟨b2, 0, none⟩ : Addr).add 2) (.bool x18) fun h12 =>
 J5 c0 b0 id0 s0 (⟨b2, 0, none⟩ : Addr) x19 x0 x1 x2 x3 x4 Kx2 RR E h12) E h8) h0
 else
 Kx2 h0)
structure W4 (c0 : Option Addr) (b0 : Option Addr) (id0 : Int) (s0 : Option Addr) (x0 : Option Addr) (x1 : Nat) (x2 : Nat) (x3 : Int) (x4 : Int) (Kx2 : HP) (E : VH) (H : Heap) : Prop where
  h : Loop (fun (RR : Unit → HP) (s : Unit) (H : Heap) => W4.vc c0 b0 id0 s0 x0 x1 x2 x3 x4 Kx2 (fun  H => RR () H) E H) () H
def J3.vc (c0 : Option Addr) (b0 : Option Addr) (id0 : Int) (s0 : Option Addr) (x0 : Option Addr) (x1 : Nat) (x2 : Nat) (x3 : Int) (x4 : Int) (Kn : HP) (E : VH) (h0 : Heap) : Prop :=
 W4 c0 b0 id0 s0 x0 x1 x2 x3 x4 Kn E h0
structure J3 (c0 : Option Addr) (b0 : Option Addr) (id0 : Int) (s0 : Option Addr) (x0 : Option Addr) (x1 : Nat) (x2 : Nat) (x3 : Int) (x4 : Int) (Kn : HP) (E : VH) (H : Heap) : Prop where
  h : J3.vc c0 b0 id0 s0 x0 x1 x2 x3 x4 Kn E H
def W1.vc (c0 : Option Addr) (b0 : Option Addr) (x0 : Option Addr) (x1 : Nat) (x2 : Nat) (x3 : Int) (x4 : Int) (Kx0 : HP) (RR : Int → HP) (E : VH) (h0 : Heap) : Prop :=
 (if (decide (x4 < x3)) = true then
 nilc x0 fun a0 => (0 : Int) ≤ x4 ∧ x4 < (x1 : Int) ∧
 ldI h0 .i64 (a0.add (x4.toNat * 1)) fun x5 =>
 zpa.c c0 x5 false (fun x6 x7 h1 =>
 (if (!x7) = true then
 J2 c0 b0 x0 x1 x2 x3 x4 RR E h1
 else
 nilc x6 fun a1 =>
 ldI h1 .i64 ((a1.add 2).add 0) fun x9 =>
 (if (x9 != 0) = true then
 J2 c0 b0 x0 x1 x2 x3 x4 RR E h1
 else
 J3 c0 b0 x5 x6 x0 x1 x2 x3 x4 (fun h4 =>
 J2 c0 b0 x0 x1 x2 x3 x4 RR E h4) E h1))) E h0
 else
 Kx0 h0)
structure W1 (c0 : Option Addr) (b0 : Option Addr) (x0 : Option Addr) (x1 : Nat) (x2 : Nat) (x3 : Int) (x4 : Int) (Kx0 : HP) (E : VH) (H : Heap) : Prop where
  h : Loop (fun (RR : Int → HP) (s : Int) (H : Heap) => W1.vc c0 b0 x0 x1 x2 x3 s Kx0 (fun x4 H => RR (x4) H) E H) (x4) H
def J7.vc (c0 : Option Addr) (b0 : Option Addr) (Kn : HP) (E : VH) (h0 : Heap) : Prop :=
 nilc c0 fun a0 =>
 ldSl h0 (a0.add 19) fun x0 x1 x2 =>
 (0 : Int) ≤ 1 ∧ 1 ≤ (x1 : Int) ∧ x1 ≤ x2 ∧
 nilc c0 fun a1 =>
 stc h0 (a1.add 19) (.slice (slA x0 x2 1 1) (x1 - 1) (x2 - 1)) fun h1 =>
 Kn h1
structure J7 (c0 : Option Addr) (b0 : Option Addr) (Kn : HP) (E : VH) (H : Heap) : Prop where
  h : J7.vc c0 b0 Kn E H
def W6.vc (c0 : Option Addr) (b0 : Option Addr) (Kx4 : HP) (RR : HP) (E : VH) (h0 : Heap) : Prop :=
 nilc c0 fun a0 =>
 ldSl h0 (a0.add 19) fun x0 x1 x2 =>
 (if (decide ((x1 : Int) > 0)) = true then
 nilc c0 fun a1 =>
 ldSl h0 (a1.add 19) fun x3 x4 x5 =>
 nilc x3 fun a2 => (0 : Int) ≤ 0 ∧ 0 < (x4 : Int) ∧
 ldS h0 (a2.add (0 * 1)) fun x6 =>
 zkb.c b0 48 0 0 false 0 x6 none 0 0 (fun x7 h1 =>
 (if x7 = true then
 J7 c0 b0 RR E h1
 else
 Kx4 h1)) E h0
 else
 Kx4 h0)
structure W6 (c0 : Option Addr) (b0 : Option Addr) (Kx4 : HP) (E : VH) (H : Heap) : Prop where
  h : Loop (fun (RR : Unit → HP) (s : Unit) (H : Heap) => W6.vc c0 b0 Kx4 (fun  H => RR () H) E H) () H
def vc (c0 : Option Addr) (b0 : Option Addr) (K : HP) (E : VH) (h0 : Heap) : Prop :=
 zoe.c (fun x0 x1 x2 h1 =>
 W1 c0 b0 x0 x1 x2 (x1 : Int) 0 (fun h2 =>
 W6 c0 b0 K E h2) E h1) E h0
structure c (c0 : Option Addr) (b0 : Option Addr) (K : HP) (E : VH) (H : Heap) : Prop where
  h : vc c0 b0 (fun  H => ∃ H', Heap.Le H' H ∧ K  H') E H
def F : FT := fun args K E H => match args with
  | [(.pointer c0), (.pointer b0)] => c c0 b0 (fun  H => K (.tuple #[]) H) E H
  | _ => False
noncomputable def Γ : FuncId → Option FT := Γof [(53, zpa.F), (74, zoe.F), (92, zkb.F), (94, zya.F)]
theorem hΓ : ∀ f F, Γ f = some F → zca Tryz.prog f F := Γof_ok (consQ zpa.ok (consQ zoe.ok (consQ zkb.ok (consQ zya.ok (nilQ)))))
def J2.t : CT := fun Q E fr H => lenIs 102 fr (slP fr 0 fun c0 => slP fr 1 fun b0 => slSl fr 10 fun x0 x1 x2 => slI fr 11 .i64 fun x3 => slI fr 12 .i64 fun x4 => J2 c0 b0 x0 x1 x2 x3 x4 (fun y12_0 H => Q .normal (mkF 102 [(0, (.pointer c0)), (1, (.pointer b0)), (10, (.slice x0 x1 x2)), (11, (.int .i64 x3)), (12, (.int .i64 y12_0))]) H) E H)
theorem J2.ok : zaa Tryz.prog (sub [0, 1, 0, 0, 1, 1, 1] body) J2.t := by
  refine zda (zea [0, 1, 10, 11, 12] [] (fun i => []) (zba hΓ Tryz.hm (.go) _ (of_eq_true (by kernel_rfl)))) fun Q E fr H h => ?_
  obtain ⟨hl, h⟩ := zga h
  obtain ⟨c0, q0, h⟩ := zja h
  obtain ⟨b0, q1, h⟩ := zja h
  obtain ⟨x0, x1, x2, q10, h⟩ := zta h
  obtain ⟨x3, q11, h⟩ := zfa h
  obtain ⟨x4, q12, h⟩ := zfa h
  exact ⟨(mkF 102 [(0, (.pointer c0)), (1, (.pointer b0)), (10, (.slice x0 x1 x2)), (11, (.int .i64 x3)), (12, (.int .i64 x4))]), fun a ha => ha.mk (Nat.le_of_eq hl.symm) (consQ q0 (consQ q1 (consQ q10 (consQ q11 (consQ q12 nilQ))))), cast (by kernel_rfl) h.h⟩
def J5.t : CT := fun Q E fr H => lenIs 102 fr (slP fr 0 fun c0 => slP fr 1 fun b0 => slI fr 5 .i64 fun id0 => slP fr 6 fun s0 => slPA fr 8 fun p0 => slB fr 9 fun ok0 => slSl fr 10 fun x0 x1 x2 => slI fr 11 .i64 fun x3 => slI fr 12 .i64 fun x4 => J5 c0 b0 id0 s0 p0 ok0 x0 x1 x2 x3 x4 (fun  H => Q (.exit 2) (mkF 102 [(0, (.pointer c0)), (1, (.pointer b0)), (10, (.slice x0 x1 x2)), (11, (.int .i64 x3)), (12, (.int .i64 x4))]) H) (fun  H => Q .normal (mkF 102 [(0, (.pointer c0)), (1, (.pointer b0)), (5, (.int .i64 id0)), (6, (.pointer s0)), (10, (.slice x0 x1 x2)), (11, (.int .i64 x3)), (12, (.int .i64 x4))]) H) E H)
theorem J5.ok : zaa Tryz.prog (sub [0, 1, 0, 0, 1, 1, 0, 0, 1, 1, 1, 0, 0, 1, 0, 1] body) J5.t := by
  refine zda (zea [0, 1, 5, 6, 10, 11, 12] [] (fun i => if i = 2 then [0, 1, 10, 11, 12] else []) (zba hΓ Tryz.hm (.seq (.go) (.seq (.draw ⟨[0, 1, 2, 3, 4, 5, 6, 7, 8, 9, 10, 11, 12, 13, 14], (dl [(0, []), (1, []), (2, []), (3, []), (4, []), (5, []), (6, []), (7, []), (8, []), (9, []), (10, []), (11, []), (12, []), (13, []), (14, [13, 11, 0, 1, 2, 3, 4, 5, 6, 7, 8, 9, 10, 12])] .fin), []⟩) (.go))) _ (of_eq (show _ = (True ∧ (True ∧ True)) by kernel_rfl) ⟨trivial, ⟨trivial, trivial⟩⟩))) fun Q E fr H h => ?_
  obtain ⟨hl, h⟩ := zga h
  obtain ⟨c0, q0, h⟩ := zja h
  obtain ⟨b0, q1, h⟩ := zja h
  obtain ⟨id0, q5, h⟩ := zfa h
  obtain ⟨s0, q6, h⟩ := zja h
  obtain ⟨p0, q8, h⟩ := zua h
  obtain ⟨ok0, q9, h⟩ := zwa h
  obtain ⟨x0, x1, x2, q10, h⟩ := zta h
  obtain ⟨x3, q11, h⟩ := zfa h
  obtain ⟨x4, q12, h⟩ := zfa h
  exact ⟨(mkF 102 [(0, (.pointer c0)), (1, (.pointer b0)), (5, (.int .i64 id0)), (6, (.pointer s0)), (8, (.pointer (some p0))), (9, (.bool ok0)), (10, (.slice x0 x1 x2)), (11, (.int .i64 x3)), (12, (.int .i64 x4))]), fun a ha => ha.mk (Nat.le_of_eq hl.symm) (consQ q0 (consQ q1 (consQ q5 (consQ q6 (consQ q8 (consQ q9 (consQ q10 (consQ q11 (consQ q12 nilQ))))))))), cast (by kernel_rfl) h.h⟩
def W4.t : CT := fun Q E fr H => lenIs 102 fr (slP fr 0 fun c0 => slP fr 1 fun b0 => slI fr 5 .i64 fun id0 => slP fr 6 fun s0 => slSl fr 10 fun x0 x1 x2 => slI fr 11 .i64 fun x3 => slI fr 12 .i64 fun x4 => W4 c0 b0 id0 s0 x0 x1 x2 x3 x4 (fun  H => Q (.exit 2) (mkF 102 [(0, (.pointer c0)), (1, (.pointer b0)), (10, (.slice x0 x1 x2)), (11, (.int .i64 x3)), (12, (.int .i64 x4))]) H) E H)
theorem W4.ok : zaa Tryz.prog (sub [0, 1, 0, 0, 1, 1, 0, 0, 1, 1, 1, 0] body) W4.t := by
  have e : (sub [0, 1, 0, 0, 1, 1, 0, 0, 1, 1, 1, 0] body) = .loop (sub [0, 1, 0, 0, 1, 1, 0, 0, 1, 1, 1, 0, 0] body) := by kernel_rfl
  rw [e]
  refine zda (zqa (zea [0, 1, 5, 6, 10, 11, 12] [] (fun i => if i = 2 then [0, 1, 10, 11, 12] else []) (zba hΓ Tryz.hm (.seq (.go) (.block (.seq (.draw ⟨[0, 1, 2, 3, 4, 5, 6, 7, 8, 9, 10, 11, 12, 13, 14], (dl [(0, []), (1, []), (2, []), (3, []), (4, []), (5, []), (6, []), (7, []), (8, [])] (.alt (dl [(9, [3, 8, 2, 7, 1, 6, 0, 5, 4]), (10, []), (11, []), (12, []), (13, []), (14, [13, 11, 9, 0, 1, 2, 3, 4, 5, 6, 7, 8, 10])] .fin) (dl [(13, []), (9, [3, 8, 2, 7, 1, 6, 0, 5, 4]), (10, []), (11, []), (12, []), (14, [13, 11, 9, 0, 1, 2, 3, 4, 5, 6, 7, 8, 10])] .fin))), [15]⟩) (.use J5.t)))) _ (of_eq (show _ = (True ∧ (True ∧ (zaa Tryz.prog (sub [0, 1, 0, 0, 1, 1, 0, 0, 1, 1, 1, 0, 0, 1, 0, 1] body) J5.t))) by kernel_rfl) ⟨trivial, ⟨trivial, J5.ok⟩⟩)))) fun Q E fr H h => ?_
  obtain ⟨hl, h⟩ := zga h
  obtain ⟨c0, q0, h⟩ := zja h
  obtain ⟨b0, q1, h⟩ := zja h
  obtain ⟨id0, q5, h⟩ := zfa h
  obtain ⟨s0, q6, h⟩ := zja h
  obtain ⟨x0, x1, x2, q10, h⟩ := zta h
  obtain ⟨x3, q11, h⟩ := zfa h
  obtain ⟨x4, q12, h⟩ := zfa h
  obtain ⟨m, h⟩ := h.h
  exact ⟨(mkF 102 [(0, (.pointer c0)), (1, (.pointer b0)), (5, (.int .i64 id0)), (6, (.pointer s0)), (10, (.slice x0 x1 x2)), (11, (.int .i64 x3)), (12, (.int .i64 x4))]), fun a ha => ha.mk (Nat.le_of_eq hl.symm) (consQ q0 (consQ q1 (consQ q5 (consQ q6 (consQ q10 (consQ q11 (consQ q12 nilQ))))))), m, cast (zib (B := (fun (RR : Unit → HP) (s : Unit) (H : Heap) => W4.vc c0 b0 id0 s0 x0 x1 x2 x3 x4 (fun  H => Q (.exit 2) (mkF 102 [(0, (.pointer c0)), (1, (.pointer b0)), (10, (.slice x0 x1 x2)), (11, (.int .i64 x3)), (12, (.int .i64 x4))]) H) (fun  H => RR () H) E H)) (m := (fun (s : Unit) => (mkF 102 [(0, (.pointer c0)), (1, (.pointer b0)), (5, (.int .i64 id0)), (6, (.pointer s0)), (10, (.slice x0 x1 x2)), (11, (.int .i64 x3)), (12, (.int .i64 x4))]))) (Q := Q) (E := E) (fun RR s H => by kernel_rfl) m () H) h⟩
def J3.t : CT := fun Q E fr H => lenIs 102 fr (slP fr 0 fun c0 => slP fr 1 fun b0 => slI fr 5 .i64 fun id0 => slP fr 6 fun s0 => slSl fr 10 fun x0 x1 x2 => slI fr 11 .i64 fun x3 => slI fr 12 .i64 fun x4 => J3 c0 b0 id0 s0 x0 x1 x2 x3 x4 (fun  H => Q .normal (mkF 102 [(0, (.pointer c0)), (1, (.pointer b0)), (10, (.slice x0 x1 x2)), (11, (.int .i64 x3)), (12, (.int .i64 x4))]) H) E H)
theorem J3.ok : zaa Tryz.prog (sub [0, 1, 0, 0, 1, 1, 0, 0, 1, 1, 1] body) J3.t := by
  refine zda (zea [0, 1, 10, 11, 12] [] (fun i => []) (zba hΓ Tryz.hm (.block (.use W4.t)) _ (of_eq (show _ = (zaa Tryz.prog (sub [0, 1, 0, 0, 1, 1, 0, 0, 1, 1, 1, 0] body) W4.t) by kernel_rfl) W4.ok))) fun Q E fr H h => ?_
  obtain ⟨hl, h⟩ := zga h
  obtain ⟨c0, q0, h⟩ := zja h
  obtain ⟨b0, q1, h⟩ := zja h
  obtain ⟨id0, q5, h⟩ := zfa h
  obtain ⟨s0, q6, h⟩ := zja h
  obtain ⟨x0, x1, x2, q10, h⟩ := zta h
  obtain ⟨x3, q11, h⟩ := zfa h
  obtain ⟨x4, q12, h⟩ := zfa h
  exact ⟨(mkF 102 [(0, (.pointer c0)), (1, (.pointer b0)), (5, (.int .i64 id0)), (6, (.pointer s0)), (10, (.slice x0 x1 x2)), (11, (.int .i64 x3)), (12, (.int .i64 x4))]), fun a ha => ha.mk (Nat.le_of_eq hl.symm) (consQ q0 (consQ q1 (consQ q5 (consQ q6 (consQ q10 (consQ q11 (consQ q12 nilQ))))))), cast (by kernel_rfl) h.h⟩
def W1.t : CT := fun Q E fr H => lenIs 102 fr (slP fr 0 fun c0 => slP fr 1 fun b0 => slSl fr 10 fun x0 x1 x2 => slI fr 11 .i64 fun x3 => slI fr 12 .i64 fun x4 => W1 c0 b0 x0 x1 x2 x3 x4 (fun  H => Q (.exit 0) (mkF 102 [(0, (.pointer c0)), (1, (.pointer b0))]) H) E H)
theorem W1.ok : zaa Tryz.prog (sub [0, 1, 0] body) W1.t := by
  have e : (sub [0, 1, 0] body) = .loop (sub [0, 1, 0, 0] body) := by kernel_rfl
  rw [e]
  refine zda (zqa (zea [0, 1, 10, 11, 12] [] (fun i => if i = 0 then [0, 1] else []) (zba hΓ Tryz.hm (.seq (.go) (.seq (.go) (.seq (.block (.seq (.go) (.seq (.go) (.seq (.go) (.use J3.t))))) (.use J2.t)))) _ (of_eq (show _ = (True ∧ (True ∧ ((True ∧ (True ∧ (True ∧ (zaa Tryz.prog (sub [0, 1, 0, 0, 1, 1, 0, 0, 1, 1, 1] body) J3.t)))) ∧ (zaa Tryz.prog (sub [0, 1, 0, 0, 1, 1, 1] body) J2.t)))) by kernel_rfl) ⟨trivial, ⟨trivial, ⟨⟨trivial, ⟨trivial, ⟨trivial, J3.ok⟩⟩⟩, J2.ok⟩⟩⟩)))) fun Q E fr H h => ?_
  obtain ⟨hl, h⟩ := zga h
  obtain ⟨c0, q0, h⟩ := zja h
  obtain ⟨b0, q1, h⟩ := zja h
  obtain ⟨x0, x1, x2, q10, h⟩ := zta h
  obtain ⟨x3, q11, h⟩ := zfa h
  obtain ⟨x4, q12, h⟩ := zfa h
  obtain ⟨m, h⟩ := h.h
  exact ⟨(mkF 102 [(0, (.pointer c0)), (1, (.pointer b0)), (10, (.slice x0 x1 x2)), (11, (.int .i64 x3)), (12, (.int .i64 x4))]), fun a ha => ha.mk (Nat.le_of_eq hl.symm) (consQ q0 (consQ q1 (consQ q10 (consQ q11 (consQ q12 nilQ))))), m, cast (zib (B := (fun (RR : Int → HP) (s : Int) (H : Heap) => W1.vc c0 b0 x0 x1 x2 x3 s (fun  H => Q (.exit 0) (mkF 102 [(0, (.pointer c0)), (1, (.pointer b0))]) H) (fun x4 H => RR (x4) H) E H)) (m := (fun (s : Int) => (mkF 102 [(0, (.pointer c0)), (1, (.pointer b0)), (10, (.slice x0 x1 x2)), (11, (.int .i64 x3)), (12, (.int .i64 s))]))) (Q := Q) (E := E) (fun RR s H => by kernel_rfl) m (x4) H) h⟩
def J7.t : CT := fun Q E fr H => lenIs 102 fr (slP fr 0 fun c0 => slP fr 1 fun b0 => J7 c0 b0 (fun  H => Q .normal (mkF 102 [(0, (.pointer c0)), (1, (.pointer b0))]) H) E H)
theorem J7.ok : zaa Tryz.prog (sub [1, 0, 0, 1] body) J7.t := by
  refine zda (zea [0, 1] [] (fun i => []) (zba hΓ Tryz.hm (.go) _ (of_eq_true (by kernel_rfl)))) fun Q E fr H h => ?_
  obtain ⟨hl, h⟩ := zga h
  obtain ⟨c0, q0, h⟩ := zja h
  obtain ⟨b0, q1, h⟩ := zja h
  exact ⟨(mkF 102 [(0, (.pointer c0)), (1, (.pointer b0))]), fun a ha => ha.mk (Nat.le_of_eq hl.symm) (consQ q0 (consQ q1 nilQ)), cast (by kernel_rfl) h.h⟩
def W6.t : CT := fun Q E fr H => lenIs 102 fr (slP fr 0 fun c0 => slP fr 1 fun b0 => W6 c0 b0 (fun  H => Q (.exit 4) (mkF 102 []) H) E H)
theorem W6.ok : zaa Tryz.prog (sub [1, 0] body) W6.t := by
  have e : (sub [1, 0] body) = .loop (sub [1, 0, 0] body) := by kernel_rfl
  rw [e]
  refine zda (zqa (zea [0, 1] [] (fun i => if i = 4 then [] else []) (zba hΓ Tryz.hm (.seq (.go) (.use J7.t)) _ (of_eq (show _ = (True ∧ (zaa Tryz.prog (sub [1, 0, 0, 1] body) J7.t)) by kernel_rfl) ⟨trivial, J7.ok⟩)))) fun Q E fr H h => ?_
  obtain ⟨hl, h⟩ := zga h
  obtain ⟨c0, q0, h⟩ := zja h
  obtain ⟨b0, q1, h⟩ := zja h
  obtain ⟨m, h⟩ := h.h
  exact ⟨(mkF 102 [(0, (.pointer c0)), (1, (.pointer b0))]), fun a ha => ha.mk (Nat.le_of_eq hl.symm) (consQ q0 (consQ q1 nilQ)), m, cast (zib (B := (fun (RR : Unit → HP) (s : Unit) (H : Heap) => W6.vc c0 b0 (fun  H => Q (.exit 4) (mkF 102 []) H) (fun  H => RR () H) E H)) (m := (fun (s : Unit) => (mkF 102 [(0, (.pointer c0)), (1, (.pointer b0))]))) (Q := Q) (E := E) (fun RR s H => by kernel_rfl) m () H) h⟩
theorem ok : zca Tryz.prog 42 F := by
  refine zia hΓ (fn := Tryz.f42) (c := body) (by kernel_rfl) (by kernel_rfl) (by kernel_rfl) (zba hΓ Tryz.hm (.seq (.seq (.go) (.block (.use W1.t))) (.block (.use W6.t))) _ (of_eq (show _ = ((True ∧ (zaa Tryz.prog (sub [0, 1, 0] body) W1.t)) ∧ (zaa Tryz.prog (sub [1, 0] body) W6.t)) by kernel_rfl) ⟨⟨trivial, W1.ok⟩, W6.ok⟩)) fun _ K E H h => ?_
  unfold F at h
  split at h
  · exact cast (by kernel_rfl) h.h
  · exact h.elim
end zdb
namespace zva
noncomputable def body : Code := Tryz.f14.body.getD .skip
def J2.vc (c0 : Option Addr) (now0 : Int) (size0 : Int) (x0 : Bool) (Kn : HP) (Kr : ByteArray → Bool → HP) (E : VH) (h0 : Heap) : Prop :=
 (if x0 = true then
 zdd.c c0 now0 Kr E h0
 else
 nilc c0 fun a0 =>
 ldB h0 (a0.add 6) fun x3 =>
 (if x3 = true then
 nilc c0 fun a1 =>
 stc h0 (a1.add 6) (.bool false) fun h2 =>
 nilc c0 fun a2 =>
 ldI h2 .i64 (a2.add 5) fun x4 =>
 newB (.cells #[(.int .i64 28), (.int .i64 0), (.int .i64 0), (.bool false), (.int .i64 x4), (.string (⟨#[]⟩ : ByteArray)), (.slice none 0 0)] 83) (fun b0 h3 =>
 zae.c c0 (some (⟨b0, 0, none⟩ : Addr)) 1 1 size0 (fun x5 h4 =>
 Kr x5 true h4) E h3) h2
 else
 nilc c0 fun a3 =>
 ldI h0 .i64 (a3.add 4) fun x6 =>
 (if (x6 == 3) = true then
 Kr (⟨#[]⟩ : ByteArray) false h0
 else
 Kn h0)))
structure J2 (c0 : Option Addr) (now0 : Int) (size0 : Int) (x0 : Bool) (Kn : HP) (Kr : ByteArray → Bool → HP) (E : VH) (H : Heap) : Prop where
  h : J2.vc c0 now0 size0 x0 Kn Kr E H
def J1.vc (c0 : Option Addr) (now0 : Int) (size0 : Int) (x0 : Bool) (Kn : HP) (Kr : ByteArray → Bool → HP) (E : VH) (h0 : Heap) : Prop :=
 (if x0 = true then
 Kr (⟨#[]⟩ : ByteArray) false h0
 else
 nilc c0 fun a0 =>
 ldI h0 .i64 (a0.add 4) fun x1 =>
 (if (x1 == 1) = true then
 J2 c0 now0 size0 (x1 == 1) Kn Kr E h0
 else
 nilc c0 fun a1 =>
 ldI h0 .i64 (a1.add 4) fun x4 =>
 (if (x4 == 2) = true then
 nilc c0 fun a2 =>
 ldB h0 (a2.add 9) fun x5 =>
 J2 c0 now0 size0 x5 Kn Kr E h0
 else
 J2 c0 now0 size0 false Kn Kr E h0)))
structure J1 (c0 : Option Addr) (now0 : Int) (size0 : Int) (x0 : Bool) (Kn : HP) (Kr : ByteArray → Bool → HP) (E : VH) (H : Heap) : Prop where
  h : J1.vc c0 now0 size0 x0 Kn Kr E H
def J5.vc (c0 : Option Addr) (size0 : Int) (b0 : Addr) (Kr : ByteArray → Bool → HP) (E : VH) (h0 : Heap) : Prop :=
 nilc (some b0) fun a0 =>
 ldSl h0 (a0.add 0) fun x0 x1 x2 =>
 zae.c c0 x0 x1 x2 size0 (fun x3 h1 =>
 Kr x3 true h1) E h0
structure J5 (c0 : Option Addr) (size0 : Int) (b0 : Addr) (Kr : ByteArray → Bool → HP) (E : VH) (H : Heap) : Prop where
  h : J5.vc c0 size0 b0 Kr E H
def J4.vc (c0 : Option Addr) (now0 : Int) (size0 : Int) (b0 : Addr) (Kr : ByteArray → Bool → HP) (E : VH) (h0 : Heap) : Prop :=
 nilc (some b0) fun a0 =>
 ldSl h0 (a0.add 0) fun x0 x1 x2 =>
 (if ((x1 : Int) == 0) = true then
 Kr (⟨#[]⟩ : ByteArray) false h0
 else
 nilc (some b0) fun a1 =>
 ldB h0 (a1.add 2) fun x3 =>
 (if x3 = true then
 nilc c0 fun a2 =>
 ldP h0 (a2.add 16) fun x4 =>
 nilc c0 fun a3 =>
 ldI h0 .i64 (a3.add 11) fun x5 =>
 zoc.c x4 x5 now0 size0 (fun x6 h1 =>
 nilc c0 fun a4 =>
 ldM h1 (a4.add 18) fun x7 =>
 nilc c0 fun a5 =>
 ldI h1 .i64 (a5.add 11) fun x8 =>
 nilc (some b0) fun a6 =>
 ldSl h1 (a6.add 0) fun x9 x10 x11 =>
 putW (.int .i64) x7 (.int .i64 x8) (.slice x9 x10 x11) (fun h2 =>
 J5 c0 size0 b0 Kr E h2) h1) E h0
 else
 J5 c0 size0 b0 Kr E h0))
structure J4 (c0 : Option Addr) (now0 : Int) (size0 : Int) (b0 : Addr) (Kr : ByteArray → Bool → HP) (E : VH) (H : Heap) : Prop where
  h : J4.vc c0 now0 size0 b0 Kr E H
def J3.vc (c0 : Option Addr) (now0 : Int) (size0 : Int) (Kr : ByteArray → Bool → HP) (E : VH) (h0 : Heap) : Prop :=
 nilc c0 fun a0 =>
 ldP h0 (a0.add 16) fun x0 =>
 zjd.c x0 now0 (fun x1 x2 x3 h1 =>
 zkf.c c0 x1 x2 x3 (fun h2 =>
 newB (.cells #[(.slice none 0 0), (.int .i64 (IntKind.i64.wrap (size0 - 29))), (.bool false)] 90) (fun b0 h3 =>
 zcb.c c0 (some (⟨b0, 0, none⟩ : Addr)) (fun h4 =>
 nilc c0 fun a1 =>
 ldP h4 (a1.add 16) fun x4 =>
 zwc.c x4 (fun x5 x6 h5 =>
 nilc c0 fun a2 =>
 ldP h5 (a2.add 16) fun x7 =>
 zxd.c x7 (fun x8 h6 =>
 (if (decide ((IntKind.i64.wrap (x6 + size0)) ≤ x8)) = true then
 zdb.c c0 (some (⟨b0, 0, none⟩ : Addr)) (fun h7 =>
 J4 c0 now0 size0 (⟨b0, 0, none⟩ : Addr) Kr E h7) E h6
 else
 J4 c0 now0 size0 (⟨b0, 0, none⟩ : Addr) Kr E h6)) E h5) E h4) E h3) h2) E h1) E h0
structure J3 (c0 : Option Addr) (now0 : Int) (size0 : Int) (Kr : ByteArray → Bool → HP) (E : VH) (H : Heap) : Prop where
  h : J3.vc c0 now0 size0 Kr E H
def vc (c0 : Option Addr) (now0 : Int) (size0 : Int) (K : ByteArray → Bool → HP) (E : VH) (h0 : Heap) : Prop :=
 (if (decide (size0 < 128)) = true then
 J1 c0 now0 size0 true (fun h1 =>
 J3 c0 now0 size0 K E h1) K E h0
 else
 J1 c0 now0 size0 (decide (size0 > 1200)) (fun h4 =>
 J3 c0 now0 size0 K E h4) K E h0)
structure c (c0 : Option Addr) (now0 : Int) (size0 : Int) (K : ByteArray → Bool → HP) (E : VH) (H : Heap) : Prop where
  h : vc c0 now0 size0 (fun r0_0 r1_0 H => ∃ H', Heap.Le H' H ∧ K r0_0 r1_0 H') E H
def F : FT := fun args K E H => match args with
  | [(.pointer c0), (.int .i64 now0), (.int .i64 size0)] => c c0 now0 size0 (fun r0_0 r1_0 H => K (.tuple #[(.string r0_0), (.bool r1_0)]) H) E H
  | _ => False
noncomputable def Γ : FuncId → Option FT := Γof [(35, zdd.F), (36, zae.F), (37, zkf.F), (38, zjd.F), (39, zcb.F), (40, zwc.F), (41, zxd.F), (42, zdb.F), (43, zoc.F)]
theorem hΓ : ∀ f F, Γ f = some F → zca Tryz.prog f F := Γof_ok (consQ zdd.ok (consQ zae.ok (consQ zkf.ok (consQ zjd.ok (consQ zcb.ok (consQ zwc.ok (consQ zxd.ok (consQ zdb.ok (consQ zoc.ok (nilQ))))))))))
def J2.t : CT := fun Q E fr H => lenIs 138 fr (slP fr 0 fun c0 => slI fr 1 .i64 fun now0 => slI fr 2 .i64 fun size0 => slB fr 18 fun x0 => J2 c0 now0 size0 x0 (fun  H => Q .normal (mkF 138 [(0, (.pointer c0)), (1, (.int .i64 now0)), (2, (.int .i64 size0))]) H) (fun y6_0 y7_0 H => Q .ret (mkF 138 [(6, (.string y6_0)), (7, (.bool y7_0))]) H) E H)
theorem J2.ok : zaa Tryz.prog (sub [1, 0, 0, 1, 1, 1] body) J2.t := by
  refine zda (zea [0, 1, 2] [6, 7] (fun i => []) (zba hΓ Tryz.hm (.go) _ (of_eq_true (by kernel_rfl)))) fun Q E fr H h => ?_
  obtain ⟨hl, h⟩ := zga h
  obtain ⟨c0, q0, h⟩ := zja h
  obtain ⟨now0, q1, h⟩ := zfa h
  obtain ⟨size0, q2, h⟩ := zfa h
  obtain ⟨x0, q18, h⟩ := zwa h
  exact ⟨(mkF 138 [(0, (.pointer c0)), (1, (.int .i64 now0)), (2, (.int .i64 size0)), (18, (.bool x0))]), fun a ha => ha.mk (Nat.le_of_eq hl.symm) (consQ q0 (consQ q1 (consQ q2 (consQ q18 nilQ)))), cast (by kernel_rfl) h.h⟩
def J1.t : CT := fun Q E fr H => lenIs 138 fr (slP fr 0 fun c0 => slI fr 1 .i64 fun now0 => slI fr 2 .i64 fun size0 => slB fr 11 fun x0 => J1 c0 now0 size0 x0 (fun  H => Q .normal (mkF 138 [(0, (.pointer c0)), (1, (.int .i64 now0)), (2, (.int .i64 size0))]) H) (fun y6_0 y7_0 H => Q .ret (mkF 138 [(6, (.string y6_0)), (7, (.bool y7_0))]) H) E H)
theorem J1.ok : zaa Tryz.prog (sub [1, 0, 0, 1] body) J1.t := by
  refine zda (zea [0, 1, 2] [6, 7] (fun i => []) (zba hΓ Tryz.hm (.cond (.go) (.seq (.go) (.use J2.t))) _ (of_eq (show _ = (True ∧ (True ∧ (zaa Tryz.prog (sub [1, 0, 0, 1, 1, 1] body) J2.t))) by kernel_rfl) ⟨trivial, ⟨trivial, J2.ok⟩⟩))) fun Q E fr H h => ?_
  obtain ⟨hl, h⟩ := zga h
  obtain ⟨c0, q0, h⟩ := zja h
  obtain ⟨now0, q1, h⟩ := zfa h
  obtain ⟨size0, q2, h⟩ := zfa h
  obtain ⟨x0, q11, h⟩ := zwa h
  exact ⟨(mkF 138 [(0, (.pointer c0)), (1, (.int .i64 now0)), (2, (.int .i64 size0)), (11, (.bool x0))]), fun a ha => ha.mk (Nat.le_of_eq hl.symm) (consQ q0 (consQ q1 (consQ q2 (consQ q11 nilQ)))), cast (by kernel_rfl) h.h⟩
def J5.t : CT := fun Q E fr H => lenIs 138 fr (slP fr 0 fun c0 => slI fr 2 .i64 fun size0 => slPA fr 8 fun b0 => J5 c0 size0 b0 (fun y6_0 y7_0 H => Q .ret (mkF 138 [(6, (.string y6_0)), (7, (.bool y7_0))]) H) E H)
theorem J5.ok : zaa Tryz.prog (sub [1, 1, 1, 1, 1, 1, 1, 1] body) J5.t := by
  refine zda (zea [] [6, 7] (fun i => []) (zba hΓ Tryz.hm (.go) _ (of_eq_true (by kernel_rfl)))) fun Q E fr H h => ?_
  obtain ⟨hl, h⟩ := zga h
  obtain ⟨c0, q0, h⟩ := zja h
  obtain ⟨size0, q2, h⟩ := zfa h
  obtain ⟨b0, q8, h⟩ := zua h
  exact ⟨(mkF 138 [(0, (.pointer c0)), (2, (.int .i64 size0)), (8, (.pointer (some b0)))]), fun a ha => ha.mk (Nat.le_of_eq hl.symm) (consQ q0 (consQ q2 (consQ q8 nilQ))), cast (by kernel_rfl) h.h⟩
def J4.t : CT := fun Q E fr H => lenIs 138 fr (slP fr 0 fun c0 => slI fr 1 .i64 fun now0 => slI fr 2 .i64 fun size0 => slPA fr 8 fun b0 => J4 c0 now0 size0 b0 (fun y6_0 y7_0 H => Q .ret (mkF 138 [(6, (.string y6_0)), (7, (.bool y7_0))]) H) E H)
theorem J4.ok : zaa Tryz.prog (sub [1, 1, 1, 1, 1, 1] body) J4.t := by
  refine zda (zea [] [6, 7] (fun i => []) (zba hΓ Tryz.hm (.seq (.go) (.seq (.seq (.go) (.cond (.seq (.draw ⟨[0, 1, 2, 3, 4, 5, 6, 7, 8, 9, 10], (dl [(0, []), (1, []), (2, []), (3, []), (4, []), (5, []), (6, []), (7, []), (8, []), (9, []), (10, [3, 7, 8, 9, 2, 6, 1, 5, 0, 4])] .fin), []⟩) (.draw ⟨[0, 1, 2, 3, 4, 5, 6, 7, 8, 9, 10, 11, 12], (dl [(0, []), (1, []), (2, []), (3, []), (4, []), (5, []), (6, []), (7, []), (8, []), (9, []), (10, []), (11, []), (12, [3, 7, 11, 0, 1, 2, 4, 5, 6, 8, 9, 10])] .fin), []⟩)) (.go))) (.use J5.t))) _ (of_eq (show _ = (True ∧ ((True ∧ ((True ∧ True) ∧ True)) ∧ (zaa Tryz.prog (sub [1, 1, 1, 1, 1, 1, 1, 1] body) J5.t))) by kernel_rfl) ⟨trivial, ⟨⟨trivial, ⟨⟨trivial, trivial⟩, trivial⟩⟩, J5.ok⟩⟩))) fun Q E fr H h => ?_
  obtain ⟨hl, h⟩ := zga h
  obtain ⟨c0, q0, h⟩ := zja h
  obtain ⟨now0, q1, h⟩ := zfa h
  obtain ⟨size0, q2, h⟩ := zfa h
  obtain ⟨b0, q8, h⟩ := zua h
  exact ⟨(mkF 138 [(0, (.pointer c0)), (1, (.int .i64 now0)), (2, (.int .i64 size0)), (8, (.pointer (some b0)))]), fun a ha => ha.mk (Nat.le_of_eq hl.symm) (consQ q0 (consQ q1 (consQ q2 (consQ q8 nilQ)))), cast (by kernel_rfl) h.h⟩
def J3.t : CT := fun Q E fr H => lenIs 138 fr (slP fr 0 fun c0 => slI fr 1 .i64 fun now0 => slI fr 2 .i64 fun size0 => J3 c0 now0 size0 (fun y6_0 y7_0 H => Q .ret (mkF 138 [(6, (.string y6_0)), (7, (.bool y7_0))]) H) E H)
theorem J3.ok : zaa Tryz.prog (sub [1, 1] body) J3.t := by
  refine zda (zea [] [6, 7] (fun i => []) (zba hΓ Tryz.hm (.seq (.go) (.seq (.go) (.seq (.go) (.seq (.go) (.use J4.t))))) _ (of_eq (show _ = (True ∧ (True ∧ (True ∧ (True ∧ (zaa Tryz.prog (sub [1, 1, 1, 1, 1, 1] body) J4.t))))) by kernel_rfl) ⟨trivial, ⟨trivial, ⟨trivial, ⟨trivial, J4.ok⟩⟩⟩⟩))) fun Q E fr H h => ?_
  obtain ⟨hl, h⟩ := zga h
  obtain ⟨c0, q0, h⟩ := zja h
  obtain ⟨now0, q1, h⟩ := zfa h
  obtain ⟨size0, q2, h⟩ := zfa h
  exact ⟨(mkF 138 [(0, (.pointer c0)), (1, (.int .i64 now0)), (2, (.int .i64 size0))]), fun a ha => ha.mk (Nat.le_of_eq hl.symm) (consQ q0 (consQ q1 (consQ q2 nilQ))), cast (by kernel_rfl) h.h⟩
theorem ok : zca Tryz.prog 14 F := by
  refine zia hΓ (fn := Tryz.f14) (c := body) (by kernel_rfl) (by kernel_rfl) (by kernel_rfl) (zba hΓ Tryz.hm (.seq (.go) (.seq (.block (.seq (.go) (.use J1.t))) (.use J3.t))) _ (of_eq (show _ = (True ∧ ((True ∧ (zaa Tryz.prog (sub [1, 0, 0, 1] body) J1.t)) ∧ (zaa Tryz.prog (sub [1, 1] body) J3.t))) by kernel_rfl) ⟨trivial, ⟨⟨trivial, J1.ok⟩, J3.ok⟩⟩)) fun _ K E H h => ?_
  unfold F at h
  split at h
  · exact cast (by kernel_rfl) h.h
  · exact h.elim
end zva
namespace zsc
noncomputable def body : Code := Tryz.f65.body.getD .skip
def W1.vc (n0 : Int) (x0 : Option Addr) (x1 : Nat) (x2 : Nat) (x3 : Int) (x4 : Int) (Kx0 : Int → HP) (RR : Int → Int → HP) (E : VH) (h0 : Heap) : Prop :=
 (if (decide (x4 < x3)) = true then
 nilc x0 fun a0 => (0 : Int) ≤ x4 ∧ x4 < (x1 : Int) ∧
 ldI h0 .u8 (a0.add (x4.toNat * 1)) fun x5 =>
 (0 : Int) ≤ 8 ∧
 RR (bits .or .i64 (shlI .i64 n0 8) (IntKind.i64.wrap x5)) (IntKind.i64.wrap (x4 + 1)) h0
 else
 Kx0 n0 h0)
structure W1 (n0 : Int) (x0 : Option Addr) (x1 : Nat) (x2 : Nat) (x3 : Int) (x4 : Int) (Kx0 : Int → HP) (E : VH) (H : Heap) : Prop where
  h : Loop (fun (RR : Int × Int → HP) (s : Int × Int) (H : Heap) => W1.vc s.1 x0 x1 x2 x3 s.2 Kx0 (fun n0 x4 H => RR (n0, x4) H) E H) (n0, x4) H
def vc (p0 : ByteArray) (K : Int → HP) (E : VH) (h0 : Heap) : Prop :=
 (0 : Int) ≤ 9 ∧ 9 ≤ (13 : Int) ∧ 13 ≤ (p0.size : Int) ∧
 ∀ j0, newB (.cells ((zxb (p0.extract 9 13)).toArray ++ Array.replicate j0 (.int .u8 0)) 5 ((p0.extract 9 13).size + j0, (p0.extract 9 13).size + j0 + 1)) (fun b0 h1 =>
 W1 0 (some (⟨b0, 0, none⟩ : Addr)) (p0.extract 9 13).size ((p0.extract 9 13).size + j0) ((p0.extract 9 13).size : Int) 0 K E h1) h0
structure c (p0 : ByteArray) (K : Int → HP) (E : VH) (H : Heap) : Prop where
  h : vc p0 (fun r0_0 H => ∃ H', Heap.Le H' H ∧ K r0_0 H') E H
def F : FT := fun args K E H => match args with
  | [(.string p0)] => c p0 (fun r0_0 H => K (.int .i64 r0_0) H) E H
  | _ => False
noncomputable def Γ : FuncId → Option FT := Γof []
theorem hΓ : ∀ f F, Γ f = some F → zca Tryz.prog f F := Γof_ok (nilQ)
def W1.t : CT := fun Q E fr H => lenIs 20 fr (slI fr 2 .i64 fun n0 => slSl fr 7 fun x0 x1 x2 => slI fr 8 .i64 fun x3 => slI fr 9 .i64 fun x4 => W1 n0 x0 x1 x2 x3 x4 (fun y2_0 H => Q (.exit 0) (mkF 20 [(2, (.int .i64 y2_0))]) H) E H)
theorem W1.ok : zaa Tryz.prog (sub [1, 0, 1, 0] body) W1.t := by
  have e : (sub [1, 0, 1, 0] body) = .loop (sub [1, 0, 1, 0, 0] body) := by kernel_rfl
  rw [e]
  refine zda (zqa (zea [2, 7, 8, 9] [] (fun i => if i = 0 then [2] else []) (zba hΓ Tryz.hm (.go) _ (of_eq_true (by kernel_rfl))))) fun Q E fr H h => ?_
  obtain ⟨hl, h⟩ := zga h
  obtain ⟨n0, q2, h⟩ := zfa h
  obtain ⟨x0, x1, x2, q7, h⟩ := zta h
  obtain ⟨x3, q8, h⟩ := zfa h
  obtain ⟨x4, q9, h⟩ := zfa h
  obtain ⟨m, h⟩ := h.h
  exact ⟨(mkF 20 [(2, (.int .i64 n0)), (7, (.slice x0 x1 x2)), (8, (.int .i64 x3)), (9, (.int .i64 x4))]), fun a ha => ha.mk (Nat.le_of_eq hl.symm) (consQ q2 (consQ q7 (consQ q8 (consQ q9 nilQ)))), m, cast (zib (B := (fun (RR : Int × Int → HP) (s : Int × Int) (H : Heap) => W1.vc s.1 x0 x1 x2 x3 s.2 (fun y2_0 H => Q (.exit 0) (mkF 20 [(2, (.int .i64 y2_0))]) H) (fun n0 x4 H => RR (n0, x4) H) E H)) (m := (fun (s : Int × Int) => (mkF 20 [(2, (.int .i64 s.1)), (7, (.slice x0 x1 x2)), (8, (.int .i64 x3)), (9, (.int .i64 s.2))]))) (Q := Q) (E := E) (fun RR s H => by kernel_rfl) m (n0, x4) H) h⟩
theorem ok : zca Tryz.prog 65 F := by
  refine zia hΓ (fn := Tryz.f65) (c := body) (by kernel_rfl) (by kernel_rfl) (by kernel_rfl) (zba hΓ Tryz.hm (.seq (.go) (.seq (.seq (.go) (.block (.use W1.t))) (.go))) _ (of_eq (show _ = (True ∧ ((True ∧ (zaa Tryz.prog (sub [1, 0, 1, 0] body) W1.t)) ∧ True)) by kernel_rfl) ⟨trivial, ⟨⟨trivial, W1.ok⟩, trivial⟩⟩)) fun _ K E H h => ?_
  unfold F at h
  split at h
  · exact cast (by kernel_rfl) h.h
  · exact h.elim
end zsc
namespace zfe
noncomputable def body : Code := Tryz.f63.body.getD .skip
def vc (key0 : Option Addr) (p0 : ByteArray) (K : ByteArray → Int → HP) (E : VH) (h0 : Heap) : Prop :=
 (0 : Int) ≤ 13 ∧ 13 ≤ (p0.size : Int) ∧
 (0 : Int) ≤ 13 ∧ 13 ≤ (p0.size : Int) ∧ p0.size ≤ p0.size ∧
 zsc.c p0 (fun x0 h1 =>
 zxe.c key0 x0 (p0.extract 0 13) (p0.extract 13 p0.size) K E h1) E h0
structure c (key0 : Option Addr) (p0 : ByteArray) (K : ByteArray → Int → HP) (E : VH) (H : Heap) : Prop where
  h : vc key0 p0 (fun r0_0 r1_0 H => ∃ H', Heap.Le H' H ∧ K r0_0 r1_0 H') E H
def F : FT := fun args K E H => match args with
  | [(.pointer key0), (.string p0)] => c key0 p0 (fun r0_0 r1_0 H => K (.tuple #[(.string r0_0), (.int .i64 r1_0)]) H) E H
  | _ => False
noncomputable def Γ : FuncId → Option FT := Γof [(65, zsc.F), (116, zxe.F)]
theorem hΓ : ∀ f F, Γ f = some F → zca Tryz.prog f F := Γof_ok (consQ zsc.ok (consQ zxe.ok (nilQ)))
theorem ok : zca Tryz.prog 63 F := by
  refine zia hΓ (fn := Tryz.f63) (c := body) (by kernel_rfl) (by kernel_rfl) (by kernel_rfl) (zba hΓ Tryz.hm (.seq (.go) (.seq (.draw ⟨[0, 1, 2, 3, 4, 5, 6, 7, 8, 9], (dl [(0, []), (1, []), (3, []), (4, []), (5, []), (6, []), (2, [1]), (7, [0, 2, 4, 6, 1, 3, 5]), (8, []), (9, [])] .fin), [10, 11]⟩) (.go))) _ (of_eq (show _ = (True ∧ (True ∧ True)) by kernel_rfl) ⟨trivial, ⟨trivial, trivial⟩⟩)) fun _ K E H h => ?_
  unfold F at h
  split at h
  · exact cast (by kernel_rfl) h.h
  · exact h.elim
end zfe
namespace zbc
noncomputable def body : Code := Tryz.f28.body.getD .skip
def J1.vc (s0 : ByteArray) (x0 : Bool) (Kn : HP) (Kr : ByteArray → Int → HP) (E : VH) (h0 : Heap) : Prop :=
 (if x0 = true then
 Kr (⟨#[]⟩ : ByteArray) 3 h0
 else
 Kn h0)
structure J1 (s0 : ByteArray) (x0 : Bool) (Kn : HP) (Kr : ByteArray → Int → HP) (E : VH) (H : Heap) : Prop where
  h : J1.vc s0 x0 Kn Kr E H
def J2.vc (s0 : ByteArray) (Kr : ByteArray → Int → HP) (E : VH) (h0 : Heap) : Prop :=
 Kr s0 0 h0
structure J2 (s0 : ByteArray) (Kr : ByteArray → Int → HP) (E : VH) (H : Heap) : Prop where
  h : J2.vc s0 Kr E H
def vc (secret0 : ByteArray) (p0 : ByteArray) (K : ByteArray → Int → HP) (E : VH) (h0 : Heap) : Prop :=
 ztd.c secret0 (fun x0 h1 =>
 zfe.c x0 p0 (fun x1 x2 h2 =>
 (if (x2 != 0) = true then
 K (⟨#[]⟩ : ByteArray) x2 h2
 else
 zsc.c p0 (fun x3 h3 =>
 (if (x3 != 0) = true then
 J1 x1 true (fun h4 =>
 J2 x1 K E h4) K E h3
 else
 J1 x1 ((x1.size : Int) != 16) (fun h7 =>
 J2 x1 K E h7) K E h3)) E h2)) E h1) E h0
structure c (secret0 : ByteArray) (p0 : ByteArray) (K : ByteArray → Int → HP) (E : VH) (H : Heap) : Prop where
  h : vc secret0 p0 (fun r0_0 r1_0 H => ∃ H', Heap.Le H' H ∧ K r0_0 r1_0 H') E H
def F : FT := fun args K E H => match args with
  | [(.string secret0), (.string p0)] => c secret0 p0 (fun r0_0 r1_0 H => K (.tuple #[(.string r0_0), (.int .i64 r1_0)]) H) E H
  | _ => False
noncomputable def Γ : FuncId → Option FT := Γof [(63, zfe.F), (64, ztd.F), (65, zsc.F)]
theorem hΓ : ∀ f F, Γ f = some F → zca Tryz.prog f F := Γof_ok (consQ zfe.ok (consQ ztd.ok (consQ zsc.ok (nilQ))))
def J1.t : CT := fun Q E fr H => lenIs 29 fr (slS fr 6 fun s0 => slB fr 19 fun x0 => J1 s0 x0 (fun  H => Q .normal (mkF 29 [(6, (.string s0))]) H) (fun y4_0 y5_0 H => Q .ret (mkF 29 [(4, (.string y4_0)), (5, (.int .i64 y5_0))]) H) E H)
theorem J1.ok : zaa Tryz.prog (sub [1, 1, 0, 0, 1, 1, 1] body) J1.t := by
  refine zda (zea [6] [4, 5] (fun i => []) (zba hΓ Tryz.hm (.go) _ (of_eq_true (by kernel_rfl)))) fun Q E fr H h => ?_
  obtain ⟨hl, h⟩ := zga h
  obtain ⟨s0, q6, h⟩ := zfb h
  obtain ⟨x0, q19, h⟩ := zwa h
  exact ⟨(mkF 29 [(6, (.string s0)), (19, (.bool x0))]), fun a ha => ha.mk (Nat.le_of_eq hl.symm) (consQ q6 (consQ q19 nilQ)), cast (by kernel_rfl) h.h⟩
def J2.t : CT := fun Q E fr H => lenIs 29 fr (slS fr 6 fun s0 => J2 s0 (fun y4_0 y5_0 H => Q .ret (mkF 29 [(4, (.string y4_0)), (5, (.int .i64 y5_0))]) H) E H)
theorem J2.ok : zaa Tryz.prog (sub [1, 1, 1] body) J2.t := by
  refine zda (zea [] [4, 5] (fun i => []) (zba hΓ Tryz.hm (.go) _ (of_eq_true (by kernel_rfl)))) fun Q E fr H h => ?_
  obtain ⟨hl, h⟩ := zga h
  obtain ⟨s0, q6, h⟩ := zfb h
  exact ⟨(mkF 29 [(6, (.string s0))]), fun a ha => ha.mk (Nat.le_of_eq hl.symm) (consQ q6 nilQ), cast (by kernel_rfl) h.h⟩
theorem ok : zca Tryz.prog 28 F := by
  refine zia hΓ (fn := Tryz.f28) (c := body) (by kernel_rfl) (by kernel_rfl) (by kernel_rfl) (zba hΓ Tryz.hm (.seq (.go) (.seq (.go) (.seq (.block (.seq (.go) (.cond (.go) (.seq (.go) (.use J1.t))))) (.use J2.t)))) _ (of_eq (show _ = (True ∧ (True ∧ ((True ∧ (True ∧ (True ∧ (zaa Tryz.prog (sub [1, 1, 0, 0, 1, 1, 1] body) J1.t)))) ∧ (zaa Tryz.prog (sub [1, 1, 1] body) J2.t)))) by kernel_rfl) ⟨trivial, ⟨trivial, ⟨⟨trivial, ⟨trivial, ⟨trivial, J1.ok⟩⟩⟩, J2.ok⟩⟩⟩)) fun _ K E H h => ?_
  unfold F at h
  split at h
  · exact cast (by kernel_rfl) h.h
  · exact h.elim
end zbc
namespace zgf
noncomputable def body : Code := Tryz.f8.body.getD .skip
def vc (psk0 : ByteArray) (p0 : ByteArray) (K : ByteArray → ByteArray → Int → HP) (E : VH) (h0 : Heap) : Prop :=
 (if (decide ((p0.size : Int) < 29)) = true then
 K (⟨#[]⟩ : ByteArray) (⟨#[]⟩ : ByteArray) 1 h0
 else
 (0 : Int) ≤ 0 ∧ 0 < (p0.size : Int) ∧
 (if ((bt p0 0) != 1) = true then
 K (⟨#[]⟩ : ByteArray) (⟨#[]⟩ : ByteArray) 5 h0
 else
 znb.c psk0 (⟨#[104, 101, 108, 108, 111]⟩ : ByteArray) (⟨#[]⟩ : ByteArray) (fun x0 h1 =>
 zbc.c x0 p0 (fun x1 x2 h2 =>
 (if (x2 != 0) = true then
 K (⟨#[]⟩ : ByteArray) (⟨#[]⟩ : ByteArray) x2 h2
 else
 (0 : Int) ≤ 1 ∧ 1 ≤ (9 : Int) ∧ 9 ≤ (p0.size : Int) ∧
 K (p0.extract 1 9) x1 0 h2)) E h1) E h0))
structure c (psk0 : ByteArray) (p0 : ByteArray) (K : ByteArray → ByteArray → Int → HP) (E : VH) (H : Heap) : Prop where
  h : vc psk0 p0 (fun r0_0 r1_0 r2_0 H => ∃ H', Heap.Le H' H ∧ K r0_0 r1_0 r2_0 H') E H
def F : FT := fun args K E H => match args with
  | [(.string psk0), (.string p0)] => c psk0 p0 (fun r0_0 r1_0 r2_0 H => K (.tuple #[(.string r0_0), (.string r1_0), (.int .i64 r2_0)]) H) E H
  | _ => False
noncomputable def Γ : FuncId → Option FT := Γof [(28, zbc.F), (29, znb.F)]
theorem hΓ : ∀ f F, Γ f = some F → zca Tryz.prog f F := Γof_ok (consQ zbc.ok (consQ znb.ok (nilQ)))
theorem ok : zca Tryz.prog 8 F := by
  refine zia hΓ (fn := Tryz.f8) (c := body) (by kernel_rfl) (by kernel_rfl) (by kernel_rfl) (zba hΓ Tryz.hm (.go) _ (of_eq_true (by kernel_rfl))) fun _ K E H h => ?_
  unfold F at h
  split at h
  · exact cast (by kernel_rfl) h.h
  · exact h.elim
end zgf
namespace zcd
noncomputable def body : Code := Tryz.f34.body.getD .skip
def vc (c0 : Option Addr) (ours0 : ByteArray) (K : HP) (E : VH) (h0 : Heap) : Prop :=
 nilc c0 fun a0 =>
 stc h0 (a0.add 21) (.string ours0) fun h1 =>
 nilc c0 fun a1 =>
 stc h1 (a1.add 4) (.int .i64 2) fun h2 =>
 nilc c0 fun a2 =>
 ldS h2 (a2.add 0) fun x0 =>
 nilc c0 fun a3 =>
 ldS h2 (a3.add 3) fun x1 =>
 x1.size + ours0.size ≤ 9223372036854775807 ∧
 nilc c0 fun a4 =>
 ldS h2 (a4.add 0) fun x2 =>
 nilc c0 fun a5 =>
 ldS h2 (a5.add 3) fun x3 =>
 x3.size + ours0.size ≤ 9223372036854775807 ∧
 znb.c x0 (⟨#[117, 112]⟩ : ByteArray) (x1 ++ ours0) (fun x4 h3 =>
 (ldS h3 (a5.add 3) fun x5 =>
 eqv h3 h3 (some (.string x3)) (.string x5)) ∧
 (ldS h3 (a4.add 0) fun x6 =>
 eqv h3 h3 (some (.string x2)) (.string x6)) ∧
 ztd.c x4 (fun x7 h4 =>
 (ldS h4 (a5.add 3) fun x8 =>
 eqv h4 h4 (some (.string x3)) (.string x8)) ∧
 (ldS h4 (a4.add 0) fun x9 =>
 eqv h4 h4 (some (.string x2)) (.string x9)) ∧
 znb.c x2 (⟨#[100, 111, 119, 110]⟩ : ByteArray) (x3 ++ ours0) (fun x10 h5 =>
 ztd.c x10 (fun x11 h6 =>
 nilc c0 fun a6 =>
 stc h6 (a6.add 12) (.pointer x11) fun h7 =>
 nilc c0 fun a7 =>
 stc h7 (a7.add 13) (.pointer x7) fun h8 =>
 nilc c0 fun a8 =>
 ldB h8 (a8.add 2) fun x12 =>
 (if x12 = true then
 nilc c0 fun a9 =>
 stc h8 (a9.add 12) (.pointer x7) fun h9 =>
 nilc c0 fun a10 =>
 stc h9 (a10.add 13) (.pointer x11) fun h10 =>
 K h10
 else
 K h8)) E h5) E h4) E h3) E h2
structure c (c0 : Option Addr) (ours0 : ByteArray) (K : HP) (E : VH) (H : Heap) : Prop where
  h : vc c0 ours0 (fun  H => ∃ H', Heap.Le H' H ∧ K  H') E H
def F : FT := fun args K E H => match args with
  | [(.pointer c0), (.string ours0)] => c c0 ours0 (fun  H => K (.tuple #[]) H) E H
  | _ => False
noncomputable def Γ : FuncId → Option FT := Γof [(29, znb.F), (64, ztd.F)]
theorem hΓ : ∀ f F, Γ f = some F → zca Tryz.prog f F := Γof_ok (consQ znb.ok (consQ ztd.ok (nilQ)))
theorem ok : zca Tryz.prog 34 F := by
  refine zia hΓ (fn := Tryz.f34) (c := body) (by kernel_rfl) (by kernel_rfl) (by kernel_rfl) (zba hΓ Tryz.hm (.seq (.go) (.seq (.draw ⟨[0, 1, 2, 3, 4, 5, 6, 7, 8, 9, 10, 11, 12, 13, 14, 15, 16, 17, 18, 19, 20, 21, 22, 23, 24], (dl [(0, []), (1, []), (2, []), (3, []), (4, []), (5, []), (6, []), (7, []), (8, []), (9, []), (12, []), (13, []), (14, []), (15, []), (16, []), (17, []), (18, []), (19, []), (20, []), (21, []), (10, [3, 9, 2, 7, 8, 1, 6, 0, 5, 4]), (11, [10, 3, 9, 2, 7, 8, 1, 6, 0, 5, 4]), (22, [15, 21, 11, 14, 19, 20, 10, 13, 18, 3, 9, 12, 17, 2, 7, 8, 16, 1, 6, 0, 5, 4]), (23, [22, 15, 21, 11, 14, 19, 20, 10, 13, 18, 3, 9, 12, 17, 2, 7, 8, 16, 1, 6, 0, 5, 4]), (24, [])] .fin), [25]⟩) (.go))) _ (of_eq (show _ = (True ∧ (True ∧ True)) by kernel_rfl) ⟨trivial, ⟨trivial, trivial⟩⟩)) fun _ K E H h => ?_
  unfold F at h
  split at h
  · exact cast (by kernel_rfl) h.h
  · exact h.elim
end zcd
namespace zlf
noncomputable def body : Code := Tryz.f12.body.getD .skip
def J1.vc (psk0 : ByteArray) (cid0 : ByteArray) (theirs0 : ByteArray) (nonce0 : ByteArray) (x0 : Bool) (Kn : HP) (Kr : Option Addr → Int → HP) (E : VH) (h0 : Heap) : Prop :=
 (if x0 = true then
 Kr none 3 h0
 else
 Kn h0)
structure J1 (psk0 : ByteArray) (cid0 : ByteArray) (theirs0 : ByteArray) (nonce0 : ByteArray) (x0 : Bool) (Kn : HP) (Kr : Option Addr → Int → HP) (E : VH) (H : Heap) : Prop where
  h : J1.vc psk0 cid0 theirs0 nonce0 x0 Kn Kr E H
def J2.vc (psk0 : ByteArray) (cid0 : ByteArray) (theirs0 : ByteArray) (nonce0 : ByteArray) (Kr : Option Addr → Int → HP) (E : VH) (h0 : Heap) : Prop :=
 zge.c psk0 cid0 theirs0 (fun x0 h1 =>
 nilc x0 fun a0 =>
 stc h1 (a0.add 2) (.bool true) fun h2 =>
 nilc x0 fun a1 =>
 stc h2 (a1.add 9) (.bool true) fun h3 =>
 zcd.c x0 nonce0 (fun h4 =>
 Kr x0 0 h4) E h3) E h0
structure J2 (psk0 : ByteArray) (cid0 : ByteArray) (theirs0 : ByteArray) (nonce0 : ByteArray) (Kr : Option Addr → Int → HP) (E : VH) (H : Heap) : Prop where
  h : J2.vc psk0 cid0 theirs0 nonce0 Kr E H
def vc (psk0 : ByteArray) (cid0 : ByteArray) (theirs0 : ByteArray) (nonce0 : ByteArray) (K : Option Addr → Int → HP) (E : VH) (h0 : Heap) : Prop :=
 (if ((cid0.size : Int) != 8) = true then
 J1 psk0 cid0 theirs0 nonce0 true (fun h1 =>
 J2 psk0 cid0 theirs0 nonce0 K E h1) K E h0
 else
 (if ((theirs0.size : Int) != 16) = true then
 J1 psk0 cid0 theirs0 nonce0 true (fun h4 =>
 J2 psk0 cid0 theirs0 nonce0 K E h4) K E h0
 else
 J1 psk0 cid0 theirs0 nonce0 ((nonce0.size : Int) != 16) (fun h7 =>
 J2 psk0 cid0 theirs0 nonce0 K E h7) K E h0))
structure c (psk0 : ByteArray) (cid0 : ByteArray) (theirs0 : ByteArray) (nonce0 : ByteArray) (K : Option Addr → Int → HP) (E : VH) (H : Heap) : Prop where
  h : vc psk0 cid0 theirs0 nonce0 (fun r0_0 r1_0 H => ∃ H', Heap.Le H' H ∧ K r0_0 r1_0 H') E H
def F : FT := fun args K E H => match args with
  | [(.string psk0), (.string cid0), (.string theirs0), (.string nonce0)] => c psk0 cid0 theirs0 nonce0 (fun r0_0 r1_0 H => K (.tuple #[(.pointer r0_0), (.int .i64 r1_0)]) H) E H
  | _ => False
noncomputable def Γ : FuncId → Option FT := Γof [(32, zge.F), (34, zcd.F)]
theorem hΓ : ∀ f F, Γ f = some F → zca Tryz.prog f F := Γof_ok (consQ zge.ok (consQ zcd.ok (nilQ)))
def J1.t : CT := fun Q E fr H => lenIs 38 fr (slS fr 0 fun psk0 => slS fr 1 fun cid0 => slS fr 2 fun theirs0 => slS fr 3 fun nonce0 => slB fr 23 fun x0 => J1 psk0 cid0 theirs0 nonce0 x0 (fun  H => Q .normal (mkF 38 [(0, (.string psk0)), (1, (.string cid0)), (2, (.string theirs0)), (3, (.string nonce0))]) H) (fun y8_0 y9_0 H => Q .ret (mkF 38 [(8, (.pointer y8_0)), (9, (.int .i64 y9_0))]) H) E H)
theorem J1.ok : zaa Tryz.prog (sub [1, 0, 1] body) J1.t := by
  refine zda (zea [0, 1, 2, 3] [8, 9] (fun i => []) (zba hΓ Tryz.hm (.go) _ (of_eq_true (by kernel_rfl)))) fun Q E fr H h => ?_
  obtain ⟨hl, h⟩ := zga h
  obtain ⟨psk0, q0, h⟩ := zfb h
  obtain ⟨cid0, q1, h⟩ := zfb h
  obtain ⟨theirs0, q2, h⟩ := zfb h
  obtain ⟨nonce0, q3, h⟩ := zfb h
  obtain ⟨x0, q23, h⟩ := zwa h
  exact ⟨(mkF 38 [(0, (.string psk0)), (1, (.string cid0)), (2, (.string theirs0)), (3, (.string nonce0)), (23, (.bool x0))]), fun a ha => ha.mk (Nat.le_of_eq hl.symm) (consQ q0 (consQ q1 (consQ q2 (consQ q3 (consQ q23 nilQ))))), cast (by kernel_rfl) h.h⟩
def J2.t : CT := fun Q E fr H => lenIs 38 fr (slS fr 0 fun psk0 => slS fr 1 fun cid0 => slS fr 2 fun theirs0 => slS fr 3 fun nonce0 => J2 psk0 cid0 theirs0 nonce0 (fun y8_0 y9_0 H => Q .ret (mkF 38 [(8, (.pointer y8_0)), (9, (.int .i64 y9_0))]) H) E H)
theorem J2.ok : zaa Tryz.prog (sub [1, 1] body) J2.t := by
  refine zda (zea [] [8, 9] (fun i => []) (zba hΓ Tryz.hm (.go) _ (of_eq_true (by kernel_rfl)))) fun Q E fr H h => ?_
  obtain ⟨hl, h⟩ := zga h
  obtain ⟨psk0, q0, h⟩ := zfb h
  obtain ⟨cid0, q1, h⟩ := zfb h
  obtain ⟨theirs0, q2, h⟩ := zfb h
  obtain ⟨nonce0, q3, h⟩ := zfb h
  exact ⟨(mkF 38 [(0, (.string psk0)), (1, (.string cid0)), (2, (.string theirs0)), (3, (.string nonce0))]), fun a ha => ha.mk (Nat.le_of_eq hl.symm) (consQ q0 (consQ q1 (consQ q2 (consQ q3 nilQ)))), cast (by kernel_rfl) h.h⟩
theorem ok : zca Tryz.prog 12 F := by
  refine zia hΓ (fn := Tryz.f12) (c := body) (by kernel_rfl) (by kernel_rfl) (by kernel_rfl) (zba hΓ Tryz.hm (.seq (.go) (.seq (.seq (.go) (.use J1.t)) (.use J2.t))) _ (of_eq (show _ = (True ∧ ((True ∧ (zaa Tryz.prog (sub [1, 0, 1] body) J1.t)) ∧ (zaa Tryz.prog (sub [1, 1] body) J2.t))) by kernel_rfl) ⟨trivial, ⟨⟨trivial, J1.ok⟩, J2.ok⟩⟩)) fun _ K E H h => ?_
  unfold F at h
  split at h
  · exact cast (by kernel_rfl) h.h
  · exact h.elim
end zlf
namespace conn_Conn_again
noncomputable def body : Code := Tryz.f59.body.getD .skip
def vc (c0 : Option Addr) (p0 : ByteArray) (K : Int → HP) (E : VH) (h0 : Heap) : Prop :=
 nilc c0 fun a0 =>
 ldB h0 (a0.add 2) fun x0 =>
 (if (!x0) = true then
 K 7 h0
 else
 nilc c0 fun a1 =>
 ldS h0 (a1.add 0) fun x1 =>
 zgf.c x1 p0 (fun x2 x3 x4 h1 =>
 (if (x4 != 0) = true then
 K x4 h1
 else
 nilc c0 fun a2 =>
 ldS h1 (a2.add 3) fun x5 =>
 (if (!(x3.toList == x5.toList)) = true then
 K 11 h1
 else
 nilc c0 fun a3 =>
 stc h1 (a3.add 9) (.bool true) fun h2 =>
 K 0 h2))) E h0)
structure c (c0 : Option Addr) (p0 : ByteArray) (K : Int → HP) (E : VH) (H : Heap) : Prop where
  h : vc c0 p0 (fun r0_0 H => ∃ H', Heap.Le H' H ∧ K r0_0 H') E H
def F : FT := fun args K E H => match args with
  | [(.pointer c0), (.string p0)] => c c0 p0 (fun r0_0 H => K (.int .i64 r0_0) H) E H
  | _ => False
noncomputable def Γ : FuncId → Option FT := Γof [(8, zgf.F)]
theorem hΓ : ∀ f F, Γ f = some F → zca Tryz.prog f F := Γof_ok (consQ zgf.ok (nilQ))
theorem ok : zca Tryz.prog 59 F := by
  refine zia hΓ (fn := Tryz.f59) (c := body) (by kernel_rfl) (by kernel_rfl) (by kernel_rfl) (zba hΓ Tryz.hm (.go) _ (of_eq_true (by kernel_rfl))) fun _ K E H h => ?_
  unfold F at h
  split at h
  · exact cast (by kernel_rfl) h.h
  · exact h.elim
end conn_Conn_again
namespace zne
noncomputable def body : Code := Tryz.f60.body.getD .skip
def J1.vc (e0 : Int) (Kr : Int → HP) (E : VH) (h0 : Heap) : Prop :=
 Kr e0 h0
structure J1 (e0 : Int) (Kr : Int → HP) (E : VH) (H : Heap) : Prop where
  h : J1.vc e0 Kr E H
def vc (c0 : Option Addr) (p0 : ByteArray) (K : Int → HP) (E : VH) (h0 : Heap) : Prop :=
 nilc c0 fun a0 =>
 ldB h0 (a0.add 2) fun x0 =>
 (if x0 = true then
 K 7 h0
 else
 nilc c0 fun a1 =>
 ldI h0 .i64 (a1.add 4) fun x1 =>
 (if (x1 == 2) = true then
 K 11 h0
 else
 nilc c0 fun a2 =>
 ldS h0 (a2.add 0) fun x2 =>
 nilc c0 fun a3 =>
 ldS h0 (a3.add 3) fun x3 =>
 znb.c x2 (⟨#[119, 101, 108, 99, 111, 109, 101]⟩ : ByteArray) x3 (fun x4 h1 =>
 zbc.c x4 p0 (fun x5 x6 h2 =>
 (if (x6 == 0) = true then
 zcd.c c0 x5 (fun h3 =>
 J1 x6 K E h3) E h2
 else
 J1 x6 K E h2)) E h1) E h0))
structure c (c0 : Option Addr) (p0 : ByteArray) (K : Int → HP) (E : VH) (H : Heap) : Prop where
  h : vc c0 p0 (fun r0_0 H => ∃ H', Heap.Le H' H ∧ K r0_0 H') E H
def F : FT := fun args K E H => match args with
  | [(.pointer c0), (.string p0)] => c c0 p0 (fun r0_0 H => K (.int .i64 r0_0) H) E H
  | _ => False
noncomputable def Γ : FuncId → Option FT := Γof [(28, zbc.F), (29, znb.F), (34, zcd.F)]
theorem hΓ : ∀ f F, Γ f = some F → zca Tryz.prog f F := Γof_ok (consQ zbc.ok (consQ znb.ok (consQ zcd.ok (nilQ))))
def J1.t : CT := fun Q E fr H => lenIs 38 fr (slI fr 6 .i64 fun e0 => J1 e0 (fun y4_0 H => Q .ret (mkF 38 [(4, (.int .i64 y4_0))]) H) E H)
theorem J1.ok : zaa Tryz.prog (sub [1, 1, 1, 1] body) J1.t := by
  refine zda (zea [] [4] (fun i => []) (zba hΓ Tryz.hm (.go) _ (of_eq_true (by kernel_rfl)))) fun Q E fr H h => ?_
  obtain ⟨hl, h⟩ := zga h
  obtain ⟨e0, q6, h⟩ := zfa h
  exact ⟨(mkF 38 [(6, (.int .i64 e0))]), fun a ha => ha.mk (Nat.le_of_eq hl.symm) (consQ q6 nilQ), cast (by kernel_rfl) h.h⟩
theorem ok : zca Tryz.prog 60 F := by
  refine zia hΓ (fn := Tryz.f60) (c := body) (by kernel_rfl) (by kernel_rfl) (by kernel_rfl) (zba hΓ Tryz.hm (.seq (.go) (.seq (.go) (.seq (.draw ⟨[0, 1, 2, 3, 4, 5, 6, 7, 8, 9, 10, 11, 12, 13, 14], (dl [(0, []), (1, []), (2, []), (3, []), (4, []), (5, []), (6, []), (7, []), (9, []), (8, [3, 7, 2, 6, 1, 5, 0, 4]), (10, [8, 9, 3, 7, 2, 6, 1, 5, 0, 4]), (11, []), (12, []), (13, []), (14, [])] .fin), [15]⟩) (.seq (.go) (.use J1.t))))) _ (of_eq (show _ = (True ∧ (True ∧ (True ∧ (True ∧ (zaa Tryz.prog (sub [1, 1, 1, 1] body) J1.t))))) by kernel_rfl) ⟨trivial, ⟨trivial, ⟨trivial, ⟨trivial, J1.ok⟩⟩⟩⟩)) fun _ K E H h => ?_
  unfold F at h
  split at h
  · exact cast (by kernel_rfl) h.h
  · exact h.elim
end zne
namespace zsd
noncomputable def body : Code := Tryz.f113.body.getD .skip
def J1.vc (e0 : Int) (Kr : Int → HP) (E : VH) (h0 : Heap) : Prop :=
 Kr e0 h0
structure J1 (e0 : Int) (Kr : Int → HP) (E : VH) (H : Heap) : Prop where
  h : J1.vc e0 Kr E H
def vc (c0 : Option Addr) (f0 : Int) (f1 : Int) (f2 : Int) (f3 : Bool) (f4 : Int) (f5 : ByteArray) (f6 : Option Addr) (f7 : Nat) (f8 : Nat) (K : Int → HP) (E : VH) (h0 : Heap) : Prop :=
 newB (.cells #[(.int .i64 f0), (.int .i64 f1), (.int .i64 f2), (.bool f3), (.int .i64 f4), (.string f5), (.slice f6 f7 f8)] 83) (fun b0 h1 =>
 ldI h1 .i64 ((⟨b0, 0, none⟩ : Addr).add 0) fun x0 =>
 (if (x0 == 2) = true then
 False
 else
 (if (x0 == 4) = true then
 False
 else
 (if (x0 == 8) = true then
 ldI h1 .i64 ((⟨b0, 0, none⟩ : Addr).add 1) fun x1 =>
 zpa.c c0 x1 true (fun x2 x3 h2 =>
 (if (!x3) = true then
 False
 else
 ldI h2 .i64 ((⟨b0, 0, none⟩ : Addr).add 0) fun x4 =>
 (if (x4 == 4) = true then
 False
 else
 nilc x2 fun a0 =>
 ldP h2 (a0.add 0) fun x5 =>
 ldI h2 .i64 ((⟨b0, 0, none⟩ : Addr).add 2) fun x6 =>
 ldS h2 ((⟨b0, 0, none⟩ : Addr).add 5) fun x7 =>
 ldB h2 ((⟨b0, 0, none⟩ : Addr).add 3) fun x8 =>
 zgb.c x5 x6 x7 x8 (fun x9 h3 =>
 nilc x2 fun a1 =>
 ldB h3 (a1.add 4) fun x10 =>
 (if x10 = true then
 nilc x2 fun a2 =>
 stc h3 (a2.add 4) (.bool true) fun h4 =>
 J1 x9 K E h4
 else
 nilc x2 fun a3 =>
 stc h3 (a3.add 4) (.bool (x9 == 0)) fun h6 =>
 J1 x9 K E h6)) E h2))) E h1
 else
 (if (x0 == 17) = true then
 False
 else
 (if (x0 == 48) = true then
 nilc c0 fun a4 =>
 ldSl h1 (a4.add 20) fun x11 x12 x13 =>
 (if (decide ((x12 : Int) < 32)) = true then
 nilc c0 fun a5 =>
 ldSl h1 (a5.add 20) fun x14 x15 x16 =>
 ldS h1 ((⟨b0, 0, none⟩ : Addr).add 5) fun x17 =>
 newB (.cells #[(.string x17)] 9) (fun b1 h8 =>
 (ldSl h8 (a5.add 20) fun x18 x19 x20 =>
 eqv h8 h8 (some (.slice x14 x15 x16)) (.slice x18 x19 x20)) ∧
 rdRow h8 (some (⟨b1, 0, none⟩ : Addr)) (1 * 1) fun cs0 =>
 appT 9 (.string (⟨#[]⟩ : ByteArray)) x14 x15 1 x16 1 16 cs0 (fun p0 n0 c1 h9 =>
 nilc c0 fun a6 =>
 stc h9 (a6.add 20) (.slice p0 n0 c1) fun h10 =>
 J1 0 K E h10) h8) h1
 else
 J1 0 K E h1)
 else
 (if (x0 == 28) = true then
 ldI h1 .i64 ((⟨b0, 0, none⟩ : Addr).add 4) fun x21 =>
 nilc c0 fun a7 =>
 stc h1 (a7.add 4) (.int .i64 3) fun h13 =>
 (ldI h13 .i64 ((⟨b0, 0, none⟩ : Addr).add 4) fun x22 =>
 eqv h13 h13 (some (.int .i64 x21)) (.int .i64 x22)) ∧
 nilc c0 fun a8 =>
 stc h13 (a8.add 5) (.int .i64 x21) fun h14 =>
 J1 0 K E h14
 else
 J1 0 K E h1))))))) h0
structure c (c0 : Option Addr) (f0 : Int) (f1 : Int) (f2 : Int) (f3 : Bool) (f4 : Int) (f5 : ByteArray) (f6 : Option Addr) (f7 : Nat) (f8 : Nat) (K : Int → HP) (E : VH) (H : Heap) : Prop where
  h : vc c0 f0 f1 f2 f3 f4 f5 f6 f7 f8 (fun r0_0 H => ∃ H', Heap.Le H' H ∧ K r0_0 H') E H
def F : FT := fun args K E H => match args with
  | [(.pointer c0), (.agg ⟨[(.int .i64 f0), (.int .i64 f1), (.int .i64 f2), (.bool f3), (.int .i64 f4), (.string f5), (.slice f6 f7 f8)]⟩)] => c c0 f0 f1 f2 f3 f4 f5 f6 f7 f8 (fun r0_0 H => K (.int .i64 r0_0) H) E H
  | _ => False
noncomputable def Γ : FuncId → Option FT := Γof [(53, zpa.F), (154, zgb.F)]
theorem hΓ : ∀ f F, Γ f = some F → zca Tryz.prog f F := Γof_ok (consQ zpa.ok (consQ zgb.ok (nilQ)))
def J1.t : CT := fun Q E fr H => lenIs 109 fr (slI fr 4 .i64 fun e0 => J1 e0 (fun y4_0 H => Q .ret (mkF 109 [(4, (.int .i64 y4_0))]) H) E H)
theorem J1.ok : zaa Tryz.prog (sub [1, 1] body) J1.t := by
  refine zda (zea [] [4] (fun i => []) (zba hΓ Tryz.hm (.go) _ (of_eq_true (by kernel_rfl)))) fun Q E fr H h => ?_
  obtain ⟨hl, h⟩ := zga h
  obtain ⟨e0, q4, h⟩ := zfa h
  exact ⟨(mkF 109 [(4, (.int .i64 e0))]), fun a ha => ha.mk (Nat.le_of_eq hl.symm) (consQ q4 nilQ), cast (by kernel_rfl) h.h⟩
theorem ok : zca Tryz.prog 113 F := by
  refine zia hΓ (fn := Tryz.f113) (c := body) (by kernel_rfl) (by kernel_rfl) (by kernel_rfl) (zba hΓ Tryz.hm (.seq (.go) (.seq (.seq (.go) (.block (.seq (.go) (.cond (.use deadT) (.seq (.seq (.go) (.cond (.use deadT) (.go))) (.cond (.seq (.go) (.seq (.seq (.go) (.cond (.use deadT) (.go))) (.seq (.seq (.go) (.cond (.use deadT) (.draw ⟨[0, 1, 2, 3, 4, 5, 6, 7, 8, 9, 10], (dl [(0, []), (1, []), (2, []), (3, []), (4, []), (5, []), (6, []), (7, []), (8, []), (9, []), (10, [3, 5, 7, 9, 2, 4, 6, 8, 1, 0])] .fin), [11]⟩))) (.go)))) (.seq (.go) (.cond (.use deadT) (.seq (.go) (.cond (.seq (.go) (.cond (.draw ⟨[0, 1, 2, 3, 4, 5, 6, 7, 8, 9, 10, 11], (dl [(0, []), (1, []), (2, []), (3, []), (4, []), (5, []), (6, []), (7, [6, 5]), (8, [4, 7, 3, 6, 2, 5, 1]), (9, []), (10, []), (11, [10, 8, 0, 1, 2, 3, 4, 5, 6, 7, 9])] .fin), []⟩) (.go))) (.seq (.go) (.cond (.draw ⟨[0, 1, 2, 3, 4, 5, 6, 7, 8, 9], (dl [(0, []), (1, []), (2, []), (3, []), (4, []), (5, []), (6, [5, 0, 4]), (7, []), (8, []), (9, [8, 3, 6, 0, 1, 2, 4, 5, 7])] .fin), []⟩) (.go))))))))))))) (.use J1.t))) _ (of_eq (show _ = (True ∧ ((True ∧ (True ∧ ((zaa Tryz.prog (sub [1, 0, 1, 0, 1, 0] body) deadT) ∧ ((True ∧ ((zaa Tryz.prog (sub [1, 0, 1, 0, 1, 1, 0, 1, 0] body) deadT) ∧ True)) ∧ ((True ∧ ((True ∧ ((zaa Tryz.prog (sub [1, 0, 1, 0, 1, 1, 1, 0, 1, 0, 1, 0] body) deadT) ∧ True)) ∧ ((True ∧ ((zaa Tryz.prog (sub [1, 0, 1, 0, 1, 1, 1, 0, 1, 1, 0, 1, 0] body) deadT) ∧ True)) ∧ True))) ∧ (True ∧ ((zaa Tryz.prog (sub [1, 0, 1, 0, 1, 1, 1, 1, 1, 0] body) deadT) ∧ (True ∧ ((True ∧ (True ∧ True)) ∧ (True ∧ (True ∧ True))))))))))) ∧ (zaa Tryz.prog (sub [1, 1] body) J1.t))) by kernel_rfl) ⟨trivial, ⟨⟨trivial, ⟨trivial, ⟨(zid _), ⟨⟨trivial, ⟨(zid _), trivial⟩⟩, ⟨⟨trivial, ⟨⟨trivial, ⟨(zid _), trivial⟩⟩, ⟨⟨trivial, ⟨(zid _), trivial⟩⟩, trivial⟩⟩⟩, ⟨trivial, ⟨(zid _), ⟨trivial, ⟨⟨trivial, ⟨trivial, trivial⟩⟩, ⟨trivial, ⟨trivial, trivial⟩⟩⟩⟩⟩⟩⟩⟩⟩⟩⟩, J1.ok⟩⟩)) fun _ K E H h => ?_
  unfold F at h
  split at h
  · exact cast (by kernel_rfl) h.h
  · exact h.elim
end zsd
namespace zpb
noncomputable def body : Code := Tryz.f61.body.getD .skip
def J2.vc (c0 : Option Addr) (asks0 : Bool) (x0 : Option Addr) (x1 : Nat) (x2 : Nat) (x3 : Int) (x4 : Int) (Kx0 : HP) (Kn : HP) (E : VH) (h0 : Heap) : Prop :=
 nilc c0 fun a0 =>
 ldI h0 .i64 (a0.add 4) fun x5 =>
 (if (x5 == 3) = true then
 Kx0 h0
 else
 Kn h0)
structure J2 (c0 : Option Addr) (asks0 : Bool) (x0 : Option Addr) (x1 : Nat) (x2 : Nat) (x3 : Int) (x4 : Int) (Kx0 : HP) (Kn : HP) (E : VH) (H : Heap) : Prop where
  h : J2.vc c0 asks0 x0 x1 x2 x3 x4 Kx0 Kn E H
def J3.vc (c0 : Option Addr) (asks0 : Bool) (x0 : Option Addr) (x1 : Nat) (x2 : Nat) (x3 : Int) (x4 : Int) (Kn : Int → HP) (E : VH) (h0 : Heap) : Prop :=
 Kn (IntKind.i64.wrap (x4 + 1)) h0
structure J3 (c0 : Option Addr) (asks0 : Bool) (x0 : Option Addr) (x1 : Nat) (x2 : Nat) (x3 : Int) (x4 : Int) (Kn : Int → HP) (E : VH) (H : Heap) : Prop where
  h : J3.vc c0 asks0 x0 x1 x2 x3 x4 Kn E H
def W1.vc (c0 : Option Addr) (asks0 : Bool) (x0 : Option Addr) (x1 : Nat) (x2 : Nat) (x3 : Int) (x4 : Int) (Kx0 : Bool → HP) (RR : Bool → Int → HP) (E : VH) (h0 : Heap) : Prop :=
 (if (decide (x4 < x3)) = true then
 nilc x0 fun a0 => (0 : Int) ≤ x4 ∧ x4 < (x1 : Int) ∧
 ldI h0 .i64 ((a0.add (x4.toNat * 7)).add 0) fun x5 => ldI h0 .i64 ((a0.add (x4.toNat * 7)).add 1) fun x6 => ldI h0 .i64 ((a0.add (x4.toNat * 7)).add 2) fun x7 => ldB h0 ((a0.add (x4.toNat * 7)).add 3) fun x8 => ldI h0 .i64 ((a0.add (x4.toNat * 7)).add 4) fun x9 => ldS h0 ((a0.add (x4.toNat * 7)).add 5) fun x10 => ldSl h0 ((a0.add (x4.toNat * 7)).add 6) fun x11 x12 x13 =>
 newB (.cells #[(.int .i64 0), (.int .i64 0), (.int .i64 0), (.bool false), (.int .i64 0), (.string (⟨#[]⟩ : ByteArray)), (.slice none 0 0)] 83) (fun b0 h1 =>
 stc h1 ((⟨b0, 0, none⟩ : Addr).add 0) (.int .i64 x5) fun h2 =>
 stc h2 ((⟨b0, 0, none⟩ : Addr).add 1) (.int .i64 x6) fun h3 =>
 stc h3 ((⟨b0, 0, none⟩ : Addr).add 2) (.int .i64 x7) fun h4 =>
 stc h4 ((⟨b0, 0, none⟩ : Addr).add 3) (.bool x8) fun h5 =>
 stc h5 ((⟨b0, 0, none⟩ : Addr).add 4) (.int .i64 x9) fun h6 =>
 stc h6 ((⟨b0, 0, none⟩ : Addr).add 5) (.string x10) fun h7 =>
 stc h7 ((⟨b0, 0, none⟩ : Addr).add 6) (.slice x11 x12 x13) fun h8 =>
 ldI h8 .i64 ((⟨b0, 0, none⟩ : Addr).add 0) fun x14 => ldI h8 .i64 ((⟨b0, 0, none⟩ : Addr).add 1) fun x15 => ldI h8 .i64 ((⟨b0, 0, none⟩ : Addr).add 2) fun x16 => ldB h8 ((⟨b0, 0, none⟩ : Addr).add 3) fun x17 => ldI h8 .i64 ((⟨b0, 0, none⟩ : Addr).add 4) fun x18 => ldS h8 ((⟨b0, 0, none⟩ : Addr).add 5) fun x19 => ldSl h8 ((⟨b0, 0, none⟩ : Addr).add 6) fun x20 x21 x22 =>
 zsd.c c0 x14 x15 x16 x17 x18 x19 x20 x21 x22 (fun x23 h9 =>
 (if (x23 != 0) = true then
 False
 else
 (if asks0 = true then
 J2 c0 true x0 x1 x2 x3 x4 (fun h10 =>
 Kx0 true h10) (fun h11 =>
 J3 c0 true x0 x1 x2 x3 x4 (fun x24 h12 =>
 RR true x24 h12) E h11) E h9
 else
 ldI h9 .i64 ((⟨b0, 0, none⟩ : Addr).add 0) fun x25 => ldI h9 .i64 ((⟨b0, 0, none⟩ : Addr).add 1) fun x26 => ldI h9 .i64 ((⟨b0, 0, none⟩ : Addr).add 2) fun x27 => ldB h9 ((⟨b0, 0, none⟩ : Addr).add 3) fun x28 => ldI h9 .i64 ((⟨b0, 0, none⟩ : Addr).add 4) fun x29 => ldS h9 ((⟨b0, 0, none⟩ : Addr).add 5) fun x30 => ldSl h9 ((⟨b0, 0, none⟩ : Addr).add 6) fun x31 x32 x33 =>
 zrc.c x25 x26 x27 x28 x29 x30 x31 x32 x33 (fun x34 h13 =>
 J2 c0 x34 x0 x1 x2 x3 x4 (fun h14 =>
 Kx0 x34 h14) (fun h15 =>
 J3 c0 x34 x0 x1 x2 x3 x4 (fun x35 h16 =>
 RR x34 x35 h16) E h15) E h13) E h9))) E h8) h0
 else
 Kx0 asks0 h0)
structure W1 (c0 : Option Addr) (asks0 : Bool) (x0 : Option Addr) (x1 : Nat) (x2 : Nat) (x3 : Int) (x4 : Int) (Kx0 : Bool → HP) (E : VH) (H : Heap) : Prop where
  h : Loop (fun (RR : Bool × Int → HP) (s : Bool × Int) (H : Heap) => W1.vc c0 s.1 x0 x1 x2 x3 s.2 Kx0 (fun asks0 x4 H => RR (asks0, x4) H) E H) (asks0, x4) H
def vc (c0 : Option Addr) (p0 : ByteArray) (K : Int → HP) (E : VH) (h0 : Heap) : Prop :=
 nilc c0 fun a0 =>
 ldI h0 .i64 (a0.add 4) fun x0 =>
 (if (x0 == 1) = true then
 False
 else
 zsc.c p0 (fun x1 h1 =>
 nilc c0 fun a1 =>
 ldP h1 (a1.add 14) fun x2 =>
 zza.c x2 x1 (fun x3 h2 =>
 (if (x3 != 0) = true then
 K x3 h2
 else
 nilc c0 fun a2 =>
 ldP h2 (a2.add 12) fun x4 =>
 zfe.c x4 p0 (fun x5 x6 h3 =>
 (if (x6 != 0) = true then
 False
 else
 nilc c0 fun a3 =>
 ldP h3 (a3.add 14) fun x7 =>
 zed.c x7 x1 (fun x8 h4 =>
 nilc c0 fun a4 =>
 ldP h4 (a4.add 15) fun x9 =>
 zbe.c x9 x1 x1 (fun x10 h5 =>
 zeb.c x5 (fun x11 x12 x13 x14 h6 =>
 (if (x14 != 0) = true then
 False
 else
 W1 c0 false x11 x12 x13 (x12 : Int) 0 (fun asks0 h7 =>
 nilc c0 fun a5 =>
 ldB h7 (a5.add 10) fun x15 =>
 (if x15 = true then
 nilc c0 fun a6 =>
 stc h7 (a6.add 10) (.bool true) fun h8 =>
 K 0 h8
 else
 nilc c0 fun a7 =>
 stc h7 (a7.add 10) (.bool asks0) fun h9 =>
 K 0 h9)) E h6)) E h5) E h4) E h3)) E h2)) E h1) E h0)
structure c (c0 : Option Addr) (p0 : ByteArray) (K : Int → HP) (E : VH) (H : Heap) : Prop where
  h : vc c0 p0 (fun r0_0 H => ∃ H', Heap.Le H' H ∧ K r0_0 H') E H
def F : FT := fun args K E H => match args with
  | [(.pointer c0), (.string p0)] => c c0 p0 (fun r0_0 H => K (.int .i64 r0_0) H) E H
  | _ => False
noncomputable def Γ : FuncId → Option FT := Γof [(63, zfe.F), (65, zsc.F), (109, zza.F), (110, zed.F), (111, zbe.F), (112, zeb.F), (113, zsd.F), (115, zrc.F)]
theorem hΓ : ∀ f F, Γ f = some F → zca Tryz.prog f F := Γof_ok (consQ zfe.ok (consQ zsc.ok (consQ zza.ok (consQ zed.ok (consQ zbe.ok (consQ zeb.ok (consQ zsd.ok (consQ zrc.ok (nilQ)))))))))
def J2.t : CT := fun Q E fr H => lenIs 102 fr (slP fr 0 fun c0 => slB fr 10 fun asks0 => slSl fr 65 fun x0 x1 x2 => slI fr 66 .i64 fun x3 => slI fr 67 .i64 fun x4 => J2 c0 asks0 x0 x1 x2 x3 x4 (fun  H => Q (.exit 0) (mkF 102 [(0, (.pointer c0)), (10, (.bool asks0))]) H) (fun  H => Q .normal (mkF 102 [(0, (.pointer c0)), (10, (.bool asks0)), (65, (.slice x0 x1 x2)), (66, (.int .i64 x3)), (67, (.int .i64 x4))]) H) E H)
theorem J2.ok : zaa Tryz.prog (sub [1, 1, 1, 1, 1, 1, 1, 1, 1, 1, 1, 0, 1, 0, 0, 1, 1, 0, 0, 1, 1, 1] body) J2.t := by
  refine zda (zea [0, 10, 65, 66, 67] [] (fun i => if i = 0 then [0, 10] else []) (zba hΓ Tryz.hm (.go) _ (of_eq_true (by kernel_rfl)))) fun Q E fr H h => ?_
  obtain ⟨hl, h⟩ := zga h
  obtain ⟨c0, q0, h⟩ := zja h
  obtain ⟨asks0, q10, h⟩ := zwa h
  obtain ⟨x0, x1, x2, q65, h⟩ := zta h
  obtain ⟨x3, q66, h⟩ := zfa h
  obtain ⟨x4, q67, h⟩ := zfa h
  exact ⟨(mkF 102 [(0, (.pointer c0)), (10, (.bool asks0)), (65, (.slice x0 x1 x2)), (66, (.int .i64 x3)), (67, (.int .i64 x4))]), fun a ha => ha.mk (Nat.le_of_eq hl.symm) (consQ q0 (consQ q10 (consQ q65 (consQ q66 (consQ q67 nilQ))))), cast (by kernel_rfl) h.h⟩
def J3.t : CT := fun Q E fr H => lenIs 102 fr (slP fr 0 fun c0 => slB fr 10 fun asks0 => slSl fr 65 fun x0 x1 x2 => slI fr 66 .i64 fun x3 => slI fr 67 .i64 fun x4 => J3 c0 asks0 x0 x1 x2 x3 x4 (fun y67_0 H => Q .normal (mkF 102 [(0, (.pointer c0)), (10, (.bool asks0)), (65, (.slice x0 x1 x2)), (66, (.int .i64 x3)), (67, (.int .i64 y67_0))]) H) E H)
theorem J3.ok : zaa Tryz.prog (sub [1, 1, 1, 1, 1, 1, 1, 1, 1, 1, 1, 0, 1, 0, 0, 1, 1, 1] body) J3.t := by
  refine zda (zea [0, 10, 65, 66, 67] [] (fun i => []) (zba hΓ Tryz.hm (.go) _ (of_eq_true (by kernel_rfl)))) fun Q E fr H h => ?_
  obtain ⟨hl, h⟩ := zga h
  obtain ⟨c0, q0, h⟩ := zja h
  obtain ⟨asks0, q10, h⟩ := zwa h
  obtain ⟨x0, x1, x2, q65, h⟩ := zta h
  obtain ⟨x3, q66, h⟩ := zfa h
  obtain ⟨x4, q67, h⟩ := zfa h
  exact ⟨(mkF 102 [(0, (.pointer c0)), (10, (.bool asks0)), (65, (.slice x0 x1 x2)), (66, (.int .i64 x3)), (67, (.int .i64 x4))]), fun a ha => ha.mk (Nat.le_of_eq hl.symm) (consQ q0 (consQ q10 (consQ q65 (consQ q66 (consQ q67 nilQ))))), cast (by kernel_rfl) h.h⟩
def W1.t : CT := fun Q E fr H => lenIs 102 fr (slP fr 0 fun c0 => slB fr 10 fun asks0 => slSl fr 65 fun x0 x1 x2 => slI fr 66 .i64 fun x3 => slI fr 67 .i64 fun x4 => W1 c0 asks0 x0 x1 x2 x3 x4 (fun y10_0 H => Q (.exit 0) (mkF 102 [(0, (.pointer c0)), (10, (.bool y10_0))]) H) E H)
theorem W1.ok : zaa Tryz.prog (sub [1, 1, 1, 1, 1, 1, 1, 1, 1, 1, 1, 0, 1, 0] body) W1.t := by
  have e : (sub [1, 1, 1, 1, 1, 1, 1, 1, 1, 1, 1, 0, 1, 0] body) = .loop (sub [1, 1, 1, 1, 1, 1, 1, 1, 1, 1, 1, 0, 1, 0, 0] body) := by kernel_rfl
  rw [e]
  refine zda (zqa (zea [0, 10, 65, 66, 67] [] (fun i => if i = 0 then [0, 10] else []) (zba hΓ Tryz.hm (.seq (.go) (.seq (.go) (.seq (.block (.seq (.go) (.seq (.seq (.go) (.seq (.go) (.cond (.use deadT) (.go)))) (.seq (.go) (.use J2.t))))) (.use J3.t)))) _ (of_eq (show _ = (True ∧ (True ∧ ((True ∧ ((True ∧ (True ∧ ((zaa Tryz.prog (sub [1, 1, 1, 1, 1, 1, 1, 1, 1, 1, 1, 0, 1, 0, 0, 1, 1, 0, 0, 1, 0, 1, 1, 0] body) deadT) ∧ True))) ∧ (True ∧ (zaa Tryz.prog (sub [1, 1, 1, 1, 1, 1, 1, 1, 1, 1, 1, 0, 1, 0, 0, 1, 1, 0, 0, 1, 1, 1] body) J2.t)))) ∧ (zaa Tryz.prog (sub [1, 1, 1, 1, 1, 1, 1, 1, 1, 1, 1, 0, 1, 0, 0, 1, 1, 1] body) J3.t)))) by kernel_rfl) ⟨trivial, ⟨trivial, ⟨⟨trivial, ⟨⟨trivial, ⟨trivial, ⟨(zid _), trivial⟩⟩⟩, ⟨trivial, J2.ok⟩⟩⟩, J3.ok⟩⟩⟩)))) fun Q E fr H h => ?_
  obtain ⟨hl, h⟩ := zga h
  obtain ⟨c0, q0, h⟩ := zja h
  obtain ⟨asks0, q10, h⟩ := zwa h
  obtain ⟨x0, x1, x2, q65, h⟩ := zta h
  obtain ⟨x3, q66, h⟩ := zfa h
  obtain ⟨x4, q67, h⟩ := zfa h
  obtain ⟨m, h⟩ := h.h
  exact ⟨(mkF 102 [(0, (.pointer c0)), (10, (.bool asks0)), (65, (.slice x0 x1 x2)), (66, (.int .i64 x3)), (67, (.int .i64 x4))]), fun a ha => ha.mk (Nat.le_of_eq hl.symm) (consQ q0 (consQ q10 (consQ q65 (consQ q66 (consQ q67 nilQ))))), m, cast (zib (B := (fun (RR : Bool × Int → HP) (s : Bool × Int) (H : Heap) => W1.vc c0 s.1 x0 x1 x2 x3 s.2 (fun y10_0 H => Q (.exit 0) (mkF 102 [(0, (.pointer c0)), (10, (.bool y10_0))]) H) (fun asks0 x4 H => RR (asks0, x4) H) E H)) (m := (fun (s : Bool × Int) => (mkF 102 [(0, (.pointer c0)), (10, (.bool s.1)), (65, (.slice x0 x1 x2)), (66, (.int .i64 x3)), (67, (.int .i64 s.2))]))) (Q := Q) (E := E) (fun RR s H => by kernel_rfl) m (asks0, x4) H) h⟩
theorem ok : zca Tryz.prog 61 F := by
  refine zia hΓ (fn := Tryz.f61) (c := body) (by kernel_rfl) (by kernel_rfl) (by kernel_rfl) (zba hΓ Tryz.hm (.seq (.go) (.seq (.seq (.go) (.cond (.use deadT) (.go))) (.seq (.go) (.seq (.go) (.seq (.go) (.seq (.seq (.go) (.cond (.use deadT) (.go))) (.seq (.go) (.seq (.go) (.seq (.go) (.seq (.seq (.go) (.cond (.use deadT) (.go))) (.seq (.go) (.seq (.seq (.go) (.block (.use W1.t))) (.go))))))))))))) _ (of_eq (show _ = (True ∧ ((True ∧ ((zaa Tryz.prog (sub [1, 0, 1, 0] body) deadT) ∧ True)) ∧ (True ∧ (True ∧ (True ∧ ((True ∧ ((zaa Tryz.prog (sub [1, 1, 1, 1, 1, 0, 1, 0] body) deadT) ∧ True)) ∧ (True ∧ (True ∧ (True ∧ ((True ∧ ((zaa Tryz.prog (sub [1, 1, 1, 1, 1, 1, 1, 1, 1, 0, 1, 0] body) deadT) ∧ True)) ∧ (True ∧ ((True ∧ (zaa Tryz.prog (sub [1, 1, 1, 1, 1, 1, 1, 1, 1, 1, 1, 0, 1, 0] body) W1.t)) ∧ True)))))))))))) by kernel_rfl) ⟨trivial, ⟨⟨trivial, ⟨(zid _), trivial⟩⟩, ⟨trivial, ⟨trivial, ⟨trivial, ⟨⟨trivial, ⟨(zid _), trivial⟩⟩, ⟨trivial, ⟨trivial, ⟨trivial, ⟨⟨trivial, ⟨(zid _), trivial⟩⟩, ⟨trivial, ⟨⟨trivial, W1.ok⟩, trivial⟩⟩⟩⟩⟩⟩⟩⟩⟩⟩⟩⟩)) fun _ K E H h => ?_
  unfold F at h
  split at h
  · exact cast (by kernel_rfl) h.h
  · exact h.elim
end zpb
namespace zbb
noncomputable def body : Code := Tryz.f24.body.getD .skip
def vc (c0 : Option Addr) (now0 : Int) (p0 : ByteArray) (K : Int → HP) (E : VH) (h0 : Heap) : Prop :=
 nilc c0 fun a0 =>
 ldI h0 .i64 (a0.add 4) fun x0 =>
 (if (x0 == 3) = true then
 K 14 h0
 else
 (if (decide ((p0.size : Int) < 29)) = true then
 K 1 h0
 else
 (0 : Int) ≤ 1 ∧ 1 ≤ (9 : Int) ∧ 9 ≤ (p0.size : Int) ∧
 nilc c0 fun a1 =>
 ldS h0 (a1.add 1) fun x1 =>
 (if (!((p0.extract 1 9).toList == x1.toList)) = true then
 K 3 h0
 else
 (0 : Int) ≤ 0 ∧ 0 < (p0.size : Int) ∧
 (if ((bt p0 0) == 1) = true then
 conn_Conn_again.c c0 p0 K E h0
 else
 (if ((bt p0 0) == 2) = true then
 zne.c c0 p0 K E h0
 else
 (if ((bt p0 0) == 3) = true then
 zpb.c c0 p0 K E h0
 else
 K 5 h0))))))
structure c (c0 : Option Addr) (now0 : Int) (p0 : ByteArray) (K : Int → HP) (E : VH) (H : Heap) : Prop where
  h : vc c0 now0 p0 (fun r0_0 H => ∃ H', Heap.Le H' H ∧ K r0_0 H') E H
def F : FT := fun args K E H => match args with
  | [(.pointer c0), (.int .i64 now0), (.string p0)] => c c0 now0 p0 (fun r0_0 H => K (.int .i64 r0_0) H) E H
  | _ => False
noncomputable def Γ : FuncId → Option FT := Γof [(59, conn_Conn_again.F), (60, zne.F), (61, zpb.F)]
theorem hΓ : ∀ f F, Γ f = some F → zca Tryz.prog f F := Γof_ok (consQ conn_Conn_again.ok (consQ zne.ok (consQ zpb.ok (nilQ))))
theorem ok : zca Tryz.prog 24 F := by
  refine zia hΓ (fn := Tryz.f24) (c := body) (by kernel_rfl) (by kernel_rfl) (by kernel_rfl) (zba hΓ Tryz.hm (.seq (.go) (.seq (.block (.seq (.go) (.cond (.go) (.seq (.go) (.cond (.go) (.seq (.draw ⟨[0, 1, 2, 3, 4, 5, 6, 7], (dl [(0, []), (1, []), (2, []), (3, []), (4, []), (5, []), (6, []), (7, [])] .fin), []⟩) (.go))))))) (.go))) _ (of_eq (show _ = (True ∧ ((True ∧ (True ∧ (True ∧ (True ∧ (True ∧ True))))) ∧ True)) by kernel_rfl) ⟨trivial, ⟨⟨trivial, ⟨trivial, ⟨trivial, ⟨trivial, ⟨trivial, trivial⟩⟩⟩⟩⟩, trivial⟩⟩)) fun _ K E H h => ?_
  unfold F at h
  split at h
  · exact cast (by kernel_rfl) h.h
  · exact h.elim
end zbb
namespace vizardlaw13_met
noncomputable def body : Code := Tryz.f17.body.getD .skip
def J1.vc (a0 : Option Addr) (x0 : Bool) (Kn : HP) (Kr : Option Addr → Option Addr → Bool → HP) (E : VH) (h0 : Heap) : Prop :=
 (if x0 = true then
 Kr none none false h0
 else
 Kn h0)
structure J1 (a0 : Option Addr) (x0 : Bool) (Kn : HP) (Kr : Option Addr → Option Addr → Bool → HP) (E : VH) (H : Heap) : Prop where
  h : J1.vc a0 x0 Kn Kr E H
def J3.vc (a0 : Option Addr) (b0 : Option Addr) (x0 : Bool) (Kn : HP) (Kr : Option Addr → Option Addr → Bool → HP) (E : VH) (h0 : Heap) : Prop :=
 (if x0 = true then
 Kr none none false h0
 else
 Kn h0)
structure J3 (a0 : Option Addr) (b0 : Option Addr) (x0 : Bool) (Kn : HP) (Kr : Option Addr → Option Addr → Bool → HP) (E : VH) (H : Heap) : Prop where
  h : J3.vc a0 b0 x0 Kn Kr E H
def J4.vc (a0 : Option Addr) (b0 : Option Addr) (Kr : Option Addr → Option Addr → Bool → HP) (E : VH) (h0 : Heap) : Prop :=
 zva.c b0 0 128 (fun x0 x1 h1 =>
 (if x1 = true then
 zbb.c a0 0 x0 (fun x2 h2 =>
 Kr a0 b0 (x2 == 0) h2) E h1
 else
 Kr a0 b0 false h1)) E h0
structure J4 (a0 : Option Addr) (b0 : Option Addr) (Kr : Option Addr → Option Addr → Bool → HP) (E : VH) (H : Heap) : Prop where
  h : J4.vc a0 b0 Kr E H
def J2.vc (a0 : Option Addr) (Kr : Option Addr → Option Addr → Bool → HP) (E : VH) (h0 : Heap) : Prop :=
 zva.c a0 0 128 (fun x0 x1 h1 =>
 zgf.c (⟨#[116, 104, 101, 32, 107, 101, 121, 32, 116, 104, 97, 116, 32, 98, 111, 116, 104, 32, 107, 110, 111, 119]⟩ : ByteArray) x0 (fun x2 x3 x4 h2 =>
 zlf.c (⟨#[116, 104, 101, 32, 107, 101, 121, 32, 116, 104, 97, 116, 32, 98, 111, 116, 104, 32, 107, 110, 111, 119]⟩ : ByteArray) x2 x3 (⟨#[115, 105, 120, 116, 101, 101, 110, 32, 98, 121, 116, 101, 115, 44, 32, 115]⟩ : ByteArray) (fun x5 x6 h3 =>
 (if (!x1) = true then
 J3 a0 x5 true (fun h4 =>
 J4 a0 x5 Kr E h4) Kr E h3
 else
 (if (x4 != 0) = true then
 J3 a0 x5 true (fun h7 =>
 J4 a0 x5 Kr E h7) Kr E h3
 else
 (if (x6 != 0) = true then
 J3 a0 x5 true (fun h10 =>
 J4 a0 x5 Kr E h10) Kr E h3
 else
 J3 a0 x5 (Option.isNone x5) (fun h13 =>
 J4 a0 x5 Kr E h13) Kr E h3)))) E h2) E h1) E h0
structure J2 (a0 : Option Addr) (Kr : Option Addr → Option Addr → Bool → HP) (E : VH) (H : Heap) : Prop where
  h : J2.vc a0 Kr E H
def vc (K : Option Addr → Option Addr → Bool → HP) (E : VH) (h0 : Heap) : Prop :=
 conn_Dial.c (⟨#[116, 104, 101, 32, 107, 101, 121, 32, 116, 104, 97, 116, 32, 98, 111, 116, 104, 32, 107, 110, 111, 119]⟩ : ByteArray) (⟨#[99, 111, 110, 110, 101, 99, 116, 48]⟩ : ByteArray) (⟨#[115, 105, 120, 116, 101, 101, 110, 32, 98, 121, 116, 101, 115, 44, 32, 99]⟩ : ByteArray) (fun x0 x1 h1 =>
 (if (x1 != 0) = true then
 J1 x0 true (fun h2 =>
 J2 x0 K E h2) K E h1
 else
 J1 x0 (Option.isNone x0) (fun h5 =>
 J2 x0 K E h5) K E h1)) E h0
structure c (K : Option Addr → Option Addr → Bool → HP) (E : VH) (H : Heap) : Prop where
  h : vc  (fun r0_0 r1_0 r2_0 H => ∃ H', Heap.Le H' H ∧ K r0_0 r1_0 r2_0 H') E H
def F : FT := fun args K E H => match args with
  | [] => c  (fun r0_0 r1_0 r2_0 H => K (.tuple #[(.pointer r0_0), (.pointer r1_0), (.bool r2_0)]) H) E H
  | _ => False
noncomputable def Γ : FuncId → Option FT := Γof [(8, zgf.F), (10, conn_Dial.F), (12, zlf.F), (14, zva.F), (24, zbb.F)]
theorem hΓ : ∀ f F, Γ f = some F → zca Tryz.prog f F := Γof_ok (consQ zgf.ok (consQ conn_Dial.ok (consQ zlf.ok (consQ zva.ok (consQ zbb.ok (nilQ))))))
def J1.t : CT := fun Q E fr H => lenIs 69 fr (slP fr 3 fun a0 => slB fr 23 fun x0 => J1 a0 x0 (fun  H => Q .normal (mkF 69 [(3, (.pointer a0))]) H) (fun y0_0 y1_0 y2_0 H => Q .ret (mkF 69 [(0, (.pointer y0_0)), (1, (.pointer y1_0)), (2, (.bool y2_0))]) H) E H)
theorem J1.ok : zaa Tryz.prog (sub [1, 1, 0, 1] body) J1.t := by
  refine zda (zea [3] [0, 1, 2] (fun i => []) (zba hΓ Tryz.hm (.go) _ (of_eq_true (by kernel_rfl)))) fun Q E fr H h => ?_
  obtain ⟨hl, h⟩ := zga h
  obtain ⟨a0, q3, h⟩ := zja h
  obtain ⟨x0, q23, h⟩ := zwa h
  exact ⟨(mkF 69 [(3, (.pointer a0)), (23, (.bool x0))]), fun a ha => ha.mk (Nat.le_of_eq hl.symm) (consQ q3 (consQ q23 nilQ)), cast (by kernel_rfl) h.h⟩
def J3.t : CT := fun Q E fr H => lenIs 69 fr (slP fr 3 fun a0 => slP fr 10 fun b0 => slB fr 54 fun x0 => J3 a0 b0 x0 (fun  H => Q .normal (mkF 69 [(3, (.pointer a0)), (10, (.pointer b0))]) H) (fun y0_0 y1_0 y2_0 H => Q .ret (mkF 69 [(0, (.pointer y0_0)), (1, (.pointer y1_0)), (2, (.bool y2_0))]) H) E H)
theorem J3.ok : zaa Tryz.prog (sub [1, 1, 1, 1, 1, 1, 0, 1] body) J3.t := by
  refine zda (zea [3, 10] [0, 1, 2] (fun i => []) (zba hΓ Tryz.hm (.go) _ (of_eq_true (by kernel_rfl)))) fun Q E fr H h => ?_
  obtain ⟨hl, h⟩ := zga h
  obtain ⟨a0, q3, h⟩ := zja h
  obtain ⟨b0, q10, h⟩ := zja h
  obtain ⟨x0, q54, h⟩ := zwa h
  exact ⟨(mkF 69 [(3, (.pointer a0)), (10, (.pointer b0)), (54, (.bool x0))]), fun a ha => ha.mk (Nat.le_of_eq hl.symm) (consQ q3 (consQ q10 (consQ q54 nilQ))), cast (by kernel_rfl) h.h⟩
def J4.t : CT := fun Q E fr H => lenIs 69 fr (slP fr 3 fun a0 => slP fr 10 fun b0 => J4 a0 b0 (fun y0_0 y1_0 y2_0 H => Q .ret (mkF 69 [(0, (.pointer y0_0)), (1, (.pointer y1_0)), (2, (.bool y2_0))]) H) E H)
theorem J4.ok : zaa Tryz.prog (sub [1, 1, 1, 1, 1, 1, 1] body) J4.t := by
  refine zda (zea [] [0, 1, 2] (fun i => []) (zba hΓ Tryz.hm (.go) _ (of_eq_true (by kernel_rfl)))) fun Q E fr H h => ?_
  obtain ⟨hl, h⟩ := zga h
  obtain ⟨a0, q3, h⟩ := zja h
  obtain ⟨b0, q10, h⟩ := zja h
  exact ⟨(mkF 69 [(3, (.pointer a0)), (10, (.pointer b0))]), fun a ha => ha.mk (Nat.le_of_eq hl.symm) (consQ q3 (consQ q10 nilQ)), cast (by kernel_rfl) h.h⟩
def J2.t : CT := fun Q E fr H => lenIs 69 fr (slP fr 3 fun a0 => J2 a0 (fun y0_0 y1_0 y2_0 H => Q .ret (mkF 69 [(0, (.pointer y0_0)), (1, (.pointer y1_0)), (2, (.bool y2_0))]) H) E H)
theorem J2.ok : zaa Tryz.prog (sub [1, 1, 1] body) J2.t := by
  refine zda (zea [] [0, 1, 2] (fun i => []) (zba hΓ Tryz.hm (.seq (.go) (.seq (.go) (.seq (.go) (.seq (.seq (.go) (.use J3.t)) (.use J4.t))))) _ (of_eq (show _ = (True ∧ (True ∧ (True ∧ ((True ∧ (zaa Tryz.prog (sub [1, 1, 1, 1, 1, 1, 0, 1] body) J3.t)) ∧ (zaa Tryz.prog (sub [1, 1, 1, 1, 1, 1, 1] body) J4.t))))) by kernel_rfl) ⟨trivial, ⟨trivial, ⟨trivial, ⟨⟨trivial, J3.ok⟩, J4.ok⟩⟩⟩⟩))) fun Q E fr H h => ?_
  obtain ⟨hl, h⟩ := zga h
  obtain ⟨a0, q3, h⟩ := zja h
  exact ⟨(mkF 69 [(3, (.pointer a0))]), fun a ha => ha.mk (Nat.le_of_eq hl.symm) (consQ q3 nilQ), cast (by kernel_rfl) h.h⟩
theorem ok : zca Tryz.prog 17 F := by
  refine zia hΓ (fn := Tryz.f17) (c := body) (by kernel_rfl) (by kernel_rfl) (by kernel_rfl) (zba hΓ Tryz.hm (.seq (.go) (.seq (.go) (.seq (.seq (.go) (.use J1.t)) (.use J2.t)))) _ (of_eq (show _ = (True ∧ (True ∧ ((True ∧ (zaa Tryz.prog (sub [1, 1, 0, 1] body) J1.t)) ∧ (zaa Tryz.prog (sub [1, 1, 1] body) J2.t)))) by kernel_rfl) ⟨trivial, ⟨trivial, ⟨⟨trivial, J1.ok⟩, J2.ok⟩⟩⟩)) fun _ K E H h => ?_
  unfold F at h
  split at h
  · exact cast (by kernel_rfl) h.h
  · exact h.elim
end vizardlaw13_met
namespace zbd
noncomputable def body : Code := Tryz.f18.body.getD .skip
def vc (c0 : Option Addr) (id0 : Int) (s0 : ByteArray) (fin0 : Bool) (K : Int → HP) (E : VH) (h0 : Heap) : Prop :=
 zpa.c c0 id0 false (fun x0 x1 h1 =>
 nilc c0 fun a0 =>
 ldI h1 .i64 (a0.add 4) fun x2 =>
 (if (x2 == 3) = true then
 K 14 h1
 else
 (if (!x1) = true then
 K 2 h1
 else
 nilc x0 fun a1 =>
 ldI h1 .i64 ((a1.add 2).add 0) fun x3 =>
 (if (x3 != 0) = true then
 K 7 h1
 else
 nilc x0 fun a2 =>
 ldP h1 (a2.add 1) fun x4 =>
 zld.c x4 s0 fin0 K E h1)))) E h0
structure c (c0 : Option Addr) (id0 : Int) (s0 : ByteArray) (fin0 : Bool) (K : Int → HP) (E : VH) (H : Heap) : Prop where
  h : vc c0 id0 s0 fin0 (fun r0_0 H => ∃ H', Heap.Le H' H ∧ K r0_0 H') E H
def F : FT := fun args K E H => match args with
  | [(.pointer c0), (.int .i64 id0), (.string s0), (.bool fin0)] => c c0 id0 s0 fin0 (fun r0_0 H => K (.int .i64 r0_0) H) E H
  | _ => False
noncomputable def Γ : FuncId → Option FT := Γof [(53, zpa.F), (54, zld.F)]
theorem hΓ : ∀ f F, Γ f = some F → zca Tryz.prog f F := Γof_ok (consQ zpa.ok (consQ zld.ok (nilQ)))
theorem ok : zca Tryz.prog 18 F := by
  refine zia hΓ (fn := Tryz.f18) (c := body) (by kernel_rfl) (by kernel_rfl) (by kernel_rfl) (zba hΓ Tryz.hm (.go) _ (of_eq_true (by kernel_rfl))) fun _ K E H h => ?_
  unfold F at h
  split at h
  · exact cast (by kernel_rfl) h.h
  · exact h.elim
end zbd
namespace zgd
noncomputable def body : Code := Tryz.f20.body.getD .skip
def vc (c0 : Option Addr) (id0 : Int) (n0 : Int) (K : ByteArray → HP) (E : VH) (h0 : Heap) : Prop :=
 zpa.c c0 id0 true (fun x0 x1 h1 =>
 (if (!x1) = true then
 K (⟨#[]⟩ : ByteArray) h1
 else
 nilc x0 fun a0 =>
 ldP h1 (a0.add 0) fun x2 =>
 zfc.c x2 n0 K E h1)) E h0
structure c (c0 : Option Addr) (id0 : Int) (n0 : Int) (K : ByteArray → HP) (E : VH) (H : Heap) : Prop where
  h : vc c0 id0 n0 (fun r0_0 H => ∃ H', Heap.Le H' H ∧ K r0_0 H') E H
def F : FT := fun args K E H => match args with
  | [(.pointer c0), (.int .i64 id0), (.int .i64 n0)] => c c0 id0 n0 (fun r0_0 H => K (.string r0_0) H) E H
  | _ => False
noncomputable def Γ : FuncId → Option FT := Γof [(53, zpa.F), (56, zfc.F)]
theorem hΓ : ∀ f F, Γ f = some F → zca Tryz.prog f F := Γof_ok (consQ zpa.ok (consQ zfc.ok (nilQ)))
theorem ok : zca Tryz.prog 20 F := by
  refine zia hΓ (fn := Tryz.f20) (c := body) (by kernel_rfl) (by kernel_rfl) (by kernel_rfl) (zba hΓ Tryz.hm (.go) _ (of_eq_true (by kernel_rfl))) fun _ K E H h => ?_
  unfold F at h
  split at h
  · exact cast (by kernel_rfl) h.h
  · exact h.elim
end zgd
namespace zif
noncomputable def body : Code := Tryz.f21.body.getD .skip
def vc (c0 : Option Addr) (id0 : Int) (K : Int → Int → HP) (E : VH) (h0 : Heap) : Prop :=
 zpa.c c0 id0 true (fun x0 x1 h1 =>
 (if (!x1) = true then
 K 0 0 h1
 else
 nilc x0 fun a0 =>
 ldP h1 (a0.add 0) fun x2 =>
 zkc.c x2 (fun x3 x4 x5 h2 =>
 K x5 x3 h2) E h1)) E h0
structure c (c0 : Option Addr) (id0 : Int) (K : Int → Int → HP) (E : VH) (H : Heap) : Prop where
  h : vc c0 id0 (fun r0_0 r1_0 H => ∃ H', Heap.Le H' H ∧ K r0_0 r1_0 H') E H
def F : FT := fun args K E H => match args with
  | [(.pointer c0), (.int .i64 id0)] => c c0 id0 (fun r0_0 r1_0 H => K (.tuple #[(.int .i64 r0_0), (.int .i64 r1_0)]) H) E H
  | _ => False
noncomputable def Γ : FuncId → Option FT := Γof [(53, zpa.F), (57, zkc.F)]
theorem hΓ : ∀ f F, Γ f = some F → zca Tryz.prog f F := Γof_ok (consQ zpa.ok (consQ zkc.ok (nilQ)))
theorem ok : zca Tryz.prog 21 F := by
  refine zia hΓ (fn := Tryz.f21) (c := body) (by kernel_rfl) (by kernel_rfl) (by kernel_rfl) (zba hΓ Tryz.hm (.go) _ (of_eq_true (by kernel_rfl))) fun _ K E H h => ?_
  unfold F at h
  split at h
  · exact cast (by kernel_rfl) h.h
  · exact h.elim
end zif
namespace vizardlaw13_works
noncomputable def body : Code := Tryz.f16.body.getD .skip
def vc (K : Bool → HP) (E : VH) (h0 : Heap) : Prop :=
 vizardlaw13_met.c (fun x0 x1 x2 h1 =>
 (if (!x2) = true then
 K false h1
 else
 zbd.c x0 0 (⟨#[104, 105]⟩ : ByteArray) true (fun x3 h2 =>
 zva.c x0 0 128 (fun x4 x5 h3 =>
 zbb.c x1 0 x4 (fun x6 h4 =>
 zgd.c x1 0 9 (fun x7 h5 =>
 zif.c x1 0 (fun x8 x9 h6 =>
 (if (x3 == 0) = true then
 (if x5 = true then
 (if ((x4.size : Int) == 128) = true then
 (if (x6 == 0) = true then
 (if (x7.toList == (⟨#[104, 105]⟩ : ByteArray).toList) = true then
 (if (x8 == 1) = true then
 (if (x9 == 2) = true then
 zbb.c x1 0 x4 (fun x10 h7 =>
 K (x10 == 11) h7) E h6
 else
 K false h6)
 else
 K false h6)
 else
 K false h6)
 else
 K false h6)
 else
 K false h6)
 else
 K false h6)
 else
 K false h6)) E h5) E h4) E h3) E h2) E h1)) E h0
structure c (K : Bool → HP) (E : VH) (H : Heap) : Prop where
  h : vc  (fun r0_0 H => ∃ H', Heap.Le H' H ∧ K r0_0 H') E H
def F : FT := fun args K E H => match args with
  | [] => c  (fun r0_0 H => K (.bool r0_0) H) E H
  | _ => False
noncomputable def Γ : FuncId → Option FT := Γof [(14, zva.F), (17, vizardlaw13_met.F), (18, zbd.F), (20, zgd.F), (21, zif.F), (24, zbb.F)]
theorem hΓ : ∀ f F, Γ f = some F → zca Tryz.prog f F := Γof_ok (consQ zva.ok (consQ vizardlaw13_met.ok (consQ zbd.ok (consQ zgd.ok (consQ zif.ok (consQ zbb.ok (nilQ)))))))
theorem ok : zca Tryz.prog 16 F := by
  refine zia hΓ (fn := Tryz.f16) (c := body) (by kernel_rfl) (by kernel_rfl) (by kernel_rfl) (zba hΓ Tryz.hm (.go) _ (of_eq_true (by kernel_rfl))) fun _ K E H h => ?_
  unfold F at h
  split at h
  · exact cast (by kernel_rfl) h.h
  · exact h.elim
end vizardlaw13_works
namespace zdf
noncomputable def body : Code := Tryz.f23.body.getD .skip
def vc (c0 : Option Addr) (s0 : ByteArray) (K : Int → HP) (E : VH) (h0 : Heap) : Prop :=
 nilc c0 fun a0 =>
 ldI h0 .i64 (a0.add 4) fun x0 =>
 (if (x0 == 3) = true then
 K 14 h0
 else
 (if (decide ((s0.size : Int) > 1000)) = true then
 K 8 h0
 else
 nilc c0 fun a1 =>
 ldSl h0 (a1.add 19) fun x1 x2 x3 =>
 (if ((x2 : Int) == 32) = true then
 K 4 h0
 else
 nilc c0 fun a2 =>
 ldSl h0 (a2.add 19) fun x4 x5 x6 =>
 newB (.cells #[(.string s0)] 9) (fun b0 h1 =>
 rdRow h1 (some (⟨b0, 0, none⟩ : Addr)) (1 * 1) fun cs0 =>
 appT 9 (.string (⟨#[]⟩ : ByteArray)) x4 x5 1 x6 1 16 cs0 (fun p0 n0 c1 h2 =>
 nilc c0 fun a3 =>
 stc h2 (a3.add 19) (.slice p0 n0 c1) fun h3 =>
 K 0 h3) h1) h0)))
structure c (c0 : Option Addr) (s0 : ByteArray) (K : Int → HP) (E : VH) (H : Heap) : Prop where
  h : vc c0 s0 (fun r0_0 H => ∃ H', Heap.Le H' H ∧ K r0_0 H') E H
def F : FT := fun args K E H => match args with
  | [(.pointer c0), (.string s0)] => c c0 s0 (fun r0_0 H => K (.int .i64 r0_0) H) E H
  | _ => False
noncomputable def Γ : FuncId → Option FT := Γof []
theorem hΓ : ∀ f F, Γ f = some F → zca Tryz.prog f F := Γof_ok (nilQ)
theorem ok : zca Tryz.prog 23 F := by
  refine zia hΓ (fn := Tryz.f23) (c := body) (by kernel_rfl) (by kernel_rfl) (by kernel_rfl) (zba hΓ Tryz.hm (.go) _ (of_eq_true (by kernel_rfl))) fun _ K E H h => ?_
  unfold F at h
  split at h
  · exact cast (by kernel_rfl) h.h
  · exact h.elim
end zdf
end Go.Sh
namespace Go.Sh
open Go.Proofs
set_option maxRecDepth 8000
def numL (l : List UInt8) : Nat := l.foldl (fun m c => m * 256 + c.toNat) 0
theorem numL_snoc (l : List UInt8) (c : UInt8) : numL (l ++ [c]) = numL l * 256 + c.toNat := by simp [numL]
theorem numL_lt (l : List UInt8) : numL l < 256 ^ l.length := by
  rcases List.eq_nil_or_concat l with h | ⟨a, x, h⟩
  · subst h; decide
  · rw [h, List.concat_eq_append, numL_snoc, List.length_append, List.length_singleton, Nat.pow_succ]
    have := numL_lt a
    have hx := x.toNat_lt
    omega
termination_by l.length
decreasing_by subst h; simp
theorem numL_take {l : List UInt8} {k : Nat} {x : UInt8} (h : l[k]? = some x) : numL (l.take (k + 1)) = numL (l.take k) * 256 + x.toNat := by
  rw [List.take_add_one, h]
  exact numL_snoc _ _
theorem numL_take_lt {l : List UInt8} {k : Nat} : numL (l.take k) < 256 ^ k := by
  refine Nat.lt_of_lt_of_le (numL_lt _) (Nat.pow_le_pow_right (by decide) ?_)
  rw [List.length_take]; omega
theorem ofInt_64 (a : Nat) (h : a < 9223372036854775808) : (BitVec.ofInt 64 (a : Int)).toNat = a := by
  rw [BitVec.toNat_ofInt]
  omega
theorem or_i64 (a b : Nat) (ha : a < 4611686018427387904) (hb : b < 4611686018427387904) : bits .or .i64 (a : Int) (b : Int) = ((a ||| b : Nat) : Int) := by
  have hx : a ||| b < 2 ^ 62 := Nat.or_lt_two_pow ha hb
  show IntKind.i64.wrap ((BitVec.ofInt 64 (a : Int) ||| BitVec.ofInt 64 (b : Int)).toNat : Int) = _
  rw [BitVec.toNat_or, ofInt_64 a (by omega), ofInt_64 b (by omega), w_i64 (by omega) (by omega)]
theorem or_bytes64 {x b : Nat} (hx : x < 16777216) (hb : b < 256) : bits .or .i64 (shlI .i64 (x : Int) 8) (b : Int) = ((x * 256 + b : Nat) : Int) := by
  have e : shlI .i64 (x : Int) 8 = ((x * 256 : Nat) : Int) := by
    show IntKind.i64.wrap ((x : Int) * 2 ^ 8) = _
    rw [w_i64 (by omega) (by omega)]
    omega
  rw [e, or_i64 _ _ (by omega) (by omega)]
  have : 2 ^ 8 * x + b = 2 ^ 8 * x ||| b := Nat.two_pow_add_eq_or_of_lt (by omega) x
  rw [show x * 256 = 2 ^ 8 * x by omega, ← this]
theorem locv {H : Heap} {b o : Nat} {arr : Array Value} {e : TypeId} {f : Nat × Nat} {v : Value} (h : H b = some (.cells arr e f)) (hv : arr[o]? = some v) : H.cell? ((⟨b, 0, none⟩ : Addr).add o) = some v := by
  rw [add_mk]
  simp [Heap.cell?, h, hv]
theorem bytes_get {s : ByteArray} {k : Nat} {x : UInt8} (h : s.data.toList[k]? = some x) (j : Nat) : ((zxb s).toArray ++ Array.replicate j (.int .u8 0))[k]? = some (.int .u8 (x.toNat : Int)) := by
  have : (zxb s)[k]? = some (.int .u8 (x.toNat : Int)) := by
    unfold zxb
    rw [List.getElem?_map, h]; rfl
  rw [Array.getElem?_append_left (by have := (List.getElem?_eq_some_iff.1 this).1; simpa using this)]
  simpa using this
theorem zle (s : ByteArray) : s.data.toList.length = s.size := by rw [Array.length_toList]; rfl
section
variable {H : Heap} {E : Value → Heap → Prop}
theorem zsc.run {p : ByteArray} (h13 : 13 ≤ p.size) {K : Int → Heap → Prop} (h : ∀ H', Heap.Le H H' → K (numL (p.extract 9 13).data.toList : Int) H') : zsc.c p K E H := by
  refine ⟨by decide, by decide, by omega, fun j => zna fun b H1 hn hl hle => ?_⟩
  have hs : (p.extract 9 13).size = 4 := by rw [ByteArray.size_extract]; omega
  obtain ⟨s, hse⟩ : ∃ s, s = p.extract 9 13 := ⟨_, rfl⟩
  rw [← hse] at hs hl h ⊢
  have hll := zle s
  refine ⟨Loop.of (I := fun st H' m => ∃ k : Nat, st = ((numL (s.data.toList.take k) : Int), (k : Int)) ∧ k ≤ 4 ∧ m = 4 - k ∧ H' = H1) ?_ ⟨0, rfl, by decide, rfl, rfl⟩⟩
  rintro m st H' ⟨k, rfl, hk, rfl, rfl⟩ RR hRR
  unfold zsc.W1.vc
  dsimp only
  by_cases hlt : k < 4
  · rw [if_pos (by rw [decide_eq_true_eq]; omega)]
    obtain ⟨x, hx⟩ : ∃ x, s.data.toList[k]? = some x := ⟨_, List.getElem?_eq_getElem (by omega)⟩
    refine ⟨_, rfl, by omega, by omega, (x.toNat : Int), by rw [Int.toNat_natCast, Nat.mul_one]; exact locv hl (bytes_get hx j), by decide, ?_⟩
    have hb := x.toNat_lt
    have h1 : numL (s.data.toList.take k) < 256 ^ 3 := Nat.lt_of_lt_of_le numL_take_lt (Nat.pow_le_pow_right (by decide) (by omega))
    have e3 : 256 ^ 3 = 16777216 := by decide
    rw [w_i64 (n := (x.toNat : Int)) (by omega) (by omega), or_bytes64 (by omega) (by omega), w_i64 (by omega) (by omega)]
    refine hRR (_, _) _ (4 - (k + 1)) (by omega) ⟨k + 1, ?_, by omega, rfl, rfl⟩
    rw [numL_take hx]
    rfl
  · rw [if_neg (by rw [decide_eq_true_eq]; omega)]
    rw [List.take_of_length_le (by omega)]
    exact ⟨H', Heap.Le.refl _, h H' hle⟩
def numP (p : ByteArray) : Nat := numL (p.extract 9 13).data.toList
def openP (s : List UInt8) (p : ByteArray) : List UInt8 × Int := openL s (un (numP p : Int)) (p.extract 0 13).data.toList (p.extract 13 p.size).data.toList
def greetL (s : List UInt8) (p : ByteArray) : ByteArray × Int :=
  if (openP s p).2 ≠ 0 then (⟨#[]⟩, (openP s p).2) else if numP p ≠ 0 ∨ (openP s p).1.length ≠ 16 then (⟨#[]⟩, 3) else (⟨(openP s p).1.toArray⟩, 0)
theorem zfe.run (ht : Tabs H) {b : Nat} {s p : ByteArray} (hs : s.size ≤ 100000) (h13 : 13 ≤ p.size) (hp : p.size ≤ 100000) (hk : KeyAt H b s 0 0) {K : ByteArray → Int → Heap → Prop} (h : ∀ H', Only b H H' → K ⟨(openP s.data.toList p).1.toArray⟩ (openP s.data.toList p).2 H') : zfe.c (some ⟨b, 0, none⟩) p K E H := by
  refine ⟨by decide, by omega, by decide, by omega, Nat.le_refl _, ?_⟩
  refine zsc.run h13 fun H1 hle => ?_
  refine zxe.run hs (by rw [ByteArray.size_extract]; omega) (by rw [ByteArray.size_extract]; omega) (hk.le hle) (by decide) (by decide) (ht.up hle) fun H2 o' _ ho _ => ?_
  exact ⟨H2, Heap.Le.refl _, h H2 ((Only.of_le hle).trans ho)⟩
theorem zbc.J1.run {s : ByteArray} {x : Bool} {Kn : Heap → Prop} {Kr : ByteArray → Int → Heap → Prop} (h1 : x = true → Kr ⟨#[]⟩ 3 H) (h0 : x = false → Kn H) : zbc.J1 s x Kn Kr E H := by
  refine ⟨?_⟩
  unfold zbc.J1.vc
  cases x with
  | true => rw [if_pos rfl]; exact h1 rfl
  | false => rw [if_neg (by simp)]; exact h0 rfl
theorem zbc.run (ht : Tabs H) {s p : ByteArray} (hs : s.size ≤ 100000) (h13 : 13 ≤ p.size) (hp : p.size ≤ 100000) {K : ByteArray → Int → Heap → Prop} (h : ∀ H', Heap.Le H H' → K (greetL s.data.toList p).1 (greetL s.data.toList p).2 H') : zbc.c s p K E H := by
  refine ⟨ztd.run ht fun b H1 hk hn hle => ?_⟩
  refine zfe.run (ht.up hle) hs h13 hp hk fun H2 ho => ?_
  have hle2 : Heap.Le H H2 := ho.le hle hn
  unfold greetL at h
  by_cases h1 : (openP s.data.toList p).2 = 0
  · rw [if_neg (by simp [h1])]
    rw [if_neg (by simp [h1])] at h
    refine zsc.run h13 fun H3 hle3 => ?_
    have hle3 := hle2.trans hle3
    show (if ((numP p : Int) != 0) = true then _ else _)
    by_cases h2 : numP p = 0
    · rw [if_neg (by simp [h2])]
      refine zbc.J1.run (fun hx => ⟨H3, Heap.Le.refl _, ?_⟩) (fun hx => ⟨⟨H3, Heap.Le.refl _, ?_⟩⟩)
      · have : (openP s.data.toList p).1.length ≠ 16 := by
          intro e
          rw [bne_iff_ne, zxa] at hx
          exact hx (by rw [e]; rfl)
        have := h H3 hle3
        rw [if_pos (.inr (by assumption))] at this
        exact this
      · have : (openP s.data.toList p).1.length = 16 := by
          rw [bne_eq_false_iff_eq, zxa] at hx
          omega
        have := h H3 hle3
        rw [if_neg (by rintro (e | e); exact e h2; exact e (by assumption))] at this
        exact this
    · rw [if_pos (by simpa using h2)]
      have := h H3 hle3
      rw [if_pos (.inl h2)] at this
      exact zbc.J1.run (fun _ => ⟨H3, Heap.Le.refl _, this⟩) (fun e => by cases e)
  · rw [if_pos (by simpa using h1)]
    have := h H2 hle2
    rw [if_pos h1] at this
    exact ⟨H2, Heap.Le.refl _, this⟩
def helloB : ByteArray := ⟨#[104, 101, 108, 108, 111]⟩
def zic (key label ctx : ByteArray) : ByteArray := ⟨(derive key.data.toList label.data.toList ctx.data.toList).toArray⟩
def helloL (psk p : ByteArray) : ByteArray × ByteArray × Int :=
  if p.size < 29 then (⟨#[]⟩, ⟨#[]⟩, 1) else if bt p 0 ≠ 1 then (⟨#[]⟩, ⟨#[]⟩, 5)
  else if (greetL (zic psk helloB ⟨#[]⟩).data.toList p).2 ≠ 0 then (⟨#[]⟩, ⟨#[]⟩, (greetL (zic psk helloB ⟨#[]⟩).data.toList p).2)
  else (p.extract 1 9, (greetL (zic psk helloB ⟨#[]⟩).data.toList p).1, 0)
theorem derive_size (key label ctx : ByteArray) : (zic key label ctx).size ≤ 100000 := by
  unfold zic
  rw [zxa]
  have : (derive key.data.toList label.data.toList ctx.data.toList).length = 32 := hmac_len _ _
  omega
theorem zgf.run (ht : Tabs H) {psk p : ByteArray} (hs : psk.size ≤ 100000) (hp : p.size ≤ 100000) {K : ByteArray → ByteArray → Int → Heap → Prop} (h : ∀ H', Heap.Le H H' → K (helloL psk p).1 (helloL psk p).2.1 (helloL psk p).2.2 H') : zgf.c psk p K E H := by
  refine ⟨?_⟩
  unfold zgf.vc
  unfold helloL at h
  by_cases h29 : p.size < 29
  · rw [if_pos (by rw [decide_eq_true_eq]; omega)]
    rw [if_pos h29] at h
    exact ⟨H, Heap.Le.refl _, h H (Heap.Le.refl _)⟩
  · rw [if_neg (by rw [decide_eq_true_eq]; omega)]
    rw [if_neg h29] at h
    refine ⟨by decide, by omega, ?_⟩
    by_cases hk : bt p 0 = 1
    · rw [if_neg (by simp [hk])]
      rw [if_neg (fun e => e hk)] at h
      refine znb.run hs (by decide) (by decide) ht fun H1 hle1 => ?_
      show zbc.c (zic psk helloB ⟨#[]⟩) p _ E H1
      refine zbc.run (ht.up hle1) (derive_size _ _ _) (by omega) hp fun H2 hle2 => ?_
      have := h H2 (hle1.trans hle2)
      by_cases he : (greetL (zic psk helloB ⟨#[]⟩).data.toList p).2 = 0
      · rw [if_neg (by simp [he])]
        rw [if_neg (fun e => e he)] at this
        exact ⟨by decide, by decide, by omega, H2, Heap.Le.refl _, this⟩
      · rw [if_pos (by simpa using he)]
        rw [if_pos he] at this
        exact ⟨H2, Heap.Le.refl _, this⟩
    · rw [if_pos (by simpa using hk)]
      rw [if_pos hk] at h
      exact ⟨H, Heap.Le.refl _, h H (Heap.Le.refl _)⟩
end
end Go.Sh
namespace Go.Sh
open Go.Proofs
set_option maxRecDepth 8000
def nb4 (n : Nat) : List UInt8 := [UInt8.ofNat (n / 16777216), UInt8.ofNat (n / 65536), UInt8.ofNat (n / 256), UInt8.ofNat n]
theorem numL_nb4 {n : Nat} (hn : n < 4294967296) : numL (nb4 n) = n := by
  unfold numL nb4
  simp only [List.foldl_cons, List.foldl_nil, UInt8.toNat_ofNat']
  omega
def headN (kind : UInt8) (cid : ByteArray) (n : Nat) : ByteArray := ((⟨#[kind]⟩ : ByteArray) ++ cid) ++ (⟨(nb4 n).toArray⟩ : ByteArray)
def pktN (s : List UInt8) (kind : UInt8) (cid : ByteArray) (n : Nat) (data : ByteArray) : ByteArray := headN kind cid n ++ (⟨(sealL s (un (n : Int)) (headN kind cid n).data.toList data.data.toList).toArray⟩ : ByteArray)
theorem ba_app3 (x y : ByteArray) : (x ++ y).data.toList = x.data.toList ++ y.data.toList := by rw [ByteArray.data_append, Array.toList_append]
theorem headN_list (kind : UInt8) (cid : ByteArray) (n : Nat) : (headN kind cid n).data.toList = ([kind] ++ cid.data.toList) ++ nb4 n := by
  unfold headN
  rw [ba_app3, ba_app3]
theorem headN_size (kind : UInt8) (cid : ByteArray) (n : Nat) : (headN kind cid n).size = cid.size + 5 := by
  rw [← zle, headN_list, List.length_append, List.length_append, zle]
  simp [nb4]
  omega
theorem pktN_list (s : List UInt8) (kind : UInt8) (cid : ByteArray) (n : Nat) (data : ByteArray) : (pktN s kind cid n data).data.toList = (headN kind cid n).data.toList ++ sealL s (un (n : Int)) (headN kind cid n).data.toList data.data.toList := by
  unfold pktN
  rw [ba_app3]
theorem pktN_size (s : List UInt8) (kind : UInt8) (cid : ByteArray) (n : Nat) (data : ByteArray) : (pktN s kind cid n data).size = cid.size + 21 + data.size := by
  rw [← zle, pktN_list, List.length_append, sealL_len, zle, zle, headN_size]
  omega
section
variable {s : List UInt8} {kind : UInt8} {cid : ByteArray} {n : Nat} {data : ByteArray}
theorem pktN_head (hc : cid.size = 8) : ((pktN s kind cid n data).extract 0 13).data.toList = (headN kind cid n).data.toList := by
  rw [ext_lst, pktN_list, List.drop_zero]
  exact List.take_left' (by rw [zle, headN_size, hc])
theorem pktN_body (hc : cid.size = 8) : ((pktN s kind cid n data).extract 13 (pktN s kind cid n data).size).data.toList = sealL s (un (n : Int)) (headN kind cid n).data.toList data.data.toList := by
  rw [ext_lst, pktN_list, pktN_size, List.drop_left' (by rw [zle, headN_size, hc])]
  exact List.take_of_length_le (by rw [sealL_len, zle]; omega)
theorem pktN_num (hc : cid.size = 8) (hn : n < 4294967296) : numP (pktN s kind cid n data) = n := by
  have hcl : cid.data.toList.length = 8 := by rw [zle]; exact hc
  unfold numP
  rw [ext_lst, pktN_list, headN_list, List.append_assoc, List.drop_left' (by simp [hcl]), List.take_left' (by simp [nb4])]
  exact numL_nb4 hn
theorem pktN_cid (hc : cid.size = 8) : (pktN s kind cid n data).extract 1 9 = cid := by
  have hcl : cid.data.toList.length = 8 := by rw [zle]; exact hc
  have e : ((pktN s kind cid n data).extract 1 9).data.toList = cid.data.toList := by
    rw [ext_lst, pktN_list, headN_list]
    show List.take 8 (((cid.data.toList ++ nb4 n)) ++ _) = _
    rw [List.append_assoc]
    exact List.take_left' hcl
  rw [ba_eq e, ba_mk]
theorem pktN_kind : bt (pktN s kind cid n data) 0 = (kind.toNat : Int) := by
  refine bt_at (i := 0) ?_
  rw [pktN_list, headN_list]
  rfl
theorem pktN_open (hc : cid.size = 8) (hn : n < 4294967296) : openP s (pktN s kind cid n data) = (data.data.toList, 0) := by
  unfold openP
  rw [pktN_num hc hn, pktN_head hc, pktN_body hc]
  exact open_seal
end
section
variable {H : Heap} {E : Value → Heap → Prop}
theorem nb4_cells {n : Nat} (hn : n < 4294967296) : ∀ (i : Nat) (x : UInt8), (nb4 n)[i]? = some x → (#[(.int .u8 (IntKind.u8.wrap (shrI .i64 (n : Int) 24))), (.int .u8 (IntKind.u8.wrap (shrI .i64 (n : Int) 16))), (.int .u8 (IntKind.u8.wrap (shrI .i64 (n : Int) 8))), (.int .u8 (IntKind.u8.wrap (n : Int)))] : Array Value)[i]? = some (.int .u8 (x.toNat : Int))
  | 0, _, h => by cases h; show some _ = _; rw [show (24 : Int) = ((24 : Nat) : Int) from rfl, shr_i64 (by decide), u8_nat]; rfl
  | 1, _, h => by cases h; show some _ = _; rw [show (16 : Int) = ((16 : Nat) : Int) from rfl, shr_i64 (by decide), u8_nat]; rfl
  | 2, _, h => by cases h; show some _ = _; rw [show (8 : Int) = ((8 : Nat) : Int) from rfl, shr_i64 (by decide), u8_nat]; rfl
  | 3, _, h => by cases h; show some _ = _; rw [u8_nat]; rfl
  | i + 4, _, h => by cases h
theorem zaf.wrun (ht : Tabs H) {b : Nat} {s cid data : ByteArray} {kind : UInt8} {n : Nat} {a o : Int} (hs : s.size ≤ 100000) (hc : cid.size ≤ 1000) (hd : data.size ≤ 10000) (hn : n < 4294967296) (hk : KeyAt H b s a o) (h0 : 0 ≤ a) (h1 : a ≤ 1000000) {K : ByteArray → Heap → Prop} (h : ∀ H', KeyAt H' b s (a + 1) o → Only b H H' → K (pktN s.data.toList kind cid n data) H') : zaf.c (some ⟨b, 0, none⟩) (kind.toNat : Int) cid n data K E H := by
  have e1 : (⟨#[kind]⟩ : ByteArray).size = 1 := rfl
  have e4 : (⟨(nb4 n).toArray⟩ : ByteArray).size = 4 := rfl
  refine ⟨zna fun b1 H1 hn1 hl1 hle1 => ?_⟩
  refine one_bytes (x := kind) hl1 ⟨by omega, by decide, by decide, by decide, ?_⟩
  refine zna fun b2 H2 hn2 hl2 hle2 => ?_
  refine rdBytes_of (bs := nb4 n) hl2 rfl (nb4_cells hn) ?_
  have hz := headN_size kind cid n
  have hz1 : ((⟨#[kind]⟩ : ByteArray) ++ cid).size = cid.size + 1 := by rw [ByteArray.size_append]; omega
  refine ⟨by rw [hz1]; omega, ?_⟩
  show zye.c (some ⟨b, 0, none⟩) n (headN kind cid n) data _ E H2
  have hle := hle1.trans hle2
  refine zye.run hs (by omega) (by omega) (hk.le hle) h0 h1 (ht.up hle) fun H3 hk3 ho => ?_
  have hsl : (sealL s.data.toList (un (n : Int)) (headN kind cid n).data.toList data.data.toList).length = data.size + 16 := by rw [sealL_len, zle]
  refine ⟨?_, H3, Heap.Le.refl _, h H3 hk3 ((Only.of_le hle).trans ho)⟩
  show (headN kind cid n).size + _ ≤ _
  have e : (⟨(sealL s.data.toList (un (n : Int)) (headN kind cid n).data.toList data.data.toList).toArray⟩ : ByteArray).size = (sealL s.data.toList (un (n : Int)) (headN kind cid n).data.toList data.data.toList).length := zxa _
  rw [hz, e, hsl]
  omega
theorem zfe.wrun (ht : Tabs H) {b : Nat} {s p : ByteArray} {a o : Int} (hs : s.size ≤ 100000) (h13 : 13 ≤ p.size) (hp : p.size ≤ 100000) (hk : KeyAt H b s a o) (h0 : 0 ≤ o) (h1 : o ≤ 1000000) {K : ByteArray → Int → Heap → Prop} (h : ∀ H' o', KeyAt H' b s a o' → 0 ≤ o' → o' ≤ o + 1 → Only b H H' → K ⟨(openP s.data.toList p).1.toArray⟩ (openP s.data.toList p).2 H') : zfe.c (some ⟨b, 0, none⟩) p K E H := by
  refine ⟨by decide, by omega, by decide, by omega, Nat.le_refl _, ?_⟩
  refine zsc.run h13 fun H1 hle => ?_
  refine zxe.run hs (by rw [ByteArray.size_extract]; omega) (by rw [ByteArray.size_extract]; omega) (hk.le hle) h0 h1 (ht.up hle) fun H2 o' hk2 ho ho' => ?_
  exact ⟨H2, Heap.Le.refl _, h H2 o' hk2 (by rw [ho']; split <;> omega) (by rw [ho']; split <;> omega) ((Only.of_le hle).trans ho)⟩
end
theorem hello_pkt {psk cid nonce : ByteArray} (hc : cid.size = 8) (hn : nonce.size = 16) : helloL psk (pktN (zic psk helloB ⟨#[]⟩).data.toList 1 cid 0 nonce) = (cid, nonce, 0) := by
  obtain ⟨S, hS⟩ : ∃ S, S = (zic psk helloB ⟨#[]⟩).data.toList := ⟨_, rfl⟩
  rw [← hS]
  have hg : greetL S (pktN S 1 cid 0 nonce) = (nonce, 0) := by
    unfold greetL
    rw [pktN_open hc (by decide), pktN_num hc (by decide)]
    rw [if_neg (by simp), if_neg (by rw [zle]; omega), ba_mk]
  unfold helloL
  rw [if_neg (by rw [pktN_size]; omega), if_neg (by rw [pktN_kind]; decide), ← hS, hg, if_neg (by simp), pktN_cid hc]
theorem greet_pkt {S : List UInt8} {kind : UInt8} {cid nonce : ByteArray} (hc : cid.size = 8) (hn : nonce.size = 16) : greetL S (pktN S kind cid 0 nonce) = (nonce, 0) := by
  unfold greetL
  rw [pktN_open hc (by decide), pktN_num hc (by decide)]
  rw [if_neg (by simp), if_neg (by rw [zle]; omega), ba_mk]
end Go.Sh
namespace Go.Sh
abbrev Own := List Nat → Heap → Prop
structure Own.good (P : Own) : Prop where
  step : ∀ {L M M' : List Nat} {H H' : Heap}, P L H → Step M H M' H' → (∀ k ∈ L, k ∉ M) → P L H'
  live : ∀ {L : List Nat} {H : Heap}, P L H → ∀ k ∈ L, H k ≠ none
def Star : List Own → List Nat → Heap → Prop
  | [], L, _ => L = []
  | P :: Ps, L, H => ∃ L1 L2, L = L1 ++ L2 ∧ P L1 H ∧ Star Ps L2 H ∧ ∀ k ∈ L1, k ∉ L2
theorem out_of {L M M' : List Nat} {H H' : Heap} (hs : Step M H M' H') (hl : ∀ k ∈ L, H k ≠ none) (hd : ∀ k ∈ L, k ∉ M) : ∀ k ∈ L, k ∉ M' := fun k hk => by
  cases e : H k with
  | none => exact absurd e (hl k hk)
  | some o => exact (hs k o e (hd k hk)).2
theorem Star.good : ∀ {Ps : List Own}, (∀ P ∈ Ps, P.good) → Own.good (Star Ps)
  | [], _ => ⟨fun {L M M' H H'} h _ _ => h, fun {L H} h k hk => by rw [show L = [] from h] at hk; cases hk⟩
  | P :: Ps, hg => by
    have h1 := hg P (by simp)
    have h2 := Star.good (Ps := Ps) fun Q hQ => hg Q (by simp [hQ])
    refine ⟨?_, ?_⟩
    · rintro L M M' H H' ⟨L1, L2, rfl, a, b, c⟩ hs hn
      exact ⟨L1, L2, rfl, h1.step a hs fun k hk => hn k (by simp [hk]), h2.step b hs fun k hk => hn k (by simp [hk]), c⟩
    · rintro L H ⟨L1, L2, rfl, a, b, c⟩ k hk
      rcases List.mem_append.1 hk with h | h
      · exact h1.live a k h
      · exact h2.live b k h
theorem Star.part : ∀ {Ps : List Own} (_ : ∀ P ∈ Ps, P.good) {i : Nat} {P : Own} (_ : Ps[i]? = some P) {L : List Nat} {H : Heap} (_ : Star Ps L H),
    ∃ Li, P Li H ∧ (∀ k ∈ Li, k ∈ L) ∧ ∀ {P' : Own} {Li' : List Nat} {H' : Heap}, P' Li' H' → Step Li H Li' H' → ∃ L', Star (Ps.set i P') L' H' ∧ Step L H L' H'
  | [], _, i, P, hi, _, _, _ => by simp at hi
  | Q :: Ps, hg, 0, P, hi, L, H, h => by
    obtain ⟨L1, L2, rfl, a, b, c⟩ := h
    simp at hi; subst hi
    have h2 := Star.good (Ps := Ps) fun R hR => hg R (by simp [hR])
    refine ⟨L1, a, fun k hk => by simp [hk], fun {P' Li' H'} hp hs => ?_⟩
    have hd : ∀ k ∈ L2, k ∉ L1 := fun k hk h1 => c k h1 hk
    have hd2 := out_of hs (h2.live b) hd
    refine ⟨Li' ++ L2, ⟨Li', L2, rfl, hp, h2.step b hs hd, fun k hk h2 => hd2 k h2 hk⟩, fun k o hk hn => ?_⟩
    rw [List.mem_append, not_or] at hn
    obtain ⟨k1, k2⟩ := hs k o hk hn.1
    exact ⟨k1, by rw [List.mem_append, not_or]; exact ⟨k2, hn.2⟩⟩
  | Q :: Ps, hg, i + 1, P, hi, L, H, h => by
    obtain ⟨L1, L2, rfl, a, b, c⟩ := h
    have h1 := hg Q (by simp)
    obtain ⟨Li, hp, hin, hput⟩ := Star.part (Ps := Ps) (fun R hR => hg R (by simp [hR])) (i := i) (P := P) (by simpa using hi) b
    refine ⟨Li, hp, fun k hk => by simp [hin k hk], fun {P' Li' H'} hp' hs => ?_⟩
    obtain ⟨L2', hst, hs2⟩ := hput hp' hs
    have hd2 := out_of hs2 (h1.live a) c
    refine ⟨L1 ++ L2', ⟨L1, L2', rfl, h1.step a hs2 c, hst, hd2⟩, fun k o hk hn => ?_⟩
    rw [List.mem_append, not_or] at hn
    obtain ⟨k1, k2⟩ := hs2 k o hk hn.2
    exact ⟨k1, by rw [List.mem_append, not_or]; exact ⟨hn.1, k2⟩⟩
theorem good_cells {b : Nat} {Q : Obj → Prop} : Own.good fun L H => (∃ o, H b = some o ∧ Q o) ∧ L = [b] := by
  refine ⟨?_, ?_⟩
  · rintro L M M' H H' ⟨⟨o, ho, hq⟩, rfl⟩ hs hn
    exact ⟨⟨o, (hs b o ho (hn b (by simp))).1, hq⟩, rfl⟩
  · rintro L H ⟨⟨o, ho, hq⟩, rfl⟩ k hk
    rw [List.mem_singleton] at hk
    rw [hk, ho]; simp
end Go.Sh
namespace Go.Sh
open Go.Proofs
set_option maxRecDepth 8000
section
variable {H : Heap} {E : Value → Heap → Prop}
def WinO (wb m : Nat) : Own := fun L H => (∃ o, H wb = some o ∧ o = .cells #[.int .i64 ((m - 1 : Nat) : Int), .int .u64 ((2 ^ m - 1 : Nat) : Int)] 223) ∧ L = [wb]
theorem WinO.good (wb m : Nat) : (WinO wb m).good := good_cells
theorem WinO.get {wb m : Nat} {L : List Nat} (h : WinO wb m L H) : H wb = some (.cells #[.int .i64 ((m - 1 : Nat) : Int), .int .u64 ((2 ^ m - 1 : Nat) : Int)] 223) ∧ L = [wb] := by
  obtain ⟨⟨o, ho, rfl⟩, rfl⟩ := h
  exact ⟨ho, rfl⟩
theorem win_bit : ∀ m, m < 9 → ∀ n, n < m → bits .and .u64 (shrI .u64 ((2 ^ m - 1 : Nat) : Int) ((m - 1 - n : Nat) : Int)) 1 = 1 := by decide
theorem win_next : ∀ m, m < 9 → bits .or .u64 1 (shlI .u64 ((2 ^ m - 1 : Nat) : Int) 1) = ((2 ^ (m + 1) - 1 : Nat) : Int) := by decide
theorem win_zero : ∀ m, m < 9 → 0 < m → ((2 ^ m - 1 : Nat) : Int) ≠ 0 := by decide
theorem wc_j1 {w : Option Addr} {n : Int} {Kn : Heap → Prop} {Kr : Int → Heap → Prop} (h : Kn H) : zza.J1 w n false Kn Kr E H := by
  refine ⟨?_⟩
  unfold zza.J1.vc
  rw [if_neg (by decide)]
  exact h
theorem wc_j3 {w : Option Addr} {n : Int} {x : Bool} {Kn : Heap → Prop} {Kr : Int → Heap → Prop} (h1 : x = true → Kr 0 H) (h0 : x = false → Kn H) : zza.J3 w n x Kn Kr E H := by
  refine ⟨?_⟩
  unfold zza.J3.vc
  cases x with
  | true => rw [if_pos rfl]; exact h1 rfl
  | false => rw [if_neg (by decide)]; exact h0 rfl
theorem zza.run {wb m n : Nat} (hm : m ≤ 8) (hn : n < 4294967296) {L : List Nat} (hw : WinO wb m L H) {K : Int → Heap → Prop} (h : K (if n < m then 11 else 0) H) : zza.c (some ⟨wb, 0, none⟩) n K E H := by
  obtain ⟨hb, rfl⟩ := hw.get
  refine ⟨?_⟩
  unfold zza.vc
  rw [if_neg (by rw [decide_eq_true_eq]; omega), decide_eq_false (by omega)]
  refine wc_j1 ⟨?_⟩
  unfold zza.J2.vc
  refine ⟨_, rfl, _, loc (o := 1) hb rfl, ?_⟩
  dsimp only
  by_cases h0 : m = 0
  · subst h0
    rw [if_pos (by decide)]
    rw [if_neg (by omega)] at h
    exact wc_j3 (fun _ => ⟨H, Heap.Le.refl _, h⟩) (fun e => by cases e)
  · rw [if_neg (by rw [beq_iff_eq]; exact win_zero m (by omega) (by omega))]
    refine ⟨_, rfl, _, loc (o := 0) hb rfl, ?_⟩
    refine wc_j3 (fun e => ⟨H, Heap.Le.refl _, ?_⟩) (fun e => ⟨?_⟩)
    · rw [decide_eq_true_eq] at e
      rw [if_neg (by omega)] at h
      exact h
    · rw [decide_eq_false_iff_not] at e
      rw [if_pos (by omega)] at h
      unfold zza.J4.vc
      refine ⟨_, rfl, _, loc (o := 0) hb rfl, ?_⟩
      dsimp only
      have e1 : IntKind.i64.wrap (((m - 1 : Nat) : Int) - (n : Int)) = ((m - 1 - n : Nat) : Int) := by rw [w_i64 (by omega) (by omega)]; omega
      rw [e1, if_neg (by rw [decide_eq_true_eq]; omega)]
      refine ⟨_, rfl, _, loc (o := 1) hb rfl, by omega, ⟨?_⟩⟩
      unfold zza.J5.vc
      rw [win_bit m (by omega) n (by omega), if_pos (by decide)]
      exact ⟨H, Heap.Le.refl _, h⟩
theorem zed.run {wb m : Nat} (hm : m ≤ 7) {L : List Nat} (hw : WinO wb m L H) {K : Int → Heap → Prop} (h : ∀ H', WinO wb (m + 1) [wb] H' → Step [wb] H [wb] H' → K 0 H') : zed.c (some ⟨wb, 0, none⟩) m K E H := by
  obtain ⟨hb, rfl⟩ := hw.get
  refine ⟨?_⟩
  unfold zed.vc
  refine zza.run (by omega) (by omega) hw ?_
  rw [if_neg (by rw [if_neg (by omega)]; decide)]
  have fin : ∀ {v0 v1 : Value}, v0 = .int .i64 ((m + 1 - 1 : Nat) : Int) → v1 = .int .u64 ((2 ^ (m + 1) - 1 : Nat) : Int) → stc H ((⟨wb, 0, none⟩ : Addr).add 0) v0 fun h2 => stc h2 ((⟨wb, 0, none⟩ : Addr).add 1) v1 fun h3 => ∃ H', Heap.Le H' h3 ∧ K 0 H' := fun {v0 v1} e0 e1 => by
    subst e0 e1
    refine stc_at (o := 0) (arr' := #[.int .i64 ((m + 1 - 1 : Nat) : Int), .int .u64 ((2 ^ m - 1 : Nat) : Int)]) hb (show 0 < 2 by decide) rfl ?_
    refine stc_at (o := 1) (arr' := #[.int .i64 ((m + 1 - 1 : Nat) : Int), .int .u64 ((2 ^ (m + 1) - 1 : Nat) : Int)]) (set_self _ _ _) (show 1 < 2 by decide) rfl ?_
    rw [zdc]
    exact ⟨_, Heap.Le.refl _, h _ ⟨⟨_, set_self _ _ _, rfl⟩, rfl⟩ (Step.set _ _ _)⟩
  refine ⟨_, rfl, _, loc (o := 1) hb rfl, ?_⟩
  dsimp only
  by_cases h0 : m = 0
  · subst h0
    rw [if_pos (by decide)]
    exact ⟨_, rfl, fin rfl rfl⟩
  · rw [if_neg (by rw [beq_iff_eq]; exact win_zero m (by omega) (by omega))]
    refine ⟨_, rfl, _, loc (o := 0) hb rfl, ?_⟩
    dsimp only
    rw [if_pos (by rw [decide_eq_true_eq]; omega)]
    refine ⟨_, rfl, _, loc (o := 0) hb rfl, ?_⟩
    dsimp only
    have e1 : IntKind.i64.wrap ((m : Int) - ((m - 1 : Nat) : Int)) = 1 := by rw [w_i64 (by omega) (by omega)]; omega
    rw [e1, if_pos (by decide)]
    refine ⟨_, rfl, _, loc (o := 1) hb rfl, by decide, ⟨?_⟩⟩
    unfold zed.J1.vc
    rw [win_next m (by omega)]
    exact ⟨_, rfl, fin rfl rfl⟩
structure Pkt where
  n : Nat
  at' : Int
  size : Nat
def Pkt.row (p : Pkt) : List Value := [.int .i64 p.n, .int .i64 p.at', .int .i64 p.size]
def LedO (lb : Nat) (F : List Pkt) (top : Int) : Own := fun L H => ∃ p c, H lb = some (.cells #[.slice p F.length c, .int .i64 top, .int .i64 12000, .int .i64 1073741824, .int .i64 (-1), .int .i64 0] 159) ∧ zlb H 157 3 p F.length c (F.map Pkt.row) ∧ lb ∉ bl p ∧ L = lb :: bl p
theorem LedO.good (lb : Nat) (F : List Pkt) (top : Int) : (LedO lb F top).good := by
  refine ⟨?_, ?_⟩
  · rintro L M M' H H' ⟨p, c, hb, ho, hn, rfl⟩ hs hd
    exact ⟨p, c, (hs lb _ hb (hd lb (by simp))).1, ho.step hs fun k hk => hd k (by simp [hk]), hn, rfl⟩
  · rintro L H ⟨p, c, hb, ho, hn, rfl⟩ k hk
    rcases List.mem_cons.1 hk with rfl | hk
    · rw [hb]; simp
    · exact ho.live k hk
theorem LedO.cells {lb : Nat} {F : List Pkt} {p : Option Addr} (hr : RowsAt H p F.length 3 (F.map Pkt.row)) {i : Nat} {x : Pkt} (hi : F[i]? = some x) : ∃ a, p = some a ∧ H.cell? ((a.add (i * 3)).add 0) = some (.int .i64 x.n) ∧ H.cell? ((a.add (i * 3)).add 1) = some (.int .i64 x.at') ∧ H.cell? ((a.add (i * 3)).add 2) = some (.int .i64 x.size) := by
  obtain ⟨a, ha, hc⟩ := RowsAt.cell hr (i := i) (es := x.row) (by rw [List.getElem?_map, hi]; rfl)
  exact ⟨a, ha, hc 0 _ rfl, hc 1 _ rfl, hc 2 _ rfl⟩
def flightN (F : List Pkt) : Nat := (F.map Pkt.size).sum
theorem zxd.run {lb : Nat} {F : List Pkt} {top : Int} {L : List Nat} (hl : LedO lb F top L H) {K : Int → Heap → Prop} (h : K 12000 H) : zxd.c (some ⟨lb, 0, none⟩) K E H := by
  obtain ⟨p, c, hb, ho, hn, rfl⟩ := hl
  exact ⟨⟨_, rfl, _, loc (o := 2) hb rfl, H, Heap.Le.refl _, h⟩⟩
theorem sum_take {F : List Pkt} {i : Nat} {x : Pkt} (hi : F[i]? = some x) : flightN (F.take (i + 1)) = flightN (F.take i) + x.size := by
  unfold flightN
  rw [take_snoc hi, List.map_append, List.sum_append]
  simp
theorem sum_le {F : List Pkt} (hs : ∀ x ∈ F, x.size ≤ 1200) : flightN F ≤ 1200 * F.length := by
  unfold flightN
  induction F with
  | nil => simp
  | cons x F ih =>
    have h1 := hs x (by simp)
    have h2 := ih fun y hy => hs y (by simp [hy])
    simp only [List.map_cons, List.sum_cons, List.length_cons]
    omega
theorem zwc.run {lb : Nat} {F : List Pkt} {top : Int} {L : List Nat} (hl : LedO lb F top L H) (hF : F.length ≤ 1000) (hs : ∀ x ∈ F, x.size ≤ 1200) {K : Int → Int → Heap → Prop} (h : ∀ H', Heap.Le H H' → K F.length (flightN F) H') : zwc.c (some ⟨lb, 0, none⟩) K E H := by
  obtain ⟨p, c, hb, ho, hn, rfl⟩ := hl
  refine ⟨?_⟩
  unfold zwc.vc
  refine ⟨_, rfl, _, _, _, loc (o := 0) hb rfl, ?_⟩
  refine ⟨Loop.of (I := fun st H' m => ∃ i : Nat, st = (((flightN (F.take i) : Nat) : Int), (i : Int)) ∧ i ≤ F.length ∧ m = F.length - i ∧ Heap.Le H H') ?_ ⟨0, rfl, Nat.zero_le _, rfl, Heap.Le.refl _⟩⟩
  rintro m st H' ⟨i, rfl, hi, rfl, hle⟩ RR hRR
  unfold zwc.W1.vc
  dsimp only
  by_cases hc : i < F.length
  · rw [if_pos (by rw [decide_eq_true_eq]; omega)]
    obtain ⟨x, hx⟩ : ∃ x, F[i]? = some x := ⟨_, List.getElem?_eq_getElem hc⟩
    obtain ⟨a, ha, c0, c1, c2⟩ := LedO.cells (lb := lb) (ho.at.mono hle) hx
    refine ⟨a, ha, by omega, by omega, ?_⟩
    rw [Int.toNat_natCast]
    refine ⟨_, c0, _, c1, _, c2, new3_le fun b H2 hn2 hl2 hle2 => ⟨_, loc (o := 2) hl2 rfl, ?_⟩⟩
    have hsx := hs x (List.mem_of_getElem? hx)
    have hst := sum_le (F := F.take i) fun y hy => hs y (List.mem_of_mem_take hy)
    rw [List.length_take] at hst
    dsimp only
    rw [w_i64 (n := ((flightN (F.take i) : Nat) : Int) + (x.size : Int)) (by omega) (by omega), w_i64 (by omega) (by omega)]
    refine hRR (_, _) _ (F.length - (i + 1)) (by omega) ⟨i + 1, ?_, by omega, rfl, hle.trans hle2⟩
    rw [sum_take hx]
    simp
  · rw [if_neg (by rw [decide_eq_true_eq]; omega)]
    have : i = F.length := by omega
    subst this
    rw [List.take_length]
    exact ⟨_, rfl, _, _, _, loc (o := 0) (hle _ _ hb) rfl, H', Heap.Le.refl _, h H' hle⟩
theorem zpe.run {lb : Nat} {F : List Pkt} {top : Int} {L : List Nat} (hl : LedO lb F top L H) {K : Int → Heap → Prop} (h : K 8 H) : zpe.c (some ⟨lb, 0, none⟩) K E H := by
  obtain ⟨p, c, hb, ho, hn, rfl⟩ := hl
  exact ⟨⟨_, rfl, _, loc (o := 5) hb rfl, by decide, H, Heap.Le.refl _, h⟩⟩
theorem cellA {b : Nat} {v : Value} {e : TypeId} (h : H b = some (.cells #[v] e)) : H.cell? ⟨b, 0, none⟩ = some v := cell0 h rfl
theorem ledger_Expire_1.run {lb nb pb : Nat} {F : List Pkt} {top : Int} {L : List Nat} (hl : LedO lb F top L H) {now : Int} {x : Pkt} (hn : H nb = some (.cells #[.int .i64 now] 2)) (hp : H pb = some (.cells #[.pointer (some ⟨lb, 0, none⟩)] 66)) (h0 : 0 ≤ x.at') (h1 : now ≤ 1000000) (h2 : x.at' ≤ now) (h3 : now - x.at' < 8) {K : Bool → Heap → Prop} (h : ∀ H', Heap.Le H H' → K false H') : zee.c x.n x.at' x.size ⟨nb, 0, none⟩ ⟨pb, 0, none⟩ K E H := by
  refine ⟨?_⟩
  unfold zee.vc
  refine zna fun b H1 hn1 hl1 hle1 => ⟨_, cellA (hle1 _ _ hn), _, loc (o := 1) hl1 rfl, ?_⟩
  dsimp only
  by_cases hc : now > x.at'
  · rw [if_pos (by rw [decide_eq_true_eq]; exact hc)]
    refine ⟨_, cellA (hle1 _ _ hn), _, loc (o := 1) hl1 rfl, _, cellA (hle1 _ _ hp), ?_⟩
    refine zpe.run ((LedO.good lb F top).step hl (Step.of_le (L := []) hle1) (by simp)) ?_
    refine ⟨⟨rfl, rfl⟩, ⟨_, loc (o := 1) hl1 rfl, rfl, rfl⟩, ⟨rfl, rfl⟩, ⟨_, cellA (hle1 _ _ hn), rfl, rfl⟩, ?_⟩
    rw [w_u64 (n := now) (by omega) (by omega), w_u64 (n := x.at') (by omega) (by omega), w_u64 (n := now - x.at') (by omega) (by omega), show IntKind.u64.wrap 8 = 8 by decide, decide_eq_false (by omega)]
    exact ⟨H1, Heap.Le.refl _, h H1 hle1⟩
  · rw [if_neg (by rw [decide_eq_true_eq]; exact hc)]
    exact ⟨trivial, trivial, trivial, trivial, H1, Heap.Le.refl _, h H1 hle1⟩
theorem zjd.run {lb : Nat} {F : List Pkt} {top : Int} {L : List Nat} (hl : LedO lb F top L H) {now : Int} (hF : F.length ≤ 1000) (h1 : now ≤ 1000000) (hs : ∀ x ∈ F, 0 ≤ x.at' ∧ x.at' ≤ now ∧ now - x.at' < 8) {K : Option Addr → Nat → Nat → Heap → Prop} (h : ∀ H', Heap.Le H H' → K none 0 0 H') : zjd.c (some ⟨lb, 0, none⟩) now K E H := by
  have hg := LedO.good lb F top
  refine ⟨?_⟩
  unfold zjd.vc
  refine zna fun pb H1 hn1 hl1 hle1 => zna fun nb H2 hn2 hl2 hle2 => ?_
  have l2 := hle1.trans hle2
  have hp2 := hle2 _ _ hl1
  obtain ⟨p, c, hb, ho, hn, hL⟩ := hl
  refine ⟨_, cellA hp2, _, rfl, _, _, _, loc (o := 0) (l2 _ _ hb) rfl, ⟨⟨?_⟩⟩⟩
  refine ⟨Loop.of (I := fun st H' m => ∃ i : Nat, st = (i : Int) ∧ i ≤ F.length ∧ m = F.length - i ∧ Heap.Le H2 H') ?_ ⟨0, rfl, Nat.zero_le _, rfl, Heap.Le.refl _⟩⟩
  rintro m st H' ⟨i, rfl, hi, rfl, hle⟩ RR hRR
  unfold zmb.W1.vc
  by_cases hc : i < F.length
  · rw [if_pos (by rw [decide_eq_true_eq]; omega)]
    obtain ⟨x, hx⟩ : ∃ x, F[i]? = some x := ⟨_, List.getElem?_eq_getElem hc⟩
    obtain ⟨a, ha, c0, c1, c2⟩ := LedO.cells (lb := lb) (ho.at.mono (l2.trans hle)) hx
    refine ⟨a, ha, by omega, by omega, ?_⟩
    rw [Int.toNat_natCast]
    obtain ⟨s0, s1, s2⟩ := hs x (List.mem_of_getElem? hx)
    refine ⟨_, c0, _, c1, _, c2, ?_⟩
    refine ledger_Expire_1.run (L := L) (hg.step ⟨p, c, hb, ho, hn, hL⟩ (Step.of_le (L := []) (l2.trans hle)) (by simp)) (hle _ _ hl2) (hle _ _ hp2) s0 h1 s1 s2 fun H3 hle3 => ?_
    rw [if_neg (by decide), w_i64 (by omega) (by omega)]
    exact hRR _ _ (F.length - (i + 1)) (by omega) ⟨i + 1, rfl, by omega, rfl, hle.trans hle3⟩
  · rw [if_neg (by rw [decide_eq_true_eq]; omega)]
    refine ⟨H', Heap.Le.refl _, H', Heap.Le.refl _, ?_⟩
    rw [if_pos (by decide)]
    exact ⟨H', Heap.Le.refl _, h H' (l2.trans hle)⟩
theorem zoc.run {lb : Nat} {F : List Pkt} {top : Int} {L : List Nat} (hl : LedO lb F top L H) (hF : F.length ≤ 1000) {n size : Nat} {now : Int} (hn : top < n) (hn2 : n < 4294967296) (hz : 1 ≤ size) (hz2 : size ≤ 1200) {K : Int → Heap → Prop} (h : ∀ L' H', LedO lb (F ++ [⟨n, now, size⟩]) n L' H' → Step L H L' H' → K 0 H') : zoc.c (some ⟨lb, 0, none⟩) n now size K E H := by
  obtain ⟨p, c, hb, ho, hnp, rfl⟩ := hl
  refine ⟨?_⟩
  unfold zoc.vc
  refine ⟨_, rfl, _, loc (o := 1) hb rfl, ?_⟩
  dsimp only
  rw [if_neg (by rw [decide_eq_true_eq]; omega), if_neg (by rw [decide_eq_true_eq]; omega), if_neg (by rw [decide_eq_true_eq]; omega), decide_eq_false (by omega)]
  refine ⟨?_⟩
  unfold zoc.J1.vc
  rw [if_neg (by decide)]
  refine ⟨?_⟩
  unfold zoc.J2.vc
  refine ⟨_, rfl, _, _, _, loc (o := 0) hb rfl, zna fun bx H1 hn1 hl1 hle1 => ?_⟩
  have hrow : RowsAt H1 (some ⟨bx, 0, none⟩) 1 3 [Pkt.row ⟨n, now, size⟩] := by
    refine ⟨rfl, (fun e => by cases e), fun a ha j es hj => ?_⟩
    cases ha
    match j with
    | 0 =>
      simp at hj; subst hj
      refine ⟨rfl, fun q v hq => ?_⟩
      rw [Nat.zero_mul]
      exact loc (o := q) hl1 (by rw [← Array.getElem?_toList]; exact hq)
    | j + 1 => simp at hj
  refine rdRow_of hrow (by decide) rfl ?_
  refine appT_step (xs := [Pkt.row ⟨n, now, size⟩]) (ho.le hle1) (by decide) rfl rfl rfl (by simp [Pkt.row]) ?_ (by omega) (by omega) fun p' c' H2 h2 hs2 => ?_
  · intro v hv
    simp [Pkt.row] at hv
    rcases hv with rfl | rfl | rfl <;> rfl
  obtain ⟨hb2, hnp2⟩ := hs2 lb _ (hle1 _ _ hb) hnp
  refine ⟨_, rfl, stc_at (o := 0) (arr' := #[.slice p' (F.length + 1) c', .int .i64 top, .int .i64 12000, .int .i64 1073741824, .int .i64 (-1), .int .i64 0]) hb2 (show 0 < 6 by decide) rfl ⟨?_⟩⟩
  unfold zoc.J3.vc
  refine ⟨_, rfl, stc_at (o := 1) (arr' := #[.slice p' (F.length + 1) c', .int .i64 n, .int .i64 12000, .int .i64 1073741824, .int .i64 (-1), .int .i64 0]) (set_self _ _ _) (show 1 < 6 by decide) rfl ?_⟩
  rw [zdc]
  refine ⟨_, Heap.Le.refl _, h (lb :: bl p') _ ⟨p', c', by rw [List.length_append]; exact set_self _ _ _, ?_, hnp2, rfl⟩ fun k o hk hn => ?_⟩
  · rw [List.length_append, List.map_append]
    refine h2.keep fun ob o hp hob => ?_
    rw [set_ne _ _ (fun e => hnp2 (by rw [hp, ← e]; simp [bl]))]
    exact hob
  · have kl : k ≠ lb := fun e => hn (by rw [e]; simp)
    obtain ⟨k1, k2⟩ := hs2 k o (hle1 _ _ hk) (fun hm => hn (by simp [hm]))
    exact ⟨by rw [set_ne _ _ kl]; exact k1, by simp [kl, k2]⟩
end
end Go.Sh
