/- Numbers in few bytes; keys that are made; ShaSums, ShaKeys. -/
import Derived.Test.YtkfkkkalcchpkaaGreatDoorShaE
namespace Go.Sh
set_option maxRecDepth 8000
def vk (n : Nat) : Nat := if n < 64 then 1 else if n < 16384 then 2 else 4
def vi (n : Nat) : Nat := if n < 64 then 0 else if n < 16384 then 1 else 2
def headUp (x : UInt8) : List UInt8 → List UInt8
  | [] => []
  | y :: r => (y + x) :: r
def vput (n : Nat) : List UInt8 := headUp (UInt8.ofNat (64 * vi n)) (beN n (vk n))
def vtext (s : List UInt8) : List UInt8 := vput s.length ++ s
theorem vi_le (n : Nat) : vi n ≤ 2 := by
  unfold vi
  split
  · omega
  · split <;> omega
theorem vk_eq (n : Nat) : vk n = 2 ^ vi n := by
  unfold vk vi
  split
  · rfl
  · split <;> rfl
theorem vk_cases (n : Nat) : (n < 64 ∧ vk n = 1) ∨ (¬ n < 64 ∧ n < 16384 ∧ vk n = 2) ∨ (¬ n < 64 ∧ ¬ n < 16384 ∧ vk n = 4) := by
  unfold vk
  split
  · rename_i h; exact .inl ⟨h, rfl⟩
  · rename_i h
    split
    · rename_i h2; exact .inr (.inl ⟨h, h2, rfl⟩)
    · rename_i h2; exact .inr (.inr ⟨h, h2, rfl⟩)
theorem vk_range (n : Nat) : 1 ≤ vk n ∧ vk n ≤ 4 := by
  unfold vk
  split
  · omega
  · split <;> omega
theorem vput_len (n : Nat) : (vput n).length = vk n := by
  unfold vput
  have h := beN_len (vk n) n
  have := vk_range n
  cases hb : beN n (vk n) with
  | nil => rw [hb] at h; simp at h; omega
  | cons y r => rw [hb] at h; simpa [headUp] using h
def szTab : List Int := [1, 2, 4, 8]
theorem shr_i64 {n a : Nat} (ha : a ≤ 62) : shrI .i64 (n : Int) (a : Int) = ((n / 2 ^ a : Nat) : Int) := by
  unfold shrI
  have e3 : min ((a : Int)).toNat (IntKind.bits .i64) = a := by
    show min ((a : Int)).toNat 64 = _
    omega
  rw [e3, Int.fdiv_eq_ediv_of_nonneg _ (Int.le_of_lt (Int.pow_pos (by decide)))]
  simp
theorem vi_test {n i : Nat} (hn : n < 1073741824) (hi : i ≤ 2) : n / 2 ^ (8 * 2 ^ i - 2) = 0 ↔ vi n ≤ i := by
  rw [Nat.div_eq_zero_iff]
  unfold vi
  match i, hi with
  | 0, _ =>
    have e : 2 ^ (8 * 2 ^ 0 - 2) = 64 := rfl
    rw [e]
    split
    · omega
    · split <;> omega
  | 1, _ =>
    have e : 2 ^ (8 * 2 ^ 1 - 2) = 16384 := rfl
    rw [e]
    split
    · omega
    · split <;> omega
  | 2, _ =>
    have e : 2 ^ (8 * 2 ^ 2 - 2) = 1073741824 := rfl
    rw [e]
    split
    · omega
    · split <;> omega
theorem sz_at (i : Nat) (hi : i ≤ 2) : (#[(.int .i64 1), (.int .i64 2), (.int .i64 4), (.int .i64 8)] : Array Value)[i]? = some (.int .i64 ((2 ^ i : Nat) : Int)) := by
  match i, hi with
  | 0, _ => rfl
  | 1, _ => rfl
  | 2, _ => rfl
theorem pow_small {i : Nat} (hi : i ≤ 2) : 1 ≤ 2 ^ i ∧ 2 ^ i ≤ 4 := by
  match i, hi with
  | 0, _ => decide
  | 1, _ => decide
  | 2, _ => decide
theorem varint_form.run {n : Nat} (hn : n < 1073741824) {H : Heap} (ht : IntsIn H 0 .i64 szTab) {K : Int → Heap → Prop} {E : Value → Heap → Prop} (h : K (vi n) H) : varint_form.c n K E H := by
  refine ⟨?_⟩
  unfold varint_form.vc
  have g : ∀ (i : Nat) (x : Int), szTab[i]? = some x → H.cell? ((⟨0, 0, none⟩ : Addr).add i) = some (.int .i64 x) := fun i x hi => by
    rw [add_mk, Nat.zero_add]
    exact ht i x hi
  refine ⟨_, g 0 _ rfl, _, g 1 _ rfl, _, g 2 _ rfl, _, g 3 _ rfl, ?_⟩
  refine ⟨Loop.of (I := fun st H' m => ∃ i : Nat, st = (i : Int) ∧ i ≤ vi n ∧ m = 4 - i ∧ H' = H) ?_ ⟨0, rfl, Nat.zero_le _, rfl, rfl⟩⟩
  rintro m st H' ⟨i, rfl, hi, rfl, rfl⟩ RR hRR
  have hv := vi_le n
  unfold varint_form.W1.vc
  rw [if_pos (by rw [decide_eq_true_eq]; omega)]
  have hp := pow_small (i := i) (by omega)
  refine ⟨by omega, by omega, _, by rw [Int.toNat_natCast]; exact sz_at i (by omega), _, rfl, ?_⟩
  rw [if_pos (by rw [decide_eq_true_eq]; omega)]
  have e1 : IntKind.i64.wrap (IntKind.i64.wrap (8 * ((2 ^ i : Nat) : Int)) - 2) = ((8 * 2 ^ i - 2 : Nat) : Int) := by
    rw [w_i64 (n := 8 * ((2 ^ i : Nat) : Int)) (by omega) (by omega), w_i64 (by omega) (by omega)]; omega
  rw [e1, shr_i64 (by omega)]
  refine ⟨by omega, ⟨?_⟩⟩
  unfold varint_form.J2.vc
  have ht := vi_test hn (i := i) (by omega)
  by_cases hc : vi n ≤ i
  · rw [if_pos (by rw [beq_iff_eq]; have := ht.2 hc; omega)]
    have : vi n = i := by omega
    rw [this] at h
    exact ⟨H', Heap.Le.refl _, h⟩
  · rw [if_neg (by rw [beq_iff_eq]; intro e; exact hc (ht.1 (by omega)))]
    refine ⟨?_⟩
    unfold varint_form.J3.vc
    rw [w_i64 (by omega) (by omega)]
    exact hRR _ _ (4 - (i + 1)) (by omega) ⟨i + 1, rfl, by omega, rfl, rfl⟩
theorem beN_get : ∀ (k n j : Nat), j < k → (beN n k)[j]? = some (UInt8.ofNat (n / 2 ^ (8 * (k - 1 - j))))
  | 0, _, _, h => by omega
  | k + 1, n, j, h => by
    unfold beN
    by_cases hj : j < k
    · rw [List.getElem?_append_left (by rw [beN_len]; exact hj), beN_get k (n / 256) j hj, Nat.div_div_eq_div_mul]
      congr 3
      have e : 8 * (k + 1 - 1 - j) = 8 * (k - 1 - j) + 8 := by omega
      rw [e, Nat.pow_add, Nat.mul_comm]
    · have : j = k := by omega
      subst this
      rw [List.getElem?_append_right (by rw [beN_len]; omega), beN_len, Nat.sub_self]
      simp
theorem zeros_map (n : Nat) : zerosOf (.int .u8 0) n = (List.replicate n 0).map byV := by
  unfold zerosOf Builtin.zeroCells
  have hs : (Value.int IntKind.u8 0).cells.size = 1 := rfl
  rw [hs, Nat.mul_one, List.map_replicate]
  apply List.ext_getElem?
  intro i
  rw [Array.getElem?_toList, Array.getElem?_map, Array.getElem?_range, List.getElem?_replicate]
  split
  · simp only [Option.map_some, Nat.mod_one]; rfl
  · rfl
theorem OwnB.zeros {H : Heap} {b n : Nat} {e : TypeId} (hb : H b = some (.cells (zerosOf (.int .u8 0) n).toArray e)) : OwnB H e (some ⟨b, 0, none⟩) n n (List.replicate n 0) := by
  refine OwnB.of_block hb (by simp) (Nat.le_refl _) (by rw [List.size_toArray, zerosB_len]; exact Nat.le_refl _) (.inr rfl) ?_
  rw [List.toList_toArray, List.take_of_length_le (by rw [zerosB_len]; exact Nat.le_refl _), zeros_map]
def fillTo (l : List UInt8) (j : Nat) : List UInt8 := l.take j ++ List.replicate (l.length - j) 0
theorem fillTo_set {l : List UInt8} {j : Nat} {x : UInt8} (hx : l[j]? = some x) : (fillTo l j).set j x = fillTo l (j + 1) := by
  have hj : j < l.length := (List.getElem?_eq_some_iff.1 hx).1
  have hv : l[j] = x := (List.getElem?_eq_some_iff.1 hx).2
  unfold fillTo
  obtain ⟨k, hk⟩ : ∃ k, l.length - j = k + 1 := ⟨l.length - j - 1, by omega⟩
  rw [hk, show l.length - (j + 1) = k by omega, List.replicate_succ, List.set_append_right _ _ (by rw [List.length_take]; omega), List.length_take, Nat.min_eq_left (by omega), Nat.sub_self, List.set_cons_zero, List.take_succ_eq_append_getElem hj, hv]
  simp
theorem u8_nat (m : Nat) : IntKind.u8.wrap (m : Int) = ((UInt8.ofNat m).toNat : Int) := by
  rw [UInt8.toNat_ofNat']
  simp only [IntKind.wrap, IntKind.bits, IntKind.signed, Bool.false_and, Bool.false_eq_true, if_false]
  omega
theorem or_u8n (a b : Nat) (ha : a < 256) (hb : b < 256) : bits .or .u8 (a : Int) (b : Int) = ((a ||| b : Nat) : Int) := by
  have hx : a ||| b < 2 ^ 8 := Nat.or_lt_two_pow (by omega) (by omega)
  have ofInt_u8 : ∀ n : Nat, n < 256 → (BitVec.ofInt 8 (n : Int)).toNat = n := fun n h => by
    rw [BitVec.ofInt_natCast, BitVec.toNat_ofNat]; exact Nat.mod_eq_of_lt (by omega)
  show IntKind.u8.wrap ((BitVec.ofInt 8 (a : Int) ||| BitVec.ofInt 8 (b : Int)).toNat : Int) = _
  rw [BitVec.toNat_or, ofInt_u8 a ha, ofInt_u8 b hb, w_u8 (by omega) (by omega)]
theorem first_small {n : Nat} (hn : n < 1073741824) : n / 2 ^ (8 * (vk n - 1 - 0)) < 64 := by
  unfold vk
  split
  · simp; assumption
  · split
    · have e : 2 ^ (8 * (2 - 1 - 0)) = 256 := rfl
      rw [e]; omega
    · have e : 2 ^ (8 * (4 - 1 - 0)) = 16777216 := rfl
      rw [e]; omega
theorem mark_or {x : Nat} {i : Nat} (hx : x < 64) (hi : i ≤ 2) : bits .or .u8 ((UInt8.ofNat x).toNat : Int) (shlI .u8 (IntKind.u8.wrap (i : Int)) 6) = ((UInt8.ofNat x + UInt8.ofNat (64 * i)).toNat : Int) := by
  have e1 : shlI .u8 (IntKind.u8.wrap (i : Int)) 6 = ((64 * i : Nat) : Int) := by
    match i, hi with
    | 0, _ => decide
    | 1, _ => decide
    | 2, _ => decide
  rw [e1, or_u8n _ _ (UInt8.toNat_lt _) (by omega), UInt8.toNat_add, UInt8.toNat_ofNat', UInt8.toNat_ofNat', Nat.mod_eq_of_lt (by omega : x < 2 ^ 8), Nat.mod_eq_of_lt (by omega : 64 * i < 2 ^ 8), Nat.mod_eq_of_lt (by omega)]
  have := Nat.shiftLeft_add_eq_or_of_lt (by omega : x < 2 ^ 6) i
  rw [Nat.shiftLeft_eq] at this
  rw [Nat.or_comm, Nat.mul_comm, show 64 = 2 ^ 6 from rfl, ← this, Nat.add_comm]
theorem put0 {y x : UInt8} {r : List UInt8} : (y :: r).set 0 (y + x) = headUp x (y :: r) := rfl
theorem varint_Put.run {n : Nat} (hn : n < 1073741824) {H : Heap} (ht : IntsIn H 0 .i64 szTab) {K : ByteArray → Heap → Prop} {E : Value → Heap → Prop} (h : ∀ H', Heap.Le H H' → K ⟨(vput n).toArray⟩ H') : varint_Put.c n K E H := by
  have hv := vi_le n
  have hk := vk_range n
  refine ⟨?_⟩
  unfold varint_Put.vc
  refine varint_form.run hn ht ?_
  rw [if_neg (by rw [decide_eq_true_eq]; omega)]
  have hsz : H.cell? ((⟨0, 0, none⟩ : Addr).add (vi n * 1)) = some (.int .i64 (vk n : Int)) := by
    rw [Nat.mul_one, add_mk, Nat.zero_add, vk_eq]
    have hp : ∀ i, i ≤ 2 → szTab[i]? = some ((2 ^ i : Nat) : Int) := fun i hi => by
      match i, hi with
      | 0, _ => rfl
      | 1, _ => rfl
      | 2, _ => rfl
    exact ht _ _ (hp _ hv)
  refine ⟨by omega, by omega, (vk n : Int), by rw [Int.toNat_natCast]; exact hsz, by omega, by omega, by omega, by omega, ?_⟩
  rw [Int.toNat_natCast]
  refine newB_le fun b H1 hn1 hl1 hle1 => ?_
  have hbl := beN_len (vk n) n
  have ho := OwnB.zeros hl1
  refine ⟨Loop.of (I := fun st H' m => ∃ j : Nat, st = (j : Int) ∧ j ≤ vk n ∧ m = vk n - j ∧ OwnB H' 5 (some ⟨b, 0, none⟩) (vk n) (vk n) (fillTo (beN n (vk n)) j) ∧ Step [b] H1 [b] H') ?_ ⟨0, rfl, by omega, rfl, by simpa [fillTo, hbl] using ho, Step.refl _ _⟩⟩
  rintro m st H' ⟨j, rfl, hj, rfl, ho, hst⟩ RR hRR
  unfold varint_Put.W1.vc
  by_cases hc : j < vk n
  · rw [if_pos (by rw [decide_eq_true_eq]; omega)]
    have e1 : IntKind.i64.wrap (8 * (IntKind.i64.wrap ((IntKind.i64.wrap ((vk n : Int) - 1)) - (j : Int)))) = ((8 * (vk n - 1 - j) : Nat) : Int) := by
      rw [w_i64 (n := (vk n : Int) - 1) (by omega) (by omega), w_i64 (n := (vk n : Int) - 1 - (j : Int)) (by omega) (by omega), w_i64 (by omega) (by omega)]
      omega
    rw [e1, shr_i64 (by omega), u8_nat]
    refine ⟨by omega, _, rfl, by omega, by omega, ?_⟩
    rw [Int.toNat_natCast]
    refine ho.put (i := j) hc rfl fun H2 h2 hst2 => ?_
    rw [fillTo_set (beN_get _ _ _ hc)] at h2
    rw [w_i64 (by omega) (by omega)]
    exact hRR _ _ (vk n - (j + 1)) (by omega) ⟨j + 1, rfl, by omega, rfl, h2, hst.trans hst2⟩
  · rw [if_neg (by rw [decide_eq_true_eq]; omega)]
    have : j = vk n := by omega
    subst this
    have e2 : fillTo (beN n (vk n)) (vk n) = beN n (vk n) := by
      unfold fillTo
      rw [List.take_of_length_le (by omega), hbl, Nat.sub_self]
      simp
    rw [e2] at ho
    obtain ⟨a, ha, hc0⟩ := ho.bytes.get (i := 0) (by omega)
    cases ha
    have hg := beN_get (vk n) n 0 (by omega)
    have e3 : (beN n (vk n)).getD 0 0 = UInt8.ofNat (n / 2 ^ (8 * (vk n - 1 - 0))) := by rw [List.getD_eq_getElem?_getD, hg]; rfl
    rw [e3] at hc0
    refine ⟨_, rfl, by decide, by omega, _, hc0, by decide, _, rfl, by decide, by omega, ?_⟩
    rw [mark_or (first_small hn) hv]
    refine ho.put (i := 0) (by omega) rfl fun H2 h2 hst2 => ?_
    refine h2.bytes.rdBytes ?_
    have e4 : (beN n (vk n)).set 0 (UInt8.ofNat (n / 2 ^ (8 * (vk n - 1 - 0))) + UInt8.ofNat (64 * vi n)) = vput n := by
      unfold vput
      cases hb : beN n (vk n) with
      | nil => rw [hb] at hbl; simp at hbl; omega
      | cons y r =>
        rw [hb] at hg
        have : y = UInt8.ofNat (n / 2 ^ (8 * (vk n - 1 - 0))) := by simpa using hg
        rw [← this]
        rfl
    rw [e4]
    refine ⟨H2, Heap.Le.refl _, h H2 fun k o hk => ?_⟩
    have hn : k ∉ [b] := fun hm => by
      rw [List.mem_singleton] at hm
      subst hm
      rw [hn1] at hk; cases hk
    exact ((hst.trans hst2) k o (hle1 k o hk) hn).1
theorem varint_Text.run {s : ByteArray} (hs : s.size < 1073741824) {H : Heap} (ht : IntsIn H 0 .i64 szTab) {K : ByteArray → Heap → Prop} {E : Value → Heap → Prop} (h : ∀ H', Heap.Le H H' → K ⟨(vtext s.data.toList).toArray⟩ H') : varint_Text.c s K E H := by
  refine ⟨?_⟩
  unfold varint_Text.vc
  refine varint_Put.run hs ht fun H1 hle1 => ?_
  have hk := vk_range s.size
  refine ⟨by rw [ba_size, vput_len]; omega, H1, Heap.Le.refl _, ?_⟩
  have e : (⟨(vput s.size).toArray⟩ : ByteArray) ++ s = ⟨(vtext s.data.toList).toArray⟩ := by
    apply ByteArray.ext
    rw [ByteArray.data_append]
    apply Array.toList_inj.1
    unfold vtext
    rw [Array.toList_append, ba_len]
  rw [e]
  exact h H1 hle1
theorem vizardref01_Size.run {n : Nat} (hn : n < 1073741824) {H : Heap} {K : Int → Heap → Prop} {E : Value → Heap → Prop} (h : K (vk n) H) : vizardref01_Size.c n K E H := by
  refine ⟨?_⟩
  unfold vizardref01_Size.vc
  rw [if_neg (by rw [decide_eq_true_eq]; omega), decide_eq_false (by omega : ¬ (n : Int) > 4611686018427387903)]
  refine ⟨?_⟩
  unfold vizardref01_Size.J1.vc
  rw [if_neg (by simp)]
  rcases vk_cases n with ⟨h1, e⟩ | ⟨h1, h2, e⟩ | ⟨h1, h2, e⟩
  · rw [e] at h
    rw [if_pos (by rw [decide_eq_true_eq]; omega)]
    exact ⟨H, Heap.Le.refl _, h⟩
  · rw [e] at h
    rw [if_neg (by rw [decide_eq_true_eq]; omega), if_pos (by rw [decide_eq_true_eq]; omega)]
    exact ⟨H, Heap.Le.refl _, h⟩
  · rw [e] at h
    rw [if_neg (by rw [decide_eq_true_eq]; omega), if_neg (by rw [decide_eq_true_eq]; omega), if_pos (by rw [decide_eq_true_eq]; omega)]
    exact ⟨H, Heap.Le.refl _, h⟩
theorem mark_add {x i : Nat} (hi : i ≤ 2) : IntKind.u8.wrap (((UInt8.ofNat x).toNat : Int) + IntKind.u8.wrap (64 * (i : Int))) = ((UInt8.ofNat x + UInt8.ofNat (64 * i)).toNat : Int) := by
  have e1 : IntKind.u8.wrap (64 * (i : Int)) = ((64 * i : Nat) : Int) := by
    match i, hi with
    | 0, _ => decide
    | 1, _ => decide
    | 2, _ => decide
  rw [e1, show (((UInt8.ofNat x).toNat : Int) + ((64 * i : Nat) : Int)) = (((UInt8.ofNat x).toNat + 64 * i : Nat) : Int) by simp, u8_nat, UInt8.toNat_add, UInt8.toNat_ofNat', UInt8.toNat_ofNat' (n := 64 * i), Nat.mod_eq_of_lt (by omega : 64 * i < 2 ^ 8)]
theorem vizardref01_Put.run {n : Nat} (hn : n < 1073741824) {H : Heap} {K : ByteArray → Heap → Prop} {E : Value → Heap → Prop} (h : ∀ H', Heap.Le H H' → K ⟨(vput n).toArray⟩ H') : vizardref01_Put.c n K E H := by
  have hv := vi_le n
  have hk := vk_range n
  refine ⟨?_⟩
  unfold vizardref01_Put.vc
  refine vizardref01_Size.run hn ?_
  rw [if_neg (by rw [beq_iff_eq]; omega)]
  refine vizardref01_Bytes.run (k := vk n) (by omega) (by omega) fun H1 hle1 => ?_
  have hbl := beN_len (vk n) n
  generalize hX : (⟨(beN n (vk n)).toArray⟩ : ByteArray) = X
  have hXl : X.data.toList = beN n (vk n) := by rw [← hX, ba_list]
  have hXs : X.size = vk n := by rw [← ba_len, hXl, hbl]
  intro j
  refine newB_le fun b H2 hn2 hl2 hle2 => ?_
  have ho := str_bytes hl2
  rw [hXl] at ho
  rw [hXs] at ho ⊢
  refine ⟨Loop.of (I := fun st H' m => ∃ i : Nat, st = ((i : Int), ((2 ^ i : Nat) : Int)) ∧ i ≤ vi n ∧ m = 4 - i ∧ H' = H2) ?_ ⟨0, rfl, Nat.zero_le _, rfl, rfl⟩⟩
  rintro m st H' ⟨i, rfl, hi, rfl, rfl⟩ RR hRR
  have hp := pow_small (i := i) (by omega)
  unfold vizardref01_Put.W1.vc
  dsimp only
  by_cases hc : i < vi n
  · have hlt : 2 ^ i < vk n := by rw [vk_eq]; exact Nat.pow_lt_pow_right (by decide) hc
    rw [if_pos (by rw [decide_eq_true_eq]; omega), w_u8 (by omega) (by omega), w_i64 (by omega) (by omega)]
    exact hRR _ _ (4 - (i + 1)) (by omega) ⟨i + 1, by rw [Nat.pow_succ]; simp; omega, by omega, rfl, rfl⟩
  · have hvi : i = vi n := by omega
    subst hvi
    rw [if_neg (by rw [decide_eq_true_eq, ← vk_eq]; omega)]
    obtain ⟨a, ha, hc0⟩ := ho.bytes.get (i := 0) (by omega)
    cases ha
    have hg := beN_get (vk n) n 0 (by omega)
    have e3 : (beN n (vk n)).getD 0 0 = UInt8.ofNat (n / 2 ^ (8 * (vk n - 1 - 0))) := by rw [List.getD_eq_getElem?_getD, hg]; rfl
    rw [e3] at hc0
    refine ⟨_, rfl, by decide, by omega, _, hc0, _, rfl, by decide, by omega, ?_⟩
    rw [mark_add hv]
    refine ho.put (i := 0) (by omega) rfl fun H3 h3 hst3 => ?_
    refine h3.bytes.rdBytes ?_
    have e4 : (beN n (vk n)).set 0 (UInt8.ofNat (n / 2 ^ (8 * (vk n - 1 - 0))) + UInt8.ofNat (64 * vi n)) = vput n := by
      unfold vput
      cases hb : beN n (vk n) with
      | nil => rw [hb] at hbl; simp at hbl; omega
      | cons y r =>
        rw [hb] at hg
        have : y = UInt8.ofNat (n / 2 ^ (8 * (vk n - 1 - 0))) := by simpa using hg
        rw [← this]
        rfl
    rw [e4]
    refine ⟨H3, Heap.Le.refl _, h H3 fun k o hk => ?_⟩
    have hk1 := hle1 k o hk
    have hnb : k ∉ [b] := fun hm => by
      rw [List.mem_singleton] at hm
      subst hm
      rw [hn2] at hk1; cases hk1
    exact (hst3 k o (hle2 k o hk1) hnb).1
theorem vizardref01_Text.run {s : ByteArray} (hs : s.size < 1073741824) {H : Heap} {K : ByteArray → Heap → Prop} {E : Value → Heap → Prop} (h : ∀ H', Heap.Le H H' → K ⟨(vtext s.data.toList).toArray⟩ H') : vizardref01_Text.c s K E H := by
  refine ⟨?_⟩
  unfold vizardref01_Text.vc
  refine vizardref01_Put.run hs fun H1 hle1 => ?_
  have hk := vk_range s.size
  refine ⟨by rw [ba_size, vput_len]; omega, H1, Heap.Le.refl _, ?_⟩
  have e : (⟨(vput s.size).toArray⟩ : ByteArray) ++ s = ⟨(vtext s.data.toList).toArray⟩ := by
    apply ByteArray.ext
    rw [ByteArray.data_append]
    apply Array.toList_inj.1
    unfold vtext
    rw [Array.toList_append, ba_len]
  rw [e]
  exact h H1 hle1
def derive (key label context : List UInt8) : List UInt8 := hmac key (vtext label ++ vtext context)
theorem vtext_len (s : List UInt8) : (vtext s).length ≤ s.length + 4 := by
  unfold vtext
  have := vk_range s.length
  rw [List.length_append, vput_len]
  omega
structure Tabs (H : Heap) : Prop where
  k : IntsIn H 1 .u32 kTab
  s : IntsIn H 0 .i64 szTab
theorem Tabs.up {H H' : Heap} (h : Tabs H) (hl : Heap.Le H H') : Tabs H' := ⟨h.k.up hl, h.s.up hl⟩
theorem sha_Derive.run {key label ctx : ByteArray} (h1 : key.size ≤ 100000) (h2 : label.size ≤ 100000) (h3 : ctx.size ≤ 100000) {H : Heap} (ht : Tabs H) {K : ByteArray → Heap → Prop} {E : Value → Heap → Prop} (h : ∀ H', Heap.Le H H' → K ⟨(derive key.data.toList label.data.toList ctx.data.toList).toArray⟩ H') : sha_Derive.c key label ctx K E H := by
  refine ⟨?_⟩
  unfold sha_Derive.vc
  refine varint_Text.run (by omega) ht.s fun H1 hle1 => ?_
  refine varint_Text.run (by omega) (ht.up hle1).s fun H2 hle2 => ?_
  have l1 := vtext_len label.data.toList
  have l2 := vtext_len ctx.data.toList
  rw [ba_len] at l1 l2
  refine ⟨by rw [ba_size, ba_size]; omega, ?_⟩
  refine sha_Hmac.run (by omega) (by rw [ByteArray.size_append, ba_size, ba_size]; omega) ((ht.up hle1).up hle2).k fun H3 hle3 => ⟨H3, Heap.Le.refl _, ?_⟩
  rw [ba_app, ba_list, ba_list]
  exact h H3 ((hle1.trans hle2).trans hle3)
theorem padK_get {key : List UInt8} {x : UInt8} {i : Nat} (hi : i < 64) (hk : key.length ≤ 64) : (padK key x)[i]? = some ((if i < key.length then key.getD i 0 else 0) ^^^ x) := by
  unfold padK
  rw [List.getElem?_map]
  by_cases h : i < key.length
  · rw [List.getElem?_append_left h, if_pos h, List.getD_eq_getElem?_getD, List.getElem?_eq_getElem h]
    rfl
  · rw [List.getElem?_append_right (by omega), List.getElem?_replicate, if_pos (by omega), if_neg h]
    rfl
theorem vizardref05_turned.run {key : ByteArray} {x : UInt8} (hk : key.size ≤ 64) {H : Heap} {K : ByteArray → Heap → Prop} {E : Value → Heap → Prop} (h : ∀ H', Heap.Le H H' → K ⟨(padK key.data.toList x).toArray⟩ H') : vizardref05_turned.c key (x.toNat : Int) K E H := by
  have hkl := ba_len key
  have hpl := padK_len (key := key.data.toList) (x := x) (by omega)
  refine ⟨?_⟩
  unfold vizardref05_turned.vc
  refine ⟨Loop.of (I := fun st H' m => ∃ i : Nat, st.2.2.2 = (i : Int) ∧ i ≤ 64 ∧ m = 64 - i ∧ st.2.1 = i ∧ OwnB H' 5 st.1 st.2.1 st.2.2.1 ((padK key.data.toList x).take i) ∧ Step [] H (bl st.1) H') ?_ ⟨0, rfl, by omega, rfl, rfl, OwnB.nil, Step.refl _ _⟩⟩
  rintro m ⟨p, n, c, i'⟩ H' ⟨i, hi', hi, rfl, hn, ho, hst⟩ RR hRR
  dsimp only at hi' hn ho hst
  subst hi'; subst hn
  unfold vizardref05_turned.W1.vc
  dsimp only
  by_cases hc : n < 64
  · rw [if_pos (by rw [decide_eq_true_eq]; omega)]
    have hg := padK_get (key := key.data.toList) (x := x) hc (by omega)
    have j2 : ∀ {y : UInt8} {v : Int}, v = (y.toNat : Int) → (padK key.data.toList x)[n]? = some y → vizardref05_turned.J2 key (x.toNat : Int) p n c n v (fun b3 b4 b5 h1 => vizardref05_turned.J3 key (x.toNat : Int) b3 b4 b5 n (fun i1 h2 => RR (b3, b4, b5, i1) h2) E h1) E H' := by
      intro y v hv hy
      refine ⟨?_⟩
      unfold vizardref05_turned.J2.vc
      refine push_byte hv ho (by omega) fun p' c' H2 h1 h2 => ⟨?_⟩
      unfold vizardref05_turned.J3.vc
      rw [w_i64 (by omega) (by omega)]
      have e : (padK key.data.toList x).take n ++ [y] = (padK key.data.toList x).take (n + 1) := by
        have hlt : n < (padK key.data.toList x).length := by omega
        have : (padK key.data.toList x)[n] = y := (List.getElem?_eq_some_iff.1 hy).2
        rw [List.take_succ_eq_append_getElem hlt, this]
      rw [e] at h1
      exact hRR (p', n + 1, c', _) H2 (64 - (n + 1)) (by omega) ⟨n + 1, rfl, by omega, rfl, rfl, h1, hst.trans h2⟩
    by_cases hlt : n < key.size
    · rw [if_pos (by rw [decide_eq_true_eq]; omega)]
      refine ⟨by omega, by omega, j2 (y := key.data.toList.getD n 0 ^^^ x) ?_ ?_⟩
      · rw [bt_getD, xor_u8]
      · rw [hg, if_pos (by omega)]
    · rw [if_neg (by rw [decide_eq_true_eq]; omega)]
      refine j2 rfl ?_
      rw [hg, if_neg (by omega)]
      simp
  · rw [if_neg (by rw [decide_eq_true_eq]; omega)]
    have : n = 64 := by omega
    subst this
    refine ho.bytes.rdBytes ?_
    rw [List.take_of_length_le (by omega)]
    exact ⟨H', Heap.Le.refl _, h H' hst.le⟩
theorem vizardref05_Hmac.tail {H : Heap} {key s : ByteArray} (hk : key.size ≤ 64) (hs : s.size ≤ 100000000000) {Kr : ByteArray → Heap → Prop} {E : Value → Heap → Prop}
    (h : ∀ H', Heap.Le H H' → Kr ⟨(sha (padK key.data.toList 0x5C ++ sha (padK key.data.toList 0x36 ++ s.data.toList))).toArray⟩ H') : vizardref05_Hmac.J1 key s Kr E H := by
  have hkl := ba_len key
  refine ⟨?_⟩
  unfold vizardref05_Hmac.J1.vc
  refine vizardref05_turned.run (x := 0x5C) hk fun H1 hle1 => ?_
  refine vizardref05_turned.run (x := 0x36) hk fun H2 hle2 => ?_
  have p1 := padK_len (key := key.data.toList) (x := 0x5C) (by omega)
  have p2 := padK_len (key := key.data.toList) (x := 0x36) (by omega)
  refine ⟨by rw [ba_size, p2]; omega, ?_⟩
  refine vizardref05_Sum.run (by rw [ByteArray.size_append, ba_size, p2]; omega) fun H3 hle3 => ?_
  rw [ba_app, ba_list]
  have l1 := sha_len (padK key.data.toList 0x36 ++ s.data.toList)
  refine ⟨by rw [ba_size, ba_size, p1, l1]; decide, ?_⟩
  refine vizardref05_Sum.run (by rw [ByteArray.size_append, ba_size, ba_size, p1, l1]; decide) fun H4 hle4 => ?_
  rw [ba_app, ba_list, ba_list]
  exact h H4 (((hle1.trans hle2).trans hle3).trans hle4)
theorem vizardref05_Hmac.run {H : Heap} {key s : ByteArray} (hk : key.size ≤ 100000000000) (hs : s.size ≤ 100000000000) {K : ByteArray → Heap → Prop} {E : Value → Heap → Prop} (h : ∀ H', Heap.Le H H' → K ⟨(hmac key.data.toList s.data.toList).toArray⟩ H') : vizardref05_Hmac.c key s K E H := by
  have hkl := ba_len key
  refine ⟨?_⟩
  unfold vizardref05_Hmac.vc
  by_cases hc : 64 < key.size
  · rw [if_pos (by rw [decide_eq_true_eq]; omega)]
    refine vizardref05_Sum.run (by omega) fun H1 hle1 => ?_
    have l1 := sha_len key.data.toList
    refine vizardref05_Hmac.tail (by rw [ba_size, l1]; decide) hs fun H2 hle2 => ?_
    have := h H2 (hle1.trans hle2)
    unfold hmac at this
    rw [if_pos (by omega)] at this
    rw [ba_list]
    exact ⟨H2, Heap.Le.refl _, this⟩
  · rw [if_neg (by rw [decide_eq_true_eq]; omega)]
    refine vizardref05_Hmac.tail (by omega) hs fun H2 hle2 => ?_
    have := h H2 hle2
    unfold hmac at this
    rw [if_neg (by omega)] at this
    exact ⟨H2, Heap.Le.refl _, this⟩
theorem vizardref05_Derive.run {key label ctx : ByteArray} (h1 : key.size ≤ 100000) (h2 : label.size ≤ 100000) (h3 : ctx.size ≤ 100000) {H : Heap} {K : ByteArray → Heap → Prop} {E : Value → Heap → Prop} (h : ∀ H', Heap.Le H H' → K ⟨(derive key.data.toList label.data.toList ctx.data.toList).toArray⟩ H') : vizardref05_Derive.c key label ctx K E H := by
  refine ⟨?_⟩
  unfold vizardref05_Derive.vc
  refine vizardref01_Text.run (by omega) fun H1 hle1 => ?_
  refine vizardref01_Text.run (by omega) fun H2 hle2 => ?_
  have l1 := vtext_len label.data.toList
  have l2 := vtext_len ctx.data.toList
  rw [ba_len] at l1 l2
  refine ⟨by rw [ba_size, ba_size]; omega, ?_⟩
  refine vizardref05_Hmac.run (by omega) (by rw [ByteArray.size_append, ba_size, ba_size]; omega) fun H3 hle3 => ⟨H3, Heap.Le.refl _, ?_⟩
  rw [ba_app, ba_list, ba_list]
  exact h H3 ((hle1.trans hle2).trans hle3)
theorem hmac_digest {key s : List UInt8} (h : 64 < key.length) : hmac (sha key) s = hmac key s := by
  unfold hmac
  rw [if_neg (by rw [sha_len]; decide), if_pos h]
theorem padK_zero {key : List UInt8} {j : Nat} {x : UInt8} (h : key.length + j ≤ 64) : padK (key ++ List.replicate j 0) x = padK key x := by
  unfold padK
  rw [List.append_assoc, List.length_append, List.length_replicate, List.replicate_append_replicate, show j + (64 - (key.length + j)) = 64 - key.length by omega]
theorem hmac_zero {key s : List UInt8} {j : Nat} (h : key.length + j ≤ 64) : hmac (key ++ List.replicate j 0) s = hmac key s := by
  unfold hmac
  rw [if_neg (by rw [List.length_append, List.length_replicate]; omega), if_neg (by omega)]
  dsimp only
  rw [padK_zero h, padK_zero h]
end Go.Sh
