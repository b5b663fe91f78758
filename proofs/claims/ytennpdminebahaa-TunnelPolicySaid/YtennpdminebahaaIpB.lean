/- ipv4.Parse, as a callee. -/
import Derived.Test.YtennpdminebahaaIpA
import Derived.Test.YtennpdminebahaaGpr
namespace Go.Sh
open Go.Proofs
set_option maxRecDepth 8000
theorem size_list (s : ByteArray) : s.data.toList.length = s.size := by rw [Array.length_toList]; rfl
theorem ext_sl (s : ByteArray) (i j : Nat) : (s.extract i j).data.toList = sl s.data.toList i j := by
  rw [ByteArray.data_extract, Array.toList_extract, List.extract_eq_take_drop]
  rfl
theorem bt_get {s : ByteArray} {k : Nat} {x : UInt8} (h : s.data.toList[k]? = some x) : bt s (k : Int) = (x.toNat : Int) := by
  unfold bt
  rw [Int.toNat_natCast, List.getD_eq_getElem?_getD, h]
  rfl
theorem bt_lit (s : ByteArray) (k : Nat) : bt s (k : Int) = ((s.data.toList.getD k 0).toNat : Int) := by
  unfold bt
  rw [Int.toNat_natCast]
theorem or_bytes {x b : Nat} (hx : x < 16777216) (hb : b < 256) : bits .or .u32 (shlI .u32 (x : Int) 8) (b : Int) = ((x * 256 + b : Nat) : Int) := by
  have e : shlI .u32 (x : Int) 8 = ((x * 256 : Nat) : Int) := by
    show IntKind.u32.wrap ((x : Int) * 2 ^ 8) = _
    rw [w_u32 (by omega) (by omega)]
    omega
  rw [e, or_u32 _ _ (by omega) (by omega)]
  have : 2 ^ 8 * x + b = 2 ^ 8 * x ||| b := Nat.two_pow_add_eq_or_of_lt (by omega) x
  rw [show x * 256 = 2 ^ 8 * x by omega, ← this]
theorem num_take {l : List UInt8} {k : Nat} {x : UInt8} (h : l[k]? = some x) : num (l.take (k + 1)) = num (l.take k) * 256 + x.toNat := by
  rw [List.take_add_one, h]
  exact num_snoc _ _
theorem num_take_lt {l : List UInt8} {k : Nat} : num (l.take k) < 256 ^ k := by
  refine Nat.lt_of_lt_of_le (num_lt _) (Nat.pow_le_pow_right (by decide) ?_)
  rw [List.length_take]; omega
theorem ipv4_get.run {s : ByteArray} (hs : s.size ≤ 4) {K : Int → Heap → Prop} {E : Value → Heap → Prop} {H : Heap} (h : K (num s.data.toList : Int) H) : ipv4_get.c s K E H := by
  refine ⟨⟨Loop.of (I := fun st H' m => ∃ k : Nat, st = ((num (s.data.toList.take k) : Int), (k : Int)) ∧ k ≤ s.size ∧ m = s.size - k ∧ H' = H) ?_ ⟨0, rfl, Nat.zero_le _, rfl, rfl⟩⟩⟩
  rintro m st H' ⟨k, rfl, hk, rfl, rfl⟩ RR hRR
  have hl := size_list s
  unfold ipv4_get.W1.vc
  dsimp only
  by_cases hlt : k < s.size
  · rw [if_pos (by simp; omega)]
    obtain ⟨x, hx⟩ : ∃ x, s.data.toList[k]? = some x := ⟨_, List.getElem?_eq_getElem (by omega)⟩
    refine ⟨by omega, by omega, by omega, ?_⟩
    have h1 : num (s.data.toList.take k) < 256 ^ 3 := Nat.lt_of_lt_of_le num_take_lt (Nat.pow_le_pow_right (by decide) (by omega))
    have hb := x.toNat_lt
    have e3 : 256 ^ 3 = 16777216 := by decide
    rw [bt_get hx, w_u32 (by omega) (by omega), or_bytes (by omega) (by omega), w_i64 (by omega) (by omega)]
    refine hRR _ _ (s.size - (k + 1)) (by omega) ⟨k + 1, ?_, by omega, rfl, rfl⟩
    rw [num_take hx]
    rfl
  · rw [if_neg (by simp; omega)]
    rw [List.take_of_length_le (by omega)]
    exact ⟨H', Heap.Le.refl H', h⟩
theorem ofInt_i64 (a : Nat) (h : a < 9223372036854775808) : (BitVec.ofInt 64 (a : Int)).toNat = a := by
  rw [BitVec.toNat_ofInt]
  omega
theorem and_i64 (a b : Nat) (ha : a < 9223372036854775808) (hb : b < 9223372036854775808) : bits .and .i64 (a : Int) (b : Int) = ((a &&& b : Nat) : Int) := by
  have hx : a &&& b ≤ a := Nat.and_le_left
  show IntKind.i64.wrap ((BitVec.ofInt 64 (a : Int) &&& BitVec.ofInt 64 (b : Int)).toNat : Int) = _
  rw [BitVec.toNat_and, ofInt_i64 a ha, ofInt_i64 b hb, w_i64 (by omega) (by omega)]
theorem shr16 (n : Nat) : shrI .i64 (n : Int) 16 = ((n / 65536 : Nat) : Int) := by
  unfold shrI
  rw [show min (16 : Int).toNat IntKind.i64.bits = 16 from rfl, Int.fdiv_eq_ediv_of_nonneg _ (by decide)]
  rfl
theorem ipv4_Sum.run {s : ByteArray} (hs : s.size ≤ 1000000) {K : Int → Heap → Prop} {E : Value → Heap → Prop} {H : Heap} (h : K (sumL s.data.toList : Int) H) : ipv4_Sum.c s K E H := by
  refine ⟨⟨Loop.of (I := fun st H' m => ∃ k : Nat, st = ((wsum true (s.data.toList.take k) : Int), (k : Int)) ∧ k ≤ s.size ∧ m = s.size - k ∧ H' = H) ?_ ⟨0, rfl, Nat.zero_le _, rfl, rfl⟩⟩⟩
  rintro m st H' ⟨k, rfl, hk, rfl, rfl⟩ RR hRR
  have hl := size_list s
  unfold ipv4_Sum.W1.vc
  dsimp only
  by_cases hlt : k < s.size
  · rw [if_pos (by simp; omega)]
    obtain ⟨x, hx⟩ : ∃ x, s.data.toList[k]? = some x := ⟨_, List.getElem?_eq_getElem (by omega)⟩
    have hb := x.toNat_lt
    have hw := wsum_le (s.data.toList.take k)
    rw [List.length_take] at hw
    have hstep : wsum true (s.data.toList.take (k + 1)) = wsum true (s.data.toList.take k) + if k % 2 = 0 then x.toNat * 256 else x.toNat := by
      rw [List.take_add_one, hx]
      show wsum true (s.data.toList.take k ++ [x]) = _
      rw [wsum_snoc, List.length_take, Nat.min_eq_left (by omega)]
      by_cases hp : k % 2 = 0
      · rw [if_pos (decide_eq_true hp), if_pos hp]
      · rw [if_neg (by rw [decide_eq_false hp]; simp), if_neg hp]
    rw [bt_get hx, Int.tmod_eq_emod_of_nonneg (by omega), w_i64 (n := (x.toNat : Int)) (by omega) (by omega), w_i64 (n := (k : Int) + 1) (by omega) (by omega)]
    by_cases hp : k % 2 = 0
    · have e1 : IntKind.i64.wrap (8 * IntKind.i64.wrap (1 - (k : Int) % 2)) = 8 := by
        rw [show (k : Int) % 2 = 0 by omega]; rfl
      have e2 : shlI .i64 (x.toNat : Int) 8 = ((x.toNat * 256 : Nat) : Int) := by
        show IntKind.i64.wrap ((x.toNat : Int) * 2 ^ 8) = _
        rw [w_i64 (by omega) (by omega)]; omega
      rw [e1, e2, w_i64 (by omega) (by omega)]
      refine ⟨by omega, by omega, by decide, by decide, hRR _ _ (s.size - (k + 1)) (by omega) ⟨k + 1, ?_, by omega, rfl, rfl⟩⟩
      rw [hstep, if_pos hp]
      rfl
    · have e1 : IntKind.i64.wrap (8 * IntKind.i64.wrap (1 - (k : Int) % 2)) = 0 := by
        rw [show (k : Int) % 2 = 1 by omega]; rfl
      have e2 : shlI .i64 (x.toNat : Int) 0 = (x.toNat : Int) := by
        show IntKind.i64.wrap ((x.toNat : Int) * 2 ^ 0) = _
        rw [w_i64 (by omega) (by omega)]; omega
      rw [e1, e2, w_i64 (by omega) (by omega)]
      refine ⟨by omega, by omega, by decide, by decide, hRR _ _ (s.size - (k + 1)) (by omega) ⟨k + 1, ?_, by omega, rfl, rfl⟩⟩
      rw [hstep, if_neg hp]
      rfl
  · rw [if_neg (by simp; omega), List.take_of_length_le (by omega)]
    have hw := wsum_le s.data.toList
    refine ⟨Loop.of (I := fun st H2 m => st = (m : Int) ∧ H2 = H' ∧ carry m = carry (wsum true s.data.toList) ∧ m ≤ wsum true s.data.toList) ?_ ⟨rfl, rfl, rfl, Nat.le_refl _⟩⟩
    rintro m st H2 ⟨rfl, rfl, hc, hm⟩ RR2 hRR2
    unfold ipv4_Sum.W2.vc
    by_cases hg : 65535 < m
    · rw [if_pos (by simp; omega)]
      have e1 : bits .and .i64 (m : Int) 65535 = ((m % 65536 : Nat) : Int) := by
        rw [show (65535 : Int) = ((65535 : Nat) : Int) from rfl, and_i64 _ _ (by omega) (by omega), show 65535 = 2 ^ 16 - 1 from rfl, Nat.and_two_pow_sub_one_eq_mod]
      rw [e1, shr16, w_i64 (by omega) (by omega)]
      refine ⟨by decide, hRR2 _ _ (m % 65536 + m / 65536) (by omega) ⟨by simp, rfl, ?_, by omega⟩⟩
      rw [← hc]
      conv => rhs; rw [carry, if_pos hg]
    · rw [if_neg (by simp; omega)]
      dsimp only
      rw [w_i64 (by omega) (by omega)]
      have : sumL s.data.toList = 65535 - m := by
        unfold sumL
        rw [← hc, carry, if_neg hg]
      rw [this] at h
      rw [show (65535 : Int) - (m : Int) = ((65535 - m : Nat) : Int) by omega]
      exact ⟨H2, Heap.Le.refl _, h⟩
/-! ### Structs of eight -/
theorem stc_to {H : Heap} {b o : Nat} {arr arr' : Array Value} {e : TypeId} {v : Value} {K : Heap → Prop} (hb : H b = some (.cells arr e)) (ho : o < arr.size) (ha : arr.setIfInBounds o v = arr') (h : K (H.set b (.cells arr' e))) : stc H ((⟨b, 0, none⟩ : Addr).add o) v K :=
  stc_loc hb ho (by rw [ha]; exact h)
theorem st8 {H : Heap} {b : Nat} {u0 u1 u2 u3 u4 u5 u6 u7 v0 v1 v2 v3 v4 v5 v6 v7 : Value} {e : TypeId} {K : Heap → Prop} (h : H b = some (.cells #[u0, u1, u2, u3, u4, u5, u6, u7] e)) (hk : ∀ H', H' b = some (.cells #[v0, v1, v2, v3, v4, v5, v6, v7] e) → (∀ c, c ≠ b → H' c = H c) → K H') :
    stc H ((⟨b, 0, none⟩ : Addr).add 0) v0 fun h1 => stc h1 ((⟨b, 0, none⟩ : Addr).add 1) v1 fun h2 => stc h2 ((⟨b, 0, none⟩ : Addr).add 2) v2 fun h3 => stc h3 ((⟨b, 0, none⟩ : Addr).add 3) v3 fun h4 => stc h4 ((⟨b, 0, none⟩ : Addr).add 4) v4 fun h5 => stc h5 ((⟨b, 0, none⟩ : Addr).add 5) v5 fun h6 => stc h6 ((⟨b, 0, none⟩ : Addr).add 6) v6 fun h7 => stc h7 ((⟨b, 0, none⟩ : Addr).add 7) v7 K := by
  refine stc_to (o := 0) (arr' := #[v0, u1, u2, u3, u4, u5, u6, u7]) h (by simp) rfl ?_
  refine stc_to (o := 1) (arr' := #[v0, v1, u2, u3, u4, u5, u6, u7]) (set_self _ _ _) (by simp) rfl ?_
  refine stc_to (o := 2) (arr' := #[v0, v1, v2, u3, u4, u5, u6, u7]) (set_self _ _ _) (by simp) rfl ?_
  refine stc_to (o := 3) (arr' := #[v0, v1, v2, v3, u4, u5, u6, u7]) (set_self _ _ _) (by simp) rfl ?_
  refine stc_to (o := 4) (arr' := #[v0, v1, v2, v3, v4, u5, u6, u7]) (set_self _ _ _) (by simp) rfl ?_
  refine stc_to (o := 5) (arr' := #[v0, v1, v2, v3, v4, v5, u6, u7]) (set_self _ _ _) (by simp) rfl ?_
  refine stc_to (o := 6) (arr' := #[v0, v1, v2, v3, v4, v5, v6, u7]) (set_self _ _ _) (by simp) rfl ?_
  refine stc_to (o := 7) (arr' := #[v0, v1, v2, v3, v4, v5, v6, v7]) (set_self _ _ _) (by simp) rfl ?_
  rw [set_set, set_set, set_set, set_set, set_set, set_set, set_set]
  exact hk _ (set_self _ _ _) fun c hc => set_ne _ _ hc
def hcells (h : Hd) : Array Value := #[.int .i64 (h.tos : Int), .int .i64 (h.id : Int), .int .i64 (h.frag : Int), .int .i64 (h.ttl : Int), .int .i64 (h.proto : Int), .int .u32 (h.src : Int), .int .u32 (h.dst : Int), .string h.data]
/-- What lies in a box is left alone, but for some boxes. -/
def Leaves1 (L : List Nat) (H H' : Heap) : Prop := ∀ c o, c ∉ L → H c = some o → H' c = some o
theorem Leaves1.le {L : List Nat} {H H1 H2 : Heap} (h : Leaves1 L H1 H2) (hl : Heap.Le H H1) (hn : ∀ b ∈ L, H b = none) : Heap.Le H H2 := fun c o hc => h c o (fun hm => by rw [hn c hm] at hc; cases hc) (hl c o hc)
section
variable {H : Heap} {s : ByteArray} {b0 b1 : Nat} {Kr : Heap → Prop} {E : Value → Heap → Prop}
theorem ipv4_Parse.J4.run {bx : Nat} (hs : 20 ≤ s.size) (h0 : H b0 = some (.cells (hcells Hd.zero) 58)) (h1 : H b1 = some (.cells #[.int .i64 0] 35)) (hx : H bx = some (.cells (hcells (hdOf s.data.toList)) 58)) (hx1 : bx ≠ b0) (h01 : b1 ≠ b0)
    (hE : sumOk s.data.toList = false → E (.iface 35 (.int .i64 9)) H) (hK : sumOk s.data.toList = true → ∀ H', H' b0 = some (.cells (hcells (hdOf s.data.toList)) 58) → H' b1 = some (.cells #[.int .i64 0] 35) → Leaves1 [b0, b1] H H' → Kr H') :
    ipv4_Parse.J4 s ⟨b0, 0, none⟩ ⟨b1, 0, none⟩ ⟨bx, 0, none⟩ Kr E H := by
  refine ⟨?_⟩
  unfold ipv4_Parse.J4.vc
  have z : (⟨#[0, 0]⟩ : ByteArray).size = 2 := rfl
  have s1 : (s.extract 0 10).size = 10 := by rw [ByteArray.size_extract]; omega
  have s2 : (s.extract 12 20).size = 8 := by rw [ByteArray.size_extract]; omega
  have s3 : (s.extract 10 12).size = 2 := by rw [ByteArray.size_extract]; omega
  refine ⟨by omega, by omega, by omega, by omega, by omega, by omega, by rw [ByteArray.size_append]; omega, by omega, by omega, by omega, ?_⟩
  refine ipv4_Sum.run (by rw [ByteArray.size_append, ByteArray.size_append]; omega) (ipv4_get.run (by omega) ⟨?_⟩)
  have e1 : (((s.extract 0 10) ++ (⟨#[0, 0]⟩ : ByteArray)) ++ (s.extract 12 20)).data.toList = s.data.toList.take 10 ++ [0, 0] ++ sl s.data.toList 12 20 := by
    rw [ByteArray.data_append, Array.toList_append, ByteArray.data_append, Array.toList_append, ext_sl, ext_sl]
    rfl
  have hn := num_lt (sl s.data.toList 10 12)
  have hle : (sl s.data.toList 10 12).length ≤ 2 := by unfold sl; rw [List.length_take]; omega
  have hn2 : num (sl s.data.toList 10 12) < 65536 := Nat.lt_of_lt_of_le hn (Nat.pow_le_pow_right (by decide) hle)
  rw [e1, ext_sl, w_i64 (by omega) (by omega)]
  have hsum : ((sumL (s.data.toList.take 10 ++ [0, 0] ++ sl s.data.toList 12 20) : Int) == (num (sl s.data.toList 10 12) : Int)) = sumOk s.data.toList := by
    unfold sumOk
    rw [Bool.eq_iff_iff, beq_iff_eq, beq_iff_eq]
    omega
  rw [hsum]
  cases hc : sumOk s.data.toList with
  | false => rw [if_neg (by simp)]; exact hE hc
  | true =>
    rw [if_pos rfl]
    refine ⟨_, loc hx rfl, _, loc hx rfl, _, loc hx rfl, _, loc hx rfl, _, loc hx rfl, _, loc hx rfl, _, loc hx rfl, _, loc hx rfl, ?_⟩
    refine st8 h0 fun H2 k1 k2 => ?_
    have k3 : H2 b1 = some (.cells #[.int .i64 0] 35) := by rw [k2 b1 h01]; exact h1
    have := stc_loc (o := 0) (v := Value.int .i64 0) (K := Kr) k3 (by simp) (hK hc _ ?_ ?_ ?_)
    · rwa [add_mk] at this
    · rw [set_ne _ _ (Ne.symm h01)]; exact k1
    · rw [set_self]; rfl
    · intro c o hc ho
      simp only [List.mem_cons, List.not_mem_nil, or_false, not_or] at hc
      rw [set_ne _ _ hc.2, k2 c hc.1]
      exact ho
set_option maxHeartbeats 1000000 in
theorem ipv4_Parse.J3.run (hs : 20 ≤ s.size) (hlim : s.size ≤ 281474976710656) {n : Int} (h0 : H b0 = some (.cells (hcells Hd.zero) 58)) (h1 : H b1 = some (.cells #[.int .i64 0] 35)) (h01 : b1 ≠ b0)
    (hE6 : (s.size : Int) ≠ n → E (.iface 35 (.int .i64 6)) H) (hE : (s.size : Int) = n → sumOk s.data.toList = false → ∀ H', Heap.Le H H' → E (.iface 35 (.int .i64 9)) H')
    (hK : (s.size : Int) = n → sumOk s.data.toList = true → ∀ H', H' b0 = some (.cells (hcells (hdOf s.data.toList)) 58) → H' b1 = some (.cells #[.int .i64 0] 35) → Leaves1 [b0, b1] H H' → Kr H') :
    ipv4_Parse.J3 s ⟨b0, 0, none⟩ ⟨b1, 0, none⟩ n Kr E H := by
  refine ⟨?_⟩
  unfold ipv4_Parse.J3.vc
  refine ⟨?_⟩
  by_cases hn : (s.size : Int) = n
  · rw [if_pos (by simpa using hn)]
    have q1 : IntKind.i64.wrap (bt s 1) = ((s.data.toList.getD 1 0).toNat : Int) := by
      rw [show (1 : Int) = ((1 : Nat) : Int) from rfl, bt_lit]; have := (s.data.toList.getD 1 0).toNat_lt; exact w_i64 (by omega) (by omega)
    have q8 : IntKind.i64.wrap (bt s 8) = ((s.data.toList.getD 8 0).toNat : Int) := by
      rw [show (8 : Int) = ((8 : Nat) : Int) from rfl, bt_lit]; have := (s.data.toList.getD 8 0).toNat_lt; exact w_i64 (by omega) (by omega)
    have q9 : IntKind.i64.wrap (bt s 9) = ((s.data.toList.getD 9 0).toNat : Int) := by
      rw [show (9 : Int) = ((9 : Nat) : Int) from rfl, bt_lit]; have := (s.data.toList.getD 9 0).toNat_lt; exact w_i64 (by omega) (by omega)
    have n2 : ∀ i, num (sl s.data.toList i (i + 2)) < 65536 := fun i => by
      have hle : (sl s.data.toList i (i + 2)).length ≤ 2 := by unfold sl; rw [List.length_take]; omega
      exact Nat.lt_of_lt_of_le (num_lt _) (Nat.pow_le_pow_right (by decide) hle)
    have q4 : IntKind.i64.wrap (num (s.extract 4 6).data.toList : Int) = (num (sl s.data.toList 4 6) : Int) := by
      rw [ext_sl]; have : num (sl s.data.toList 4 6) < 65536 := n2 4; exact w_i64 (by omega) (by omega)
    have q6 : IntKind.i64.wrap (num (s.extract 6 8).data.toList : Int) = (num (sl s.data.toList 6 8) : Int) := by
      rw [ext_sl]; have : num (sl s.data.toList 6 8) < 65536 := n2 6; exact w_i64 (by omega) (by omega)
    have q20 : s.extract 20 s.size = (⟨(s.data.toList.drop 20).toArray⟩ : ByteArray) := by
      apply ByteArray.ext
      apply Array.toList_inj.1
      rw [ext_sl]
      unfold sl
      rw [List.take_of_length_le (by rw [List.length_drop, size_list]; omega)]
    have z4 : (s.extract 4 6).size ≤ 4 := by rw [ByteArray.size_extract]; omega
    have z6 : (s.extract 6 8).size ≤ 4 := by rw [ByteArray.size_extract]; omega
    have z12 : (s.extract 12 16).size ≤ 4 := by rw [ByteArray.size_extract]; omega
    have z16 : (s.extract 16 20).size ≤ 4 := by rw [ByteArray.size_extract]; omega
    refine ⟨by omega, by omega, by omega, by omega, by omega, by omega, by omega, by omega, by omega, by omega, by omega, by omega, by omega, by omega, by omega, by omega, by omega, by omega, by omega, by omega, Nat.le_refl _, ?_⟩
    rw [q1, q8, q9, q20]
    have fin : ∀ bx, H bx = none → ∀ H', H' bx = some (.cells #[.int .i64 ((s.data.toList.getD 1 0).toNat : Int), .int .i64 (IntKind.i64.wrap (num (s.extract 4 6).data.toList : Int)), .int .i64 (IntKind.i64.wrap (num (s.extract 6 8).data.toList : Int)), .int .i64 ((s.data.toList.getD 8 0).toNat : Int), .int .i64 ((s.data.toList.getD 9 0).toNat : Int), .int .u32 (num (s.extract 12 16).data.toList : Int), .int .u32 (num (s.extract 16 20).data.toList : Int), .string ⟨(s.data.toList.drop 20).toArray⟩] 58) →
        (∀ c, c ≠ bx → H' c = (H.set bx (.cells #[(.int .i64 0), (.int .i64 0), (.int .i64 0), (.int .i64 0), (.int .i64 0), (.int .u32 0), (.int .u32 0), (.string (⟨#[]⟩ : ByteArray))] 58)) c) → ipv4_Parse.J4 s ⟨b0, 0, none⟩ ⟨b1, 0, none⟩ ⟨bx, 0, none⟩ Kr E H' := by
      intro bx hbx H' hx hr
      rw [q4, q6, ext_sl, ext_sl] at hx
      have ne0 : b0 ≠ bx := fun e => by rw [e, hbx] at h0; cases h0
      have ne1 : b1 ≠ bx := fun e => by rw [e, hbx] at h1; cases h1
      have hle : Heap.Le H H' := fun c o hc => by
        have hcb : c ≠ bx := fun e => by rw [e, hbx] at hc; cases hc
        rw [hr c hcb, set_ne _ _ hcb]; exact hc
      refine ipv4_Parse.J4.run hs (hle _ _ h0) (hle _ _ h1) hx (Ne.symm ne0) h01 (fun hc => hE hn hc H' hle) (fun hc H2 g1 g2 g3 => hK hn hc H2 g1 g2 fun c o hc ho => g3 c o hc (hle _ _ ho))
    repeat' first
      | refine ipv4_get.run ?_ ?_
      | (rw [ByteArray.size_extract]; omega)
      | (refine st8 (set_self _ _ _) fun H' k1 k2 => fin _ ?_ H' k1 k2; assumption)
      | with_reducible refine And.intro ?_ ?_
      | exact ⟨rfl, rfl⟩
      | intro bx hbx
  · rw [if_neg (by simpa using hn)]
    exact hE6 hn
theorem ipv4_Parse.J2.run (hlim : s.size ≤ 281474976710656) (h0 : H b0 = some (.cells (hcells Hd.zero) 58)) (h1 : H b1 = some (.cells #[.int .i64 0] 35)) (h01 : b1 ≠ b0)
    (hE : ∀ x : Nat, errL s.data.toList = x → x ≠ 0 → ∀ H', Heap.Le H H' → E (.iface 35 (.int .i64 (x : Int))) H')
    (hK : errL s.data.toList = 0 → ∀ H', H' b0 = some (.cells (hcells (hdOf s.data.toList)) 58) → H' b1 = some (.cells #[.int .i64 0] 35) → Leaves1 [b0, b1] H H' → Kr H') :
    ipv4_Parse.J2 s ⟨b0, 0, none⟩ ⟨b1, 0, none⟩ Kr E H := by
  have hl := size_list s
  refine ⟨?_⟩
  unfold ipv4_Parse.J2.vc
  refine ⟨?_⟩
  by_cases c0 : 20 ≤ s.size
  · rw [if_pos (by rw [decide_eq_true_eq]; omega)]
    refine ⟨by omega, by omega, ⟨?_⟩⟩
    have b0e : bt s 0 = ((s.data.toList.getD 0 0).toNat : Int) := bt_lit s 0
    rw [b0e]
    by_cases c1 : s.data.toList.getD 0 0 = 69
    · rw [if_pos (by rw [c1]; rfl)]
      have z2 : (s.extract 2 4).size ≤ 4 := by rw [ByteArray.size_extract]; omega
      refine ⟨by omega, by omega, by omega, ipv4_get.run z2 ?_⟩
      have hle : (sl s.data.toList 2 4).length ≤ 2 := by unfold sl; rw [List.length_take]; omega
      have hlt : num (sl s.data.toList 2 4) < 65536 := Nat.lt_of_lt_of_le (num_lt _) (Nat.pow_le_pow_right (by decide) hle)
      rw [ext_sl, w_i64 (by omega) (by omega)]
      by_cases c2 : 20 ≤ num (sl s.data.toList 2 4)
      · rw [if_pos (by rw [decide_eq_true_eq]; omega)]
        refine ⟨?_⟩
        by_cases c3 : num (sl s.data.toList 2 4) ≤ s.size
        · rw [if_pos (by simpa using c3)]
          refine ipv4_Parse.J3.run c0 hlim h0 h1 h01 (fun hne => ?_) (fun he hs H' hl' => ?_) (fun he hs => hK ?_)
          · refine hE 6 ?_ (by decide) H (Heap.Le.refl _)
            unfold errL
            rw [if_neg (by omega), if_neg (fun h => h c1), if_neg (by omega), if_pos (by omega)]
          · refine hE 9 ?_ (by decide) H' hl'
            unfold errL
            rw [if_neg (by omega), if_neg (fun h => h c1), if_neg (by omega), if_neg (by omega), if_neg (by rw [hs]; simp)]
          · unfold errL
            rw [if_neg (by omega), if_neg (fun h => h c1), if_neg (by omega), if_neg (by omega), if_pos hs]
        · rw [if_neg (by simp; omega)]
          refine hE 1 ?_ (by decide) H (Heap.Le.refl _)
          unfold errL
          rw [if_neg (by omega), if_neg (fun h => h c1), if_pos (by omega)]
      · rw [if_neg (by simp; omega)]
        refine ⟨?_⟩
        rw [if_neg (by simp)]
        refine hE 1 ?_ (by decide) H (Heap.Le.refl _)
        unfold errL
        rw [if_neg (by omega), if_neg (fun h => h c1), if_pos (by omega)]
    · rw [if_neg (by
        intro hb
        have hb := eq_of_beq hb
        exact c1 (UInt8.toNat_inj.1 (by show (s.data.toList.getD 0 0).toNat = 69; omega)))]
      refine hE 3 ?_ (by decide) H (Heap.Le.refl _)
      unfold errL
      rw [if_neg (by omega), if_pos c1]
  · rw [if_neg (by rw [decide_eq_true_eq]; omega)]
    refine hE 1 ?_ (by decide) H (Heap.Le.refl _)
    unfold errL
    rw [if_pos (by omega)]
end
/-! ### As a callee -/
structure ipv4_Parse.c (s : ByteArray) (K : Int → Int → Int → Int → Int → Int → Int → ByteArray → Int → Heap → Prop) (E : Value → Heap → Prop) (H : Heap) : Prop where
  h : s.size ≤ 281474976710656 ∧ K (hdL s.data.toList).tos (hdL s.data.toList).id (hdL s.data.toList).frag (hdL s.data.toList).ttl (hdL s.data.toList).proto (hdL s.data.toList).src (hdL s.data.toList).dst (hdL s.data.toList).data (errL s.data.toList : Int) H
def ipv4_Parse.F : FT := fun args K E H => match args with
  | [.string s] => ipv4_Parse.c s (fun a b c d e f g h x H => K (.tuple #[.agg #[.int .i64 a, .int .i64 b, .int .i64 c, .int .i64 d, .int .i64 e, .int .u32 f, .int .u32 g, .string h], .int .i64 x]) H) E H
  | _ => False
noncomputable def ipv4_Parse.dop : Oper := (match Try.f38.body with | some (.seq _ (.seq (.region _ ops _) _)) => ops[0]? | _ => none).getD default
theorem ipv4_Parse.body_eq : Try.f38.body = some (.seq (sub [0] ipv4_Parse.body) (.seq (.region 1 #[ipv4_Parse.dop] false) (sub [1, 1] ipv4_Parse.body))) := by kernel_rfl
abbrev PA (b : Nat) : Value := .pointer (some ⟨b, 0, none⟩)
theorem ipv4_Parse.res {fr : Fr} {G : Heap} {b0 b1 : Nat} {h : Hd} {x : Int} {Kv : Value → Prop} (g2 : fr.getD 2 none = some (PA b0)) (g3 : fr.getD 3 none = some (PA b1)) (h0 : G b0 = some (.cells (hcells h) 58)) (h1 : G b1 = some (.cells #[.int .i64 x] 35)) (hk : Kv (.tuple #[.agg (hcells h), .int .i64 x])) :
    resW Try.prog fr G Try.f38.results.toList [] Kv := by
  have e : Try.f38.results.toList = [.cell 2 58, .cell 3 35] := by kernel_rfl
  rw [e]
  have e1 : ∀ (K : Value → Prop) (b : Nat) (G : Heap), wLoad Try.prog 58 (PA b) K G = (ldI G .i64 ((⟨b, 0, none⟩ : Addr).add 0) fun x0 => ldI G .i64 ((⟨b, 0, none⟩ : Addr).add 1) fun x1 => ldI G .i64 ((⟨b, 0, none⟩ : Addr).add 2) fun x2 => ldI G .i64 ((⟨b, 0, none⟩ : Addr).add 3) fun x3 => ldI G .i64 ((⟨b, 0, none⟩ : Addr).add 4) fun x4 => ldI G .u32 ((⟨b, 0, none⟩ : Addr).add 5) fun x5 => ldI G .u32 ((⟨b, 0, none⟩ : Addr).add 6) fun x6 => ldS G ((⟨b, 0, none⟩ : Addr).add 7) fun x7 => K (.agg #[.int .i64 x0, .int .i64 x1, .int .i64 x2, .int .i64 x3, .int .i64 x4, .int .u32 x5, .int .u32 x6, .string x7])) := fun K b G => by kernel_rfl
  have e2 : ∀ (K : Value → Prop) (b : Nat) (G : Heap), wLoad Try.prog 35 (PA b) K G = ldI G .i64 ⟨b, 0, none⟩ fun x => K (.int .i64 x) := fun K b G => by kernel_rfl
  unfold resW
  rw [g2]
  unfold with1
  dsimp only
  rw [e1]
  refine ⟨_, loc h0 rfl, _, loc h0 rfl, _, loc h0 rfl, _, loc h0 rfl, _, loc h0 rfl, _, loc h0 rfl, _, loc h0 rfl, _, loc h0 rfl, ?_⟩
  unfold resW
  rw [g3]
  unfold with1
  dsimp only
  rw [e2]
  refine ⟨x, ?_, ?_⟩
  · simp [Heap.cell?, h1]
  · unfold resW
    exact hk
theorem ipv4_Parse.ok : CalleeOk Try.prog 38 ipv4_Parse.F := by
  refine catch_ok (pins := [2, 3]) (te := 35) (t := 3) (g := 56) (T := #[89]) Try.func38 ipv4_Parse.body_eq (by kernel_rfl) (by kernel_rfl) (by kernel_rfl) (by kernel_rfl) ipv4_caught.ok ⟨Try.f56, Try.func56, by kernel_rfl, by kernel_rfl⟩ ipv4_Parse.J1.ok ipv4_Parse.J2.ok (by kernel_rfl) ?_
  intro args K E H h
  unfold ipv4_Parse.F at h
  split at h
  rotate_left
  · exact h.elim
  rename_i s
  obtain ⟨hs, hk⟩ := h.h
  have hn : Try.f38.ntmps = 72 := by kernel_rfl
  unfold catchT
  rw [hn]
  refine lenIs_in rfl (slS_in (n := s) rfl ⟨?_⟩)
  unfold ipv4_Parse.J1.vc
  refine newB_le fun b0 H1 hn0 hl0 hle0 => newB_le fun b1 H2 hn1 hl1 hle1 => ?_
  have h01 : b1 ≠ b0 := fun e => by rw [e, hl0] at hn1; cases hn1
  have hle : Heap.Le H H2 := hle0.trans hle1
  have hnb1 : H b1 = none := by
    cases hh : H b1 with
    | none => rfl
    | some o => rw [hle0 _ _ hh] at hn1; cases hn1
  refine ⟨rfl, ⟨b1, 0, none⟩, [none, none, some (PA b0), some (PA b1)], rfl, fun t v ht => ?_, ⟨[none, none, some (PA b0)], PA b1, rfl⟩, ?_⟩
  · match t, ht with
    | 2, ht => exact ⟨ht, by simp⟩
    | 3, ht => exact ⟨ht, by simp⟩
  refine lenIs_in rfl (slS_in (n := s) rfl (slPA_in (n := ⟨b0, 0, none⟩) rfl (slPA_in (n := ⟨b1, 0, none⟩) rfl ?_)))
  refine ipv4_Parse.J2.run hs (hle1 _ _ hl0) hl1 h01 (fun x hx hx0 H' hl' => ?_) (fun he H' g0 g1 g2 => ?_)
  · · have hz : hdL s.data.toList = Hd.zero := by unfold hdL; rw [if_neg (by omega)]
      rw [hx, hz] at hk
      refine ⟨x, rfl, ?_⟩
      have h1' := hl' _ _ hl1
      have h0' := hl' _ _ (hle1 _ _ hl0)
      have := stc_to (o := 0) (v := Value.int .i64 (x : Int)) (arr' := #[.int .i64 (x : Int)]) (K := fun H3 => resW Try.prog [none, none, some (PA b0), some (PA b1)] H3 Try.f38.results.toList [] fun v => Fg K v H3) h1' (by simp) rfl
        (ipv4_Parse.res (h := Hd.zero) rfl rfl (by rw [set_ne _ _ (Ne.symm h01)]; exact h0') (set_self _ _ _) ⟨H, fun c o hc => by rw [set_ne _ _ (fun e => by rw [e, hnb1] at hc; cases hc)]; exact hl' _ _ (hle _ _ hc), hk⟩)
      rwa [add_mk] at this
  · have hz : hdL s.data.toList = hdOf s.data.toList := by unfold hdL; rw [if_pos he]
    rw [he, hz] at hk
    refine ⟨.inr rfl, ipv4_Parse.res (h := hdOf s.data.toList) rfl rfl g0 g1 ⟨H, g2.le hle ?_, hk⟩⟩
    intro b hb
    simp only [List.mem_cons, List.not_mem_nil, or_false] at hb
    rcases hb with rfl | rfl
    · exact hn0
    · exact hnb1
end Go.Sh
