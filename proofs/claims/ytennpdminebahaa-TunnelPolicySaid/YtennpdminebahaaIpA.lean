/- Packets of IPv4: plain laws. -/
import Derived.Test.YtennpdminebahaaShW
namespace Go.Sh
set_option maxRecDepth 8000
/-! ### Bytes and numbers -/
def num (l : List UInt8) : Nat := l.foldl (fun a b => a * 256 + b.toNat) 0
def bbe : Nat → Nat → List UInt8
  | _, 0 => []
  | n, k + 1 => bbe (n / 256) k ++ [UInt8.ofNat (n % 256)]
theorem bbe_len (k : Nat) : ∀ n, (bbe n k).length = k := by
  induction k with
  | zero => intro n; rfl
  | succ k ih => intro n; simp [bbe, ih]
theorem num_snoc (l : List UInt8) (b : UInt8) : num (l ++ [b]) = num l * 256 + b.toNat := by simp [num]
theorem num_lt (l : List UInt8) : num l < 256 ^ l.length := by
  refine snoc_ind (Q := fun l => num l < 256 ^ l.length) (by simp [num]) (fun l b ih => ?_) l
  · rw [num_snoc, List.length_append, List.length_singleton, Nat.pow_succ]
    have := b.toNat_lt
    omega
theorem num_bbe (k : Nat) : ∀ n, n < 256 ^ k → num (bbe n k) = n := by
  induction k with
  | zero => intro n hn; simp at hn; subst hn; rfl
  | succ k ih =>
    intro n hn
    rw [Nat.pow_succ] at hn
    show num (bbe (n / 256) k ++ [UInt8.ofNat (n % 256)]) = n
    rw [num_snoc, ih (n / 256) (by omega), UInt8.toNat_ofNat']
    omega
theorem bbe_num (l : List UInt8) : bbe (num l) l.length = l := by
  refine snoc_ind (Q := fun l => bbe (num l) l.length = l) rfl (fun l b ih => ?_) l
  · rw [List.length_append, List.length_singleton]
    show bbe (num (l ++ [b]) / 256) l.length ++ [UInt8.ofNat (num (l ++ [b]) % 256)] = _
    have hb := b.toNat_lt
    rw [num_snoc, show (num l * 256 + b.toNat) / 256 = num l by omega, ih, show (num l * 256 + b.toNat) % 256 = b.toNat by omega]
    simp
theorem num1 (a : UInt8) : num [a] = a.toNat := by simp [num]
theorem bbe1 (a : UInt8) : bbe a.toNat 1 = [a] := by have := bbe_num [a]; rwa [num1] at this
/-! ### The sum -/
def wsum : Bool → List UInt8 → Nat
  | _, [] => 0
  | true, c :: r => c.toNat * 256 + wsum false r
  | false, c :: r => c.toNat + wsum true r
theorem wsum_snoc : ∀ (l : List UInt8) (p : Bool) (c : UInt8), wsum p (l ++ [c]) = wsum p l + if (decide (l.length % 2 = 0)) = p then c.toNat * 256 else c.toNat
  | [], true, c => by simp [wsum]
  | [], false, c => by simp [wsum]
  | d :: r, p, c => by
    have ih := wsum_snoc r (!p) c
    have e : (decide ((d :: r).length % 2 = 0) = p) = (decide (r.length % 2 = 0) = !p) := by
      have : decide ((d :: r).length % 2 = 0) = !decide (r.length % 2 = 0) := by
        rw [List.length_cons]
        by_cases h : r.length % 2 = 0
        · rw [decide_eq_true h, decide_eq_false (by omega)]; rfl
        · rw [decide_eq_false h, decide_eq_true (by omega)]; rfl
      rw [this]
      cases decide (r.length % 2 = 0) <;> cases p <;> simp
    cases p with
    | true =>
      show d.toNat * 256 + wsum false (r ++ [c]) = d.toNat * 256 + wsum false r + _
      rw [show wsum false (r ++ [c]) = _ from ih]
      simp only [e, Bool.not_true]
      omega
    | false =>
      show d.toNat + wsum true (r ++ [c]) = d.toNat + wsum true r + _
      rw [show wsum true (r ++ [c]) = _ from ih]
      simp only [e, Bool.not_false]
      omega
theorem wsum_le (l : List UInt8) : wsum true l ≤ 65280 * l.length := by
  refine snoc_ind (Q := fun l => wsum true l ≤ 65280 * l.length) (by simp [wsum]) (fun l b ih => ?_) l
  rw [wsum_snoc, List.length_append, List.length_singleton]
  have := b.toNat_lt
  split <;> omega
def carry (n : Nat) : Nat := if 65535 < n then carry (n % 65536 + n / 65536) else n
termination_by n
decreasing_by omega
theorem carry_le (n : Nat) : carry n ≤ 65535 := by
  induction n using Nat.strongRecOn with
  | _ n ih =>
    rw [carry]
    split
    · exact ih _ (by omega)
    · omega
def sumL (l : List UInt8) : Nat := 65535 - carry (wsum true l)
theorem sumL_le (l : List UInt8) : sumL l ≤ 65535 := by unfold sumL; omega
/-! ### Headers -/
structure Hd where
  tos : Nat
  id : Nat
  frag : Nat
  ttl : Nat
  proto : Nat
  src : Nat
  dst : Nat
  data : ByteArray
def Hd.zero : Hd := ⟨0, 0, 0, 0, 0, 0, 0, ⟨#[]⟩⟩
structure Hd.In (h : Hd) : Prop where
  tos : h.tos ≤ 255
  id : h.id ≤ 65535
  frag : h.frag ≤ 65535
  ttl : h.ttl ≤ 255
  proto : h.proto ≤ 255
  src : h.src < 4294967296
  dst : h.dst < 4294967296
  data : h.data.size ≤ 65515
def hd20 (h : Hd) (len sum : Nat) : List UInt8 := [69, UInt8.ofNat (h.tos % 256), UInt8.ofNat (len / 256 % 256), UInt8.ofNat (len % 256), UInt8.ofNat (h.id / 256 % 256), UInt8.ofNat (h.id % 256), UInt8.ofNat (h.frag / 256 % 256), UInt8.ofNat (h.frag % 256), UInt8.ofNat (h.ttl % 256), UInt8.ofNat (h.proto % 256), UInt8.ofNat (sum / 256 % 256), UInt8.ofNat (sum % 256)] ++ (bbe h.src 4 ++ bbe h.dst 4)
def buildL (h : Hd) : List UInt8 := hd20 h (20 + h.data.size) (sumL (hd20 h (20 + h.data.size) 0)) ++ h.data.data.toList
def buildB (h : Hd) : ByteArray := ⟨(buildL h).toArray⟩
def sl (l : List UInt8) (i j : Nat) : List UInt8 := (l.drop i).take (j - i)
def hdOf (l : List UInt8) : Hd := ⟨(l.getD 1 0).toNat, num (sl l 4 6), num (sl l 6 8), (l.getD 8 0).toNat, (l.getD 9 0).toNat, num (sl l 12 16), num (sl l 16 20), ⟨(l.drop 20).toArray⟩⟩
def sumOk (l : List UInt8) : Bool := sumL (l.take 10 ++ [0, 0] ++ sl l 12 20) == num (sl l 10 12)
def errL (l : List UInt8) : Nat := if l.length < 20 then 1 else if l.getD 0 0 ≠ 69 then 3 else if num (sl l 2 4) < 20 ∨ l.length < num (sl l 2 4) then 1 else if num (sl l 2 4) < l.length then 6 else if sumOk l = true then 0 else 9
def hdL (l : List UInt8) : Hd := if errL l = 0 then hdOf l else Hd.zero
theorem err_ok {l : List UInt8} (h : errL l = 0) : 20 ≤ l.length ∧ l.getD 0 0 = 69 ∧ num (sl l 2 4) = l.length ∧ sumOk l = true := by
  unfold errL at h
  split at h
  · cases h
  · split at h
    · cases h
    · rename_i h1 h2
      split at h
      · cases h
      · split at h
        · cases h
        · split at h
          · rename_i h5
            exact ⟨by omega, by simpa using h2, by omega, h5⟩
          · cases h
theorem uncons {n : Nat} {l : List UInt8} (h : n + 1 ≤ l.length) : ∃ a r, l = a :: r ∧ n ≤ r.length := by
  cases l with
  | nil => simp at h
  | cons a r => exact ⟨a, r, rfl, by simpa using h⟩
theorem ex20 {l : List UInt8} (h : 20 ≤ l.length) : ∃ b0 b1 b2 b3 b4 b5 b6 b7 b8 b9 b10 b11 b12 b13 b14 b15 b16 b17 b18 b19 r, l = b0 :: b1 :: b2 :: b3 :: b4 :: b5 :: b6 :: b7 :: b8 :: b9 :: b10 :: b11 :: b12 :: b13 :: b14 :: b15 :: b16 :: b17 :: b18 :: b19 :: r := by
  obtain ⟨b0, r0, rfl, g0⟩ := uncons h
  obtain ⟨b1, r1, rfl, g1⟩ := uncons g0
  obtain ⟨b2, r2, rfl, g2⟩ := uncons g1
  obtain ⟨b3, r3, rfl, g3⟩ := uncons g2
  obtain ⟨b4, r4, rfl, g4⟩ := uncons g3
  obtain ⟨b5, r5, rfl, g5⟩ := uncons g4
  obtain ⟨b6, r6, rfl, g6⟩ := uncons g5
  obtain ⟨b7, r7, rfl, g7⟩ := uncons g6
  obtain ⟨b8, r8, rfl, g8⟩ := uncons g7
  obtain ⟨b9, r9, rfl, g9⟩ := uncons g8
  obtain ⟨b10, r10, rfl, g10⟩ := uncons g9
  obtain ⟨b11, r11, rfl, g11⟩ := uncons g10
  obtain ⟨b12, r12, rfl, g12⟩ := uncons g11
  obtain ⟨b13, r13, rfl, g13⟩ := uncons g12
  obtain ⟨b14, r14, rfl, g14⟩ := uncons g13
  obtain ⟨b15, r15, rfl, g15⟩ := uncons g14
  obtain ⟨b16, r16, rfl, g16⟩ := uncons g15
  obtain ⟨b17, r17, rfl, g17⟩ := uncons g16
  obtain ⟨b18, r18, rfl, g18⟩ := uncons g17
  obtain ⟨b19, r19, rfl, g19⟩ := uncons g18
  exact ⟨b0, b1, b2, b3, b4, b5, b6, b7, b8, b9, b10, b11, b12, b13, b14, b15, b16, b17, b18, b19, r19, rfl⟩
theorem num2 (a b : UInt8) : num [a, b] = a.toNat * 256 + b.toNat := by simp [num]
theorem of8 (a : UInt8) : UInt8.ofNat (a.toNat % 256) = a := by rw [Nat.mod_eq_of_lt a.toNat_lt]; simp
theorem of_hi (a b : UInt8) : UInt8.ofNat (num [a, b] / 256 % 256) = a := by
  have h1 := a.toNat_lt
  have h2 := b.toNat_lt
  rw [num2, show (a.toNat * 256 + b.toNat) / 256 % 256 = a.toNat % 256 by omega, of8]
theorem of_lo (a b : UInt8) : UInt8.ofNat (num [a, b] % 256) = b := by
  have h1 := a.toNat_lt
  have h2 := b.toNat_lt
  rw [num2, show (a.toNat * 256 + b.toNat) % 256 = b.toNat % 256 by omega, of8]
theorem bbe4 (a b c d : UInt8) : bbe (num [a, b, c, d]) 4 = [a, b, c, d] := bbe_num [a, b, c, d]
/-- The first bytes of a packet are its header's. -/
theorem hd20_of {l : List UInt8} (h : 20 ≤ l.length) (h0 : l.getD 0 0 = 69) (hn : num (sl l 2 4) = l.length) (x : Nat) : hd20 (hdOf l) (20 + (hdOf l).data.size) x = l.take 10 ++ [UInt8.ofNat (x / 256 % 256), UInt8.ofNat (x % 256)] ++ sl l 12 20 := by
  obtain ⟨b0, b1, b2, b3, b4, b5, b6, b7, b8, b9, b10, b11, b12, b13, b14, b15, b16, b17, b18, b19, r, rfl⟩ := ex20 h
  have h0 : b0 = 69 := h0
  have hn : num [b2, b3] = _ := hn
  subst h0
  have hlen : 20 + (hdOf (69 :: b1 :: b2 :: b3 :: b4 :: b5 :: b6 :: b7 :: b8 :: b9 :: b10 :: b11 :: b12 :: b13 :: b14 :: b15 :: b16 :: b17 :: b18 :: b19 :: r)).data.size = num [b2, b3] := by
    rw [hn]
    show 20 + r.toArray.size = _
    simp
    omega
  rw [hlen]
  unfold hd20 hdOf
  show [69, UInt8.ofNat (b1.toNat % 256), UInt8.ofNat (num [b2, b3] / 256 % 256), UInt8.ofNat (num [b2, b3] % 256), UInt8.ofNat (num [b4, b5] / 256 % 256), UInt8.ofNat (num [b4, b5] % 256), UInt8.ofNat (num [b6, b7] / 256 % 256), UInt8.ofNat (num [b6, b7] % 256), UInt8.ofNat (b8.toNat % 256), UInt8.ofNat (b9.toNat % 256), UInt8.ofNat (x / 256 % 256), UInt8.ofNat (x % 256)] ++ (bbe (num [b12, b13, b14, b15]) 4 ++ bbe (num [b16, b17, b18, b19]) 4) = [69, b1, b2, b3, b4, b5, b6, b7, b8, b9] ++ [UInt8.ofNat (x / 256 % 256), UInt8.ofNat (x % 256)] ++ [b12, b13, b14, b15, b16, b17, b18, b19]
  rw [of8, of_hi, of_lo, of_hi, of_lo, of_hi, of_lo, of8, of8, bbe4, bbe4]
  rfl
theorem hdOf_in {l : List UInt8} (h : 20 ≤ l.length) (hn : num (sl l 2 4) = l.length) : (hdOf l).In := by
  obtain ⟨b0, b1, b2, b3, b4, b5, b6, b7, b8, b9, b10, b11, b12, b13, b14, b15, b16, b17, b18, b19, r, rfl⟩ := ex20 h
  have t1 := b1.toNat_lt
  have t8 := b8.toNat_lt
  have t9 := b9.toNat_lt
  have n2 := num_lt [b2, b3]
  have n4 := num_lt [b4, b5]
  have n6 := num_lt [b6, b7]
  have n12 := num_lt [b12, b13, b14, b15]
  have n16 := num_lt [b16, b17, b18, b19]
  have e2 : 256 ^ 2 = 65536 := by decide
  have e4 : 256 ^ 4 = 4294967296 := by decide
  simp only [List.length_cons, List.length_nil, Nat.zero_add, Nat.reduceAdd, e2, e4] at n2 n4 n6 n12 n16
  refine ⟨?_, ?_, ?_, ?_, ?_, ?_, ?_, ?_⟩
  · show b1.toNat ≤ 255; omega
  · show num [b4, b5] ≤ 65535; omega
  · show num [b6, b7] ≤ 65535; omega
  · show b8.toNat ≤ 255; omega
  · show b9.toNat ≤ 255; omega
  · exact n12
  · exact n16
  · have hn : num [b2, b3] = _ := hn
    show r.toArray.size ≤ 65515
    simp at hn ⊢
    omega
/-- Written again, a packet is what it was, if its sum is right. -/
theorem build_hdOf {l : List UInt8} (h : 20 ≤ l.length) (h0 : l.getD 0 0 = 69) (hn : num (sl l 2 4) = l.length) : (buildL (hdOf l) = l) ↔ sumOk l = true := by
  unfold buildL
  rw [hd20_of h h0 hn, hd20_of h h0 hn]
  have hs := sumL_le (l.take 10 ++ [UInt8.ofNat (0 / 256 % 256), UInt8.ofNat (0 % 256)] ++ sl l 12 20)
  have z : ([UInt8.ofNat (0 / 256 % 256), UInt8.ofNat (0 % 256)] : List UInt8) = [0, 0] := rfl
  rw [z] at hs ⊢
  unfold sumOk
  obtain ⟨S, hS⟩ : ∃ S, S = sumL (l.take 10 ++ [0, 0] ++ sl l 12 20) := ⟨_, rfl⟩
  rw [← hS] at hs ⊢
  obtain ⟨b0, b1, b2, b3, b4, b5, b6, b7, b8, b9, b10, b11, b12, b13, b14, b15, b16, b17, b18, b19, r, rfl⟩ := ex20 h
  show ([b0, b1, b2, b3, b4, b5, b6, b7, b8, b9] ++ [UInt8.ofNat (S / 256 % 256), UInt8.ofNat (S % 256)] ++ [b12, b13, b14, b15, b16, b17, b18, b19] ++ r.toArray.toList = _) ↔ (S == num [b10, b11]) = true
  have t10 := b10.toNat_lt
  have t11 := b11.toNat_lt
  simp only [List.cons_append, List.nil_append, List.cons.injEq, true_and, and_true, beq_iff_eq, num2]
  constructor
  · rintro ⟨e1, e2⟩
    have e1 := congrArg UInt8.toNat e1
    have e2 := congrArg UInt8.toNat e2
    rw [UInt8.toNat_ofNat'] at e1 e2
    omega
  · intro e
    refine ⟨?_, ?_⟩
    · rw [e, show (b10.toNat * 256 + b11.toNat) / 256 % 256 = b10.toNat % 256 by omega, of8]
    · rw [e, show (b10.toNat * 256 + b11.toNat) % 256 = b11.toNat % 256 by omega, of8]
theorem bbe4_eq (n : Nat) : bbe n 4 = [UInt8.ofNat (n / 256 / 256 / 256 % 256), UInt8.ofNat (n / 256 / 256 % 256), UInt8.ofNat (n / 256 % 256), UInt8.ofNat (n % 256)] := rfl
theorem num_hilo {n : Nat} (h : n ≤ 65535) : num [UInt8.ofNat (n / 256 % 256), UInt8.ofNat (n % 256)] = n := by
  rw [num2, UInt8.toNat_ofNat', UInt8.toNat_ofNat']
  omega
theorem ofNat_small {n : Nat} (h : n ≤ 255) : (UInt8.ofNat (n % 256)).toNat = n := by rw [UInt8.toNat_ofNat']; omega
/-- What is written of a header is read as it was. -/
theorem parse_build {h : Hd} (hi : h.In) : errL (buildL h) = 0 ∧ hdL (buildL h) = h := by
  have hlen : (buildL h).length = 20 + h.data.size := by
    unfold buildL hd20
    simp only [List.length_append, bbe_len, List.length_cons, List.length_nil, Array.length_toList]
    show _ = 20 + h.data.data.size
    omega
  have hge : 20 ≤ (buildL h).length := by omega
  have hd : hdOf (buildL h) = h := by
    have n1 := num_bbe 4 h.src (by have := hi.src; omega)
    have n2 := num_bbe 4 h.dst (by have := hi.dst; omega)
    rw [bbe4_eq] at n1 n2
    obtain ⟨tos, id, frag, ttl, proto, src, dst, data⟩ := h
    unfold hdOf buildL hd20
    rw [bbe4_eq, bbe4_eq]
    show Hd.mk (UInt8.ofNat (tos % 256)).toNat (num [UInt8.ofNat (id / 256 % 256), UInt8.ofNat (id % 256)]) (num [UInt8.ofNat (frag / 256 % 256), UInt8.ofNat (frag % 256)]) (UInt8.ofNat (ttl % 256)).toNat (UInt8.ofNat (proto % 256)).toNat (num _) (num _) ⟨data.data.toList.toArray⟩ = _
    rw [ofNat_small hi.tos, num_hilo hi.id, num_hilo hi.frag, ofNat_small hi.ttl, ofNat_small hi.proto]
    congr 1
  have h0 : (buildL h).getD 0 0 = 69 := rfl
  have hn : num (sl (buildL h) 2 4) = (buildL h).length := by
    rw [hlen]
    exact num_hilo (by have := hi.data; omega)
  have hs : sumOk (buildL h) = true := (build_hdOf hge h0 hn).1 (by rw [hd])
  have he : errL (buildL h) = 0 := by
    unfold errL
    rw [if_neg (by omega), if_neg (fun hne => hne h0), if_neg (by omega), if_neg (by omega), if_pos hs]
  exact ⟨he, by unfold hdL; rw [if_pos he, hd]⟩
theorem parse_in {l : List UInt8} (h : errL l = 0) : (hdL l).In ∧ buildL (hdL l) = l := by
  obtain ⟨h1, h2, h3, h4⟩ := err_ok h
  unfold hdL
  rw [if_pos h]
  exact ⟨hdOf_in h1 h3, (build_hdOf h1 h2 h3).2 h4⟩
end Go.Sh
