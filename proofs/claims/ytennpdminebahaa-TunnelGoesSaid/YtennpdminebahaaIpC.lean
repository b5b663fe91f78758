/- ipv4.Build, as a callee, of a header whose numbers are in range. -/
import Derived.Test.YtennpdminebahaaIpB
import Derived.Test.YtennpdminebahaaGbu
namespace Go.Sh
open Go.Proofs
set_option maxRecDepth 8000
def byArr (l : List UInt8) : Array Value := (l.map fun c => Value.int .u8 (c.toNat : Int)).toArray
theorem byArr_size (l : List UInt8) : (byArr l).size = l.length := by simp [byArr]
theorem byArr_set (l : List UInt8) (i : Nat) (x : UInt8) : (byArr l).setIfInBounds i (.int .u8 (x.toNat : Int)) = byArr (l.set i x) := by
  unfold byArr
  rw [List.setIfInBounds_toArray, List.map_set]
theorem byArr_get {l : List UInt8} {i : Nat} {x : UInt8} (h : l[i]? = some x) : (byArr l)[i]? = some (.int .u8 (x.toNat : Int)) := by
  unfold byArr
  simp [h]
theorem bbe_get : ∀ (n v k : Nat), k < n → (bbe v n)[k]? = some (UInt8.ofNat (v / 256 ^ (n - 1 - k) % 256))
  | n + 1, v, k, h => by
    show (bbe (v / 256) n ++ [UInt8.ofNat (v % 256)])[k]? = _
    by_cases hk : k < n
    · rw [List.getElem?_append_left (by rw [bbe_len]; exact hk), bbe_get n (v / 256) k hk, Nat.div_div_eq_div_mul]
      have : 256 * 256 ^ (n - 1 - k) = 256 ^ (n + 1 - 1 - k) := by
        rw [show n + 1 - 1 - k = (n - 1 - k) + 1 by omega, Nat.pow_succ, Nat.mul_comm]
      rw [this]
    · have : k = n := by omega
      subst this
      rw [List.getElem?_append_right (by rw [bbe_len]; exact Nat.le_refl _), bbe_len, Nat.sub_self, show k + 1 - 1 - k = 0 by omega]
      simp
def ins (l : List UInt8) (o : Nat) (xs : List UInt8) : List UInt8 := l.take o ++ xs ++ l.drop (o + xs.length)
theorem ins_set {l : List UInt8} {o : Nat} {xs : List UInt8} {x : UInt8} (h : o + xs.length < l.length) : (ins l o xs).set (o + xs.length) x = ins l o (xs ++ [x]) := by
  unfold ins
  have h1 : (l.take o ++ xs).length = o + xs.length := by rw [List.length_append, List.length_take]; omega
  rw [List.set_append_right _ _ (by omega), h1, Nat.sub_self, List.drop_eq_getElem_cons h]
  simp [List.append_assoc, Nat.add_assoc]
theorem ipv4_put.run {H : Heap} {b o n cap v : Nat} {l : List UInt8} {e : TypeId} (hb : H b = some (.cells (byArr l) e)) (hn : n ≤ 4) (ho : o + n ≤ l.length) (hl : l.length ≤ 1000000) (hv : v < 4294967296) {K : Heap → Prop} {E : Value → Heap → Prop}
    (hk : ∀ H', H' b = some (.cells (byArr (ins l o (bbe v n))) e) → (∀ c, c ≠ b → H' c = H c) → K H') : ipv4_put.c (some ⟨b, o, none⟩) n cap v K E H := by
  refine ⟨⟨Loop.of (I := fun st H' m => ∃ k : Nat, st = (k : Int) ∧ k ≤ n ∧ m = n - k ∧ H' b = some (.cells (byArr (ins l o ((bbe v n).take k))) e) ∧ (∀ c, c ≠ b → H' c = H c)) ?_ ⟨0, rfl, Nat.zero_le _, rfl, ?_, fun _ _ => rfl⟩⟩⟩
  · rintro m st H' ⟨k, rfl, hk2, rfl, hh, hr⟩ RR hRR
    unfold ipv4_put.W1.vc
    by_cases hlt : k < n
    · rw [if_pos (by rw [decide_eq_true_eq]; omega)]
      have e1 : IntKind.i64.wrap (8 * IntKind.i64.wrap (IntKind.i64.wrap ((n : Int) - 1) - (k : Int))) = ((8 * (n - 1 - k) : Nat) : Int) := by
        rw [w_i64 (n := (n : Int) - 1) (by omega) (by omega), w_i64 (n := (n : Int) - 1 - (k : Int)) (by omega) (by omega), w_i64 (by omega) (by omega)]; omega
      have e2 : shrI .u32 (v : Int) ((8 * (n - 1 - k) : Nat) : Int) = ((v / 256 ^ (n - 1 - k) : Nat) : Int) := by
        unfold shrI
        have e3 : min (((8 * (n - 1 - k) : Nat) : Int)).toNat (IntKind.bits .u32) = 8 * (n - 1 - k) := by
          show min (((8 * (n - 1 - k) : Nat) : Int)).toNat 32 = _
          omega
        rw [e3, Int.fdiv_eq_ediv_of_nonneg _ (Int.le_of_lt (Int.pow_pos (by decide))), show (256 : Nat) = 2 ^ 8 from rfl, ← Nat.pow_mul]
        simp
      have e4 : IntKind.u8.wrap ((v / 256 ^ (n - 1 - k) : Nat) : Int) = ((UInt8.ofNat (v / 256 ^ (n - 1 - k) % 256)).toNat : Int) := by
        rw [UInt8.toNat_ofNat']
        simp only [IntKind.wrap, IntKind.bits, IntKind.signed, Bool.false_and, Bool.false_eq_true, if_false]
        omega
      rw [e1, e2, e4]
      have hlen : (ins l o ((bbe v n).take k)).length = l.length := by
        unfold ins
        rw [List.length_append, List.length_append, List.length_take, List.length_drop, List.length_take, bbe_len]
        omega
      have hxk : ((bbe v n).take k).length = k := by rw [List.length_take, bbe_len]; omega
      have hset := ins_set (l := l) (o := o) (xs := (bbe v n).take k) (x := UInt8.ofNat (v / 256 ^ (n - 1 - k) % 256)) (by rw [hxk]; omega)
      rw [hxk] at hset
      have htk : (bbe v n).take (k + 1) = (bbe v n).take k ++ [UInt8.ofNat (v / 256 ^ (n - 1 - k) % 256)] := by
        rw [List.take_add_one, bbe_get n v k hlt]
        rfl
      refine ⟨by omega, ⟨b, o, none⟩, rfl, by omega, by omega, ?_⟩
      rw [Int.toNat_natCast, Nat.mul_one]
      have := stc_to (o := o + k) (arr' := byArr (ins l o ((bbe v n).take (k + 1)))) (v := .int .u8 ((UInt8.ofNat (v / 256 ^ (n - 1 - k) % 256)).toNat : Int)) (K := fun h1 => RR (IntKind.i64.wrap ((k : Int) + 1)) h1) hh (by rw [byArr_size, hlen]; omega) (by rw [byArr_set, hset, htk]) ?_
      · rw [add_mk, Nat.zero_add] at this
        rw [add_mk]
        exact this
      · rw [w_i64 (by omega) (by omega)]
        exact hRR _ _ (n - (k + 1)) (by omega) ⟨k + 1, by simp, by omega, rfl, set_self _ _ _, fun c hc => by rw [set_ne _ _ hc]; exact hr c hc⟩
    · rw [if_neg (by rw [decide_eq_true_eq]; omega)]
      rw [List.take_of_length_le (by rw [bbe_len]; omega)] at hh
      exact ⟨H', Heap.Le.refl _, hk H' hh hr⟩
  · rw [hb]
    unfold ins
    simp
theorem slA_at {b o : Nat} (h : o ≠ 20) : slA (some (⟨b, 0, none⟩ : Addr)) 20 o 1 = some ⟨b, o, none⟩ := by
  unfold slA
  rw [if_neg (Ne.symm h), Option.map_some, add_mk]
  simp
structure ipv4_Build.c (a0 a1 a2 a3 a4 a5 a6 : Int) (d : ByteArray) (K : ByteArray → Int → Heap → Prop) (E : Value → Heap → Prop) (H : Heap) : Prop where
  h : ∃ h : Hd, h.In ∧ a0 = h.tos ∧ a1 = h.id ∧ a2 = h.frag ∧ a3 = h.ttl ∧ a4 = h.proto ∧ a5 = h.src ∧ a6 = h.dst ∧ d = h.data ∧ K (buildB h) 0 H
def ipv4_Build.F : FT := fun args K E H => match args with
  | [.agg ⟨[.int .i64 a, .int .i64 b, .int .i64 c, .int .i64 d, .int .i64 e, .int .u32 f, .int .u32 g, .string h]⟩] => ipv4_Build.c a b c d e f g h (fun s x H => K (.tuple #[.string s, .int .i64 x]) H) E H
  | _ => False
section
variable {H : Heap} {b0 b1 : Nat} {h : Hd} {Kr : ByteArray → Heap → Prop} {E : Value → Heap → Prop}
theorem byte_small {n : Nat} (h : n ≤ 255) : IntKind.u8.wrap (n : Int) = ((UInt8.ofNat (n % 256)).toNat : Int) := by
  rw [w_u8 (by omega) (by omega), UInt8.toNat_ofNat']; omega
theorem ipv4_Build.J5.run (hi : h.In) (h0 : H b0 = some (.cells (hcells h) 58)) (h1 : H b1 = some (.cells #[.int .i64 0] 35)) (h01 : b1 ≠ b0)
    (hK : ∀ H', Leaves1 [b1] H H' → H' b1 = some (.cells #[.int .i64 0] 35) → Kr (buildB h) H') : ipv4_Build.J5 ⟨b0, 0, none⟩ ⟨b1, 0, none⟩ Kr E H := by
  refine ⟨?_⟩
  unfold ipv4_Build.J5.vc
  have hd := hi.data
  refine ⟨_, loc h0 rfl, ⟨?_⟩⟩
  rw [if_pos (by rw [decide_eq_true_eq]; omega)]
  refine ⟨by decide, by decide, by decide, by decide, ?_⟩
  intro b hbn
  have nb0 : b0 ≠ b := fun e => by rw [e, hbn] at h0; cases h0
  have nb1 : b1 ≠ b := fun e => by rw [e, hbn] at h1; cases h1
  -- what lies in the new row, and all else as it was
  have load : ∀ {H' : Heap} {j : Nat} {v : Value}, (∀ c, c ≠ b → H' c = H c) → (hcells h)[j]? = some v → H'.cell? ((⟨b0, 0, none⟩ : Addr).add j) = some v := fun hr hv => loc (by rw [hr b0 nb0]; exact h0) hv
  have r0 : ∀ c, c ≠ b → (H.set b (.cells (zerosOf (.int .u8 0) 20).toArray 5)) c = H c := fun c hc => set_ne _ _ hc
  have z0 : (H.set b (.cells (zerosOf (.int .u8 0) 20).toArray 5)) b = some (.cells (byArr (List.replicate 20 0)) 5) := by
    have hz : (zerosOf (.int .u8 0) 20).toArray = byArr (List.replicate 20 0) := by kernel_rfl
    rw [set_self, hz]
  obtain ⟨G0, hG0⟩ : ∃ G, G = H.set b (.cells (zerosOf (.int .u8 0) 20).toArray 5) := ⟨_, rfl⟩
  rw [← hG0] at r0 z0 ⊢
  refine ⟨_, load (j := 0) r0 rfl, _, load (j := 3) r0 rfl, _, load (j := 4) r0 rfl, ⟨b, 0, none⟩, rfl, by decide, by decide, ?_⟩
  refine stc_to (o := 0) (arr' := byArr ((List.replicate 20 0).set 0 69)) z0 (by rw [byArr_size]; simp) (byArr_set _ 0 69) ?_
  have r1 : ∀ c, c ≠ b → (G0.set b (.cells (byArr ((List.replicate 20 0).set 0 69)) 5)) c = H c := fun c hc => by rw [set_ne _ _ hc]; exact r0 c hc
  refine ⟨⟨rfl, rfl⟩, ⟨_, load (j := 4) r1 rfl, rfl, rfl⟩, ⟨rfl, rfl⟩, ⟨_, load (j := 3) r1 rfl, rfl, rfl⟩, ⟨rfl, rfl⟩, ⟨_, load (j := 0) r1 rfl, rfl, rfl⟩, ⟨b, 0, none⟩, rfl, by decide, by decide, ?_⟩
  rw [byte_small hi.tos, byte_small hi.ttl, byte_small hi.proto]
  refine stc_to (o := 1) (set_self _ _ _) (by rw [byArr_size]; simp) (byArr_set _ 1 _) ?_
  rw [set_set]
  have r2 : ∀ {A : Array Value} {e : TypeId}, ∀ c, c ≠ b → (G0.set b (.cells A e)) c = H c := fun c hc => by rw [set_ne _ _ hc]; exact r0 c hc
  refine ⟨⟨rfl, rfl⟩, ⟨_, load (j := 4) r2 rfl, rfl, rfl⟩, ⟨rfl, rfl⟩, ⟨_, load (j := 3) r2 rfl, rfl, rfl⟩, ⟨b, 0, none⟩, rfl, by decide, by decide, ?_⟩
  refine stc_to (o := 8) (set_self _ _ _) (by rw [byArr_size]; simp) (byArr_set _ 8 _) ?_
  rw [set_set]
  refine ⟨⟨rfl, rfl⟩, ⟨_, load (j := 4) r2 rfl, rfl, rfl⟩, ⟨b, 0, none⟩, rfl, by decide, by decide, ?_⟩
  refine stc_to (o := 9) (set_self _ _ _) (by rw [byArr_size]; simp) (byArr_set _ 9 _) ?_
  rw [set_set]
  obtain ⟨l0, hl0⟩ : ∃ l0 : List UInt8, l0 = ((((List.replicate 20 0).set 0 69).set 1 (UInt8.ofNat (h.tos % 256))).set 8 (UInt8.ofNat (h.ttl % 256))).set 9 (UInt8.ofNat (h.proto % 256)) := ⟨_, rfl⟩
  have len0 : l0.length = 20 := by rw [hl0]; rfl
  have hi64 : ∀ {n : Nat}, n ≤ 65535 → IntKind.u32.wrap (n : Int) = (n : Int) := fun hn => w_u32 (by omega) (by omega)
  have insl : ∀ {l : List UInt8} {o : Nat} {xs : List UInt8}, l.length = 20 → o + xs.length ≤ 20 → (ins l o xs).length = 20 := fun h1 h2 => by
    unfold ins
    rw [List.length_append, List.length_append, List.length_take, List.length_drop]
    omega
  refine ⟨by decide, by decide, by decide, _, load (j := 7) r2 rfl, ?_⟩
  have w0 : IntKind.u32.wrap (IntKind.i64.wrap (20 + (h.data.size : Int))) = ((20 + h.data.size : Nat) : Int) := by
    rw [w_i64 (by omega) (by omega), w_u32 (by omega) (by omega)]; omega
  dsimp only
  rw [w0, slA_at (by decide)]
  refine ipv4_put.run (n := 2) (l := l0) (by rw [hl0]; exact set_self _ _ _) (by decide) (by rw [len0]; decide) (by rw [len0]; decide) (by omega) fun H1 g1 q1 => ?_
  have q1 : ∀ c, c ≠ b → H1 c = H c := fun c hc => (q1 c hc).trans (r2 c hc)
  have len1 := insl (xs := bbe (20 + h.data.size) 2) (o := 2) len0 (by rw [bbe_len]; decide)
  refine ⟨by decide, by decide, by decide, _, load (j := 1) q1 rfl, ?_⟩
  dsimp only
  rw [hi64 hi.id, slA_at (by decide)]
  refine ipv4_put.run (n := 2) g1 (by decide) (by rw [len1]; decide) (by rw [len1]; decide) (by have := hi.id; omega) fun H2 g2 q2 => ?_
  have q2 : ∀ c, c ≠ b → H2 c = H c := fun c hc => (q2 c hc).trans (q1 c hc)
  have len2 := insl (xs := bbe h.id 2) (o := 4) len1 (by rw [bbe_len]; decide)
  refine ⟨by decide, by decide, by decide, _, load (j := 2) q2 rfl, ?_⟩
  dsimp only
  rw [hi64 hi.frag, slA_at (by decide)]
  refine ipv4_put.run (n := 2) g2 (by decide) (by rw [len2]; decide) (by rw [len2]; decide) (by have := hi.frag; omega) fun H3 g3 q3 => ?_
  have q3 : ∀ c, c ≠ b → H3 c = H c := fun c hc => (q3 c hc).trans (q2 c hc)
  have len3 := insl (xs := bbe h.frag 2) (o := 6) len2 (by rw [bbe_len]; decide)
  refine ⟨by decide, by decide, by decide, _, load (j := 5) q3 rfl, ?_⟩
  dsimp only
  rw [slA_at (by decide)]
  refine ipv4_put.run (n := 4) g3 (by decide) (by rw [len3]; decide) (by rw [len3]; decide) hi.src fun H4 g4 q4 => ?_
  have q4 : ∀ c, c ≠ b → H4 c = H c := fun c hc => (q4 c hc).trans (q3 c hc)
  have len4 := insl (xs := bbe h.src 4) (o := 12) len3 (by rw [bbe_len]; decide)
  refine ⟨by decide, by decide, by decide, _, load (j := 6) q4 rfl, ?_⟩
  dsimp only
  rw [slA_at (by decide)]
  refine ipv4_put.run (n := 4) g4 (by decide) (by rw [len4]; decide) (by rw [len4]; decide) hi.dst fun H5 g5 q5 => ?_
  have q5 : ∀ c, c ≠ b → H5 c = H c := fun c hc => (q5 c hc).trans (q4 c hc)
  have len5 := insl (xs := bbe h.dst 4) (o := 16) len4 (by rw [bbe_len]; decide)
  have he : ins (ins (ins (ins (ins l0 2 (bbe (20 + h.data.size) 2)) 4 (bbe h.id 2)) 6 (bbe h.frag 2)) 12 (bbe h.src 4)) 16 (bbe h.dst 4) = hd20 h (20 + h.data.size) 0 := by
    rw [hl0]; rfl
  rw [he] at g5 len5
  refine ⟨by decide, by decide, by decide, ?_⟩
  refine rdBytes_of (bs := hd20 h (20 + h.data.size) 0) g5 len5 (fun i x hx => byArr_get hx) ?_
  have sz : (⟨(hd20 h (20 + h.data.size) 0).toArray⟩ : ByteArray).size = 20 := by show (hd20 h (20 + h.data.size) 0).toArray.size = 20; simpa using len5
  refine ipv4_Sum.run (by rw [sz]; decide) ?_
  have tl : (⟨(hd20 h (20 + h.data.size) 0).toArray⟩ : ByteArray).data.toList = hd20 h (20 + h.data.size) 0 := by simp
  rw [tl]
  have hs := sumL_le (hd20 h (20 + h.data.size) 0)
  rw [hi64 hs, slA_at (by decide)]
  refine ipv4_put.run (n := 2) g5 (by decide) (by rw [len5]; decide) (by rw [len5]; decide) (by omega) fun H6 g6 q6 => ?_
  have q6 : ∀ c, c ≠ b → H6 c = H c := fun c hc => (q6 c hc).trans (q5 c hc)
  have len6 := insl (xs := bbe (sumL (hd20 h (20 + h.data.size) 0)) 2) (o := 10) len5 (by rw [bbe_len]; decide)
  have he2 : ∀ x, ins (hd20 h (20 + h.data.size) 0) 10 (bbe x 2) = hd20 h (20 + h.data.size) x := fun x => rfl
  rw [he2] at g6 len6
  refine rdBytes_of (bs := hd20 h (20 + h.data.size) (sumL (hd20 h (20 + h.data.size) 0))) g6 len6 (fun i x hx => byArr_get hx) ?_
  have sz2 : (⟨(hd20 h (20 + h.data.size) (sumL (hd20 h (20 + h.data.size) 0))).toArray⟩ : ByteArray).size = 20 := by show (hd20 h (20 + h.data.size) (sumL (hd20 h (20 + h.data.size) 0))).toArray.size = 20; simpa using len6
  refine ⟨_, load (j := 7) q6 rfl, by rw [sz2]; omega, ?_⟩
  have hb : (⟨(hd20 h (20 + h.data.size) (sumL (hd20 h (20 + h.data.size) 0))).toArray⟩ : ByteArray) ++ h.data = buildB h := by
    apply ByteArray.ext
    apply Array.toList_inj.1
    rw [ByteArray.data_append, Array.toList_append]
    unfold buildB buildL
    simp
  rw [hb]
  have := stc_to (o := 0) (v := Value.int .i64 0) (arr' := #[.int .i64 0]) (K := fun h15 => Kr (buildB h) h15) (show H6 b1 = some (.cells #[.int .i64 0] 35) by rw [q6 b1 nb1]; exact h1) (by simp) rfl (hK _ (fun c o hc ho => ?_) (set_self _ _ _))
  · rwa [add_mk] at this
  · simp only [List.mem_cons, List.not_mem_nil, or_false] at hc
    rw [set_ne _ _ hc, q6 c (fun e => by rw [e, hbn] at ho; cases ho)]
    exact ho
theorem ipv4_Build.J2.run (hi : h.In) (h0 : H b0 = some (.cells (hcells h) 58)) (h1 : H b1 = some (.cells #[.int .i64 0] 35)) (h01 : b1 ≠ b0)
    (hK : ∀ H', Leaves1 [b1] H H' → H' b1 = some (.cells #[.int .i64 0] 35) → Kr (buildB h) H') : ipv4_Build.J2 ⟨b0, 0, none⟩ ⟨b1, 0, none⟩ Kr E H := by
  refine ⟨?_⟩
  unfold ipv4_Build.J2.vc
  refine ⟨_, loc (o := 0) h0 rfl, _, loc (o := 3) h0 rfl, _, loc (o := 4) h0 rfl, ?_⟩
  refine ⟨Loop.of (I := fun st H' m => ∃ k : Nat, st = (k : Int) ∧ k ≤ 3 ∧ m = 3 - k ∧ H' = H) ?_ ⟨0, rfl, by decide, rfl, rfl⟩⟩
  rintro m st H' ⟨k, rfl, hk, rfl, rfl⟩ RR hRR
  unfold ipv4_Build.W3.vc
  have t1 := hi.tos
  have t2 := hi.ttl
  have t3 := hi.proto
  by_cases hlt : k < 3
  · rw [if_pos (by rw [decide_eq_true_eq]; omega)]
    have hx : ∃ x : Nat, x ≤ 255 ∧ (#[Value.int .i64 (h.tos : Int), .int .i64 (h.ttl : Int), .int .i64 (h.proto : Int)] : Array Value)[k]? = some (.int .i64 (x : Int)) := by
      match k, hlt with
      | 0, _ => exact ⟨h.tos, t1, rfl⟩
      | 1, _ => exact ⟨h.ttl, t2, rfl⟩
      | 2, _ => exact ⟨h.proto, t3, rfl⟩
    obtain ⟨x, hx1, hx2⟩ := hx
    refine ⟨by omega, by omega, _, by rw [Int.toNat_natCast]; exact hx2, _, rfl, ?_⟩
    rw [if_pos (by rw [decide_eq_true_eq]; omega)]
    refine ⟨?_⟩
    rw [if_pos (by rw [decide_eq_true_eq]; omega)]
    refine ⟨?_⟩
    unfold ipv4_Build.J4.vc
    rw [w_i64 (by omega) (by omega)]
    exact hRR _ _ (3 - (k + 1)) (by omega) ⟨k + 1, by simp, by omega, rfl, rfl⟩
  · rw [if_neg (by rw [decide_eq_true_eq]; omega)]
    have i1 := hi.id
    have i2 := hi.frag
    refine ⟨_, loc (o := 1) h0 rfl, ?_⟩
    dsimp only
    rw [if_pos (by rw [decide_eq_true_eq]; omega)]
    refine ⟨_, loc (o := 1) h0 rfl, ?_⟩
    dsimp only
    rw [if_pos (by rw [decide_eq_true_eq]; omega)]
    refine ⟨_, loc (o := 2) h0 rfl, ?_⟩
    dsimp only
    rw [if_pos (by rw [decide_eq_true_eq]; omega)]
    refine ⟨_, loc (o := 2) h0 rfl, ⟨?_⟩⟩
    rw [if_pos (by rw [decide_eq_true_eq]; omega)]
    exact ipv4_Build.J5.run hi h0 h1 h01 hK
end
noncomputable def ipv4_Build.dop : Oper := (match Try.f78.body with | some (.seq _ (.seq (.region _ ops _) _)) => ops[0]? | _ => none).getD default
theorem ipv4_Build.body_eq : Try.f78.body = some (.seq (sub [0] ipv4_Build.body) (.seq (.region 1 #[ipv4_Build.dop] false) (sub [1, 1] ipv4_Build.body))) := by kernel_rfl
theorem ipv4_Build.res {fr : Fr} {G : Heap} {b1 : Nat} {s : ByteArray} {x : Int} {Kv : Value → Prop} (g2 : fr.getD 2 none = some (.string s)) (g3 : fr.getD 3 none = some (PA b1)) (h1 : G b1 = some (.cells #[.int .i64 x] 35)) (hk : Kv (.tuple #[.string s, .int .i64 x])) :
    resW Try.prog fr G Try.f78.results.toList [] Kv := by
  have e : Try.f78.results.toList = [.tmp 2, .cell 3 35] := by kernel_rfl
  rw [e]
  have e2 : ∀ (K : Value → Prop) (b : Nat) (G : Heap), wLoad Try.prog 35 (PA b) K G = ldI G .i64 ⟨b, 0, none⟩ fun x => K (.int .i64 x) := fun K b G => by kernel_rfl
  unfold resW
  rw [g2]
  unfold with1
  dsimp only
  unfold resW
  rw [g3]
  unfold with1
  dsimp only
  rw [e2]
  refine ⟨x, ?_, ?_⟩
  · simp [Heap.cell?, h1]
  · unfold resW
    exact hk
theorem ipv4_Build.r1_in {fr : Fr} {t : Nat} {K : Int → Int → Int → Int → Int → Int → Int → ByteArray → Prop} {a b c d e f g : Int} {h : ByteArray} (hh : fr.getD t none = some (.agg #[.int .i64 a, .int .i64 b, .int .i64 c, .int .i64 d, .int .i64 e, .int .u32 f, .int .u32 g, .string h])) (k : K a b c d e f g h) : ipv4_Build.r1 fr t K := by
  unfold ipv4_Build.r1
  rw [hh]
  exact k
theorem ipv4_Build.ok : CalleeOk Try.prog 78 ipv4_Build.F := by
  refine catch_ok (pins := [3]) (te := 35) (t := 3) (g := 56) (T := #[89]) Try.func78 ipv4_Build.body_eq (by kernel_rfl) (by kernel_rfl) (by kernel_rfl) (by kernel_rfl) ipv4_caught.ok ⟨Try.f56, Try.func56, by kernel_rfl, by kernel_rfl⟩ ipv4_Build.J1.ok ipv4_Build.J2.ok (by kernel_rfl) ?_
  intro args K E H h
  unfold ipv4_Build.F at h
  split at h
  rotate_left
  · exact h.elim
  obtain ⟨hd, hi, rfl, rfl, rfl, rfl, rfl, rfl, rfl, rfl, hk⟩ := h.h
  have hn : Try.f78.ntmps = 109 := by kernel_rfl
  unfold catchT
  rw [hn]
  refine lenIs_in rfl (ipv4_Build.r1_in rfl ⟨?_⟩)
  unfold ipv4_Build.J1.vc
  refine newB_le fun b0 H1 hn0 hl0 hle0 => newB_le fun b1 H2 hn1 hl1 hle1 => ?_
  have h01 : b1 ≠ b0 := fun e => by rw [e, hl0] at hn1; cases hn1
  have hle : Heap.Le H H2 := hle0.trans hle1
  have hnb1 : H b1 = none := by
    cases hh : H b1 with
    | none => rfl
    | some o => rw [hle0 _ _ hh] at hn1; cases hn1
  refine ⟨rfl, ⟨b1, 0, none⟩, [none, none, none, some (PA b1)], rfl, fun t v ht => ?_, ⟨[none, none, none], PA b1, rfl⟩, ?_⟩
  · match t, ht with
    | 3, ht => exact ⟨ht, by simp⟩
  refine lenIs_in rfl (slPA_in (n := ⟨b0, 0, none⟩) rfl (slPA_in (n := ⟨b1, 0, none⟩) rfl ?_))
  refine ipv4_Build.J2.run hi (hle1 _ _ hl0) hl1 h01 fun H' g1 g2 => ?_
  refine ⟨.inr rfl, ipv4_Build.res rfl rfl g2 ⟨H, g1.le hle ?_, hk⟩⟩
  intro b hb
  simp only [List.mem_cons, List.not_mem_nil, or_false] at hb
  subst hb
  exact hnb1
end Go.Sh
