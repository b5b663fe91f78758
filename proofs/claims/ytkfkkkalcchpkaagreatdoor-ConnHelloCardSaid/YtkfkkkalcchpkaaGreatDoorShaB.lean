/- The digest in the making: New, Write, Sum. -/
import Derived.Test.YtkfkkkalcchpkaaGreatDoorShaA
namespace Go.Sh
set_option maxRecDepth 8000
def HashAt (H : Heap) (b : Nat) (L : List Nat) (d : List UInt8) : Prop :=
  ∃ p c e, StAt H b (eat st0 d).1 [.slice p (eat st0 d).2.length c, .int .u64 (d.length : Int)] e ∧ OwnB H 5 p (eat st0 d).2.length c (eat st0 d).2 ∧ b ∉ bl p ∧ L = b :: bl p
theorem HashAt.step {H H' : Heap} {b : Nat} {L M M' : List Nat} {d : List UInt8} (h : HashAt H b L d) (hs : Step M H M' H') (hn : ∀ k ∈ L, k ∉ M) : HashAt H' b L d := by
  obtain ⟨p, c, e, h1, h2, h3, rfl⟩ := h
  exact ⟨p, c, e, (hs b _ h1 (hn b (by simp))).1, h2.step hs fun k hk => hn k (by simp [hk]), h3, rfl⟩
theorem HashAt.le {H H' : Heap} {b : Nat} {L : List Nat} {d : List UInt8} (h : HashAt H b L d) (hl : Heap.Le H H') : HashAt H' b L d := h.step (Step.of_le (L := []) hl) (by simp)
theorem HashAt.live {H : Heap} {b : Nat} {L : List Nat} {d : List UInt8} (h : HashAt H b L d) : ∀ k ∈ L, H k ≠ none := by
  obtain ⟨p, c, e, h1, h2, h3, rfl⟩ := h
  intro k hk
  rcases List.mem_cons.1 hk with rfl | hk
  · unfold StAt at h1
    rw [h1]; simp
  · exact h2.live k hk
theorem sha_first.run {H : Heap} {K : Int → Int → Int → Int → Int → Int → Int → Int → Heap → Prop} {E : Value → Heap → Prop} (h : ∀ H', Heap.Le H H' → K (wv st0.a) (wv st0.b) (wv st0.c) (wv st0.d) (wv st0.e) (wv st0.f) (wv st0.g) (wv st0.h) H') : sha_first.c K E H := by
  refine ⟨?_⟩
  unfold sha_first.vc
  refine newB_le fun b H1 hn hl hle => ⟨rfl, ?_⟩
  have e0 : (#[(.int .u32 1779033703), (.int .u32 3144134277), (.int .u32 1013904242), (.int .u32 2773480762), (.int .u32 1359893119), (.int .u32 2600822924), (.int .u32 528734635), (.int .u32 1541459225)] : Array Value).toList = st0.cells := by kernel_rfl
  rw [e0]
  refine stRow8 hl rfl (plain_cells _) ?_
  have hl2 := set_self H1 b (.cells st0.cells.toArray 207)
  have hle2 : Heap.Le H (H1.set b (.cells st0.cells.toArray 207)) := fun k o hk => by
    have : k ≠ b := fun e => by subst e; rw [hn] at hk; cases hk
    rw [set_ne _ _ this]; exact hle k o hk
  generalize H1.set b (.cells st0.cells.toArray 207) = H2 at hl2 hle2 ⊢
  have g : ∀ (i : Nat) (x : W), st0.list[i]? = some x → H2.cell? ((⟨b, 0, none⟩ : Addr).add i) = some (wV x) := fun i x hi => loc hl2 (by
    unfold St.cells
    rw [List.getElem?_toArray, List.getElem?_map, hi]
    rfl)
  exact ⟨_, g 0 _ rfl, _, g 1 _ rfl, _, g 2 _ rfl, _, g 3 _ rfl, _, g 4 _ rfl, _, g 5 _ rfl, _, g 6 _ rfl, _, g 7 _ rfl, H2, Heap.Le.refl _, h H2 hle2⟩
theorem sha_New.run {H : Heap} {K : Option Addr → Heap → Prop} {E : Value → Heap → Prop} (h : ∀ b H', HashAt H' b [b] [] → H b = none → Heap.Le H H' → K (some ⟨b, 0, none⟩) H') : sha_New.c K E H := by
  refine ⟨?_⟩
  unfold sha_New.vc
  refine sha_first.run fun H1 hle1 => ?_
  refine newB_le fun b H2 hn hl hle2 => ⟨H2, Heap.Le.refl _, h b H2 ⟨none, 0, 209, ?_, OwnB.nil, by simp [bl], rfl⟩ ?_ (hle1.trans hle2)⟩
  · unfold StAt
    rw [hl]
    rfl
  · cases hh : H b with
    | none => rfl
    | some o => rw [hle1 _ _ hh] at hn; cases hn
theorem StAt.set8 {H : Heap} {b : Nat} {s : St} {x y v : Value} {e : TypeId} {K : Heap → Prop} (h : StAt H b s [x, y] e) (hk : ∀ H', StAt H' b s [v, y] e → Step [b] H [b] H' → K H') : stc H ((⟨b, 0, none⟩ : Addr).add 8) v K :=
  stc_loc h (by simp [St.cells, St.list]) (hk _ (set_self H b _) (Step.set _ _ _))
theorem StAt.set9 {H : Heap} {b : Nat} {s : St} {x y v : Value} {e : TypeId} {K : Heap → Prop} (h : StAt H b s [x, y] e) (hk : ∀ H', StAt H' b s [x, v] e → Step [b] H [b] H' → K H') : stc H ((⟨b, 0, none⟩ : Addr).add 9) v K :=
  stc_loc h (by simp [St.cells, St.list]) (hk _ (set_self H b _) (Step.set _ _ _))
theorem sha_Hash_Write.loop {H0 : Heap} {b : Nat} {s : St} {n : Value} {e : TypeId} {p : Option Addr} {c : Nat} {r : List UInt8} (hs : StAt H0 b s [.slice p r.length c, n] e) (ho : OwnB H0 5 p r.length c r) (hbp : b ∉ bl p) (hk : IntsIn H0 1 .u32 kTab) (h0 : 1 ∉ b :: bl p) {Kx : Heap → Prop} {E : Value → Heap → Prop}
    (hx : ∀ p' c' H, StAt H b (eat s r).1 [.slice p' (eat s r).2.length c', n] e → OwnB H 5 p' (eat s r).2.length c' (eat s r).2 → b ∉ bl p' → Step (b :: bl p) H0 (b :: bl p') H → Kx H) : sha_Hash_Write.W2 (some ⟨b, 0, none⟩) Kx E H0 := by
  refine ⟨Loop.of (I := fun (_ : Unit) H m => ∃ s' p' c' r', m = r'.length ∧ StAt H b s' [.slice p' r'.length c', n] e ∧ OwnB H 5 p' r'.length c' r' ∧ bl p' = bl p ∧ Step (b :: bl p) H0 (b :: bl p) H ∧ eat s' r' = eat s r) ?_ ⟨s, p, c, r, rfl, hs, ho, rfl, Step.refl _ _, rfl⟩⟩
  rintro m _ H ⟨s', p', c', r', rfl, hs, ho, hbl, hst, heq⟩ RR hRR
  unfold sha_Hash_Write.W2.vc
  have hsl : ∀ {H : Heap} {s : St} {p : Option Addr} {n1 c : Nat}, StAt H b s [.slice p n1 c, n] e → H.cell? ((⟨b, 0, none⟩ : Addr).add 8) = some (.slice p n1 c) := fun h => loc h rfl
  refine ⟨_, rfl, p', r'.length, c', hsl hs, ?_⟩
  by_cases hc : 64 ≤ r'.length
  · refine (if_pos (by rw [decide_eq_true_eq]; omega)).mpr ⟨_, rfl, _, rfl, p', r'.length, c', hsl hs, by decide, by have := ho.2.1; omega, ?_⟩
    rw [add_mk, slA_zero]
    have hk2 : IntsIn H 1 .u32 kTab := hk.step hst h0
    refine sha_state_mix.run hs hk2 (ho.bytes.take hc) fun H2 hs2 hst2 => ⟨_, rfl, p', r'.length, c', hsl hs2, by decide, by omega, ho.2.1, _, rfl, ?_⟩
    have ho2 := ho.step hst2 fun k hk => not_one hbp (hbl ▸ hk)
    refine StAt.set8 hs2 fun H3 hl3 hst3 => ?_
    have ho3 := ho2.step hst3 fun k hk => not_one hbp (hbl ▸ hk)
    obtain ⟨ho4, hbl4⟩ := ho3.drop hc
    have hlen : (r'.drop 64).length = r'.length - 64 := List.length_drop
    refine hRR () H3 (r'.drop 64).length (by omega) ⟨s'.block (r'.take 64), slA p' c' 64 1, c' - 64, r'.drop 64, rfl, ?_, ?_, hbl4.trans hbl, ?_, ?_⟩
    · rw [hlen]; exact hl3
    · rw [hlen]; exact ho4
    · exact hst.trans ((hst2.trans hst3).frame (fun k hk => by simp only [List.mem_cons, not_or] at hk; simpa using hk.1) fun k hk _ => hk)
    · rw [← eat_step hc]; exact heq
  · refine (if_neg (by rw [decide_eq_true_eq]; omega)).mpr ?_
    rw [eat_small (l := r') (by omega)] at heq
    have := hx p' c' H
    rw [← heq] at this
    exact this hs ho (by rw [hbl]; exact hbp) (by rw [hbl]; exact hst)
theorem sha_Hash_Write.run {H : Heap} {b : Nat} {L : List Nat} {d : List UInt8} (hb : HashAt H b L d) {x : ByteArray} (hd : d.length + x.size ≤ 1000000000000) (hk : IntsIn H 1 .u32 kTab) (h0 : 1 ∉ L) {K : Heap → Prop} {E : Value → Heap → Prop}
    (h : ∀ L' H', HashAt H' b L' (d ++ x.data.toList) → Step L H L' H' → K H') : sha_Hash_Write.c (some ⟨b, 0, none⟩) x K E H := by
  have hxl : x.data.toList.length = x.size := by rw [Array.length_toList]; rfl
  have hk0 : H 1 ≠ none := IntsIn.some0 hk
  obtain ⟨p, c, e, hs, ho, hbp, rfl⟩ := hb
  have hrest := (eat_rest _ st0 d (Nat.le_refl _)).1
  refine ⟨?_⟩
  unfold sha_Hash_Write.vc
  refine ⟨_, rfl, _, loc hs (o := 9) rfl, _, rfl, ?_⟩
  have hn : IntKind.u64.wrap ((d.length : Int) + IntKind.u64.wrap (x.size : Int)) = ((d ++ x.data.toList).length : Int) := by
    rw [w_u64 (n := (x.size : Int)) (by omega) (by omega), w_u64 (by omega) (by omega), List.length_append, hxl]
    simp
  rw [hn]
  refine StAt.set9 hs fun H1 hs1 hst1 => ?_
  have ho1 := ho.step hst1 fun k hk => not_one hbp hk
  refine ⟨_, rfl, p, (eat st0 d).2.length, c, loc hs1 (o := 8) rfl, ?_⟩
  refine appT_bytes (xs := x.data.toList) ho1 (by rw [vrow_flat]; rfl) hxl (by omega) fun p' c' H2 ho2 hst2 => ?_
  have hs2 := hst2 b _ hs1 hbp
  have nb0 : (1 : Nat) ∉ [b] := by
    simp only [List.mem_cons, not_or] at h0
    simpa using h0.1
  have n0p : (1 : Nat) ∉ bl p := by
    simp only [List.mem_cons, not_or] at h0
    exact h0.2
  have hk2 : IntsIn H2 1 .u32 kTab := (hk.step hst1 nb0).step hst2 n0p
  have n0p' : (1 : Nat) ∉ bl p' := by
    cases h1 : H1 1 with
    | none => exact absurd h1 (IntsIn.some0 (hk.step hst1 nb0))
    | some o => exact (hst2 1 o h1 n0p).2
  refine ⟨_, rfl, StAt.set8 hs2.1 fun H3 hs3 hst3 => ?_⟩
  have ho3 := ho2.step hst3 fun k hk => not_one hs2.2 hk
  have hlen : ((eat st0 d).2 ++ x.data.toList).length = (eat st0 d).2.length + x.size := by rw [List.length_append, hxl]
  rw [← hlen] at hs3 ho3
  have hk3 : IntsIn H3 1 .u32 kTab := hk2.step hst3 nb0
  have hn0 : (1 : Nat) ∉ b :: bl p' := by
    simp only [List.mem_cons, not_or]
    exact ⟨by simpa using nb0, n0p'⟩
  have hst03 : Step (b :: bl p) H (b :: bl p') H3 := by
    intro k o hk hn
    simp only [List.mem_cons, not_or] at hn ⊢
    have k1 := hst1 k o hk (by simpa using hn.1)
    have k2 := hst2 k o k1.1 hn.2
    have k3 := hst3 k o k2.1 (by simpa using hn.1)
    exact ⟨k3.1, hn.1, k2.2⟩
  refine ⟨?_⟩
  unfold sha_Hash_Write.J1.vc
  refine sha_Hash_Write.loop hs3 ho3 hs2.2 hk3 hn0 fun p4 c4 H4 hs4 ho4 hbp4 hst4 => ?_
  have hall : eat (eat st0 d).1 ((eat st0 d).2 ++ x.data.toList) = eat st0 (d ++ x.data.toList) := (eat_app _ _ _ _ (Nat.le_refl _)).symm
  rw [hall] at hs4 ho4
  refine ⟨_, rfl, p4, _, c4, loc hs4 (o := 8) rfl, ?_⟩
  have hst : Step (b :: bl p) H (b :: bl p4) H4 := hst03.trans hst4
  by_cases hz : (eat st0 (d ++ x.data.toList)).2.length = 0
  · refine (if_pos (by simp [hz])).mpr ⟨_, rfl, StAt.set8 hs4 fun H5 hs5 hst5 => ?_⟩
    have hr : (eat st0 (d ++ x.data.toList)).2 = [] := List.length_eq_zero_iff.1 hz
    refine ⟨H5, Heap.Le.refl _, h [b] H5 ⟨none, 0, e, ?_, ?_, by simp [bl], rfl⟩ ?_⟩
    · rw [hz]; exact hs5
    · rw [hr]; exact OwnB.nil
    · intro k o hk hn
      have k4 := hst k o hk hn
      have hne : k ∉ [b] := by
        simp only [List.mem_cons, not_or] at hn
        simpa using hn.1
      exact ⟨(hst5 k o k4.1 hne).1, hne⟩
  · exact (if_neg (by rw [beq_iff_eq]; omega)).mpr ⟨H4, Heap.Le.refl _, h _ H4 ⟨p4, c4, e, hs4, ho4, hbp4, rfl⟩ hst⟩
/-! ### Sum -/
theorem push_byte {H : Heap} {p : Option Addr} {n c : Nat} {l : List UInt8} {x : UInt8} {v : Int} {e1 : TypeId} {K : Option Addr → Nat → Nat → Heap → Prop} (hv : v = (x.toNat : Int)) (h : OwnB H 5 p n c l) (hn : n + 1 ≤ 140737488355328)
    (hk : ∀ p' c' H', OwnB H' 5 p' (n + 1) c' (l ++ [x]) → Step (bl p) H (bl p') H' → K p' (n + 1) c' H') :
    newB (.cells #[(.int .u8 v)] e1) (fun b3 h2 => rdRow h2 (some (⟨b3, 0, none⟩ : Addr)) (1 * 1) fun cs0 => appT 5 (.int .u8 0) p n 1 c 1 1 cs0 K h2) H := by
  subst hv
  refine newB_le fun b1 H1 hb1 hl1 hle1 => ?_
  have hb : BytesAt H1 (some ⟨b1, 0, none⟩) 1 [x] := ⟨rfl, (fun h => by cases h), fun a ha i y hi => by
    cases ha
    cases i with
    | zero =>
      have : x = y := by simpa using hi
      subst this
      exact loc hl1 rfl
    | succ i => simp at hi⟩
  refine hb.rdRow rfl ?_
  exact appT_bytes (xs := [x]) (h.le hle1) rfl rfl hn fun p' c' H2 h1 h2 => hk p' c' H2 h1 ((Step.of_le hle1).trans h2)
theorem sha_Hash_Sum.loop3 {H0 : Heap} {hp : Option Addr} {x0 : Addr} {p : Option Addr} {c : Nat} {r : List UInt8} (hr : r.length < 64) (ho : OwnB H0 5 p (r ++ [128]).length c (r ++ [128])) {Kx : Option Addr → Nat → Nat → Heap → Prop} {E : Value → Heap → Prop}
    (hx : ∀ p' c' H, OwnB H 5 p' ((r ++ [128]) ++ List.replicate (zpad r.length) 0).length c' ((r ++ [128]) ++ List.replicate (zpad r.length) 0) → Step (bl p) H0 (bl p') H → Kx p' ((r ++ [128]) ++ List.replicate (zpad r.length) 0).length c' H) :
    sha_Hash_Sum.W3 hp x0 p (r ++ [128]).length c Kx E H0 := by
  refine ⟨Loop.of (I := fun st H m => ∃ j, j ≤ zpad r.length ∧ m = zpad r.length - j ∧ st.2.1 = ((r ++ [128]) ++ List.replicate j 0).length ∧ OwnB H 5 st.1 st.2.1 st.2.2 ((r ++ [128]) ++ List.replicate j 0) ∧ Step (bl p) H0 (bl st.1) H) ?_ ⟨0, Nat.zero_le _, rfl, by simp, by simpa using ho, Step.refl _ _⟩⟩
  rintro m ⟨p1, n1, c1⟩ H ⟨j, hj, rfl, hn, ho, hst⟩ RR hRR
  dsimp only at hn ho hst
  subst hn
  unfold sha_Hash_Sum.W3.vc
  dsimp only
  have hlen : ((r ++ [128]) ++ List.replicate j 0).length = r.length + 1 + j := by simp; omega
  have ht : Int.tmod ((((r ++ [128]) ++ List.replicate j (0 : UInt8)).length : Nat) : Int) 64 = ((((r ++ [128]) ++ List.replicate j (0 : UInt8)).length % 64 : Nat) : Int) := by
    rw [Int.tmod_eq_emod_of_nonneg (by omega)]
    simp
  refine ⟨by decide, ?_⟩
  rw [ht]
  have hz : zpad r.length = (119 - r.length % 64) % 64 := rfl
  by_cases hc : j < zpad r.length
  · rw [if_pos (by rw [bne_iff_ne]; rw [hlen]; omega)]
    refine push_byte (x := 0) rfl ho (by omega) fun p' c' H2 h1 h2 => ?_
    have e : ((r ++ [128]) ++ List.replicate j (0 : UInt8)) ++ [0] = (r ++ [128]) ++ List.replicate (j + 1) 0 := by
      rw [List.append_assoc, ← List.replicate_succ']
    rw [e] at h1
    exact hRR (p', _, c') H2 (zpad r.length - (j + 1)) (by omega) ⟨j + 1, by omega, rfl, by simp; omega, h1, hst.trans h2⟩
  · have hjz : j = zpad r.length := by omega
    rw [if_neg (by rw [bne_iff_ne]; rw [hlen]; omega)]
    subst hjz
    exact hx p1 c1 H ho hst
theorem be64_byte {n j : Nat} (hn : n ≤ 1000000000000) (hj : j < 8) : IntKind.u8.wrap (shrI .u64 (IntKind.u64.wrap (8 * (n : Int))) (IntKind.i64.wrap (56 - (IntKind.i64.wrap (8 * (j : Int)))))) = ((UInt8.ofNat (8 * n / 2 ^ (56 - 8 * j))).toNat : Int) := by
  rw [w_i64 (n := 8 * (j : Int)) (by omega) (by omega), w_i64 (n := 56 - 8 * (j : Int)) (by omega) (by omega), w_u64 (by omega) (by omega)]
  have e1 : (56 - 8 * (j : Int)).toNat = 56 - 8 * j := by omega
  have e2 : shrI .u64 (8 * (n : Int)) (56 - 8 * (j : Int)) = ((8 * n / 2 ^ (56 - 8 * j) : Nat) : Int) := by
    unfold shrI
    have e3 : min (56 - 8 * (j : Int)).toNat (IntKind.bits .u64) = 56 - 8 * j := by
      show min (56 - 8 * (j : Int)).toNat 64 = _
      omega
    rw [e3, Int.fdiv_eq_ediv_of_nonneg _ (Int.le_of_lt (Int.pow_pos (by decide)))]
    simp
  rw [e2]
  have e4 : ∀ m : Nat, IntKind.u8.wrap (m : Int) = ((m % 256 : Nat) : Int) := fun m => by
    simp only [IntKind.wrap, IntKind.bits, IntKind.signed, Bool.false_and, Bool.false_eq_true, if_false]
    omega
  rw [e4, UInt8.toNat_ofNat']
theorem sha_Hash_Sum.loop4 {H0 : Heap} {b : Nat} {x0 : Addr} {p : Option Addr} {c n : Nat} {l : List UInt8} (hn : n ≤ 1000000000000) (hl : l.length ≤ 1000) (ho : OwnB H0 5 p l.length c l) (hb : H0.cell? ((⟨b, 0, none⟩ : Addr).add 9) = some (.int .u64 (n : Int))) (hbp : b ∉ bl p) {Kx : Option Addr → Nat → Nat → Heap → Prop} {E : Value → Heap → Prop}
    (hx : ∀ p' c' H, OwnB H 5 p' (l ++ be64 (8 * n)).length c' (l ++ be64 (8 * n)) → Step (bl p) H0 (bl p') H → Kx p' (l ++ be64 (8 * n)).length c' H) :
    sha_Hash_Sum.W4 (some ⟨b, 0, none⟩) x0 p l.length c 0 Kx E H0 := by
  have hb0 : ∃ o, H0 b = some o := by
    cases hh : H0 b with
    | none => exact absurd rfl (some_ne_none_block hb hh)
    | some o => exact ⟨o, rfl⟩
  obtain ⟨o9, ho9⟩ := hb0
  refine ⟨Loop.of (I := fun st H m => ∃ j, j ≤ 8 ∧ m = 8 - j ∧ st.2.2.2 = (j : Int) ∧ st.2.1 = (l ++ (be64 (8 * n)).take j).length ∧ OwnB H 5 st.1 st.2.1 st.2.2.1 (l ++ (be64 (8 * n)).take j) ∧ Step (bl p) H0 (bl st.1) H) ?_ ⟨0, Nat.zero_le _, rfl, rfl, by simp, by simpa using ho, Step.refl _ _⟩⟩
  rintro m ⟨p1, n1, c1, j'⟩ H ⟨j, hj, rfl, hj', hn1, ho, hst⟩ RR hRR
  dsimp only at hj' hn1 ho hst
  subst hn1; subst hj'
  have h64 : (be64 (8 * n)).length = 8 := by simp [be64]
  unfold sha_Hash_Sum.W4.vc
  dsimp only
  by_cases hc : j < 8
  · rw [if_pos (by rw [decide_eq_true_eq]; omega)]
    have hcell : H.cell? ((⟨b, 0, none⟩ : Addr).add 9) = some (.int .u64 (n : Int)) := hst.cell hb (by rw [add_block]; exact hbp)
    refine ⟨_, rfl, _, hcell, ?_, ?_⟩
    · rw [w_i64 (n := 8 * (j : Int)) (by omega) (by omega), w_i64 (by omega) (by omega)]; omega
    refine push_byte (be64_byte hn hc) ho (by rw [List.length_append, List.length_take]; omega) fun p' c' H2 h1 h2 => ⟨?_⟩
    unfold sha_Hash_Sum.J5.vc
    rw [w_i64 (by omega) (by omega)]
    have e : (l ++ (be64 (8 * n)).take j) ++ [UInt8.ofNat (8 * n / 2 ^ (56 - 8 * j))] = l ++ (be64 (8 * n)).take (j + 1) := by
      rw [List.append_assoc, List.take_succ_eq_append_getElem (by omega)]
      congr 2
      simp [be64]
    rw [e] at h1
    refine hRR (p', _, c', _) H2 (8 - (j + 1)) (by omega) ⟨j + 1, by omega, rfl, by simp, ?_, h1, hst.trans h2⟩
    rw [← e, List.length_append (bs := [_])]
    rfl
  · rw [if_neg (by rw [decide_eq_true_eq]; omega)]
    have : j = 8 := by omega
    subst this
    have e : (be64 (8 * n)).take 8 = be64 (8 * n) := List.take_of_length_le (by omega)
    rw [e] at ho ⊢
    exact hx p1 c1 H ho hst
theorem sha_Hash_Sum.loop6 {H0 : Heap} {sb : Nat} {s : St} {e : TypeId} {p : Option Addr} {c : Nat} {l : List UInt8} (hl : l.length % 64 = 0) (hs : StAt H0 sb s [] e) (ho : OwnB H0 5 p l.length c l) (hsp : sb ∉ bl p) (hk : IntsIn H0 1 .u32 kTab) (h0 : 1 ≠ sb) {Kx : Heap → Prop} {E : Value → Heap → Prop}
    (hx : ∀ H, StAt H sb (eat s l).1 [] e → Step [sb] H0 [sb] H → Kx H) : sha_Hash_Sum.W6 ⟨sb, 0, none⟩ p l.length c Kx E H0 := by
  refine ⟨Loop.of (I := fun st H m => ∃ s' l', l'.length % 64 = 0 ∧ m = l'.length ∧ st.2.1 = l'.length ∧ StAt H sb s' [] e ∧ OwnB H 5 st.1 l'.length st.2.2 l' ∧ sb ∉ bl st.1 ∧ Step [sb] H0 [sb] H ∧ eat s' l' = eat s l) ?_ ⟨s, l, hl, rfl, rfl, hs, ho, hsp, Step.refl _ _, rfl⟩⟩
  rintro m ⟨p1, n1, c1⟩ H ⟨s', l', hl, rfl, hn1, hs, ho, hsp, hst, heq⟩ RR hRR
  dsimp only at hn1 ho hsp
  subst hn1
  unfold sha_Hash_Sum.W6.vc
  dsimp only
  by_cases hc : 0 < l'.length
  · have hc64 : 64 ≤ l'.length := by omega
    refine (if_pos (by rw [decide_eq_true_eq]; omega)).mpr ⟨by decide, by have := ho.2.1; omega, ?_⟩
    rw [slA_zero]
    refine sha_state_mix.run hs (hk.step hst (by simpa using h0)) (ho.bytes.take hc64) fun H2 hs2 hst2 => ⟨by decide, by omega, ho.2.1, ?_⟩
    have ho2 := ho.step hst2 fun k hk => not_one hsp hk
    obtain ⟨ho4, hbl4⟩ := ho2.drop hc64
    have hlen : (l'.drop 64).length = l'.length - 64 := List.length_drop
    refine hRR (_, _, _) H2 (l'.drop 64).length (by omega) ⟨s'.block (l'.take 64), l'.drop 64, by omega, rfl, hlen.symm, hs2, ?_, ?_, hst.trans hst2, ?_⟩
    · rw [hlen]; exact ho4
    · show sb ∉ bl (slA p1 c1 64 1)
      rw [hbl4]; exact hsp
    · rw [← eat_step hc64]; exact heq
  · refine (if_neg (by rw [decide_eq_true_eq]; omega)).mpr ?_
    rw [eat_small (l := l') (by omega)] at heq
    have := hx H
    rw [← heq] at this
    exact this hs hst
theorem u8_shr (w : W) {n : Int} (h0 : 0 ≤ n) (h1 : n ≤ 32) : IntKind.u8.wrap (shrI .u32 (wv w) n) = ((UInt8.ofNat (w.toNat / 2 ^ n.toNat)).toNat : Int) := by
  have e4 : ∀ m : Nat, IntKind.u8.wrap (m : Int) = ((m % 256 : Nat) : Int) := fun m => by
    simp only [IntKind.wrap, IntKind.bits, IntKind.signed, Bool.false_and, Bool.false_eq_true, if_false]
    omega
  rw [shr_w w h0 h1]
  unfold wv
  rw [e4, UInt8.toNat_ofNat', BitVec.toNat_ushiftRight, Nat.shiftRight_eq_div_pow]
theorem push4 {H : Heap} {p : Option Addr} {n c : Nat} {l : List UInt8} {x : List UInt8} {v0 v1 v2 v3 : Int} {e1 : TypeId} {K : Option Addr → Nat → Nat → Heap → Prop} (hx : x.map byV = [.int .u8 v0, .int .u8 v1, .int .u8 v2, .int .u8 v3]) (h : OwnB H 5 p n c l) (hn : n + 4 ≤ 140737488355328)
    (hk : ∀ p' c' H', OwnB H' 5 p' (n + 4) c' (l ++ x) → Step (bl p) H (bl p') H' → K p' (n + 4) c' H') :
    newB (.cells #[(.int .u8 v0), (.int .u8 v1), (.int .u8 v2), (.int .u8 v3)] e1) (fun b3 h2 => rdRow h2 (some (⟨b3, 0, none⟩ : Addr)) (4 * 1) fun cs0 => appT 5 (.int .u8 0) p n 4 c 1 1 cs0 K h2) H := by
  refine newB_le fun b1 H1 hb1 hl1 hle1 => ?_
  have hxl : x.length = 4 := by
    have := congrArg List.length hx
    simpa using this
  have hb : BytesAt H1 (some ⟨b1, 0, none⟩) 4 x := ⟨hxl, (fun h => by cases h), fun a ha i y hi => by
    cases ha
    refine loc hl1 ?_
    have h2 : (x.map byV)[i]? = some (byV y) := by rw [List.getElem?_map, hi]; rfl
    rw [hx] at h2
    rw [← h2]
    simp⟩
  refine hb.rdRow rfl ?_
  exact appT_bytes (xs := x) (h.le hle1) rfl hxl hn fun p' c' H2 h1 h2 => hk p' c' H2 h1 ((Step.of_le hle1).trans h2)
theorem flat_len4 : ∀ (l : List W), (l.flatMap be4).length = 4 * l.length
  | [] => rfl
  | x :: l => by
    rw [List.flatMap_cons, List.length_append, flat_len4 l, List.length_cons]
    show 4 + _ = _
    omega
theorem sha_Hash_Sum.loop7 {H0 : Heap} {s : St} {Kx : Option Addr → Nat → Nat → Heap → Prop} {E : Value → Heap → Prop}
    (hx : ∀ p' c' H, OwnB H 5 p' s.bytes.length c' s.bytes → Step [] H0 (bl p') H → Kx p' s.bytes.length c' H) : sha_Hash_Sum.W7 none 0 0 (wv s.a) (wv s.b) (wv s.c) (wv s.d) (wv s.e) (wv s.f) (wv s.g) (wv s.h) 0 Kx E H0 := by
  have hl8 : s.list.length = 8 := rfl
  refine ⟨Loop.of (I := fun st H m => ∃ j, j ≤ 8 ∧ m = 8 - j ∧ st.2.2.2 = (j : Int) ∧ st.2.1 = ((s.list.take j).flatMap be4).length ∧ OwnB H 5 st.1 st.2.1 st.2.2.1 ((s.list.take j).flatMap be4) ∧ Step [] H0 (bl st.1) H) ?_ ⟨0, Nat.zero_le _, rfl, rfl, rfl, OwnB.nil, Step.refl _ _⟩⟩
  rintro m ⟨p1, n1, c1, j'⟩ H ⟨j, hj, rfl, hj', hn1, ho, hst⟩ RR hRR
  dsimp only at hj' hn1 ho hst
  subst hn1; subst hj'
  have hln : ((s.list.take j).flatMap be4).length ≤ 1000 := by rw [flat_len4, List.length_take]; omega
  unfold sha_Hash_Sum.W7.vc
  dsimp only
  by_cases hc : j < 8
  · rw [if_pos (by rw [decide_eq_true_eq]; omega)]
    have hw : s.list[j]? = some (s.list[j]'(by omega)) := List.getElem?_eq_getElem (by omega)
    generalize s.list[j]'(by omega) = w at hw
    refine ⟨by omega, by omega, wV w, ?_, wv w, rfl, by decide, by decide, by decide, ?_⟩
    · show (s.cells.toArray)[_]? = _
      unfold St.cells
      rw [Int.toNat_natCast, List.getElem?_toArray, List.getElem?_map, hw]
      rfl
    have e8 : IntKind.u8.wrap (wv w) = ((UInt8.ofNat w.toNat).toNat : Int) := by
      have := u8_shr w (n := 0) (by decide) (by decide)
      rw [shr_w w (by decide) (by decide)] at this
      simpa using this
    rw [u8_shr w (by decide) (by decide), u8_shr w (by decide) (by decide), u8_shr w (by decide) (by decide), e8]
    refine push4 (x := be4 w) rfl ho (by omega) fun p' c' H2 h1 h2 => ⟨?_⟩
    unfold sha_Hash_Sum.J8.vc
    rw [w_i64 (by omega) (by omega)]
    have e : (s.list.take j).flatMap be4 ++ be4 w = (s.list.take (j + 1)).flatMap be4 := by
      have hlt : j < s.list.length := by omega
      have : s.list[j] = w := (List.getElem?_eq_some_iff.1 hw).2
      rw [List.take_succ_eq_append_getElem hlt, List.flatMap_append, this]
      simp
    rw [e] at h1
    refine hRR (p', _, c', _) H2 (8 - (j + 1)) (by omega) ⟨j + 1, by omega, rfl, by simp, ?_, h1, hst.trans h2⟩
    rw [← e, List.length_append]
    rfl
  · rw [if_neg (by rw [decide_eq_true_eq]; omega)]
    have : j = 8 := by omega
    subst this
    have e : s.list.take 8 = s.list := List.take_of_length_le (by omega)
    rw [e] at ho ⊢
    exact hx p1 c1 H ho hst
theorem sha_Hash_Sum.run {H : Heap} {b : Nat} {L : List Nat} {d : List UInt8} (hb : HashAt H b L d) (hd : d.length ≤ 1000000000000) (hk : IntsIn H 1 .u32 kTab) (h0 : 1 ∉ L) {K : ByteArray → Heap → Prop} {E : Value → Heap → Prop}
    (h : ∀ H', Heap.Le H H' → K ⟨(sha d).toArray⟩ H') : sha_Hash_Sum.c (some ⟨b, 0, none⟩) K E H := by
  have hk0 : H 1 ≠ none := IntsIn.some0 hk
  obtain ⟨p, c, e, hs, ho, hbp, rfl⟩ := hb
  have hrest := (eat_rest _ st0 d (Nat.le_refl _)).1
  generalize hS : (eat st0 d).1 = S at hs
  generalize hR : (eat st0 d).2 = R at hs ho hrest
  refine ⟨?_⟩
  unfold sha_Hash_Sum.vc
  have g0 : ∀ (i : Nat) (x : W), S.list[i]? = some x → H.cell? (((⟨b, 0, none⟩ : Addr).add 0).add i) = some (wV x) := fun i x hi => by
    rw [add_mk]
    refine loc hs ?_
    have hi8 : i < S.cells.length := by
      unfold St.cells
      rw [List.length_map]
      exact (List.getElem?_eq_some_iff.1 hi).1
    rw [List.getElem?_toArray, List.getElem?_append_left hi8]
    unfold St.cells
    rw [List.getElem?_map, hi]
    rfl
  refine ⟨_, rfl, _, g0 0 _ rfl, _, g0 1 _ rfl, _, g0 2 _ rfl, _, g0 3 _ rfl, _, g0 4 _ rfl, _, g0 5 _ rfl, _, g0 6 _ rfl, _, g0 7 _ rfl, ?_⟩
  refine newB_le fun b0 H1 hn1 hl1 hle1 => ⟨rfl, ?_⟩
  refine stRow8 (new := S.cells) hl1 rfl (plain_cells _) ?_
  have hs2 : StAt (H1.set b0 (.cells S.cells.toArray 207)) b0 S [] 207 := by
    have := set_self H1 b0 (.cells S.cells.toArray 207)
    unfold StAt
    rw [List.append_nil]
    exact this
  have hle2 : Heap.Le H (H1.set b0 (.cells S.cells.toArray 207)) := fun k o hk => by
    have : k ≠ b0 := fun e => by subst e; rw [hn1] at hk; cases hk
    rw [set_ne _ _ this]; exact hle1 k o hk
  generalize H1.set b0 (.cells S.cells.toArray 207) = H2 at hs2 hle2 ⊢
  refine newB_le fun b1 H3 hn3 hl3 hle3 => ?_
  have hle03 := hle2.trans hle3
  have hs3 : StAt H3 b0 S [] 207 := hle3 _ _ hs2
  have hb3 : StAt H3 b S [.slice p R.length c, .int .u64 (d.length : Int)] e := hle03 _ _ hs
  refine ⟨_, rfl, p, R.length, c, loc hb3 (o := 8) rfl, ?_⟩
  have ho3 := ho.le hle03
  refine ho3.bytes.rdRow rfl ?_
  have hob : OwnB H3 5 (some ⟨b1, 0, none⟩) 0 0 [] := OwnB.of_block hl3 rfl (Nat.le_refl _) (Nat.zero_le _) (.inr rfl) rfl
  have := appT_bytes (xs := R) (m := R.length) hob rfl rfl (by omega) (K := fun p0 n0 c0 h5 => sha_Hash_Sum.J1 (some ⟨b, 0, none⟩) ⟨b0, 0, none⟩ p0 n0 c0 (fun r H => ∃ H', Heap.Le H' H ∧ K r H') E h5)
  refine this fun p4 c4 H4 ho4 hst4 => ⟨?_⟩
  rw [List.nil_append, Nat.zero_add] at ho4
  rw [Nat.zero_add]
  unfold sha_Hash_Sum.J1.vc
  refine push_byte (x := 128) rfl ho4 (by omega) fun p5 c5 H5 ho5 hst5 => ⟨?_⟩
  unfold sha_Hash_Sum.J2.vc
  have hlen5 : (R ++ [128]).length = R.length + 1 := by simp
  rw [← hlen5] at ho5 ⊢
  refine sha_Hash_Sum.loop3 hrest ho5 fun p6 c6 H6 ho6 hst6 => ?_
  -- what is known stays
  have n1 : b1 ≠ b0 := fun e1 => by
    subst e1
    unfold StAt at hs2
    rw [hn3] at hs2; cases hs2
  have st36 : Step [b1] H3 (bl p6) H6 := (hst4.trans hst5).trans hst6
  have keep : ∀ k o, H k = some o → H6 k = some o ∧ k ∉ bl p6 := fun k o hk => by
    have k3 := hle03 k o hk
    have : k ≠ b1 := fun e1 => by
      subst e1
      have := hle2 k o hk
      rw [hn3] at this; cases this
    exact st36 k o k3 (by simpa using this)
  have hs6 := st36 b0 _ hs3 (by simpa using fun e1 => n1 e1.symm)
  have hb6 := keep b _ hs
  have hcell : H6.cell? ((⟨b, 0, none⟩ : Addr).add 9) = some (.int .u64 (d.length : Int)) := loc hb6.1 (o := 9) rfl
  have hz63 : zpad R.length < 64 := Nat.mod_lt _ (by decide)
  have hlen6 : ((R ++ [128]) ++ List.replicate (zpad R.length) (0 : UInt8)).length = R.length + 1 + zpad R.length := by simp; omega
  refine sha_Hash_Sum.loop4 hd (by omega) ho6 hcell hb6.2 fun p7 c7 H7 ho7 hst7 => ?_
  have hpad : ((R ++ [128]) ++ List.replicate (zpad R.length) (0 : UInt8)) ++ be64 (8 * d.length) = padded R d.length := rfl
  rw [hpad] at ho7 ⊢
  have hs7 := hst7 b0 _ hs6.1 hs6.2
  have hk7 : IntsIn H7 1 .u32 kTab := fun i x hi => by
    cases ho0 : H 1 with
    | none => exact absurd ho0 hk0
    | some o =>
      have k6 := keep 1 o ho0
      have k7 := hst7 1 o k6.1 k6.2
      have hc := hk i x hi
      unfold Heap.cell? at hc ⊢
      rw [show (⟨1, i, none⟩ : Addr).block = 1 from rfl] at hc ⊢
      rw [ho0] at hc
      rw [k7.1]
      exact hc
  have n0b : 1 ≠ b0 := fun e1 => hk0 (e1 ▸ hn1)
  refine sha_Hash_Sum.loop6 (padded_len _ _) hs7.1 ho7 hs7.2 hk7 n0b fun H8 hs8 hst8 => ?_
  generalize hF : (eat S (padded R d.length)).1 = F at hs8
  have hsha : F.bytes = sha d := by
    have := sha_eat d
    rw [hS, hR, hF] at this
    exact this
  have g8 : ∀ (i : Nat) (x : W), F.list[i]? = some x → H8.cell? ((⟨b0, 0, none⟩ : Addr).add i) = some (wV x) := fun i x hi => loc hs8 (by
    have hi8 : i < F.cells.length := by
      unfold St.cells
      rw [List.length_map]
      exact (List.getElem?_eq_some_iff.1 hi).1
    rw [List.getElem?_toArray, List.getElem?_append_left hi8]
    unfold St.cells
    rw [List.getElem?_map, hi]
    rfl)
  refine ⟨_, g8 0 _ rfl, _, g8 1 _ rfl, _, g8 2 _ rfl, _, g8 3 _ rfl, _, g8 4 _ rfl, _, g8 5 _ rfl, _, g8 6 _ rfl, _, g8 7 _ rfl, ?_⟩
  refine sha_Hash_Sum.loop7 fun p9 c9 H9 ho9 hst9 => ?_
  refine ho9.bytes.rdBytes ?_
  rw [hsha]
  refine ⟨H9, Heap.Le.refl _, h H9 fun k o hk => ?_⟩
  have k6 := keep k o hk
  have k7 := hst7 k o k6.1 k6.2
  have nk0 : k ≠ b0 := fun e1 => by subst e1; rw [hn1] at hk; cases hk
  have k8 := hst8 k o k7.1 (by simpa using nk0)
  exact (hst9 k o k8.1 (by simp)).1
theorem sha_Sum.run {H : Heap} {x : ByteArray} (hd : x.size ≤ 1000000000000) (hk : IntsIn H 1 .u32 kTab) {K : ByteArray → Heap → Prop} {E : Value → Heap → Prop} (h : ∀ H', Heap.Le H H' → K ⟨(sha x.data.toList).toArray⟩ H') : sha_Sum.c x K E H := by
  have hxl : x.data.toList.length = x.size := by rw [Array.length_toList]; rfl
  have hk0 : H 1 ≠ none := IntsIn.some0 hk
  refine ⟨?_⟩
  unfold sha_Sum.vc
  refine sha_New.run fun b H1 hb1 hn1 hle1 => ?_
  have n0 : (1 : Nat) ∉ [b] := fun hm => by
    rw [List.mem_singleton] at hm
    exact hk0 (hm ▸ hn1)
  refine sha_Hash_Write.run hb1 (by simpa using hd) (fun i x hi => Le_cell hle1 (hk i x hi)) n0 fun L H2 hb2 hst2 => ?_
  rw [List.nil_append] at hb2
  have st : ∀ k o, H k = some o → H2 k = some o ∧ k ∉ L := fun k o hk => hst2 k o (hle1 k o hk) fun hm => by
    rw [List.mem_singleton] at hm
    subst hm
    rw [hn1] at hk; cases hk
  have hk2 : IntsIn H2 1 .u32 kTab := fun i x hi => by
    have := hk i x hi
    exact Le_cell (fun k o hk => (st k o hk).1) this
  have n2 : (1 : Nat) ∉ L := by
    cases ho0 : H 1 with
    | none => exact absurd ho0 hk0
    | some o => exact (st 1 o ho0).2
  exact sha_Hash_Sum.run hb2 (by omega) hk2 n2 fun H3 hle3 => ⟨H3, Heap.Le.refl _, h H3 fun k o hk => hle3 k o (st k o hk).1⟩
end Go.Sh
