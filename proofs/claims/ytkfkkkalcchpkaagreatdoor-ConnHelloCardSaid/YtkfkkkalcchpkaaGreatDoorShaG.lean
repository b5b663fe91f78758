/- A digest in the making that stands inside a larger struct: Write, Sum. -/
import Derived.Test.YtkfkkkalcchpkaaGreatDoorShaF
namespace Go.Sh
set_option maxRecDepth 8000
/-- Cells inside a block. -/
def RowO (H : Heap) (b : Nat) (hd row tl : List Value) (e : TypeId) : Prop := H b = some (.cells (hd ++ row ++ tl).toArray e)
theorem RowO.get {H : Heap} {b : Nat} {hd row tl : List Value} {e : TypeId} (h : RowO H b hd row tl e) {i : Nat} {v : Value} (hv : row[i]? = some v) : H.cell? ((⟨b, hd.length, none⟩ : Addr).add i) = some v := by
  have hi : i < row.length := (List.getElem?_eq_some_iff.1 hv).1
  have := loc (o := hd.length + i) (v := v) h (by rw [List.getElem?_toArray, List.getElem?_append_left (by rw [List.length_append]; omega), List.getElem?_append_right (by omega), Nat.add_sub_cancel_left]; exact hv)
  rw [add_mk] at this ⊢
  rw [Nat.zero_add] at this
  exact this
theorem RowO.put {H : Heap} {b : Nat} {hd row tl : List Value} {e : TypeId} (h : RowO H b hd row tl e) {i : Nat} {v : Value} (hi : i < row.length) {K : Heap → Prop} (hk : ∀ H', RowO H' b hd (row.set i v) tl e → Step [b] H [b] H' → K H') : stc H ((⟨b, hd.length, none⟩ : Addr).add i) v K := by
  have := stc_loc (o := hd.length + i) (v := v) (K := K) h (by simp; omega) (hk _ ?_ (Step.set _ _ _))
  · rw [add_mk] at this ⊢
    rw [Nat.zero_add] at this
    exact this
  · unfold RowO
    rw [set_self]
    have : (hd ++ row ++ tl).toArray.setIfInBounds (hd.length + i) v = (hd ++ row.set i v ++ tl).toArray := by
      apply Array.toList_inj.1
      rw [Array.toList_setIfInBounds, List.toList_toArray, List.toList_toArray, List.set_append_left _ _ (by rw [List.length_append]; omega), List.set_append_right _ _ (by omega), Nat.add_sub_cancel_left]
    rw [this]
def StO (H : Heap) (b : Nat) (hd : List Value) (s : St) (tl tl2 : List Value) (e : TypeId) : Prop := RowO H b hd (s.cells ++ tl) tl2 e
theorem StO.get {H : Heap} {b : Nat} {hd tl tl2 : List Value} {s : St} {e : TypeId} (h : StO H b hd s tl tl2 e) {i : Nat} {x : W} (hi : s.list[i]? = some x) : H.cell? ((⟨b, hd.length, none⟩ : Addr).add i) = some (wV x) :=
  RowO.get h (by
    have hi8 : i < s.cells.length := by
      unfold St.cells
      rw [List.length_map]
      exact (List.getElem?_eq_some_iff.1 hi).1
    rw [List.getElem?_append_left hi8]
    unfold St.cells
    rw [List.getElem?_map, hi]
    rfl)
theorem sha_state_mix.loop4O {H0 : Heap} {sb b4 : Nat} {s v : St} {hd tl tl2 : List Value} {e : TypeId} (hs : StO H0 sb hd s tl tl2 e) (hne : sb ≠ b4) (hv : H0 b4 = some (.cells v.cells.toArray 207)) {Kx : Heap → Prop} {E : Value → Heap → Prop}
    (hx : ∀ H, StO H sb hd (s.plus v) tl tl2 e → Step [sb] H0 [sb] H → Kx H) : sha_state_mix.W4 (some ⟨sb, hd.length, none⟩) ⟨b4, 0, none⟩ 0 Kx E H0 := by
  have hll : v.list.length = s.list.length := rfl
  have hl8 : s.list.length = 8 := rfl
  refine ⟨Loop.of (I := fun st H m => ∃ k : Nat, st = (k : Int) ∧ k ≤ 8 ∧ m = 8 - k ∧ RowO H sb hd ((mixL s.list v.list k).map wV ++ tl) tl2 e ∧ Step [sb] H0 [sb] H) ?_ ⟨0, rfl, by omega, rfl, hs, Step.refl _ _⟩⟩
  rintro m st H ⟨k, rfl, hk, rfl, hs, hst⟩ RR hRR
  unfold sha_state_mix.W4.vc
  by_cases hlt : k < 8
  · rw [if_pos (by rw [decide_eq_true_eq]; omega)]
    have hv := (hst b4 _ hv (by simpa using fun e => hne e.symm)).1
    simp only [Int.toNat_natCast]
    have hml : (mixL s.list v.list k).length = 8 := mixL_len hll (by omega)
    have g1 : H.cell? ((⟨sb, hd.length, none⟩ : Addr).add (k * 1)) = some (wV (s.list.getD k 0)) := by
      rw [Nat.mul_one]
      refine RowO.get hs ?_
      rw [List.getElem?_append_left (by rw [List.length_map, hml]; omega), List.getElem?_map, mixL_get hll (by omega)]
      rfl
    have g2 : H.cell? ((⟨b4, 0, none⟩ : Addr).add (k * 1)) = some (wV (v.list.getD k 0)) := loc0 hv (by
      have hx : v.list[k]? = some (v.list[k]'(by omega)) := List.getElem?_eq_getElem (by omega)
      unfold St.cells
      rw [List.getElem?_toArray, List.getElem?_map, List.getD_eq_getElem?_getD, hx]
      rfl)
    refine ⟨_, rfl, by omega, by omega, _, g1, by omega, by omega, _, g2, _, rfl, by omega, by omega, ?_⟩
    rw [add_w, Nat.mul_one]
    refine RowO.put hs (by rw [List.length_append, List.length_map, hml]; omega) fun H2 h2 hst2 => ?_
    have e3 : ((mixL s.list v.list k).map wV ++ tl).set k (wV (s.list.getD k 0 + v.list.getD k 0)) = (mixL s.list v.list (k + 1)).map wV ++ tl := by
      rw [List.set_append_left _ _ (by rw [List.length_map, hml]; omega), ← List.map_set, mixL_set hll (by omega)]
    have e4 : Value.int .u32 (wv (s.list.getD k 0 + v.list.getD k 0)) = wV (s.list.getD k 0 + v.list.getD k 0) := rfl
    rw [e4, e3] at h2
    rw [w_i64 (by omega) (by omega)]
    exact hRR _ _ (8 - (k + 1)) (by omega) ⟨k + 1, by simp, by omega, rfl, h2, hst.trans hst2⟩
  · rw [if_neg (by rw [decide_eq_true_eq]; omega)]
    have : k = 8 := by omega
    subst this
    exact hx H hs hst
theorem sha_state_mix.runO {H : Heap} {sb : Nat} {s : St} {hd tl tl2 : List Value} {e : TypeId} {p : Option Addr} {c : Nat} {l : List UInt8} (hs : StO H sb hd s tl tl2 e) (hk0 : IntsIn H 1 .u32 kTab) (hb : BytesAt H p 64 l) {K : Heap → Prop} {E : Value → Heap → Prop}
    (h : ∀ H', StO H' sb hd (s.block l) tl tl2 e → Step [sb] H [sb] H' → K H') : sha_state_mix.c (some ⟨sb, hd.length, none⟩) p 64 c K E H := by
  have hk00 : H 1 ≠ none := IntsIn.some0 hk0
  refine ⟨?_⟩
  unfold sha_state_mix.vc
  refine newB_le fun b3 H1 hn3 hl3 hle1 => ?_
  have hpb : ∀ k ∈ bl p, k ≠ b3 := fun k hk e => by
    subst e
    cases p with
    | none => simp [bl] at hk
    | some a =>
      simp only [bl, List.mem_singleton] at hk
      subst hk
      have hx : l[0]? = some (l[0]'(by rw [hb.1]; omega)) := List.getElem?_eq_getElem (by rw [hb.1]; omega)
      have := hb.2.2 a rfl 0 _ hx
      exact some_ne_none_block this hn3 (add_block _ _)
  have hb1 : BytesAt H1 p 64 l := BytesAt.step (Step.of_le (L := []) hle1) hb (by simp)
  refine sha_state_mix.loop1 hb1 hpb (hl3.trans (by kernel_rfl)) fun H2 hw2 hs2 => ?_
  refine sha_state_mix.loop2 hw2 fun H3 hw3 hs3 => ?_
  have nsb : sb ≠ b3 := fun e => by
    subst e
    unfold StO RowO at hs
    rw [hn3] at hs; cases hs
  have hs23 := hs2.trans hs3
  have hst3 : StO H3 sb hd s tl tl2 e := (hs23 sb _ (hle1 _ _ hs) (by simpa using nsb)).1
  have gs : ∀ (i : Nat) (x : W), s.list[i]? = some x → H3.cell? ((⟨sb, hd.length, none⟩ : Addr).add i) = some (wV x) := fun i x hi => hst3.get hi
  refine ⟨_, rfl, _, gs 0 _ rfl, _, gs 1 _ rfl, _, gs 2 _ rfl, _, gs 3 _ rfl, _, gs 4 _ rfl, _, gs 5 _ rfl, _, gs 6 _ rfl, _, gs 7 _ rfl, ?_⟩
  refine newB_le fun b4 H4 hn4 hl4 hle4 => ⟨rfl, ?_⟩
  refine stRow8 (new := s.cells) hl4 rfl (plain_cells _) ?_
  have hl5 := set_self H4 b4 (.cells s.cells.toArray 207)
  have hs5 : ∀ k o, H3 k = some o → (H4.set b4 (.cells s.cells.toArray 207)) k = some o := fun k o hk => by
    have : k ≠ b4 := fun e => by subst e; rw [hn4] at hk; cases hk
    rw [set_ne _ _ this]; exact hle4 _ _ hk
  generalize H4.set b4 (.cells s.cells.toArray 207) = H5 at hl5 hs5 ⊢
  have hle5 : Heap.Le H3 H5 := hs5
  have n03 : 1 ≠ b3 := fun e => hk00 (e ▸ hn3)
  have hk1 : IntsIn H1 1 .u32 kTab := fun i x hi => Le_cell hle1 (hk0 i x hi)
  have hk3 : IntsIn H3 1 .u32 kTab := IntsIn.step hk1 hs23 (by simpa using n03)
  have hk5 : IntsIn H5 1 .u32 kTab := fun i x hi => Le_cell hle5 (hk3 i x hi)
  refine ⟨kTab.map fun x => Value.int .u32 x, rfl, fun i v hv => ?_, ?_⟩
  · rw [List.getElem?_map, Option.map_eq_some_iff] at hv
    obtain ⟨x, hx, rfl⟩ := hv
    rw [add_mk, Nat.zero_add]
    exact hk5 i x hx
  have n34 : b3 ≠ b4 := fun e => by subst e; rw [hn4] at hw3; cases hw3
  refine sha_state_mix.loop3 (sched_len l) (hs5 _ _ hw3) n34 hl5 fun H6 hv6 hs6 => ?_
  have ns4 : sb ≠ b4 := fun e => by
    subst e
    unfold StO RowO at hst3
    rw [hn4] at hst3; cases hst3
  have hst6 : StO H6 sb hd s tl tl2 e := (hs6 sb _ (hs5 _ _ hst3) (by simpa using ns4)).1
  refine sha_state_mix.loop4O hst6 ns4 hv6 fun H7 h7 hs7 => ⟨H7, Heap.Le.refl _, h H7 h7 ?_⟩
  intro k o hk hn
  have n3 : k ≠ b3 := fun e => by subst e; rw [hn3] at hk; cases hk
  have k3 := (hs23 k o (hle1 k o hk) (by simpa using n3)).1
  have n4 : k ≠ b4 := fun e => by subst e; rw [hn4] at k3; cases k3
  exact ⟨(hs7 k o (hs6 k o (hs5 k o k3) (by simpa using n4)).1 hn).1, hn⟩
theorem StO.set8 {H : Heap} {b : Nat} {hd tl2 : List Value} {s : St} {x y v : Value} {e : TypeId} {K : Heap → Prop} (h : StO H b hd s [x, y] tl2 e) (hk : ∀ H', StO H' b hd s [v, y] tl2 e → Step [b] H [b] H' → K H') : stc H ((⟨b, hd.length, none⟩ : Addr).add 8) v K :=
  RowO.put h (by simp [St.cells, St.list]) fun H' h' hs => hk H' h' hs
theorem StO.set9 {H : Heap} {b : Nat} {hd tl2 : List Value} {s : St} {x y v : Value} {e : TypeId} {K : Heap → Prop} (h : StO H b hd s [x, y] tl2 e) (hk : ∀ H', StO H' b hd s [x, v] tl2 e → Step [b] H [b] H' → K H') : stc H ((⟨b, hd.length, none⟩ : Addr).add 9) v K :=
  RowO.put h (by simp [St.cells, St.list]) fun H' h' hs => hk H' h' hs
theorem StO.get8 {H : Heap} {b : Nat} {hd tl2 : List Value} {s : St} {x y : Value} {e : TypeId} (h : StO H b hd s [x, y] tl2 e) : H.cell? ((⟨b, hd.length, none⟩ : Addr).add 8) = some x := RowO.get h rfl
theorem StO.get9 {H : Heap} {b : Nat} {hd tl2 : List Value} {s : St} {x y : Value} {e : TypeId} (h : StO H b hd s [x, y] tl2 e) : H.cell? ((⟨b, hd.length, none⟩ : Addr).add 9) = some y := RowO.get h rfl
theorem sha_Hash_Write.loopO {H0 : Heap} {b : Nat} {hd tl2 : List Value} {s : St} {n : Value} {e : TypeId} {p : Option Addr} {c : Nat} {r : List UInt8} (hs : StO H0 b hd s [.slice p r.length c, n] tl2 e) (ho : OwnB H0 5 p r.length c r) (hbp : b ∉ bl p) (hk : IntsIn H0 1 .u32 kTab) (h0 : 1 ∉ b :: bl p) {Kx : Heap → Prop} {E : Value → Heap → Prop}
    (hx : ∀ p' c' H, StO H b hd (eat s r).1 [.slice p' (eat s r).2.length c', n] tl2 e → OwnB H 5 p' (eat s r).2.length c' (eat s r).2 → b ∉ bl p' → Step (b :: bl p) H0 (b :: bl p') H → Kx H) : sha_Hash_Write.W2 (some ⟨b, hd.length, none⟩) Kx E H0 := by
  refine ⟨Loop.of (I := fun (_ : Unit) H m => ∃ s' p' c' r', m = r'.length ∧ StO H b hd s' [.slice p' r'.length c', n] tl2 e ∧ OwnB H 5 p' r'.length c' r' ∧ bl p' = bl p ∧ Step (b :: bl p) H0 (b :: bl p) H ∧ eat s' r' = eat s r) ?_ ⟨s, p, c, r, rfl, hs, ho, rfl, Step.refl _ _, rfl⟩⟩
  rintro m _ H ⟨s', p', c', r', rfl, hs, ho, hbl, hst, heq⟩ RR hRR
  unfold sha_Hash_Write.W2.vc
  have hsl : ∀ {H : Heap} {s : St} {p : Option Addr} {n1 c : Nat}, StO H b hd s [.slice p n1 c, n] tl2 e → H.cell? ((⟨b, hd.length, none⟩ : Addr).add 8) = some (.slice p n1 c) := fun h => h.get8
  refine ⟨_, rfl, p', r'.length, c', hsl hs, ?_⟩
  by_cases hc : 64 ≤ r'.length
  · refine (if_pos (by rw [decide_eq_true_eq]; omega)).mpr ⟨_, rfl, _, rfl, p', r'.length, c', hsl hs, by decide, by have := ho.2.1; omega, ?_⟩
    rw [add_mk, Nat.add_zero, slA_zero]
    have hk2 : IntsIn H 1 .u32 kTab := hk.step hst h0
    refine sha_state_mix.runO hs hk2 (ho.bytes.take hc) fun H2 hs2 hst2 => ⟨_, rfl, p', r'.length, c', hsl hs2, by decide, by omega, ho.2.1, _, rfl, ?_⟩
    have ho2 := ho.step hst2 fun k hk => not_one hbp (hbl ▸ hk)
    refine StO.set8 hs2 fun H3 hl3 hst3 => ?_
    have ho3 := ho2.step hst3 fun k hk => not_one hbp (hbl ▸ hk)
    obtain ⟨ho4, hbl4⟩ := ho3.drop hc
    have hlen : (r'.drop 64).length = r'.length - 64 := List.length_drop
    refine hRR () H3 (r'.drop 64).length (by omega) ⟨s'.block (r'.take 64), slA p' c' 64 1, c' - 64, r'.drop 64, rfl, ?_, ?_, hbl4.trans hbl, ?_, ?_⟩
    · rw [hlen]; exact hl3
    · rw [hlen]; exact ho4
    · exact hst.trans ((hst2.trans hst3).frame (fun k hk => by simp only [List.mem_cons, not_or] at hk; simpa using hk.1) fun k hk _ => hk)
    · rw [← eat_step hc]; exact heq
  · refine (if_neg (by rw [decide_eq_true_eq]; omega)).mpr ?_
    rw [eat_small (l := r') (by omega)] at heq
    have := hx p' c' H
    rw [← heq] at this
    exact this hs ho (by rw [hbl]; exact hbp) (by rw [hbl]; exact hst)
def HashO (H : Heap) (b : Nat) (hd tl2 : List Value) (e : TypeId) (p : Option Addr) (c : Nat) (d : List UInt8) : Prop :=
  StO H b hd (eat st0 d).1 [.slice p (eat st0 d).2.length c, .int .u64 (d.length : Int)] tl2 e ∧ OwnB H 5 p (eat st0 d).2.length c (eat st0 d).2 ∧ b ∉ bl p
theorem sha_Hash_Write.runO {H : Heap} {b : Nat} {hd tl2 : List Value} {e : TypeId} {p : Option Addr} {c : Nat} {d : List UInt8} (hb : HashO H b hd tl2 e p c d) {x : ByteArray} (hdl : d.length + x.size ≤ 1000000000000) (hk : IntsIn H 1 .u32 kTab) (h0 : 1 ∉ b :: bl p) {K : Heap → Prop} {E : Value → Heap → Prop}
    (h : ∀ p' c' H', HashO H' b hd tl2 e p' c' (d ++ x.data.toList) → ((eat st0 (d ++ x.data.toList)).2 = [] → p' = none ∧ c' = 0) → Step (b :: bl p) H (b :: bl p') H' → K H') : sha_Hash_Write.c (some ⟨b, hd.length, none⟩) x K E H := by
  have hxl : x.data.toList.length = x.size := by rw [Array.length_toList]; rfl
  have hk0 : H 1 ≠ none := IntsIn.some0 hk
  obtain ⟨hs, ho, hbp⟩ := hb
  have hrest := (eat_rest _ st0 d (Nat.le_refl _)).1
  refine ⟨?_⟩
  unfold sha_Hash_Write.vc
  refine ⟨_, rfl, _, hs.get9, _, rfl, ?_⟩
  have hn : IntKind.u64.wrap ((d.length : Int) + IntKind.u64.wrap (x.size : Int)) = ((d ++ x.data.toList).length : Int) := by
    rw [w_u64 (n := (x.size : Int)) (by omega) (by omega), w_u64 (by omega) (by omega), List.length_append, hxl]
    simp
  rw [hn]
  refine StO.set9 hs fun H1 hs1 hst1 => ?_
  have ho1 := ho.step hst1 fun k hk => not_one hbp hk
  refine ⟨_, rfl, p, (eat st0 d).2.length, c, hs1.get8, ?_⟩
  refine appT_bytes (xs := x.data.toList) ho1 (by rw [vrow_flat]; rfl) hxl (by omega) fun p' c' H2 ho2 hst2 => ?_
  have hs2 := hst2 b _ hs1 hbp
  have nb0 : (1 : Nat) ∉ [b] := by
    simp only [List.mem_cons, not_or] at h0
    simpa using h0.1
  have n0p : (1 : Nat) ∉ bl p := by
    simp only [List.mem_cons, not_or] at h0
    exact h0.2
  have hk2 : IntsIn H2 1 .u32 kTab := (hk.step hst1 nb0).step hst2 n0p
  have n0p' : (1 : Nat) ∉ bl p' := by
    cases h1 : H1 1 with
    | none => exact absurd h1 (IntsIn.some0 (hk.step hst1 nb0))
    | some o => exact (hst2 1 o h1 n0p).2
  refine ⟨_, rfl, StO.set8 hs2.1 fun H3 hs3 hst3 => ?_⟩
  have ho3 := ho2.step hst3 fun k hk => not_one hs2.2 hk
  have hlen : ((eat st0 d).2 ++ x.data.toList).length = (eat st0 d).2.length + x.size := by rw [List.length_append, hxl]
  rw [← hlen] at hs3 ho3
  have hk3 : IntsIn H3 1 .u32 kTab := hk2.step hst3 nb0
  have hn0 : (1 : Nat) ∉ b :: bl p' := by
    simp only [List.mem_cons, not_or]
    exact ⟨by simpa using nb0, n0p'⟩
  have hst03 : Step (b :: bl p) H (b :: bl p') H3 := by
    intro k o hk hn
    simp only [List.mem_cons, not_or] at hn ⊢
    have k1 := hst1 k o hk (by simpa using hn.1)
    have k2 := hst2 k o k1.1 hn.2
    have k3 := hst3 k o k2.1 (by simpa using hn.1)
    exact ⟨k3.1, hn.1, k2.2⟩
  refine ⟨?_⟩
  unfold sha_Hash_Write.J1.vc
  refine sha_Hash_Write.loopO hs3 ho3 hs2.2 hk3 hn0 fun p4 c4 H4 hs4 ho4 hbp4 hst4 => ?_
  have hall : eat (eat st0 d).1 ((eat st0 d).2 ++ x.data.toList) = eat st0 (d ++ x.data.toList) := (eat_app _ _ _ _ (Nat.le_refl _)).symm
  rw [hall] at hs4 ho4
  refine ⟨_, rfl, p4, _, c4, hs4.get8, ?_⟩
  have hst : Step (b :: bl p) H (b :: bl p4) H4 := hst03.trans hst4
  by_cases hz : (eat st0 (d ++ x.data.toList)).2.length = 0
  · refine (if_pos (by simp [hz])).mpr ⟨_, rfl, StO.set8 hs4 fun H5 hs5 hst5 => ?_⟩
    have hr : (eat st0 (d ++ x.data.toList)).2 = [] := List.length_eq_zero_iff.1 hz
    refine ⟨H5, Heap.Le.refl _, h none 0 H5 ⟨?_, ?_, by simp [bl]⟩ (fun _ => ⟨rfl, rfl⟩) ?_⟩
    · rw [hz]; exact hs5
    · rw [hr]; exact OwnB.nil
    · intro k o hk hn
      have k4 := hst k o hk hn
      have hne : k ∉ [b] := by
        simp only [List.mem_cons, not_or] at hn
        simpa using hn.1
      exact ⟨(hst5 k o k4.1 hne).1, hne⟩
  · exact (if_neg (by rw [beq_iff_eq]; omega)).mpr ⟨H4, Heap.Le.refl _, h p4 c4 H4 ⟨hs4, ho4, hbp4⟩ (fun hr => absurd (by rw [hr]; rfl) hz) hst⟩
theorem sha_Hash_Sum.loop4O {H0 : Heap} {b off : Nat} {x0 : Addr} {p : Option Addr} {c n : Nat} {l : List UInt8} (hn : n ≤ 1000000000000) (hl : l.length ≤ 1000) (ho : OwnB H0 5 p l.length c l) (hb : H0.cell? ((⟨b, off, none⟩ : Addr).add 9) = some (.int .u64 (n : Int))) (hbp : b ∉ bl p) {Kx : Option Addr → Nat → Nat → Heap → Prop} {E : Value → Heap → Prop}
    (hx : ∀ p' c' H, OwnB H 5 p' (l ++ be64 (8 * n)).length c' (l ++ be64 (8 * n)) → Step (bl p) H0 (bl p') H → Kx p' (l ++ be64 (8 * n)).length c' H) :
    sha_Hash_Sum.W4 (some ⟨b, off, none⟩) x0 p l.length c 0 Kx E H0 := by
  have hb0 : ∃ o, H0 b = some o := by
    cases hh : H0 b with
    | none => exact absurd rfl (some_ne_none_block hb hh)
    | some o => exact ⟨o, rfl⟩
  obtain ⟨o9, ho9⟩ := hb0
  refine ⟨Loop.of (I := fun st H m => ∃ j, j ≤ 8 ∧ m = 8 - j ∧ st.2.2.2 = (j : Int) ∧ st.2.1 = (l ++ (be64 (8 * n)).take j).length ∧ OwnB H 5 st.1 st.2.1 st.2.2.1 (l ++ (be64 (8 * n)).take j) ∧ Step (bl p) H0 (bl st.1) H) ?_ ⟨0, Nat.zero_le _, rfl, rfl, by simp, by simpa using ho, Step.refl _ _⟩⟩
  rintro m ⟨p1, n1, c1, j'⟩ H ⟨j, hj, rfl, hj', hn1, ho, hst⟩ RR hRR
  dsimp only at hj' hn1 ho hst
  subst hn1; subst hj'
  have h64 : (be64 (8 * n)).length = 8 := by simp [be64]
  unfold sha_Hash_Sum.W4.vc
  dsimp only
  by_cases hc : j < 8
  · rw [if_pos (by rw [decide_eq_true_eq]; omega)]
    have hcell : H.cell? ((⟨b, off, none⟩ : Addr).add 9) = some (.int .u64 (n : Int)) := hst.cell hb (by rw [add_block]; exact hbp)
    refine ⟨_, rfl, _, hcell, ?_, ?_⟩
    · rw [w_i64 (n := 8 * (j : Int)) (by omega) (by omega), w_i64 (by omega) (by omega)]; omega
    refine push_byte (be64_byte hn hc) ho (by rw [List.length_append, List.length_take]; omega) fun p' c' H2 h1 h2 => ⟨?_⟩
    unfold sha_Hash_Sum.J5.vc
    rw [w_i64 (by omega) (by omega)]
    have e : (l ++ (be64 (8 * n)).take j) ++ [UInt8.ofNat (8 * n / 2 ^ (56 - 8 * j))] = l ++ (be64 (8 * n)).take (j + 1) := by
      rw [List.append_assoc, List.take_succ_eq_append_getElem (by omega)]
      congr 2
      simp [be64]
    rw [e] at h1
    refine hRR (p', _, c', _) H2 (8 - (j + 1)) (by omega) ⟨j + 1, by omega, rfl, by simp, ?_, h1, hst.trans h2⟩
    rw [← e, List.length_append (bs := [_])]
    rfl
  · rw [if_neg (by rw [decide_eq_true_eq]; omega)]
    have : j = 8 := by omega
    subst this
    have e : (be64 (8 * n)).take 8 = be64 (8 * n) := List.take_of_length_le (by omega)
    rw [e] at ho ⊢
    exact hx p1 c1 H ho hst
theorem sha_Hash_Sum.runO {H : Heap} {b : Nat} {hd tl2 : List Value} {e : TypeId} {p : Option Addr} {c : Nat} {d : List UInt8} (hb : HashO H b hd tl2 e p c d) (hdl : d.length ≤ 1000000000000) (hk : IntsIn H 1 .u32 kTab) (h0 : 1 ∉ b :: bl p) {K : ByteArray → Heap → Prop} {E : Value → Heap → Prop}
    (h : ∀ H', Heap.Le H H' → K ⟨(sha d).toArray⟩ H') : sha_Hash_Sum.c (some ⟨b, hd.length, none⟩) K E H := by
  have hk0 : H 1 ≠ none := IntsIn.some0 hk
  obtain ⟨hs, ho, hbp⟩ := hb
  have hrest := (eat_rest _ st0 d (Nat.le_refl _)).1
  generalize hS : (eat st0 d).1 = S at hs
  generalize hR : (eat st0 d).2 = R at hs ho hrest
  refine ⟨?_⟩
  unfold sha_Hash_Sum.vc
  have g0 : ∀ (i : Nat) (x : W), S.list[i]? = some x → H.cell? (((⟨b, hd.length, none⟩ : Addr).add 0).add i) = some (wV x) := fun i x hi => by
    rw [add_mk, Nat.add_zero]
    exact hs.get hi
  refine ⟨_, rfl, _, g0 0 _ rfl, _, g0 1 _ rfl, _, g0 2 _ rfl, _, g0 3 _ rfl, _, g0 4 _ rfl, _, g0 5 _ rfl, _, g0 6 _ rfl, _, g0 7 _ rfl, ?_⟩
  refine newB_le fun b0 H1 hn1 hl1 hle1 => ⟨rfl, ?_⟩
  refine stRow8 (new := S.cells) hl1 rfl (plain_cells _) ?_
  have hs2 : StAt (H1.set b0 (.cells S.cells.toArray 207)) b0 S [] 207 := by
    have := set_self H1 b0 (.cells S.cells.toArray 207)
    unfold StAt
    rw [List.append_nil]
    exact this
  have hle2 : Heap.Le H (H1.set b0 (.cells S.cells.toArray 207)) := fun k o hk => by
    have : k ≠ b0 := fun e => by subst e; rw [hn1] at hk; cases hk
    rw [set_ne _ _ this]; exact hle1 k o hk
  generalize H1.set b0 (.cells S.cells.toArray 207) = H2 at hs2 hle2 ⊢
  refine newB_le fun b1 H3 hn3 hl3 hle3 => ?_
  have hle03 := hle2.trans hle3
  have hs3 : StAt H3 b0 S [] 207 := hle3 _ _ hs2
  have hb3 : StO H3 b hd S [.slice p R.length c, .int .u64 (d.length : Int)] tl2 e := hle03 _ _ hs
  refine ⟨_, rfl, p, R.length, c, hb3.get8, ?_⟩
  have ho3 := ho.le hle03
  refine ho3.bytes.rdRow rfl ?_
  have hob : OwnB H3 5 (some ⟨b1, 0, none⟩) 0 0 [] := OwnB.of_block hl3 rfl (Nat.le_refl _) (Nat.zero_le _) (.inr rfl) rfl
  have := appT_bytes (xs := R) (m := R.length) hob rfl rfl (by omega) (K := fun p0 n0 c0 h5 => sha_Hash_Sum.J1 (some ⟨b, hd.length, none⟩) ⟨b0, 0, none⟩ p0 n0 c0 (fun r H => ∃ H', Heap.Le H' H ∧ K r H') E h5)
  refine this fun p4 c4 H4 ho4 hst4 => ⟨?_⟩
  rw [List.nil_append, Nat.zero_add] at ho4
  rw [Nat.zero_add]
  unfold sha_Hash_Sum.J1.vc
  refine push_byte (x := 128) rfl ho4 (by omega) fun p5 c5 H5 ho5 hst5 => ⟨?_⟩
  unfold sha_Hash_Sum.J2.vc
  have hlen5 : (R ++ [128]).length = R.length + 1 := by simp
  rw [← hlen5] at ho5 ⊢
  refine sha_Hash_Sum.loop3 hrest ho5 fun p6 c6 H6 ho6 hst6 => ?_
  -- what is known stays
  have n1 : b1 ≠ b0 := fun e1 => by
    subst e1
    unfold StAt at hs2
    rw [hn3] at hs2; cases hs2
  have st36 : Step [b1] H3 (bl p6) H6 := (hst4.trans hst5).trans hst6
  have keep : ∀ k o, H k = some o → H6 k = some o ∧ k ∉ bl p6 := fun k o hk => by
    have k3 := hle03 k o hk
    have : k ≠ b1 := fun e1 => by
      subst e1
      have := hle2 k o hk
      rw [hn3] at this; cases this
    exact st36 k o k3 (by simpa using this)
  have hs6 := st36 b0 _ hs3 (by simpa using fun e1 => n1 e1.symm)
  have hb6 := keep b _ hs
  have hb6s : StO H6 b hd S [.slice p R.length c, .int .u64 (d.length : Int)] tl2 e := hb6.1
  have hcell : H6.cell? ((⟨b, hd.length, none⟩ : Addr).add 9) = some (.int .u64 (d.length : Int)) := hb6s.get9
  have hz63 : zpad R.length < 64 := Nat.mod_lt _ (by decide)
  have hlen6 : ((R ++ [128]) ++ List.replicate (zpad R.length) (0 : UInt8)).length = R.length + 1 + zpad R.length := by simp; omega
  refine sha_Hash_Sum.loop4O hdl (by omega) ho6 hcell hb6.2 fun p7 c7 H7 ho7 hst7 => ?_
  have hpad : ((R ++ [128]) ++ List.replicate (zpad R.length) (0 : UInt8)) ++ be64 (8 * d.length) = padded R d.length := rfl
  rw [hpad] at ho7 ⊢
  have hs7 := hst7 b0 _ hs6.1 hs6.2
  have hk7 : IntsIn H7 1 .u32 kTab := fun i x hi => by
    cases ho0 : H 1 with
    | none => exact absurd ho0 hk0
    | some o =>
      have k6 := keep 1 o ho0
      have k7 := hst7 1 o k6.1 k6.2
      have hc := hk i x hi
      unfold Heap.cell? at hc ⊢
      rw [show (⟨1, i, none⟩ : Addr).block = 1 from rfl] at hc ⊢
      rw [ho0] at hc
      rw [k7.1]
      exact hc
  have n0b : 1 ≠ b0 := fun e1 => hk0 (e1 ▸ hn1)
  refine sha_Hash_Sum.loop6 (padded_len _ _) hs7.1 ho7 hs7.2 hk7 n0b fun H8 hs8 hst8 => ?_
  generalize hF : (eat S (padded R d.length)).1 = F at hs8
  have hsha : F.bytes = sha d := by
    have := sha_eat d
    rw [hS, hR, hF] at this
    exact this
  have g8 : ∀ (i : Nat) (x : W), F.list[i]? = some x → H8.cell? ((⟨b0, 0, none⟩ : Addr).add i) = some (wV x) := fun i x hi => loc hs8 (by
    have hi8 : i < F.cells.length := by
      unfold St.cells
      rw [List.length_map]
      exact (List.getElem?_eq_some_iff.1 hi).1
    rw [List.getElem?_toArray, List.getElem?_append_left hi8]
    unfold St.cells
    rw [List.getElem?_map, hi]
    rfl)
  refine ⟨_, g8 0 _ rfl, _, g8 1 _ rfl, _, g8 2 _ rfl, _, g8 3 _ rfl, _, g8 4 _ rfl, _, g8 5 _ rfl, _, g8 6 _ rfl, _, g8 7 _ rfl, ?_⟩
  refine sha_Hash_Sum.loop7 fun p9 c9 H9 ho9 hst9 => ?_
  refine ho9.bytes.rdBytes ?_
  rw [hsha]
  refine ⟨H9, Heap.Le.refl _, h H9 fun k o hk => ?_⟩
  have k6 := keep k o hk
  have k7 := hst7 k o k6.1 k6.2
  have nk0 : k ≠ b0 := fun e1 => by subst e1; rw [hn1] at hk; cases hk
  have k8 := hst8 k o k7.1 (by simpa using nk0)
  exact (hst9 k o k8.1 (by simp)).1
end Go.Sh
