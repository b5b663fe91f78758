/- ShaOwn: two digests in the making do not touch one another. -/
import Derived.Test.YtjbfammgnlnloaaDoorShaC
namespace Go.Sh
set_option maxRecDepth 8000
structure TwoH (Hb H : Heap) (a : Nat) (La : List Nat) (da : List UInt8) (b : Nat) (Lb : List Nat) (db : List UInt8) : Prop where
  a : HashAt H a La da
  b : HashAt H b Lb db
  dj : ∀ k ∈ La, k ∉ Lb
  st : Step [] Hb (La ++ Lb) H
theorem TwoH.swap {Hb H : Heap} {a b : Nat} {La Lb : List Nat} {da db : List UInt8} (h : TwoH Hb H a La da b Lb db) : TwoH Hb H b Lb db a La da :=
  ⟨h.b, h.a, fun k hk hk2 => h.dj k hk2 hk, fun k o hk hn => ⟨(h.st k o hk hn).1, fun hm => (h.st k o hk hn).2 (by simp only [List.mem_append] at hm ⊢; exact hm.symm)⟩⟩
theorem TwoH.stepA {Hb H H' : Heap} {a b : Nat} {La Lb La' : List Nat} {da db da' : List UInt8} (h : TwoH Hb H a La da b Lb db) (hs : Step La H La' H') (ha : HashAt H' a La' da') : TwoH Hb H' a La' da' b Lb db := by
  refine ⟨ha, h.b.step hs fun k hk hk2 => h.dj k hk2 hk, fun k hk hk2 => ?_, h.st.trans (hs.frame (fun k hk hm => hk (by simp [hm])) fun k hk hk2 hm => ?_)⟩
  · have := h.b.live k hk2
    cases ho : H k with
    | none => exact this ho
    | some o => exact (hs k o ho fun hm => h.dj k hm hk2).2 hk
  · simp only [List.mem_append, not_or] at hk hm
    rcases hm with hm | hm
    · exact hk2 hm
    · exact hk.2 hm
theorem TwoH.le {Hb H H' : Heap} {a b : Nat} {La Lb : List Nat} {da db : List UInt8} (h : TwoH Hb H a La da b Lb db) (hl : Heap.Le H H') : TwoH Hb H' a La da b Lb db := ⟨h.a.le hl, h.b.le hl, h.dj, h.st.trans (Step.of_le hl)⟩
theorem vizardlaw05_ShaOwn.J2.run {Hb H : Heap} (ht : IntsIn Hb 0 .u32 kTab) {p q : Option Addr} {n c m d : Nat} {ss : List ByteArray} (hat : StrsAt Hb p n ss) {a b k : Nat} (hk : k < 12) {La Lb : List Nat} {x y : ByteArray} {db : List UInt8} (hx : x.size ≤ 500 * k) (h : TwoH Hb H a La x.data.toList b Lb db) {flag : Bool}
    (hf : flag = true → k < n ∧ ∀ s, ss[k]? = some s → s.size < 500) {Kn : ByteArray → Heap → Prop} {E : Value → Heap → Prop} (hk2 : ∀ H' La' (x' : ByteArray), x'.size ≤ 500 * (k + 1) → TwoH Hb H' a La' x'.data.toList b Lb db → Kn x' H') :
    vizardlaw05_ShaOwn.J2 p n c q m d (some ⟨a, 0, none⟩) (some ⟨b, 0, none⟩) x y k flag Kn E H := by
  refine ⟨?_⟩
  unfold vizardlaw05_ShaOwn.J2.vc
  cases flag with
  | false =>
    rw [if_neg (by simp)]
    exact hk2 H La x (by omega) h
  | true =>
    rw [if_pos rfl]
    obtain ⟨hkn, hs500⟩ := hf rfl
    obtain ⟨ad, s, had, hs, hc⟩ := hat.get h.st.le hkn
    have hss := hs500 s hs
    obtain ⟨t1, t2⟩ := h.st.tab ht
    have hxl := ba_len x
    refine ⟨ad, had, by omega, by omega, s, by rw [Int.toNat_natCast]; exact hc, ?_⟩
    refine sha_Hash_Write.run h.a (by omega) t1 (fun hm => t2 (by simp [hm])) fun L2 H2 hb2 hst2 => ?_
    rw [← ba_app] at hb2
    have h2 := h.stepA hst2 hb2
    obtain ⟨ad2, s2, had2, hs2, hc2⟩ := hat.get h2.st.le hkn
    obtain rfl := Option.some.inj (hs.symm.trans hs2)
    obtain rfl := Option.some.inj (had.symm.trans had2)
    refine ⟨ad, had, by omega, by omega, s, by rw [Int.toNat_natCast]; exact hc2, by omega, ?_⟩
    exact hk2 H2 L2 (x ++ s) (by rw [ByteArray.size_append]; omega) h2
theorem vizardlaw05_ShaOwn.J4.run {Hb H : Heap} (ht : IntsIn Hb 0 .u32 kTab) {p q : Option Addr} {n c m d : Nat} {ss : List ByteArray} (hat : StrsAt Hb q m ss) {a b k : Nat} (hk : k < 12) {La Lb : List Nat} {x y : ByteArray} {da : List UInt8} (hy : y.size ≤ 500 * k) (h : TwoH Hb H a La da b Lb y.data.toList) {flag : Bool}
    (hf : flag = true → k < m ∧ ∀ s, ss[k]? = some s → s.size < 500) {Kn : ByteArray → Heap → Prop} {E : Value → Heap → Prop} (hk2 : ∀ H' Lb' (y' : ByteArray), y'.size ≤ 500 * (k + 1) → TwoH Hb H' a La da b Lb' y'.data.toList → Kn y' H') :
    vizardlaw05_ShaOwn.J4 p n c q m d (some ⟨a, 0, none⟩) (some ⟨b, 0, none⟩) x y k flag Kn E H := by
  refine ⟨?_⟩
  unfold vizardlaw05_ShaOwn.J4.vc
  cases flag with
  | false =>
    rw [if_neg (by simp)]
    exact hk2 H Lb y (by omega) h
  | true =>
    rw [if_pos rfl]
    obtain ⟨hkn, hs500⟩ := hf rfl
    obtain ⟨ad, s, had, hs, hc⟩ := hat.get h.st.le hkn
    have hss := hs500 s hs
    obtain ⟨t1, t2⟩ := h.st.tab ht
    have hyl := ba_len y
    refine ⟨ad, had, by omega, by omega, s, by rw [Int.toNat_natCast]; exact hc, ?_⟩
    refine sha_Hash_Write.run h.b (by omega) t1 (fun hm => t2 (by simp [hm])) fun L2 H2 hb2 hst2 => ?_
    rw [← ba_app] at hb2
    have h2 := (h.swap.stepA hst2 hb2).swap
    obtain ⟨ad2, s2, had2, hs2, hc2⟩ := hat.get h2.st.le hkn
    obtain rfl := Option.some.inj (hs.symm.trans hs2)
    obtain rfl := Option.some.inj (had.symm.trans had2)
    refine ⟨ad, had, by omega, by omega, s, by rw [Int.toNat_natCast]; exact hc2, by omega, ?_⟩
    exact hk2 H2 L2 (y ++ s) (by rw [ByteArray.size_append]; omega) h2
theorem vizardlaw05_ShaOwn.run {H : Heap} (ht : IntsIn H 0 .u32 kTab) {p q : Option Addr} {n c m d : Nat} {K : Bool → Heap → Prop} {E : Value → Heap → Prop} (_ : n ≤ c) (_ : c * 16 ≤ reachBytes)
    (hrows : ∃ rows, RowsAt H p n 1 rows ∧ ∀ es ∈ rows, ∃ y, es = [(.string y)] ∧ y.size ≤ reachBytes) (_ : m ≤ d) (_ : d * 16 ≤ reachBytes) (hrows2 : ∃ rows, RowsAt H q m 1 rows ∧ ∀ es ∈ rows, ∃ y, es = [(.string y)] ∧ y.size ≤ reachBytes) (h : K true H) : vizardlaw05_ShaOwn.c p n c q m d K E H := by
  obtain ⟨ss, hat⟩ := strs_of hrows
  obtain ⟨tt, hat2⟩ := strs_of hrows2
  refine ⟨?_⟩
  unfold vizardlaw05_ShaOwn.vc
  refine vizardlaw05_works.run ht ?_
  rw [if_neg (by simp)]
  refine sha_New.run fun a H1 ha1 hn1 hle1 => ?_
  refine sha_New.run fun b H2 hb2 hn2 hle2 => ?_
  have hab : a ≠ b := fun e => by
    have := ha1.live a (by simp)
    rw [e] at this
    exact this hn2
  have h0 : TwoH H H2 a [a] (⟨#[]⟩ : ByteArray).data.toList b [b] (⟨#[]⟩ : ByteArray).data.toList := ⟨ha1.le hle2, hb2, fun k hk hk2 => by simp at hk hk2; omega, fun k o hk hn => by
    have s1 := Step.ofNew (L := []) hn1 hle1 k o hk hn
    have s2 := Step.ofNew (L := [a]) hn2 hle2 k o s1.1 s1.2
    refine ⟨s2.1, fun hm => s2.2 ?_⟩
    simp only [List.mem_append, List.mem_cons, List.not_mem_nil, or_false] at hm ⊢
    exact hm.symm⟩
  refine ⟨Loop.of (I := fun st H' k9 => ∃ (k : Nat) (x y : ByteArray) (La Lb : List Nat), st = (x, y, (k : Int)) ∧ k ≤ 12 ∧ k9 = 12 - k ∧ x.size ≤ 500 * k ∧ y.size ≤ 500 * k ∧ TwoH H H' a La x.data.toList b Lb y.data.toList) ?_ ⟨0, ⟨#[]⟩, ⟨#[]⟩, [a], [b], rfl, by decide, rfl, Nat.zero_le _, Nat.zero_le _, h0⟩⟩
  rintro k9 st H' ⟨k, x, y, La, Lb, rfl, hk, rfl, hx, hy, ht2⟩ RR hRR
  unfold vizardlaw05_ShaOwn.W1.vc
  dsimp only
  by_cases hk12 : k < 12
  · rw [if_pos (by rw [decide_eq_true_eq]; omega)]
    have j3 : ∀ {H3 : Heap} {La3 : List Nat} {x3 : ByteArray}, x3.size ≤ 500 * (k + 1) → TwoH H H3 a La3 x3.data.toList b Lb y.data.toList → vizardlaw05_ShaOwn.J3 p n c q m d (some ⟨a, 0, none⟩) (some ⟨b, 0, none⟩) x3 y k (fun y1 h2 => vizardlaw05_ShaOwn.J5 p n c q m d (some ⟨a, 0, none⟩) (some ⟨b, 0, none⟩) x3 y1 k (fun i1 h3 => RR (x3, y1, i1) h3) E h2) E H3 := by
      intro H3 La3 x3 hx3 h3
      refine ⟨?_⟩
      unfold vizardlaw05_ShaOwn.J3.vc
      have j5 : ∀ (H4 : Heap) (Lb4 : List Nat) (y4 : ByteArray), y4.size ≤ 500 * (k + 1) → TwoH H H4 a La3 x3.data.toList b Lb4 y4.data.toList → vizardlaw05_ShaOwn.J5 p n c q m d (some ⟨a, 0, none⟩) (some ⟨b, 0, none⟩) x3 y4 k (fun i1 h3 => RR (x3, y4, i1) h3) E H4 := fun H4 Lb4 y4 hy4 h4 => ⟨by
        unfold vizardlaw05_ShaOwn.J5.vc
        rw [w_i64 (by omega) (by omega)]
        exact hRR _ _ (12 - (k + 1)) (by omega) ⟨k + 1, x3, y4, La3, Lb4, by simp, by omega, rfl, hx3, hy4, h4⟩⟩
      by_cases hkm : k < m
      · rw [if_pos (by rw [decide_eq_true_eq]; omega)]
        obtain ⟨ad, s, had, hs, hc⟩ := hat2.get h3.st.le hkm
        refine ⟨ad, had, by omega, by omega, s, by rw [Int.toNat_natCast]; exact hc, ?_⟩
        refine vizardlaw05_ShaOwn.J4.run ht hat2 hk12 hy h3 (fun hf => ⟨hkm, fun s2 hs2 => ?_⟩) j5
        obtain rfl := Option.some.inj (hs.symm.trans hs2)
        have := of_decide_eq_true hf
        omega
      · rw [if_neg (by rw [decide_eq_true_eq]; omega)]
        exact vizardlaw05_ShaOwn.J4.run ht hat2 hk12 hy h3 (fun hf => by cases hf) j5
    by_cases hkn : k < n
    · rw [if_pos (by rw [decide_eq_true_eq]; omega)]
      obtain ⟨ad, s, had, hs, hc⟩ := hat.get ht2.st.le hkn
      refine ⟨ad, had, by omega, by omega, s, by rw [Int.toNat_natCast]; exact hc, ?_⟩
      refine vizardlaw05_ShaOwn.J2.run ht hat hk12 hx ht2 (fun hf => ⟨hkn, fun s2 hs2 => ?_⟩) fun H' La' x' hx' h' => j3 hx' h'
      obtain rfl := Option.some.inj (hs.symm.trans hs2)
      have := of_decide_eq_true hf
      omega
    · rw [if_neg (by rw [decide_eq_true_eq]; omega)]
      exact vizardlaw05_ShaOwn.J2.run ht hat hk12 hx ht2 (fun hf => by cases hf) fun H' La' x' hx' h' => j3 hx' h'
  · rw [if_neg (by rw [decide_eq_true_eq]; omega)]
    obtain ⟨t1, t2⟩ := ht2.st.tab ht
    have na : (0 : Nat) ∉ La := fun hm => t2 (by simp [hm])
    have nb : (0 : Nat) ∉ Lb := fun hm => t2 (by simp [hm])
    have hxl := ba_len x
    have hyl := ba_len y
    refine sha_Hash_Sum.run ht2.a (by omega) t1 na fun H3 hle3 => ?_
    refine sha_Sum.run (by omega) (t1.up hle3) fun H4 hle4 => ?_
    rw [if_pos (by simp)]
    have hle04 := hle3.trans hle4
    refine sha_Hash_Sum.run (ht2.b.le hle04) (by omega) (t1.up hle04) nb fun H5 hle5 => ?_
    have hle05 := hle04.trans hle5
    refine sha_Sum.run (by omega) (t1.up hle05) fun H6 hle6 => ?_
    rw [if_pos (by simp)]
    have hle06 := hle05.trans hle6
    refine sha_Hash_Sum.run (ht2.a.le hle06) (by omega) (t1.up hle06) na fun H7 hle7 => ?_
    have hle07 := hle06.trans hle7
    refine sha_Sum.run (by omega) (t1.up hle07) fun H8 hle8 => ?_
    rw [if_pos (by simp)]
    have hle08 := hle07.trans hle8
    refine sha_Hash_Sum.run (ht2.a.le hle08) (by omega) (t1.up hle08) na fun H9 hle9 => ?_
    refine ⟨H, (ht2.st.le.trans hle08).trans hle9, ?_⟩
    rw [ba_size, sha_len]
    simpa using h
theorem vizardlaw05_ShaParts.laid {W : World} (h : laidMetH Go.Proofs.Tryd.prog [("vizard/sha.constants", (.agg (kTab.map fun x => .lit (.int .u32 x)) : DataW Unit))] W) : IntsIn (heapOf W) 0 .u32 kTab := by
  obtain ⟨ps, h⟩ := laid_plain rfl h
  exact (laid_ints (t := 87) (e := 50) (n := 64) (by kernel_rfl) (by kernel_rfl) (by kernel_rfl) (by kernel_rfl) (by kernel_rfl) h).1
theorem vizardlaw05_ShaOwn.laid {W : World} (h : laidMetH Go.Proofs.Tryd.prog [("vizard/sha.constants", (.agg (kTab.map fun x => .lit (.int .u32 x)) : DataW Unit))] W) : IntsIn (heapOf W) 0 .u32 kTab := vizardlaw05_ShaParts.laid h
end Go.Sh
