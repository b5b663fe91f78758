/- SealTells. -/
import Derived.Test.YtjbfammgnlnloaaDoorSeaG
namespace Go.Sh
set_option maxRecDepth 8000
theorem cut16 {s : ByteArray} (h : 16 ≤ s.size) (hl : s.size ≤ 100000) : (IntKind.i64.wrap ((s.size : Int) - 16)).toNat = s.data.toList.length - 16 ∧ (0 : Int) ≤ IntKind.i64.wrap ((s.size : Int) - 16) ∧ IntKind.i64.wrap ((s.size : Int) - 16) ≤ (s.size : Int) := by
  have hsl := ba_len s
  rw [w_i64 (by omega) (by omega)]
  omega
theorem cut_front {s : ByteArray} {k : Nat} : s.extract 0 k = ⟨(s.data.toList.take k).toArray⟩ := ba_eq (by rw [ext_list, List.drop_zero, Nat.sub_zero])
theorem cut_back {s : ByteArray} {k : Nat} : (s.extract k s.size).data.toList = s.data.toList.drop k := by
  have hsl := ba_len s
  rw [ext_list, List.take_of_length_le (by rw [List.length_drop]; omega)]
theorem xB : (⟨#[120]⟩ : ByteArray).size = 1 := rfl
theorem vizardlaw06_SealTells.J6.run {Hb H : Heap} (ht : Tabs Hb) {secret head s tag : ByteArray} {n : Int} (hs : secret.size ≤ 500) (hh : head.size ≤ 500) (h16 : 16 ≤ s.size) (hl : s.size ≤ 1000) (htag : tag.data.toList = s.data.toList.drop (s.data.toList.length - 16)) (hle : Heap.Le Hb H)
    {Kr : Bool → Heap → Prop} {E : Value → Heap → Prop} (hret : ∀ H', Heap.Le Hb H' → Kr true H') : vizardlaw06_SealTells.J6 secret n head s tag Kr E H := by
  have hsl := ba_len s
  obtain ⟨c1, c2, c3⟩ := cut16 h16 (by omega)
  have hx := xB
  refine ⟨?_⟩
  unfold vizardlaw06_SealTells.J6.vc
  refine ⟨by omega, c2, c3, ?_⟩
  rw [c1, cut_front]
  refine vizardref06_Tag.run (by rw [ByteArray.size_append]; omega) (by omega) (by rw [ba_size, List.length_take]; omega) fun H1 hle1 => ?_
  rw [ba_list (s.data.toList.take _)]
  by_cases hg : tagL (secret ++ (⟨#[120]⟩ : ByteArray)).data.toList (un n) head.data.toList (s.data.toList.take (s.data.toList.length - 16)) = s.data.toList.drop (s.data.toList.length - 16)
  · rw [if_neg (by rw [Bool.not_eq_true', Bool.not_eq_false, beq_lists, htag, ba_list (tagL _ _ _ _)]; exact hg)]
    exact hret H1 (hle.trans hle1)
  · rw [if_pos (by rw [Bool.not_eq_true', ← Bool.not_eq_true, beq_lists, htag, ba_list (tagL _ _ _ _)]; exact hg)]
    have l1 := hle.trans hle1
    refine ⟨by omega, seal_New.run (ht.up l1) fun b H2 k2 nb l2 => ?_⟩
    have nb0 : Hb b = none := by
      cases hh : Hb b with
      | none => rfl
      | some o => rw [l1 _ _ hh] at nb; cases nb
    refine seal_Key_Open.run (by rw [ByteArray.size_append]; omega) (by omega) (by omega) k2 (by decide) (by decide) (ht.up (l1.trans l2)) fun H3 o3 k3 on3 _ => ?_
    rw [openL_bad (by omega) hg]
    exact hret H3 (on3.le (l1.trans l2) nb0)
theorem vizardlaw06_SealTells.J5.run {Hb H : Heap} (ht : Tabs Hb) {secret head s tag : ByteArray} {n : Int} {b : Nat} {x1 x2 : Int} (hs : secret.size ≤ 500) (hh : head.size ≤ 500) (h16 : 16 ≤ s.size) (hl : s.size ≤ 1000) (htag : tag.data.toList = s.data.toList.drop (s.data.toList.length - 16)) (nb : Hb b = none) (hk : KeyAt H b secret x1 x2) (h0 : 0 ≤ x2) (h1 : x2 ≤ 100) (hle : Heap.Le Hb H)
    {Kr : Bool → Heap → Prop} {E : Value → Heap → Prop} (hret : ∀ H', Heap.Le Hb H' → Kr true H') : vizardlaw06_SealTells.J5 secret n head (some ⟨b, 0, none⟩) s tag Kr E H := by
  have hsl := ba_len s
  obtain ⟨c1, c2, c3⟩ := cut16 h16 (by omega)
  have hx := xB
  refine ⟨?_⟩
  unfold vizardlaw06_SealTells.J5.vc
  refine ⟨by omega, c2, c3, ?_⟩
  rw [c1, cut_front]
  refine vizardref06_Tag.run (by omega) (by rw [ByteArray.size_append]; omega) (by rw [ba_size, List.length_take]; omega) fun H1 hle1 => ?_
  rw [ba_list (s.data.toList.take _)]
  have l1 := hle.trans hle1
  by_cases hg : tagL secret.data.toList (un n) (head ++ (⟨#[120]⟩ : ByteArray)).data.toList (s.data.toList.take (s.data.toList.length - 16)) = s.data.toList.drop (s.data.toList.length - 16)
  · rw [if_neg (by rw [Bool.not_eq_true', Bool.not_eq_false, beq_lists, htag, ba_list (tagL _ _ _ _)]; exact hg)]
    exact vizardlaw06_SealTells.J6.run ht hs hh h16 hl htag l1 hret
  · rw [if_pos (by rw [Bool.not_eq_true', ← Bool.not_eq_true, beq_lists, htag, ba_list (tagL _ _ _ _)]; exact hg)]
    refine ⟨by omega, ?_⟩
    refine seal_Key_Open.run (by omega) (by rw [ByteArray.size_append]; omega) (by omega) (hk.le hle1) h0 (by omega) (ht.up l1) fun H3 o3 k3 on3 _ => ?_
    rw [openL_bad (by omega) hg]
    dsimp only
    rw [if_neg (by decide)]
    exact vizardlaw06_SealTells.J6.run ht hs hh h16 hl htag (on3.le l1 nb) hret
theorem vizardlaw06_SealTells.J4.run {Hb H : Heap} (ht : Tabs Hb) {secret head s : ByteArray} {n by0 : Int} {b : Nat} {x1 x2 : Int} (hs : secret.size ≤ 500) (hh : head.size ≤ 500) (h16 : 16 ≤ s.size) (hl : s.size ≤ 1000) (nb : Hb b = none) (hk : KeyAt H b secret x1 x2) (h0 : 0 ≤ x2) (h1 : x2 ≤ 50) (hle : Heap.Le Hb H)
    {Kr : Bool → Heap → Prop} {E : Value → Heap → Prop} (hret : ∀ H', Heap.Le Hb H' → Kr true H') : vizardlaw06_SealTells.J4 secret n head by0 (some ⟨b, 0, none⟩) s Kr E H := by
  have hsl := ba_len s
  obtain ⟨c1, c2, c3⟩ := cut16 h16 (by omega)
  refine ⟨?_⟩
  unfold vizardlaw06_SealTells.J4.vc
  refine ⟨c2, c3, Nat.le_refl _, c2, c3, ?_⟩
  rw [c1, cut_front]
  generalize bits .xor .i64 n (IntKind.i64.wrap by0) = n2
  refine vizardref06_Tag.run (by omega) (by omega) (by rw [ba_size, List.length_take]; omega) fun H1 hle1 => ?_
  rw [ba_list (s.data.toList.take _)]
  have l1 := hle.trans hle1
  by_cases hg : tagL secret.data.toList (un n2) head.data.toList (s.data.toList.take (s.data.toList.length - 16)) = s.data.toList.drop (s.data.toList.length - 16)
  · rw [if_neg (by rw [Bool.not_eq_true', Bool.not_eq_false, beq_lists, cut_back, ba_list (tagL _ _ _ _)]; exact hg)]
    exact vizardlaw06_SealTells.J5.run ht hs hh h16 hl cut_back nb (hk.le hle1) h0 (by omega) l1 hret
  · rw [if_pos (by rw [Bool.not_eq_true', ← Bool.not_eq_true, beq_lists, cut_back, ba_list (tagL _ _ _ _)]; exact hg)]
    refine seal_Key_Open.run (by omega) (by omega) (by omega) (hk.le hle1) h0 (by omega) (ht.up l1) fun H3 o3 k3 on3 ho3 => ?_
    rw [openL_bad (by omega) hg] at ho3 ⊢
    dsimp only at ho3 ⊢
    rw [if_neg (by decide)] at ho3
    subst ho3
    rw [if_neg (by decide)]
    exact vizardlaw06_SealTells.J5.run ht hs hh h16 hl cut_back nb k3 h0 (by omega) (on3.le l1 nb) hret
theorem vizardlaw06_SealTells.run {H : Heap} (ht : Tabs H) {secret head data : ByteArray} {n a y0 : Int} {K : Bool → Heap → Prop} {E : Value → Heap → Prop} (_ : secret.size ≤ reachBytes) (_ : IntKind.i64.has n) (_ : head.size ≤ reachBytes) (_ : data.size ≤ reachBytes) (_ : IntKind.i64.has a) (hy : IntKind.u8.has y0) (h : K true H) : vizardlaw06_SealTells.c secret n head data a y0 K E H := by
  obtain ⟨y, rfl⟩ := u8_of_has hy
  have hdl := ba_len data
  refine ⟨?_⟩
  unfold vizardlaw06_SealTells.vc
  refine vizardlaw06_works.run ht ?_
  rw [if_neg (by simp)]
  have stop : ∀ {Kn : Heap → Prop}, vizardlaw06_SealTells.J1 secret n head data a (y.toNat : Int) true Kn (fun r H => ∃ H', Heap.Le H' H ∧ K r H') E H := fun {Kn} => ⟨by
    unfold vizardlaw06_SealTells.J1.vc
    rw [if_pos rfl]
    exact ⟨H, Heap.Le.refl _, h⟩⟩
  by_cases h1 : (secret.size : Int) > 500
  · rw [if_pos (by simpa using h1)]; exact stop
  · rw [if_neg (by simpa using h1)]
    by_cases h2 : (head.size : Int) > 500
    · rw [if_pos (by simpa using h2)]; exact stop
    · rw [if_neg (by simpa using h2)]
      by_cases h3 : (data.size : Int) > 500
      · rw [if_pos (by simpa using h3)]; exact stop
      · rw [if_neg (by simpa using h3)]
        cases h4 : ((y.toNat : Int) == 0) with
        | true => exact stop
        | false =>
          refine ⟨?_⟩
          unfold vizardlaw06_SealTells.J1.vc
          rw [if_neg (by simp)]
          refine ⟨?_⟩
          unfold vizardlaw06_SealTells.J2.vc
          have hret : ∀ H', Heap.Le H H' → (fun r H => ∃ H', Heap.Le H' H ∧ K r H') true H' := fun H' hl => ⟨H, hl, h⟩
          refine seal_New.run ht fun b H1 k1 nb l1 => ?_
          refine seal_Key_Seal.run (by omega) (by omega) (by omega) k1 (by decide) (by decide) (ht.up l1) fun H2 k2 o2 => ?_
          have l2 := o2.le l1 nb
          generalize hS : sealL secret.data.toList (un n) head.data.toList data.data.toList = S
          have hSl : S.length = data.size + 16 := by rw [← hS, sealL_len, hdl]
          generalize hB : (⟨S.toArray⟩ : ByteArray) = B
          have hBl : B.data.toList = S := by rw [← hB, ba_list S]
          have hBs : B.size = data.size + 16 := by rw [← ba_len, hBl, hSl]
          rw [if_neg (by rw [decide_eq_true_eq]; omega)]
          intro j0
          refine newB_le fun d H3 hn3 hl3 hle3 => ?_
          have ho := str_bytes hl3
          obtain ⟨e1, e2, e3⟩ := at_index (a := a) (len := B.size) (by omega) (by omega)
          rw [e2, Int.toNat_natCast]
          generalize un a % B.size = ix at *
          obtain ⟨ad, had, hcell⟩ := ho.bytes.get (i := ix) e3
          refine ⟨by rw [e1]; omega, ad, had, by omega, by omega, _, hcell, ad, had, by omega, by omega, ?_⟩
          rw [xor_u8]
          refine ho.put (i := ix) e3 had fun H4 h4' hst4 => ?_
          obtain ⟨c1, c2, c3⟩ := cut16 (s := B) (by omega) (by omega)
          have hdb : b ≠ d := fun e => by
            subst e
            rcases k2 with h | h
            · rw [h.2] at hn3; cases hn3
            · rw [h.2] at hn3; cases hn3
          have od : Only d H3 H4 := fun k o hk hn => (hst4 k o hk (not_mem1 hn)).1
          have nd : H d = none := by
            cases hh : H d with
            | none => rfl
            | some o => rw [l2 _ _ hh] at hn3; cases hn3
          have l4 := od.le (l2.trans hle3) nd
          have k4 := (k2.le hle3).only od hdb
          generalize hC : B.data.toList.set ix (B.data.toList.getD ix 0 ^^^ y) = C at h4'
          have hCl : C.length = B.size := by rw [← hC, List.length_set, ba_len]
          have hlen : B.data.toList.length - 16 = B.size - 16 := by rw [ba_len]
          rw [c1, hlen]
          have hfront : ∀ {H'}, Heap.Le H4 H' → ∀ {K' : ByteArray → Prop}, K' ⟨(C.take (B.size - 16)).toArray⟩ → rdBytes H' (slA (some ⟨d, 0, none⟩) (B.size + j0) 0 1) (B.size - 16) K' := fun {H'} hl {K'} hk => by
            rw [slA_zero]
            exact ((h4'.le hl).bytes.take (by omega)).rdBytes hk
          have hback : ∀ {H'}, Heap.Le H4 H' → ∀ {K' : ByteArray → Prop}, K' ⟨(C.drop (B.size - 16)).toArray⟩ → rdBytes H' (slA (some ⟨d, 0, none⟩) (B.size + j0) (B.size - 16) 1) (B.size - (B.size - 16)) K' := fun {H'} hl {K'} hk =>
            ((h4'.le hl).drop (by omega)).1.bytes.rdBytes hk
          refine ⟨c2, by omega, hfront (Heap.Le.refl _) ⟨c2, c3, by omega, hback (Heap.Le.refl _) ?_⟩⟩
          refine vizardref06_Tag.run (by omega) (by omega) (by rw [ba_size, List.length_take]; omega) fun H5 hle5 => ⟨hback hle5 ⟨rfl, rfl⟩, ⟨rfl, rfl⟩, ?_⟩
          have l5 := l4.trans hle5
          have k5 := k4.le hle5
          rw [ba_list (C.take _)]
          by_cases hg : tagL secret.data.toList (un n) head.data.toList (C.take (B.size - 16)) = C.drop (B.size - 16)
          · rw [if_neg (by rw [Bool.not_eq_true', Bool.not_eq_false, beq_lists, ba_list (C.drop _), ba_list (tagL _ _ _ _)]; exact hg)]
            exact vizardlaw06_SealTells.J4.run ht (by omega) (by omega) (by omega) (by omega) nb k5 (by decide) (by decide) l5 hret
          · rw [if_pos (by rw [Bool.not_eq_true', ← Bool.not_eq_true, beq_lists, ba_list (C.drop _), ba_list (tagL _ _ _ _)]; exact hg)]
            refine (h4'.le hle5).bytes.rdBytes ?_
            refine seal_Key_Open.run (by omega) (by omega) (by rw [ba_size, hCl]; omega) k5 (by decide) (by decide) (ht.up l5) fun H6 o6 k6 on6 ho6 => ?_
            have eo : openL secret.data.toList (un n) head.data.toList (⟨C.toArray⟩ : ByteArray).data.toList = ([], 10) := by
              rw [ba_list C, openL_bad (by omega) (by rw [hCl]; exact hg)]
            rw [eo] at ho6 ⊢
            dsimp only at ho6 ⊢
            rw [if_neg (by decide)] at ho6
            subst ho6
            rw [if_neg (by decide)]
            refine ⟨?_⟩
            unfold vizardlaw06_SealTells.J3.vc
            rw [if_neg (by rw [Bool.not_eq_true', Bool.not_eq_false, beq_lists])]
            exact vizardlaw06_SealTells.J4.run ht (by omega) (by omega) (by omega) (by omega) nb k6 (by decide) (by decide) (on6.le l5 nb) hret
theorem vizardlaw06_SealTells.laid {W : World} (h : laidMetH Go.Proofs.Tryd.prog [("vizard/varint.sizes", (.agg (szTab.map fun x => .lit (.int .i64 x)) : DataW Unit)), ("vizard/sha.constants", (.agg (kTab.map fun x => .lit (.int .u32 x)) : DataW Unit))] W) : Tabs (heapOf W) := vizardlaw05_ShaSums.laid h
end Go.Sh
