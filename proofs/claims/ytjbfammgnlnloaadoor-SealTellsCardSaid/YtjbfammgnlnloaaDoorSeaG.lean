/- SealBytes. -/
import Derived.Test.YtjbfammgnlnloaaDoorSeaF
namespace Go.Sh
set_option maxRecDepth 8000
theorem seal_getD {s : List UInt8} {u : Nat} {head d : List UInt8} {j : Nat} (hj : j < d.length) : (sealL s u head d).getD j 0 = d.getD j 0 ^^^ hbyte (keyC s) u j := by
  unfold sealL
  rw [List.getD_eq_getElem?_getD, List.getElem?_append_left (by rw [hideL_len]; exact hj), hide_at hj]
  rfl
theorem hide_prefix {k : List UInt8} {u : Nat} {d m : List UInt8} : (hideL k u (d ++ m)).take d.length = hideL k u d := by
  apply List.ext_getElem?
  intro i
  rw [List.getElem?_take]
  rcases Nat.lt_or_ge i d.length with h | h
  · rw [if_pos h, hide_at (by rw [List.length_append]; omega), hide_at h, List.getD_eq_getElem?_getD, List.getD_eq_getElem?_getD, List.getElem?_append_left h]
  · rw [if_neg (by omega), List.getElem?_eq_none (by rw [hideL_len]; exact h)]
theorem seal_prefix {s : List UInt8} {u : Nat} {head d m : List UInt8} : (sealL s u head (d ++ m)).take d.length = (sealL s u head d).take d.length := by
  unfold sealL
  rw [List.take_append_of_le_length (by rw [hideL_len, List.length_append]; omega), hide_prefix, List.take_left' hideL_len]
theorem at_index {a : Int} {len : Nat} (h0 : 0 < len) (h1 : len ≤ 1000000) : IntKind.u64.wrap (len : Int) = (len : Int) ∧ IntKind.i64.wrap (Int.tmod (IntKind.u64.wrap a) (IntKind.u64.wrap (len : Int))) = ((un a % len : Nat) : Int) ∧ un a % len < len := by
  obtain ⟨hu, _⟩ := un_eq a
  have hm := Nat.mod_lt (un a) h0
  have hw : IntKind.u64.wrap (len : Int) = (len : Int) := w_u64 (by omega) (by omega)
  refine ⟨hw, ?_, hm⟩
  rw [hu, hw, Int.tmod_eq_emod_of_nonneg (by omega), show ((un a : Nat) : Int) % (len : Int) = ((un a % len : Nat) : Int) by simp, w_i64 (by omega) (by omega)]
theorem u8_of_has {y : Int} (h : IntKind.u8.has y) : ∃ x : UInt8, y = (x.toNat : Int) := by
  have hb : 0 ≤ y ∧ y ≤ 255 := by
    simpa [IntKind.has, IntKind.min, IntKind.max, IntKind.bits, IntKind.signed] using h
  refine ⟨UInt8.ofNat y.toNat, ?_⟩
  rw [UInt8.toNat_ofNat']
  omega
theorem set_getD {l : List UInt8} {i j : Nat} {x : UInt8} (hj : j < l.length) : (l.set i x).getD j 0 = if i = j then x else l.getD j 0 := by
  rw [List.getD_eq_getElem?_getD, List.getElem?_set]
  by_cases h : i = j
  · subst h
    rw [if_pos rfl, if_pos hj, if_pos rfl]
    rfl
  · rw [if_neg h, if_neg h, List.getD_eq_getElem?_getD]
theorem xor_swap (a b c : UInt8) : (a ^^^ b) ^^^ c = (a ^^^ c) ^^^ b := by rw [UInt8.xor_assoc, UInt8.xor_comm b c, ← UInt8.xor_assoc]
theorem vizardlaw06_SealBytes.loop {H0 : Heap} {s : List UInt8} {u ix : Nat} {data : ByteArray} {y : UInt8} (hl : data.size ≤ 1000) {Kx : Heap → Prop} {Kr : Bool → Heap → Prop} {E : Value → Heap → Prop} (hx : Kx H0) :
    vizardlaw06_SealBytes.W5 data (y.toNat : Int) ⟨(sealL s u [] data.data.toList).toArray⟩ (ix : Int) ⟨(sealL s u [] (data.data.toList.set ix (data.data.toList.getD ix 0 ^^^ y))).toArray⟩ 0 Kx Kr E H0 := by
  have hdl := ba_len data
  have s1 : (⟨(sealL s u [] data.data.toList).toArray⟩ : ByteArray).size = data.size + 16 := by rw [ba_size, sealL_len, hdl]
  have s2 : (⟨(sealL s u [] (data.data.toList.set ix (data.data.toList.getD ix 0 ^^^ y))).toArray⟩ : ByteArray).size = data.size + 16 := by rw [ba_size, sealL_len, List.length_set, hdl]
  refine ⟨Loop.of (I := fun st H m => ∃ j : Nat, st = (j : Int) ∧ j ≤ data.size ∧ m = data.size - j ∧ H = H0) ?_ ⟨0, rfl, Nat.zero_le _, rfl, rfl⟩⟩
  rintro m st H ⟨j, rfl, hj, rfl, rfl⟩ RR hRR
  unfold vizardlaw06_SealBytes.W5.vc
  by_cases hc : j < data.size
  · rw [if_pos (by rw [decide_eq_true_eq]; omega)]
    have next : ∀ {x0 : Bool}, x0 = false → vizardlaw06_SealBytes.J6 data (y.toNat : Int) ⟨(sealL s u [] data.data.toList).toArray⟩ (ix : Int) ⟨(sealL s u [] (data.data.toList.set ix (data.data.toList.getD ix 0 ^^^ y))).toArray⟩ (j : Int) x0 (fun h1 => vizardlaw06_SealBytes.J7 data (y.toNat : Int) ⟨(sealL s u [] data.data.toList).toArray⟩ (ix : Int) ⟨(sealL s u [] (data.data.toList.set ix (data.data.toList.getD ix 0 ^^^ y))).toArray⟩ (j : Int) RR E h1) Kr E H := by
      intro x0 hx0
      subst hx0
      refine ⟨?_⟩
      unfold vizardlaw06_SealBytes.J6.vc
      rw [if_neg (by simp)]
      refine ⟨?_⟩
      unfold vizardlaw06_SealBytes.J7.vc
      rw [w_i64 (by omega) (by omega)]
      exact hRR _ H (data.size - (j + 1)) (by omega) ⟨j + 1, rfl, by omega, rfl, rfl⟩
    have g1 := seal_getD (s := s) (u := u) (head := []) (d := data.data.toList) (j := j) (by omega)
    have g2 := seal_getD (s := s) (u := u) (head := []) (d := data.data.toList.set ix (data.data.toList.getD ix 0 ^^^ y)) (j := j) (by rw [List.length_set]; omega)
    rw [set_getD (by omega)] at g2
    by_cases he : ix = j
    · subst he
      rw [if_pos rfl] at g2
      rw [if_pos (by rw [beq_iff_eq])]
      refine ⟨by omega, by omega, by omega, by omega, ?_⟩
      rw [bt_getD, bt_getD, ba_list (sealL _ _ _ _), ba_list (sealL _ _ _ _), g1, g2, xor_u8, xor_swap, if_neg (by simp), if_neg (by simp)]
      exact next rfl
    · rw [if_neg he] at g2
      rw [if_neg (by rw [beq_iff_eq]; omega), if_pos (by rw [bne_iff_ne]; omega)]
      refine ⟨by omega, by omega, by omega, by omega, ?_⟩
      rw [bt_getD, bt_getD, ba_list (sealL _ _ _ _), ba_list (sealL _ _ _ _), g1, g2]
      exact next (by simp)
  · rw [if_neg (by rw [decide_eq_true_eq]; omega)]
    exact hx
theorem vizardlaw06_SealBytes.J4.run {Hb H : Heap} (ht : Tabs Hb) {secret data : ByteArray} {n a : Int} {y : UInt8} {b : Nat} {x1 x2 : Int} (hs : secret.size ≤ 300) (hd : data.size ≤ 300) (nb : Hb b = none) (hk : KeyAt H b secret x1 x2) (h0 : 0 ≤ x1) (h1 : x1 ≤ 100) (hle : Heap.Le Hb H)
    {Kr : Bool → Heap → Prop} {E : Value → Heap → Prop} (hret : ∀ H', Heap.Le Hb H' → Kr true H') : vizardlaw06_SealBytes.J4 n data a (y.toNat : Int) (some ⟨b, 0, none⟩) ⟨(sealL secret.data.toList (un n) [] data.data.toList).toArray⟩ Kr E H := by
  have hdl := ba_len data
  refine ⟨?_⟩
  unfold vizardlaw06_SealBytes.J4.vc
  by_cases hz : data.size = 0
  · rw [if_pos (by rw [beq_iff_eq]; omega)]
    exact hret H hle
  · rw [if_neg (by rw [beq_iff_eq]; omega)]
    intro j0
    refine newB_le fun d H1 hn1 hl1 hle1 => ?_
    have ho := str_bytes hl1
    obtain ⟨e1, e2, e3⟩ := at_index (a := a) (len := data.size) (by omega) (by omega)
    rw [e2, Int.toNat_natCast]
    generalize hix : un a % data.size = ix at *
    obtain ⟨ad, had, hcell⟩ := ho.bytes.get (i := ix) e3
    refine ⟨by rw [e1]; omega, ad, had, by omega, by omega, _, hcell, ad, had, by omega, by omega, ?_⟩
    rw [xor_u8]
    refine ho.put (i := ix) e3 had fun H2 h2 hst2 => ?_
    refine h2.bytes.rdBytes ?_
    have hdb : b ≠ d := fun e => by
      subst e
      rcases hk with h | h
      · rw [h.2] at hn1; cases hn1
      · rw [h.2] at hn1; cases hn1
    have od : Only d H1 H2 := fun k o hk hn => (hst2 k o hk (not_mem1 hn)).1
    have nd : Hb d = none := by
      cases hh : Hb d with
      | none => rfl
      | some o => rw [hle _ _ hh] at hn1; cases hn1
    have l2 := od.le (hle.trans hle1) nd
    have k2 := (hk.le hle1).only od hdb
    refine seal_Key_Seal.run (by omega) (by decide) (by rw [ba_size, List.length_set]; omega) k2 h0 (by omega) (ht.up l2) fun H3 k3 o3 => ?_
    have l3 := o3.le l2 nb
    rw [ba_list (data.data.toList.set _ _)]
    have en : (⟨#[]⟩ : ByteArray).data.toList = [] := rfl
    rw [en]
    rw [if_neg (by rw [ba_size, ba_size, sealL_len, sealL_len, List.length_set]; simp)]
    exact vizardlaw06_SealBytes.loop (by omega) (hret H3 l3)
theorem vizardlaw06_SealBytes.run {H : Heap} (ht : Tabs H) {secret data more : ByteArray} {n a y0 : Int} {K : Bool → Heap → Prop} {E : Value → Heap → Prop} (_ : secret.size ≤ reachBytes) (_ : IntKind.i64.has n) (_ : data.size ≤ reachBytes) (_ : more.size ≤ reachBytes) (_ : IntKind.i64.has a) (hy : IntKind.u8.has y0) (h : K true H) : vizardlaw06_SealBytes.c secret n data more a y0 K E H := by
  obtain ⟨y, rfl⟩ := u8_of_has hy
  have hdl := ba_len data
  have hml := ba_len more
  refine ⟨?_⟩
  unfold vizardlaw06_SealBytes.vc
  refine vizardlaw06_works.run ht ?_
  rw [if_neg (by simp)]
  have stop : ∀ {Kn : Heap → Prop}, vizardlaw06_SealBytes.J1 secret n data more a (y.toNat : Int) true Kn (fun r H => ∃ H', Heap.Le H' H ∧ K r H') E H := fun {Kn} => ⟨by
    unfold vizardlaw06_SealBytes.J1.vc
    rw [if_pos rfl]
    exact ⟨H, Heap.Le.refl _, h⟩⟩
  by_cases h1 : (secret.size : Int) > 300
  · rw [if_pos (by simpa using h1)]; exact stop
  · rw [if_neg (by simpa using h1)]
    by_cases h2 : (data.size : Int) > 300
    · rw [if_pos (by simpa using h2)]; exact stop
    · rw [if_neg (by simpa using h2)]
      by_cases h3 : (more.size : Int) > 300
      · rw [decide_eq_true h3]; exact stop
      · rw [decide_eq_false h3]
        refine ⟨?_⟩
        unfold vizardlaw06_SealBytes.J1.vc
        rw [if_neg (by simp)]
        refine ⟨?_⟩
        unfold vizardlaw06_SealBytes.J2.vc
        have en : (⟨#[]⟩ : ByteArray).data.toList = [] := rfl
        refine seal_New.run ht fun b H1 k1 nb l1 => ?_
        refine seal_Key_Seal.run (by omega) (by decide) (by omega) k1 (by decide) (by decide) (ht.up l1) fun H2 k2 o2 => ⟨by omega, ?_⟩
        have l2 := o2.le l1 nb
        refine seal_Key_Seal.run (by omega) (by decide) (by rw [ByteArray.size_append]; omega) k2 (by decide) (by decide) (ht.up l2) fun H3 k3 o3 => ?_
        have l3 := o3.le l2 nb
        rw [en, ba_app]
        have s1 : (⟨(sealL secret.data.toList (un n) [] data.data.toList).toArray⟩ : ByteArray).size = data.size + 16 := by rw [ba_size, sealL_len, hdl]
        have s2 : (⟨(sealL secret.data.toList (un n) [] (data.data.toList ++ more.data.toList)).toArray⟩ : ByteArray).size = data.size + more.size + 16 := by rw [ba_size, sealL_len, List.length_append, hdl, hml]
        rw [s1, s2]
        rw [if_neg (by rw [w_i64 (by omega) (by omega)]; simp), if_neg (by rw [w_i64 (n := (data.size : Int) + (more.size : Int)) (by omega) (by omega), w_i64 (by omega) (by omega)]; simp)]
        refine ⟨by omega, by omega, by omega, by omega, ⟨?_⟩⟩
        unfold vizardlaw06_SealBytes.J3.vc
        have eb : ((⟨(sealL secret.data.toList (un n) [] data.data.toList).toArray⟩ : ByteArray).extract 0 (data.size : Int).toNat).toList = ((⟨(sealL secret.data.toList (un n) [] (data.data.toList ++ more.data.toList)).toArray⟩ : ByteArray).extract 0 (data.size : Int).toNat).toList := by
          rw [ba_toList, ba_toList, ext_list, ext_list, ba_list (sealL _ _ _ _), ba_list (sealL _ _ _ _), Int.toNat_natCast, Nat.sub_zero, List.drop_zero, List.drop_zero, ← hdl, seal_prefix]
        rw [eb, if_neg (by simp)]
        exact vizardlaw06_SealBytes.J4.run ht (by omega) (by omega) nb k3 (by decide) (by decide) l3 fun H' hl => ⟨H, hl, h⟩
theorem vizardlaw06_SealBytes.laid {W : World} (h : laidMetH Go.Proofs.Tryd.prog [("vizard/varint.sizes", (.agg (szTab.map fun x => .lit (.int .i64 x)) : DataW Unit)), ("vizard/sha.constants", (.agg (kTab.map fun x => .lit (.int .u32 x)) : DataW Unit))] W) : Tabs (heapOf W) := vizardlaw05_ShaSums.laid h
end Go.Sh
