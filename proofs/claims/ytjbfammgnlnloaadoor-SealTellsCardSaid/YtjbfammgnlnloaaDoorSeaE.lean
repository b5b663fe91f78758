/- SealShort, SealDoes, SealOwn. -/
import Derived.Test.YtjbfammgnlnloaaDoorSeaD
namespace Go.Sh
set_option maxRecDepth 8000
theorem u8_twice (a b : UInt8) : (a ^^^ b) ^^^ b = a := by rw [UInt8.xor_assoc, UInt8.xor_self, UInt8.xor_zero]
theorem hide_at {k : List UInt8} {u : Nat} {d : List UInt8} {t : Nat} (ht : t < d.length) : (hideL k u d)[t]? = some (d.getD t 0 ^^^ hbyte k u t) := by
  unfold hideL
  rw [hideTo_at ht, if_pos ht]
theorem hide_hide {k : List UInt8} {u : Nat} {d : List UInt8} : hideL k u (hideL k u d) = d := by
  apply List.ext_getElem?
  intro i
  rcases Nat.lt_or_ge i d.length with h | h
  · rw [hide_at (by rw [hideL_len]; exact h), List.getD_eq_getElem?_getD, hide_at h, Option.getD_some, u8_twice, List.getD_eq_getElem?_getD, List.getElem?_eq_getElem h]
    rfl
  · rw [List.getElem?_eq_none (by rw [hideL_len, hideL_len]; exact h), List.getElem?_eq_none h]
theorem seal_take {s : List UInt8} {u : Nat} {head d : List UInt8} : (sealL s u head d).take ((sealL s u head d).length - 16) = hideL (keyC s) u d := by
  rw [sealL_len, Nat.add_sub_cancel]
  unfold sealL
  exact List.take_left' hideL_len
theorem seal_drop {s : List UInt8} {u : Nat} {head d : List UInt8} : (sealL s u head d).drop ((sealL s u head d).length - 16) = tagL s u head (hideL (keyC s) u d) := by
  rw [sealL_len, Nat.add_sub_cancel]
  unfold sealL
  exact List.drop_left' hideL_len
theorem open_seal {s : List UInt8} {u : Nat} {head d : List UInt8} : openL s u head (sealL s u head d) = (d, 0) := by
  rw [openL_ok (by rw [sealL_len]; omega) (by rw [seal_take, seal_drop]), seal_take, hide_hide]
theorem open_other {s s2 : List UInt8} {u v : Nat} {head head2 d : List UInt8} (h : tagL s2 v head2 (hideL (keyC s) u d) ≠ tagL s u head (hideL (keyC s) u d)) : openL s2 v head2 (sealL s u head d) = ([], 10) := by
  rw [openL_bad (by rw [sealL_len]; omega) (by rw [seal_take, seal_drop]; exact h)]
theorem works_tags : tagL [115, 101, 99, 114, 101, 116] 8 [104] (hideL (keyC [115, 101, 99, 114, 101, 116]) 7 [97, 98, 99]) ≠ tagL [115, 101, 99, 114, 101, 116] 7 [104] (hideL (keyC [115, 101, 99, 114, 101, 116]) 7 [97, 98, 99]) := by decide +kernel
theorem Only.le {b : Nat} {H0 H H' : Heap} (h : Only b H H') (hl : Heap.Le H0 H) (hn : H0 b = none) : Heap.Le H0 H' := fun k o hk => h k o (hl k o hk) fun e => by subst e; rw [hn] at hk; cases hk
theorem un7 : un 7 = 7 := by decide
theorem un8 : un 8 = 8 := by decide
theorem vizardlaw06_works.run {H : Heap} (ht : Tabs H) {K : Bool → Heap → Prop} {E : Value → Heap → Prop} (h : K true H) : vizardlaw06_works.c K E H := by
  refine ⟨?_⟩
  unfold vizardlaw06_works.vc
  refine seal_New.run ht fun b H1 k1 hn hle1 => ?_
  rw [if_neg (by simp)]
  refine seal_Key_Seal.run (by decide) (by decide) (by decide) k1 (by decide) (by decide) (ht.up hle1) fun H2 k2 o2 => ?_
  have l2 := o2.le hle1 hn
  rw [un7]
  generalize hS : sealL (⟨#[115, 101, 99, 114, 101, 116]⟩ : ByteArray).data.toList 7 (⟨#[104]⟩ : ByteArray).data.toList (⟨#[97, 98, 99]⟩ : ByteArray).data.toList = S
  have hSl : S.length = 19 := by rw [← hS, sealL_len]; rfl
  refine seal_Key_Open.run (by decide) (by decide) (by rw [ba_size, hSl]; decide) k2 (by decide) (by decide) (ht.up l2) fun H3 o3 k3 on3 ho3 => ?_
  have l3 := on3.le l2 hn
  have e3 : openL (⟨#[115, 101, 99, 114, 101, 116]⟩ : ByteArray).data.toList (un 7) (⟨#[104]⟩ : ByteArray).data.toList (⟨S.toArray⟩ : ByteArray).data.toList = ([97, 98, 99], 0) := by
    rw [ba_list S, un7, ← hS, open_seal]
  rw [e3] at ho3 ⊢
  dsimp only at ho3 ⊢
  rw [if_pos rfl] at ho3
  subst ho3
  refine seal_Key_Open.run (by decide) (by decide) (by rw [ba_size, hSl]; decide) k3 (by decide) (by decide) (ht.up l3) fun H4 o4 k4 on4 ho4 => ?_
  have l4 := on4.le l3 hn
  have e4 : openL (⟨#[115, 101, 99, 114, 101, 116]⟩ : ByteArray).data.toList (un 8) (⟨#[104]⟩ : ByteArray).data.toList (⟨S.toArray⟩ : ByteArray).data.toList = ([], 10) := by
    rw [ba_list S, un8, ← hS]
    exact open_other works_tags
  rw [e4]
  dsimp only
  rw [if_pos (by rw [ba_size, hSl]; rfl), if_pos (by rw [beq_lists]), if_pos (by rfl)]
  exact ⟨H, l4, h⟩
theorem vizardlaw06_SealShort.run {H : Heap} (ht : Tabs H) {secret head s : ByteArray} {n : Int} {K : Bool → Heap → Prop} {E : Value → Heap → Prop} (_ : secret.size ≤ reachBytes) (_ : IntKind.i64.has n) (_ : head.size ≤ reachBytes) (_ : s.size ≤ reachBytes) (h : K true H) : vizardlaw06_SealShort.c secret n head s K E H := by
  refine ⟨?_⟩
  unfold vizardlaw06_SealShort.vc
  refine vizardlaw06_works.run ht ?_
  rw [if_neg (by simp)]
  have stop : ∀ {Kn : Heap → Prop}, vizardlaw06_SealShort.J1 secret n head s true Kn (fun r H => ∃ H', Heap.Le H' H ∧ K r H') E H := fun {Kn} => ⟨by
    unfold vizardlaw06_SealShort.J1.vc
    rw [if_pos rfl]
    exact ⟨H, Heap.Le.refl _, h⟩⟩
  by_cases h1 : (secret.size : Int) > 300
  · rw [if_pos (by simpa using h1)]; exact stop
  · rw [if_neg (by simpa using h1)]
    by_cases h2 : (head.size : Int) > 300
    · rw [if_pos (by simpa using h2)]; exact stop
    · rw [if_neg (by simpa using h2)]
      by_cases h3 : (s.size : Int) ≥ 16
      · rw [decide_eq_true h3]; exact stop
      · rw [decide_eq_false h3]
        refine ⟨?_⟩
        unfold vizardlaw06_SealShort.J1.vc
        rw [if_neg (by simp)]
        refine ⟨?_⟩
        unfold vizardlaw06_SealShort.J2.vc
        refine seal_New.run ht fun b H1 k1 hn hle => ?_
        refine seal_Key_Open.run (by omega) (by omega) (by omega) k1 (by decide) (by decide) (ht.up hle) fun H2 o' k2 on _ => ?_
        rw [openL_short (by rw [ba_len]; omega)]
        dsimp only
        rw [if_pos (by rw [beq_lists])]
        exact ⟨H, on.le hle hn, h⟩
theorem vizardlaw06_SealDoes.run {H : Heap} (ht : Tabs H) {secret head data : ByteArray} {n : Int} {K : Bool → Heap → Prop} {E : Value → Heap → Prop} (_ : secret.size ≤ reachBytes) (_ : IntKind.i64.has n) (_ : head.size ≤ reachBytes) (_ : data.size ≤ reachBytes) (h : K true H) : vizardlaw06_SealDoes.c secret n head data K E H := by
  refine ⟨?_⟩
  unfold vizardlaw06_SealDoes.vc
  have stop : ∀ {Kn : Heap → Prop}, vizardlaw06_SealDoes.J1 secret n head data true Kn (fun r H => ∃ H', Heap.Le H' H ∧ K r H') E H := fun {Kn} => ⟨by
    unfold vizardlaw06_SealDoes.J1.vc
    rw [if_pos rfl]
    exact ⟨H, Heap.Le.refl _, h⟩⟩
  by_cases h1 : (secret.size : Int) > 500
  · rw [if_pos (by simpa using h1)]; exact stop
  · rw [if_neg (by simpa using h1)]
    by_cases h2 : (head.size : Int) > 500
    · rw [if_pos (by simpa using h2)]; exact stop
    · rw [if_neg (by simpa using h2)]
      by_cases h3 : (data.size : Int) > 500
      · rw [decide_eq_true h3]; exact stop
      · rw [decide_eq_false h3]
        have hdl := ba_len data
        refine ⟨?_⟩
        unfold vizardlaw06_SealDoes.J1.vc
        rw [if_neg (by simp)]
        refine ⟨?_⟩
        unfold vizardlaw06_SealDoes.J2.vc
        refine seal_New.run ht fun b H1 k1 hn l1 => ?_
        rw [if_neg (by simp)]
        refine seal_Key_Seal.run (by omega) (by omega) (by omega) k1 (by decide) (by decide) (ht.up l1) fun H2 k2 on2 => ?_
        have l2 := on2.le l1 hn
        refine seal_Key_Open.run (by omega) (by omega) (by omega) k2 (by decide) (by decide) (ht.up l2) fun H3 o3 k3 on3 ho3 => ?_
        have l3 := on3.le l2 hn
        refine vizardref06_Open.run (by omega) (by omega) (by omega) fun H4 hle4 => ?_
        refine vizardref06_Seal.run (by omega) (by omega) (by omega) fun H5 hle5 => ?_
        rw [if_neg (by simp), if_neg (by simp)]
        have l5 := (l3.trans hle4).trans hle5
        have k5 := (k3.le hle4).le hle5
        refine ⟨?_⟩
        unfold vizardlaw06_SealDoes.J3.vc
        rw [if_neg (by simp)]
        refine ⟨?_⟩
        unfold vizardlaw06_SealDoes.J4.vc
        have hSl : (sealL secret.data.toList (un n) head.data.toList data.data.toList).length = data.size + 16 := by rw [sealL_len, hdl]
        have hb3 : 0 ≤ o3 ∧ o3 ≤ 1 := by
          rw [ho3]
          split <;> omega
        refine seal_Key_Open.run (by omega) (by omega) (by rw [ba_size, hSl]; omega) k5 hb3.1 (by omega) (ht.up l5) fun H6 o6 k6 on6 ho6 => ?_
        have l6 := on6.le l5 hn
        have e6 : openL secret.data.toList (un n) head.data.toList (⟨(sealL secret.data.toList (un n) head.data.toList data.data.toList).toArray⟩ : ByteArray).data.toList = (data.data.toList, 0) := by
          rw [ba_list (sealL _ _ _ _), open_seal]
        rw [e6] at ho6 ⊢
        dsimp only at ho6 ⊢
        rw [if_pos rfl] at ho6
        refine seal_Key_Used.run k6 ?_
        have fin : ∀ {want : Int}, o6 = want → vizardlaw06_SealDoes.J5 data ⟨data.data.toList.toArray⟩ 0 (0 + 1) o6 want (fun r H => ∃ H', Heap.Le H' H ∧ K r H') E H6 := fun {want} hw => by
          refine ⟨?_⟩
          unfold vizardlaw06_SealDoes.J5.vc
          rw [if_pos (by rfl), if_pos (by rw [beq_lists, ba_list data.data.toList]), if_pos (by rfl), hw]
          refine ⟨H, l6, ?_⟩
          simpa using h
        by_cases hf : (openL secret.data.toList (un n) head.data.toList data.data.toList).2 = 0
        · rw [if_pos (by rw [beq_iff_eq]; exact hf)]
          rw [if_pos hf] at ho3
          exact fin (by omega)
        · rw [if_neg (by rw [beq_iff_eq]; exact hf)]
          rw [if_neg hf] at ho3
          exact fin (by omega)
theorem vizardlaw06_SealShort.laid {W : World} (h : laidMetH Go.Proofs.Tryd.prog [("vizard/varint.sizes", (.agg (szTab.map fun x => .lit (.int .i64 x)) : DataW Unit)), ("vizard/sha.constants", (.agg (kTab.map fun x => .lit (.int .u32 x)) : DataW Unit))] W) : Tabs (heapOf W) := vizardlaw05_ShaSums.laid h
theorem vizardlaw06_SealDoes.laid {W : World} (h : laidMetH Go.Proofs.Tryd.prog [("vizard/varint.sizes", (.agg (szTab.map fun x => .lit (.int .i64 x)) : DataW Unit)), ("vizard/sha.constants", (.agg (kTab.map fun x => .lit (.int .u32 x)) : DataW Unit))] W) : Tabs (heapOf W) := vizardlaw05_ShaSums.laid h
end Go.Sh
