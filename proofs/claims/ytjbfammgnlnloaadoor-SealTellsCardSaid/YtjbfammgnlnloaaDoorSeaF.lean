/- SealOwn, SealBytes. -/
import Derived.Test.YtjbfammgnlnloaaDoorSeaE
namespace Go.Sh
set_option maxRecDepth 8000
/-- Two keys of one secret in one heap. -/
structure TwoK (Hb H : Heap) (a b : Nat) (s : ByteArray) (i : Nat) : Prop where
  a : ∃ x y : Int, KeyAt H a s x y ∧ 0 ≤ x ∧ x ≤ i ∧ 0 ≤ y ∧ y ≤ i
  b : ∃ x y : Int, KeyAt H b s x y ∧ 0 ≤ x ∧ x ≤ i ∧ 0 ≤ y ∧ y ≤ i
  le : Heap.Le Hb H
theorem vizardlaw06_SealOwn.J2.run {Hb H : Heap} (ht : Tabs Hb) {p : Option Addr} {len c : Nat} {ss : List ByteArray} (hat : StrsAt Hb p len ss) {secret : ByteArray} (hs : secret.size ≤ 500) {n : Int} {a b i : Nat} (hi : i < len) (hi10 : i < 10) (na : Hb a = none) (nb : Hb b = none) (hab : a ≠ b) (h : TwoK Hb H a b secret i)
    {Kn : Int → Heap → Prop} {Kr : Bool → Heap → Prop} {E : Value → Heap → Prop} (hret : ∀ H', Heap.Le Hb H' → Kr true H') (hn : ∀ H', TwoK Hb H' a b secret (i + 1) → Kn ((i + 1 : Nat) : Int) H') : vizardlaw06_SealOwn.J2 secret p len c n (some ⟨a, 0, none⟩) (some ⟨b, 0, none⟩) i Kn Kr E H := by
  obtain ⟨⟨xa, ya, ka, ha0, ha1, ha2, ha3⟩, ⟨xb, yb, kb, hb0, hb1, hb2, hb3⟩, hle⟩ := h
  obtain ⟨ad, x, hp, hx, hc⟩ := hat.get hle hi
  have hc' : ∀ {H'}, Heap.Le Hb H' → H'.cell? (ad.add (i * 1)) = some (.string x) := fun {H'} hl => by
    obtain ⟨ad2, x2, hp2, hx2, hc2⟩ := hat.get hl hi
    rw [hp] at hp2; cases hp2
    rw [hx] at hx2; cases hx2
    exact hc2
  refine ⟨?_⟩
  unfold vizardlaw06_SealOwn.J2.vc
  rw [Int.toNat_natCast]
  refine ⟨ad, hp, by omega, by omega, x, hc, ?_⟩; dsimp only
  by_cases hx3 : (x.size : Int) > 300
  · rw [if_pos (by rw [decide_eq_true_eq]; exact hx3)]
    exact hret H hle
  · rw [if_neg (by rw [decide_eq_true_eq]; exact hx3)]
    refine ⟨ad, hp, by omega, by omega, x, hc, ?_⟩; dsimp only
    refine seal_Key_Seal.run (by omega) (by decide) (by omega) ka ha0 (by omega) (ht.up hle) fun H1 k1 o1 => ?_
    have l1 := o1.le hle na
    have kb1 := kb.only o1 (fun e => hab e.symm)
    have hSl : (sealL secret.data.toList (un n) (⟨#[]⟩ : ByteArray).data.toList x.data.toList).length = x.size + 16 := by rw [sealL_len, ba_len]
    refine seal_Key_Open.run (by omega) (by decide) (by rw [ba_size, hSl]; omega) kb1 hb2 (by omega) (ht.up l1) fun H2 o2' k2 o2 ho2 => ?_
    have l2 := o2.le l1 nb
    have ka2 := k1.only o2 hab
    have e2 : openL secret.data.toList (un n) (⟨#[]⟩ : ByteArray).data.toList (⟨(sealL secret.data.toList (un n) (⟨#[]⟩ : ByteArray).data.toList x.data.toList).toArray⟩ : ByteArray).data.toList = (x.data.toList, 0) := by
      rw [ba_list (sealL _ _ _ _), open_seal]
    rw [e2] at ho2 ⊢
    dsimp only at ho2 ⊢
    rw [if_pos rfl] at ho2
    refine ⟨ad, hp, by omega, by omega, x, hc' l2, ?_⟩; dsimp only
    rw [ba_mk, if_neg (by simp), if_neg (by simp)]
    refine ⟨ad, hp, by omega, by omega, x, hc' l2, ?_⟩; dsimp only
    refine seal_New.run (ht.up l2) fun d H3 k3 nd l3 => ⟨⟨x, hc' (l2.trans l3), rfl, rfl⟩, ?_⟩
    have l23 := l2.trans l3
    refine seal_Key_Seal.run (by omega) (by decide) (by omega) k3 (by decide) (by decide) (ht.up l23) fun H4 k4 o4 => ⟨?_⟩
    have hda : a ≠ d := fun e => by
      subst e
      rcases ka2 with h | h
      · rw [h.2] at nd; cases nd
      · rw [h.2] at nd; cases nd
    have hdb : b ≠ d := fun e => by
      subst e
      rcases k2 with h | h
      · rw [h.2] at nd; cases nd
      · rw [h.2] at nd; cases nd
    have ndb : Hb d = none := by
      cases hh : Hb d with
      | none => rfl
      | some o => rw [l2 _ _ hh] at nd; cases nd
    unfold vizardlaw06_SealOwn.J3.vc
    rw [if_neg (by simp)]
    refine ⟨?_⟩
    unfold vizardlaw06_SealOwn.J4.vc
    rw [w_i64 (by omega) (by omega)]
    exact hn H4 ⟨⟨xa + 1, ya, (ka2.le l3).only o4 hda, by omega, by omega, by omega, by omega⟩, ⟨xb, o2', (k2.le l3).only o4 hdb, by omega, by omega, by omega, by omega⟩, o4.le l23 ndb⟩
theorem vizardlaw06_SealOwn.run {H : Heap} (ht : Tabs H) {secret : ByteArray} {p : Option Addr} {len c : Nat} {n : Int} {K : Bool → Heap → Prop} {E : Value → Heap → Prop} (_ : secret.size ≤ reachBytes) (_ : len ≤ c) (hcap : c * 16 ≤ reachBytes)
    (hrows : ∃ rows, RowsAt H p len 1 rows ∧ ∀ es ∈ rows, ∃ y, es = [(.string y)] ∧ y.size ≤ reachBytes) (_ : IntKind.i64.has n) (h : K true H) : vizardlaw06_SealOwn.c secret p len c n K E H := by
  obtain ⟨ss, hat⟩ := strs_of hrows
  refine ⟨?_⟩
  unfold vizardlaw06_SealOwn.vc
  refine vizardlaw06_works.run ht ?_
  rw [if_neg (by simp)]
  by_cases h1 : (secret.size : Int) > 500
  · rw [if_pos (by simpa using h1)]; exact ⟨H, Heap.Le.refl _, h⟩
  · rw [if_neg (by simpa using h1)]
    refine seal_New.run ht fun a H1 k1 na l1 => ?_
    refine seal_New.run (ht.up l1) fun b H2 k2 nb l2 => ?_
    have hab : a ≠ b := fun e => by
      subst e
      rcases k1 with h | h
      · rw [h.2] at nb; cases nb
      · rw [h.2] at nb; cases nb
    have nb0 : H b = none := by
      cases hh : H b with
      | none => rfl
      | some o => rw [l1 _ _ hh] at nb; cases nb
    refine ⟨Loop.of (I := fun st H' m => ∃ i : Nat, st = (i : Int) ∧ i ≤ 10 ∧ m = 10 - i ∧ TwoK H H' a b secret i) ?_ ⟨0, rfl, by decide, rfl, ⟨0, 0, k1.le l2, by decide, by decide, by decide, by decide⟩, ⟨0, 0, k2, by decide, by decide, by decide, by decide⟩, l1.trans l2⟩⟩
    rintro m st H' ⟨i, rfl, hi, rfl, hk⟩ RR hRR
    unfold vizardlaw06_SealOwn.W1.vc
    by_cases hc : i < len
    · rw [if_pos (by rw [decide_eq_true_eq]; omega)]
      by_cases hc2 : i < 10
      · rw [if_pos (by rw [decide_eq_true_eq]; omega)]
        refine vizardlaw06_SealOwn.J2.run ht hat (by omega) hc hc2 na nb0 hab hk (fun H'' hl => ⟨H, hl, h⟩) fun H'' hk2 => hRR _ H'' (10 - (i + 1)) (by omega) ⟨i + 1, rfl, by omega, rfl, hk2⟩
      · rw [if_neg (by rw [decide_eq_true_eq]; omega)]
        exact ⟨H, hk.le, h⟩
    · rw [if_neg (by rw [decide_eq_true_eq]; omega)]
      exact ⟨H, hk.le, h⟩
theorem vizardlaw06_SealOwn.laid {W : World} (h : laidMetH Go.Proofs.Tryd.prog [("vizard/varint.sizes", (.agg (szTab.map fun x => .lit (.int .i64 x)) : DataW Unit)), ("vizard/sha.constants", (.agg (kTab.map fun x => .lit (.int .u32 x)) : DataW Unit))] W) : Tabs (heapOf W) := vizardlaw05_ShaSums.laid h
end Go.Sh
