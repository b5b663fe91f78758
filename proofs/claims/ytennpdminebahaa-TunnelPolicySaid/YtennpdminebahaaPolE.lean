/- The reference's way of asking whether some packet may go; bounds, sorted and chosen. -/
import Derived.Test.YtennpdminebahaaPolD
namespace Go.Sh
def pAt (l : List Rul) (i : Nat) (p : Int) : Prop := (∃ r, l[i]? = some r ∧ r.proto = p ∧ 1 ≤ p) ∨ (i = l.length ∧ 1 ≤ p ∧ p ≤ 255 ∧ ¬ named l p)
def cAt (l : List Rul) (k : Nat) : List Int := match l[k]? with
  | some r => ptsR r
  | none => [0]
theorem can_pts {l : List Rul} {a : Int} (h : ∀ i, i ≤ l.length → ∀ p, pAt l i p → ∀ k, k ≤ l.length → ∀ x ∈ cAt l k, allowL p a x l = false) (hl : l.all Rul.right = true) : canGo l a = false := by
  refine (canGo_of (b := false) ⟨fun h => (by cases h), ?_⟩).symm
  rintro ⟨p, port, ⟨p1, p2⟩, ⟨h0, h1⟩, hal⟩
  obtain ⟨x, hx, hax⟩ := to_pts hl h0 h1 hal
  have hi : ∃ i, i ≤ l.length ∧ pAt l i p := by
    by_cases hn : named l p
    · obtain ⟨r, hr, hp⟩ := hn
      obtain ⟨i, hi⟩ := List.getElem?_of_mem hr
      exact ⟨i, Nat.le_of_lt (List.getElem?_eq_some_iff.1 hi).1, .inl ⟨r, hi, hp, p1⟩⟩
    · exact ⟨l.length, Nat.le_refl _, .inr ⟨rfl, p1, p2, hn⟩⟩
  have hk : ∃ k, k ≤ l.length ∧ x ∈ cAt l k := by
    rcases mem_ptsL.1 hx with rfl | ⟨r, hr, _, hxr⟩
    · exact ⟨l.length, Nat.le_refl _, by unfold cAt; rw [List.getElem?_eq_none (Nat.le_refl _)]; simp⟩
    · obtain ⟨k, hk⟩ := List.getElem?_of_mem hr
      exact ⟨k, Nat.le_of_lt (List.getElem?_eq_some_iff.1 hk).1, by unfold cAt; rw [hk]; exact hxr⟩
  obtain ⟨i, hi, hp⟩ := hi
  obtain ⟨k, hk, hc⟩ := hk
  rw [h i hi p hp k hk x hc] at hax
  cases hax
theorem right_all {l : List Rul} (h : checkL l = 0) : l.all Rul.right = true := by
  unfold checkL at h
  split at h
  · cases h
  · split at h
    · assumption
    · cases h
section
variable {H : Heap} {p : Option Addr} {n c : Nat} {l : List Rul} {a : Int} {Kr : Bool → Heap → Prop} {E : Value → Heap → Prop}
theorem vizardref18_some.J6.run {i0 k0 : Int} {x0 : Bool} {Kn : Heap → Prop} (h1 : x0 = true → Kr true H) (h0 : x0 = false → Kn H) : vizardref18_some.J6 p n c a i0 k0 x0 Kn Kr E H := by
  refine ⟨?_⟩
  unfold vizardref18_some.J6.vc
  cases x0 with
  | true => rw [if_pos rfl]; exact h1 rfl
  | false => rw [if_neg (by simp)]; exact h0 rfl
theorem vizardref18_some.J4.run (hat : RulesAt H p n l) (hf : ∀ r ∈ l, r.fine) (hc : checkL l = 0) (ha : 0 ≤ a ∧ a < 4294967296) {i0 : Int} {k : Nat} (hk : k ≤ n) {q : Int} (hq : 1 ≤ q ∧ q ≤ 255) {Kn : Heap → Prop} (hyes : canGo l a = true → Kr true H) (hno : (∀ x ∈ cAt l k, allowL q a x l = false) → Kn H) :
    vizardref18_some.J4 p n c a i0 (k : Int) q Kn Kr E H := by
  have hlen := hat.len
  have hl := right_all hc
  have hmay : ∀ x, mayGo l q a x = allowL q a x l := fun x => by simp [mayGo, hc]
  have yes : ∀ {x}, 0 ≤ x → x ≤ 65535 → allowL q a x l = true → Kr true H := fun h0 h1 hal => hyes (canGo_of (b := true) ⟨fun _ => ⟨q, _, hq, ⟨h0, h1⟩, hal⟩, fun _ => rfl⟩).symm
  refine ⟨?_⟩
  unfold vizardref18_some.J4.vc
  by_cases hlt : k < n
  · rw [if_pos (by simp; omega)]
    obtain ⟨x, hget⟩ : ∃ x, l[k]? = some x := ⟨l[k]'(by omega), List.getElem?_eq_getElem (by omega)⟩
    have hx := rights hl (List.mem_of_getElem? hget)
    have hcat : cAt l k = ptsR x := by unfold cAt; rw [hget]
    obtain ⟨ad, rfl, f0, f1, f2, f3, f4, f5⟩ := hat.get hget
    refine ⟨ad, rfl, by omega, by omega, x.lo, f4, ⟨?_⟩⟩
    unfold vizardref18_some.J5.vc
    refine vizardref18_Allow.run hat hf ha ?_
    rw [hmay]
    cases h1 : allowL q a x.lo l with
    | true =>
      rw [if_pos rfl]
      exact vizardref18_some.J6.run (fun _ => yes (by omega) (by omega) h1) (fun h => by cases h)
    | false =>
      rw [if_neg (by simp), if_pos (by simp; omega)]
      refine ⟨ad, rfl, by omega, by omega, x.hi, f5, ?_⟩
      dsimp only
      by_cases hhi : x.hi < 65535
      · rw [if_pos (by simpa using hhi)]
        refine ⟨ad, rfl, by omega, by omega, x.hi, f5, ?_⟩
        dsimp only
        rw [w_i64 (by omega) (by omega)]
        refine vizardref18_Allow.run hat hf ha ?_
        rw [hmay]
        refine vizardref18_some.J6.run (fun h2 => yes (by omega) (by omega) h2) (fun h2 => hno fun y hy => ?_)
        rw [hcat] at hy
        rcases mem_ptsR.1 hy with rfl | ⟨_, rfl⟩
        · exact h1
        · exact h2
      · rw [if_neg (by simpa using hhi)]
        refine vizardref18_some.J6.run (fun h => by cases h) (fun _ => hno fun y hy => ?_)
        rw [hcat] at hy
        rcases mem_ptsR.1 hy with rfl | ⟨h3, rfl⟩
        · exact h1
        · exact absurd h3 hhi
  · rw [if_neg (by simp; omega)]
    have hcat : cAt l k = [0] := by unfold cAt; rw [List.getElem?_eq_none (by omega)]
    refine ⟨?_⟩
    unfold vizardref18_some.J5.vc
    refine vizardref18_Allow.run hat hf ha ?_
    rw [hmay]
    cases h1 : allowL q a 0 l with
    | true =>
      rw [if_pos rfl]
      exact vizardref18_some.J6.run (fun _ => yes (by omega) (by omega) h1) (fun h => by cases h)
    | false =>
      rw [if_neg (by simp), if_neg (by simp; omega)]
      refine vizardref18_some.J6.run (fun h => by cases h) (fun _ => hno fun y hy => ?_)
      rw [hcat] at hy
      simp at hy
      subst hy
      exact h1
theorem vizardref18_some.run (hat : RulesAt H p n l) (hf : ∀ r ∈ l, r.fine) (hc : checkL l = 0) (ha : 0 ≤ a ∧ a < 4294967296) (h : Kr (canGo l a) H) : vizardref18_some.c p n c a Kr E H := by
  have hlen := hat.len
  have hl := right_all hc
  have h32 := checkL_len hc
  have hyes : canGo l a = true → ∃ H', Heap.Le H' H ∧ Kr true H' := fun e => ⟨H, Heap.Le.refl _, by rw [e] at h; exact h⟩
  refine ⟨?_⟩
  unfold vizardref18_some.vc
  refine ⟨Loop.of (I := fun s H' m => ∃ i : Nat, s = (i : Int) ∧ i ≤ n + 1 ∧ m = n + 1 - i ∧ H' = H ∧ ∀ i', i' < i → ∀ p, pAt l i' p → ∀ k, k ≤ l.length → ∀ x ∈ cAt l k, allowL p a x l = false) ?_ ⟨0, rfl, Nat.zero_le _, rfl, rfl, fun i' h => by omega⟩⟩
  rintro m s H1 ⟨i, rfl, hi, rfl, rfl, hall⟩ RR hRR
  unfold vizardref18_some.W1.vc
  by_cases hin : i ≤ n
  · rw [if_pos (by simp; omega)]
    refine ⟨Loop.of (I := fun s H' m => ∃ k : Nat, s = (k : Int) ∧ k ≤ n + 1 ∧ m = n + 1 - k ∧ H' = _ ∧ ∀ p, pAt l i p → ∀ k', k' < k → ∀ x ∈ cAt l k', allowL p a x l = false) ?_ ⟨0, rfl, Nat.zero_le _, rfl, rfl, fun p hp k' h => by omega⟩⟩
    rintro m2 s2 H2 ⟨k, rfl, hk, rfl, rfl, hall2⟩ RR2 hRR2
    unfold vizardref18_some.W2.vc
    by_cases hkn : k ≤ n
    · rw [if_pos (by simp; omega)]
      have next : (∀ p, pAt l i p → ∀ x ∈ cAt l k, allowL p a x l = false) → vizardref18_some.J7 p n c a (i : Int) (k : Int) (fun i h => RR2 i h) E H2 := fun hq => by
        refine ⟨?_⟩
        unfold vizardref18_some.J7.vc
        refine hRR2 _ _ (n + 1 - (k + 1)) (by omega) ⟨k + 1, by rw [w_i64 (by omega) (by omega)]; rfl, by omega, rfl, rfl, fun p hp k' hk' x hx => ?_⟩
        by_cases e : k' = k
        · subst e; exact hq p hp x hx
        · exact hall2 p hp k' (by omega) x hx
      have oth : (∀ p, pAt l i p → ¬ named l p ∧ 1 ≤ p ∧ p ≤ 255) → vizardref18_some.J3 p n c a (i : Int) (k : Int) 0 (fun h1 => vizardref18_some.J7 p n c a (i : Int) (k : Int) (fun i h => RR2 i h) E h1) (fun r h => ∃ H', Heap.Le H' h ∧ Kr r H') E H2 := fun hp => by
        refine ⟨?_⟩
        unfold vizardref18_some.J3.vc
        rw [if_pos (by simp)]
        refine vizardref18_other.run hat (by omega) fun q hq => ?_
        refine vizardref18_some.J4.run hat hf hc ha hkn hq.range hyes fun hno => next fun p hpp x hx => ?_
        obtain ⟨n1, n2, n3⟩ := hp p hpp
        rw [to_other n1 (hq.free ⟨p, n2, n3, n1⟩)]
        exact hno x hx
      by_cases hlt : i < n
      · rw [if_pos (by simp; omega)]
        obtain ⟨x, hget⟩ : ∃ x, l[i]? = some x := ⟨l[i]'(by omega), List.getElem?_eq_getElem (by omega)⟩
        have hx := rights hl (List.mem_of_getElem? hget)
        obtain ⟨ad, rfl, f0, f1, _⟩ := hat.get hget
        refine ⟨ad, rfl, by omega, by omega, x.proto, f1, ?_⟩
        by_cases h0 : x.proto = 0
        · rw [h0]
          refine oth fun p hp => ?_
          rcases hp with ⟨r, hr, hp, hp1⟩ | ⟨e, _⟩
          · rw [hget] at hr; cases hr; omega
          · omega
        · refine ⟨?_⟩
          unfold vizardref18_some.J3.vc
          rw [if_neg (by simpa using h0)]
          refine vizardref18_some.J4.run hat hf hc ha hkn ⟨by omega, by omega⟩ hyes fun hno => next fun p hpp y hy => ?_
          rcases hpp with ⟨r, hr, hp, hp1⟩ | ⟨e, _⟩
          · rw [hget] at hr; cases hr; subst hp; exact hno y hy
          · omega
      · rw [if_neg (by simp; omega)]
        refine oth fun p hp => ?_
        rcases hp with ⟨r, hr, _⟩ | ⟨_, h1, h2, h3⟩
        · have := (List.getElem?_eq_some_iff.1 hr).1; omega
        · exact ⟨h3, h1, h2⟩
    · rw [if_neg (by simp; omega)]
      refine hRR _ _ (n + 1 - (i + 1)) (by omega) ⟨i + 1, by rw [w_i64 (by omega) (by omega)]; rfl, by omega, rfl, rfl, fun i' hi' p hp k' hk' x hx => ?_⟩
      by_cases e : i' = i
      · subst e; exact hall2 p hp k' (by omega) x hx
      · exact hall i' (by omega) p hp k' hk' x hx
  · rw [if_neg (by simp; omega)]
    refine ⟨_, Heap.Le.refl _, ?_⟩
    rw [can_pts (fun i' hi' p hp k hk x hx => hall i' (by omega) p hp k hk x hx) hl] at h
    exact h
end
/-! ### Rows are sorted, and made shorter -/
theorem slices_Sort.run {H : Heap} {e : TypeId} {p : Option Addr} {n c : Nat} {l : List Int} (h : OwnRows H e 1 p n c (irow l)) (h0 : 0 < n) (hn : n ≤ 1000000) {K : Heap → Prop} {E : Value → Heap → Prop}
    (hk : ∀ H', OwnRows H' e 1 p n c (irow (l.mergeSort fun x y => decide (x ≤ y))) → Step (bl p) H (bl p) H' → K H') : slices_Sort___int64_int64_.c p n c K E H := by
  obtain ⟨h1, h2, h3, h4⟩ := h
  rcases h4 with ⟨_, hc⟩ | ⟨b, arr, rfl, hb, hsz, ht⟩
  · omega
  · have hl : l.length = n := by simpa [irow] using h1
    rw [Nat.mul_one] at hsz ht
    refine ⟨b, arr, e, l, rfl, hl, by omega, by omega, hb, by rw [ht, irow_flat], fun arr' hs ht' => hk _ ⟨?_, irow_len _, h3, .inr ⟨b, arr', rfl, set_self _ _ _, by rw [hs, hsz, Nat.mul_one], ?_⟩⟩ (Step.set _ _ _)⟩
    · simp [irow, List.length_mergeSort, hl]
    · rw [Nat.mul_one, ht', irow_flat]
theorem slices_Compact.run {H : Heap} {e : TypeId} {p : Option Addr} {n c : Nat} {l : List Int} (h : OwnRows H e 1 p n c (irow l)) (h0 : 0 < n) (hn : n ≤ 1000000) {K : Option Addr → Nat → Nat → Heap → Prop} {E : Value → Heap → Prop}
    (hk : ∀ H', OwnRows H' e 1 p (Lib.compact l).length c (irow (Lib.compact l)) → Step (bl p) H (bl p) H' → K p (Lib.compact l).length c H') : slices_Compact___int64_int64_.c p n c K E H := by
  obtain ⟨h1, h2, h3, h4⟩ := h
  rcases h4 with ⟨_, hc⟩ | ⟨b, arr, rfl, hb, hsz, ht⟩
  · omega
  · have hl : l.length = n := by simpa [irow] using h1
    have hcl : (Lib.compact l).length ≤ l.length := compactUpTo_len _ _
    rw [Nat.mul_one] at hsz ht
    refine ⟨b, arr, e, l, rfl, hl, by omega, by omega, h3, hb, by rw [ht, irow_flat], fun arr' hs ht' => hk _ ⟨?_, irow_len _, by omega, .inr ⟨b, arr', rfl, set_self _ _ _, by rw [hs, hsz, Nat.mul_one], ?_⟩⟩ (Step.set _ _ _)⟩
    · simp [irow]
    · rw [Nat.mul_one, ht', irow_flat]
end Go.Sh
