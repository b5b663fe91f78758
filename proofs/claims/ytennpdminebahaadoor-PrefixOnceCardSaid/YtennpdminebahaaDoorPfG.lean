/- PrefixOnce: each address is in just one of the prefixes; at most 62 of them. -/
import Derived.Test.YtennpdminebahaaDoorPfF
namespace Go.Sh
open Go.Proofs Num Go.ChangeShapes Go.WideShapes Go.RowKit
set_option maxRecDepth 8000
/-! ### At most 62 -/
theorem covers_down {hi : Nat} : ∀ (k lo : Nat), k ≤ 32 → lo % 2 ^ k = 0 → hi + 1 < lo + 2 ^ k → (covers lo hi).length ≤ k
  | 0, lo, _, _, h => by
    rw [covers_end (by simp at h; omega)]
    exact Nat.le_refl _
  | k + 1, lo, hk, hd, h => by
    have hd0 : lo % 2 ^ k = 0 := dvd_up (by omega) hd
    have hp : 2 ^ (k + 1) = 2 * 2 ^ k := by rw [Nat.pow_succ]; omega
    by_cases hc : hi + 1 < lo + 2 ^ k
    · have := covers_down (hi := hi) k lo (by omega) hd0 hc
      omega
    · rw [covers_pick (e := k) (by omega) hd0 (by omega) fun f h1 _ _ => ?_]
      · have := covers_down (hi := hi) k (lo + 2 ^ k) (by omega) (by rw [Nat.add_mod_right]; exact hd0) (by omega)
        rw [List.length_cons]
        omega
      · have : 2 ^ (k + 1) ≤ 2 ^ f := Nat.pow_le_pow_right (by decide) (by omega)
        omega
theorem covers_up {hi : Nat} (hh : hi < 4294967296) : ∀ (j lo : Nat), j ≤ 31 → 1 ≤ lo → lo ≤ 4294967296 → lo % 2 ^ (31 - j) = 0 → (covers lo hi).length ≤ j + 31
  | 0, lo, _, h1, h2, hd => by
    have e31 : 2 ^ (31 - 0) = 2147483648 := by decide
    rw [e31] at hd
    by_cases hc : hi < lo
    · rw [covers_end hc]; simp
    · have hlo : lo = 2147483648 := by omega
      subst hlo
      by_cases hc2 : hi + 1 < 2147483648 + 2 ^ 31
      · have := covers_down 31 2147483648 (by decide) (by decide) hc2
        omega
      · rw [covers_pick (e := 31) (by decide) (by decide) (by omega) fun f h3 h4 h5 => ?_]
        · rw [covers_end (by omega)]; simp
        · have : f = 32 := by omega
          subst this
          exact absurd h5 (by decide)
  | j + 1, lo, hj, h1, h2, hd => by
    have hp : 2 ^ (31 - j) = 2 * 2 ^ (31 - (j + 1)) := by
      rw [show 31 - j = 31 - (j + 1) + 1 by omega, Nat.pow_succ]; omega
    by_cases hd2 : lo % 2 ^ (31 - j) = 0
    · have := covers_up hh j lo (by omega) h1 h2 hd2
      omega
    · by_cases hc : hi + 1 < lo + 2 ^ (31 - (j + 1))
      · have := covers_down (31 - (j + 1)) lo (by omega) hd hc
        omega
      · have hpos := Nat.two_pow_pos (31 - (j + 1))
        rw [covers_pick (e := 31 - (j + 1)) (by omega) hd (by omega) fun f h3 h4 h5 => absurd (dvd_up (a := 31 - j) (by omega) h5) hd2]
        have hm : (lo + 2 ^ (31 - (j + 1))) % 2 ^ (31 - j) = 0 := by
          rw [hp] at hd2 ⊢
          obtain ⟨q, hq⟩ : ∃ q, lo = 2 ^ (31 - (j + 1)) * q := ⟨lo / 2 ^ (31 - (j + 1)), by have := Nat.div_add_mod lo (2 ^ (31 - (j + 1))); rw [hd] at this; omega⟩
          rw [hq] at hd2 ⊢
          rw [show 2 * 2 ^ (31 - (j + 1)) = 2 ^ (31 - (j + 1)) * 2 by omega] at hd2 ⊢
          rw [Nat.mul_mod_mul_left] at hd2
          have : 2 ^ (31 - (j + 1)) * q + 2 ^ (31 - (j + 1)) = 2 ^ (31 - (j + 1)) * (q + 1) := by rw [Nat.mul_add]; omega
          rw [this, Nat.mul_mod_mul_left]
          have h6 : q % 2 ≠ 0 := fun e => hd2 (by rw [e]; rfl)
          rw [show (q + 1) % 2 = 0 by omega]
          rfl
        have := covers_up hh j (lo + 2 ^ (31 - (j + 1))) (by omega) (by omega) (by omega) hm
        rw [List.length_cons]
        omega
theorem covers_len {lo hi : Nat} (hlo : lo < 4294967296) (hh : hi < 4294967296) : (covers lo hi).length ≤ 62 := by
  by_cases h0 : lo = 0
  · subst h0
    by_cases hc : hi + 1 < 0 + 2 ^ 32
    · have := covers_down 32 0 (by decide) (by decide) hc
      omega
    · rw [covers_pick (e := 32) (by decide) (by decide) (by omega) fun f h3 h4 h5 => by omega]
      rw [covers_end (by omega)]
      simp
  · exact covers_up hh 31 lo (by decide) (by omega) (by omega) (by simp [Nat.mod_one])
/-! ### One behind the other -/
def Segs (hi : Nat) : Nat → List (Nat × Nat) → Prop
  | lo, [] => lo = hi + 1
  | lo, x :: r => x.1 = lo ∧ x.2 ≤ 32 ∧ lo % 2 ^ (32 - x.2) = 0 ∧ lo + 2 ^ (32 - x.2) ≤ hi + 1 ∧ Segs hi (lo + 2 ^ (32 - x.2)) r
theorem pick_ok {lo hi : Nat} (h : lo ≤ hi) : pickN lo hi ≤ 32 ∧ okN lo hi (pickN lo hi) = true := by
  have key : ∀ f m : Nat, m + f = 32 → leastN lo hi f m ≤ 32 ∧ okN lo hi (leastN lo hi f m) = true := by
    intro f
    induction f with
    | zero => intro m hm; unfold leastN; have : m = 32 := by omega
              subst this; exact ⟨by omega, ok_last h⟩
    | succ f ih =>
      intro m hm
      unfold leastN
      split
      · rename_i hc; exact ⟨by omega, hc⟩
      · exact ih (m + 1) (by omega)
  exact key 32 0 rfl
theorem covers_segs {hi : Nat} : ∀ (m lo : Nat), hi + 1 - lo ≤ m → lo ≤ hi + 1 → Segs hi lo (covers lo hi)
  | 0, lo, h1, h2 => by
    rw [covers_end (by omega)]
    show lo = hi + 1
    omega
  | m + 1, lo, h1, h2 => by
    by_cases hc : lo ≤ hi
    · obtain ⟨k1, k2⟩ := pick_ok hc
      obtain ⟨k3, k4⟩ := okN_spec.1 k2
      have hpos := Nat.two_pow_pos (32 - pickN lo hi)
      rw [covers_step hc]
      exact ⟨rfl, k1, k3, k4, covers_segs m (lo + 2 ^ (32 - pickN lo hi)) (by omega) k4⟩
    · rw [covers_end (by omega)]
      show lo = hi + 1
      omega
theorem Segs.okAt {hi : Nat} : ∀ {l : List (Nat × Nat)} {lo : Nat}, Segs hi lo l → ∀ (i : Nat) (x : Nat × Nat), l[i]? = some x → chk x.1 x.2 = true ∧ x.1 ≤ hi ∧ x.2 ≤ 32 ∧ lo ≤ x.1
  | [], _, _, i, x, h => by simp at h
  | y :: r, lo, ⟨h1, h2, h3, h4, h5⟩, i, x, h => by
    have hpos := Nat.two_pow_pos (32 - y.2)
    cases i with
    | zero =>
      simp only [List.getElem?_cons_zero, Option.some.injEq] at h
      subst h
      refine ⟨chk_of h2 ?_, by omega, h2, by omega⟩
      rw [pw_nat h2, h1]
      exact_mod_cast h3
    | succ i =>
      obtain ⟨k1, k2, k3, k4⟩ := h5.okAt i x (by simpa using h)
      exact ⟨k1, k2, k3, by omega⟩
theorem Segs.rise {hi : Nat} : ∀ {l : List (Nat × Nat)} {lo : Nat}, Segs hi lo l → ∀ (i : Nat) (x y : Nat × Nat), l[i]? = some x → l[i + 1]? = some y → x.1 < y.1
  | [], _, _, i, x, y, h, _ => by simp at h
  | z :: r, lo, ⟨h1, h2, h3, h4, h5⟩, i, x, y, hx, hy => by
    have hpos := Nat.two_pow_pos (32 - z.2)
    cases i with
    | zero =>
      simp only [List.getElem?_cons_zero, Option.some.injEq] at hx
      subst hx
      have := (h5.okAt 0 y (by simpa using hy)).2.2.2
      omega
    | succ i => exact h5.rise i x y (by simpa using hx) (by simpa using hy)
def inN (a : Nat) (x : Nat × Nat) : Bool := hasB x.1 x.2 a
theorem Segs.count {hi a : Nat} : ∀ {l : List (Nat × Nat)} {lo : Nat}, Segs hi lo l → l.countP (inN a) = if lo ≤ a ∧ a ≤ hi then 1 else 0
  | [], lo, h => by
    have h : lo = hi + 1 := h
    rw [if_neg (by omega)]
    rfl
  | x :: r, lo, ⟨h1, h2, h3, h4, h5⟩ => by
    have hpos := Nat.two_pow_pos (32 - x.2)
    have hck : chk x.1 x.2 = true := by
      refine chk_of h2 ?_
      rw [pw_nat h2, h1]
      exact_mod_cast h3
    rw [List.countP_cons, h5.count]
    have hin : inN a x = decide (lo ≤ a ∧ a < lo + 2 ^ (32 - x.2)) := by
      unfold inN
      rw [has_on hck, pw_nat h2, h1]
      apply decide_eq_decide.2
      omega
    rw [hin]
    by_cases c : lo ≤ a ∧ a < lo + 2 ^ (32 - x.2)
    · rw [decide_eq_true c, if_pos rfl, if_neg (by omega), if_pos (by omega)]
    · rw [decide_eq_false c, if_neg (show ¬ (false = true) by simp)]
      by_cases c2 : lo ≤ a ∧ a ≤ hi
      · rw [if_pos (by omega), if_pos c2]
      · rw [if_neg (by omega), if_neg c2]
theorem vizardlaw04_PrefixOnce.run {H : Heap} (ph : PH H) {low high a : Int} {K : Bool → Heap → Prop} {E : Value → Heap → Prop} (hl : IntKind.u32.has low) (hh : IntKind.u32.has high) (ha : IntKind.u32.has a) (h : K true H) : vizardlaw04_PrefixOnce.c low high a K E H := by
  have l1 := has_u32 hl
  have h1 := has_u32 hh
  have a1 := has_u32 ha
  obtain ⟨lo, rfl⟩ := Int.eq_ofNat_of_zero_le l1.1
  obtain ⟨hi, rfl⟩ := Int.eq_ofNat_of_zero_le h1.1
  obtain ⟨A, rfl⟩ := Int.eq_ofNat_of_zero_le a1.1
  refine ⟨?_⟩
  unfold vizardlaw04_PrefixOnce.vc
  refine vizardlaw04_works.run ph fun H1 hle1 => ?_
  rw [if_neg (show ¬ ((!true) = true) by simp)]
  refine prefix_Cover.run (ph.db.le hle1) (by omega) (by omega) fun p c H2 ho hs => ?_
  have hlen := covers_len (lo := lo) (hi := hi) (by omega) (by omega)
  have hcnt : (covers lo hi).countP (inN A) = if lo ≤ A ∧ A ≤ hi then 1 else 0 := by
    by_cases hc : lo ≤ hi + 1
    · exact (covers_segs _ lo (Nat.le_refl _) hc).count
    · rw [covers_end (by omega), if_neg (by omega)]; rfl
  have hfin : ∃ H', Heap.Le H' H2 ∧ K (decide (((covers lo hi).length : Int) ≤ 62)) H' := ⟨H, hle1.trans hs.le, by rw [decide_eq_true (by omega)]; exact h⟩
  refine ⟨Loop.of (I := fun st H' m => ∃ k : Nat, st = ((((covers lo hi).take k).countP (inN A) : Int), (k : Int)) ∧ k ≤ (covers lo hi).length ∧ m = (covers lo hi).length - k ∧ H' = H2) ?_ ⟨0, rfl, Nat.zero_le _, rfl, rfl⟩⟩
  rintro m st H' ⟨k, rfl, hk, rfl, rfl⟩ RR hRR
  unfold vizardlaw04_PrefixOnce.W1.vc
  dsimp only
  by_cases hc : k < (covers lo hi).length
  · rw [if_pos (by rw [decide_eq_true_eq]; omega)]
    have hsg : Segs hi lo (covers lo hi) := by
      by_cases hc2 : lo ≤ hi + 1
      · exact covers_segs _ lo (Nat.le_refl _) hc2
      · rw [covers_end (by omega)] at hc; simp at hc
    obtain ⟨x, hx⟩ : ∃ x, (covers lo hi)[k]? = some x := ⟨_, List.getElem?_eq_getElem hc⟩
    have hx2 : (crow (covers lo hi))[k]? = some [.int .u32 (x.1 : Int), .int .i64 (x.2 : Int)] := by simp [crow, hx]
    obtain ⟨a1', ha1, c1⟩ := ho.at.cell hx2
    obtain ⟨k1, k2, k3, k4⟩ := hsg.okAt k x hx
    have tail : vizardlaw04_PrefixOnce.J3 lo hi A p (covers lo hi).length c (((covers lo hi).take k).countP (inN A) : Int) k (fun n1 h3 => vizardlaw04_PrefixOnce.J4 lo hi A p (covers lo hi).length c n1 k (fun i1 h4 => RR (n1, i1) h4) E h3) E H' := by
      refine ⟨?_⟩
      unfold vizardlaw04_PrefixOnce.J3.vc
      refine ⟨a1', ha1, by omega, by omega, ?_⟩
      rw [Int.toNat_natCast]
      refine ⟨_, c1 0 _ rfl, _, c1 1 _ rfl, prefix_Has.run (by omega) (by omega) (by omega) (by omega) ?_⟩
      have htk : ((covers lo hi).take (k + 1)).countP (inN A) = ((covers lo hi).take k).countP (inN A) + if inN A x = true then 1 else 0 := by
        rw [List.take_add_one, List.countP_append, hx]
        simp [List.countP_cons]
      have hcl : ((covers lo hi).take k).countP (inN A) ≤ 62 := Nat.le_trans List.countP_le_length (by rw [List.length_take]; omega)
      have go : ∀ n1 : Int, n1 = (((covers lo hi).take (k + 1)).countP (inN A) : Int) → vizardlaw04_PrefixOnce.J4 lo hi A p (covers lo hi).length c n1 k (fun i1 h4 => RR (n1, i1) h4) E H' := fun n1 hn1 => by
        refine ⟨?_⟩
        unfold vizardlaw04_PrefixOnce.J4.vc
        rw [w_i64 (by omega) (by omega)]
        exact hRR _ _ ((covers lo hi).length - (k + 1)) (by omega) ⟨k + 1, by rw [hn1]; rfl, by omega, rfl, rfl⟩
      by_cases hb : hasB x.1 x.2 A = true
      · rw [if_pos hb, w_i64 (by omega) (by omega)]
        refine go _ ?_
        rw [htk, if_pos (show inN A x = true from hb)]
        rfl
      · rw [if_neg hb]
        refine go _ ?_
        rw [htk, if_neg (show ¬ inN A x = true from hb)]
        rfl
    refine ⟨a1', ha1, by omega, by omega, ?_⟩
    rw [Int.toNat_natCast]
    refine ⟨_, c1 0 _ rfl, _, c1 1 _ rfl, prefix_Check.run (by omega) (by omega) ?_⟩
    rw [k1, if_neg (show ¬ ((!true) = true) by simp)]
    by_cases h0 : k = 0
    · rw [if_neg (by simp [h0])]
      refine ⟨?_⟩
      unfold vizardlaw04_PrefixOnce.J2.vc
      rw [if_neg (by simp)]
      exact tail
    · rw [if_pos (by simp; omega)]
      obtain ⟨y, hy⟩ : ∃ y, (covers lo hi)[k - 1]? = some y := ⟨_, List.getElem?_eq_getElem (by omega)⟩
      have hy2 : (crow (covers lo hi))[k - 1]? = some [.int .u32 (y.1 : Int), .int .i64 (y.2 : Int)] := by simp [crow, hy]
      obtain ⟨a2', ha2, c2⟩ := ho.at.cell hy2
      have hr := hsg.rise (k - 1) y x hy (by rw [show k - 1 + 1 = k by omega]; exact hx)
      have hw : IntKind.i64.wrap ((k : Int) - 1) = ((k - 1 : Nat) : Int) := by rw [w_i64 (by omega) (by omega)]; omega
      refine ⟨a1', ha1, by omega, by omega, ?_⟩
      refine ⟨_, c1 0 _ rfl, a2', ha2, ?_⟩
      rw [hw, Int.toNat_natCast]
      refine ⟨by omega, by omega, _, c2 0 _ rfl, ⟨?_⟩⟩
      unfold vizardlaw04_PrefixOnce.J2.vc
      rw [if_neg (by rw [decide_eq_true_eq]; omega)]
      exact tail
  · rw [if_neg (by rw [decide_eq_true_eq]; omega)]
    have hke : k = (covers lo hi).length := by omega
    subst hke
    rw [List.take_length, hcnt]
    by_cases hA : lo ≤ A
    · rw [if_pos (by rw [decide_eq_true_eq]; omega)]
      refine ⟨?_⟩
      unfold vizardlaw04_PrefixOnce.J5.vc
      by_cases hB : A ≤ hi
      · rw [if_pos (by rw [decide_eq_true_eq]; omega), if_pos (by rw [if_pos ⟨hA, hB⟩]; rfl)]
        exact hfin
      · rw [if_neg (by rw [decide_eq_true_eq]; omega)]
        refine ⟨?_⟩
        unfold vizardlaw04_PrefixOnce.J6.vc
        rw [if_pos (by rw [if_neg (by omega)]; rfl)]
        exact hfin
    · rw [if_neg (by rw [decide_eq_true_eq]; omega)]
      refine ⟨?_⟩
      unfold vizardlaw04_PrefixOnce.J5.vc
      rw [if_neg (by simp)]
      refine ⟨?_⟩
      unfold vizardlaw04_PrefixOnce.J6.vc
      rw [if_pos (by rw [if_neg (by omega)]; rfl)]
      exact hfin
end Go.Sh
