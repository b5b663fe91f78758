/- PrefixOnce, PrefixHalves, PrefixEdges, PrefixBack. -/
import Derived.Test.YtennpdminebahaaDoorPfW
namespace Go.Sh
open Go.Proofs Num Go.ChangeShapes Go.WideShapes Go.RowKit
set_option maxRecDepth 8000
/-! ### It works -/
theorem works_a : parseV (⟨#[49, 48, 46, 48, 46, 48, 46, 49]⟩ : ByteArray) = (167772161, true) := by
  have e : (⟨#[49, 48, 46, 48, 46, 48, 46, 49]⟩ : ByteArray) = dotB 167772161 := ba_ext (by rw [dotB_list (by decide)]; decide)
  rw [e]
  exact parse_dot (by decide)
theorem works_b : (parseV (⟨#[48, 49, 48, 46, 48, 46, 48, 46, 49]⟩ : ByteArray)).2 = false := by
  rcases parse_cases (⟨#[48, 49, 48, 46, 48, 46, 48, 46, 49]⟩ : ByteArray) with ⟨a, ha, he, _⟩ | ⟨_, hp⟩
  · exfalso
    have h1 := congrArg (fun x : ByteArray => x.data.toList) he
    dsimp only at h1
    rw [dotB_list ha] at h1
    have h2 := refA_dot ha
    rw [← h1] at h2
    have h3 : refA [48, 49, 48, 46, 48, 46, 48, 46, 49] = 167772161 := by decide
    have h4 : a = 167772161 := by rw [← h2]; exact h3
    subst h4
    exact absurd h1 (by decide)
  · rw [hp]
theorem works_c : (covers 167772161 167772164).length = 3 := by decide +kernel
theorem works_d : printB 167772160 8 = (⟨#[49, 48, 46, 48, 46, 48, 46, 48, 47, 56]⟩ : ByteArray) := ba_ext (by rw [print_list (by decide) (by decide)]; decide)
theorem works_e : chk (167772160 : Nat) 8 = true := by decide +kernel
theorem vizardlaw04_works.run {H : Heap} (ph : PH H) {K : Bool → Heap → Prop} {E : Value → Heap → Prop} (h : ∀ H', Heap.Le H H' → K true H') : vizardlaw04_works.c K E H := by
  refine ⟨?_⟩
  unfold vizardlaw04_works.vc
  refine prefix_Parse.run ph.g (by decide) (prefix_Parse.run ph.g (by decide) ?_)
  rw [works_a, works_b]
  dsimp only
  rw [if_pos (by decide), if_pos rfl, if_pos (by decide)]
  refine prefix_Print.run (a := 167772160) ph.g.tab (by decide) fun H1 hle1 => ?_
  rw [works_e, show pprint 167772160 (8 : Int).toNat true = _ from works_d, if_pos (by simp)]
  refine prefix_Cover.run (low := 167772161) (high := 167772164) (ph.db.le hle1) (by decide) (by decide) fun p c H2 ho hs => ?_
  rw [works_c]
  exact ⟨H2, Heap.Le.refl _, h H2 (hle1.trans hs.le)⟩
/-! ### Halves, edges -/
theorem pw_succ {n : Nat} (h : n < 32) : pw (n : Int) = 2 * pw ((n : Int) + 1) := by
  unfold pw
  have e : ((32 : Int) - n).toNat = ((32 : Int) - (n + 1)).toNat + 1 := by omega
  rw [e, Nat.pow_succ]
  omega
theorem has_off {p b a : Int} (h : chk p b = false) : hasB p b a = false := by unfold hasB; rw [h]; rfl
theorem has_on {p b a : Int} (h : chk p b = true) : hasB p b a = decide (p ≤ a ∧ a < p + pw b) := by unfold hasB; rw [h]; rfl
theorem chk_of {p : Int} {n : Nat} (hn : n ≤ 32) (h : p % (pw n : Int) = 0) : chk p n = true := by unfold chk; exact decide_eq_true ⟨by omega, by omega, h⟩
theorem vizardlaw04_PrefixHalves.run {H : Heap} (ph : PH H) {p b a : Int} {K : Bool → Heap → Prop} {E : Value → Heap → Prop} (hp : IntKind.u32.has p) (_ : IntKind.i64.has b) (ha : IntKind.u32.has a) (h : K true H) : vizardlaw04_PrefixHalves.c p b a K E H := by
  have p1 := has_u32 hp
  have a1 := has_u32 ha
  refine ⟨?_⟩
  unfold vizardlaw04_PrefixHalves.vc
  refine newB_le fun b0 H1 hn0 hl0 hle0 => ?_
  have ph1 : PH H1 := ⟨ph.g.le hle0, ph.db.le hle0⟩
  refine vizardlaw04_works.run ph1 fun H2 hle2 => ?_
  rw [if_neg (show ¬ ((!true) = true) by simp)]
  have l2 := hle2 _ _ hl0
  have fin : ∀ H', Heap.Le H2 H' → (∃ H3, Heap.Le H3 H' ∧ K true H3) := fun H' hl => ⟨H, (hle0.trans hle2).trans hl, h⟩
  refine ⟨_, loc l2 rfl, _, loc l2 rfl, prefix_Check.run (by omega) (by omega) ?_⟩
  cases hc : chk p b with
  | false =>
    rw [if_pos (show (!false) = true from rfl)]
    refine ⟨?_⟩
    unfold vizardlaw04_PrefixHalves.J1.vc
    rw [if_pos rfl]
    exact fin _ (Heap.Le.refl _)
  | true =>
    rw [if_neg (show ¬ ((!true) = true) by simp)]
    obtain ⟨b0', b1', hm, hle⟩ := chk_le (by omega) (by omega) hc
    obtain ⟨n, rfl⟩ := Int.eq_ofNat_of_zero_le b0'
    refine ⟨_, loc l2 rfl, ⟨?_⟩⟩
    unfold vizardlaw04_PrefixHalves.J1.vc
    by_cases h32 : n = 32
    · rw [if_pos (by simp [h32])]
      exact fin _ (Heap.Le.refl _)
    · rw [if_neg (by simp; omega)]
      refine ⟨?_⟩
      unfold vizardlaw04_PrefixHalves.J2.vc
      have hw : IntKind.i64.wrap ((n : Int) + 1) = (n : Int) + 1 := w_i64 (by omega) (by omega)
      have hw2 : IntKind.i64.wrap (31 - (n : Int)) = 31 - (n : Int) := w_i64 (by omega) (by omega)
      have hq : pw (n : Int) = 2 * pw ((n : Int) + 1) := pw_succ (by omega)
      have hpos := pw_pos ((n : Int) + 1)
      have hsh : IntKind.u32.wrap (p + shlI .u32 1 (31 - (n : Int))) = p + pw ((n : Int) + 1) := by
        have e1 : shlI .u32 1 (31 - (n : Int)) = pw ((n : Int) + 1) := by
          unfold shlI
          have hmn : min (31 - (n : Int)).toNat IntKind.u32.bits = (31 - (n : Int)).toNat := Nat.min_eq_left (by show (31 - (n : Int)).toNat ≤ 32; omega)
          rw [hmn, Int.one_mul]
          have e3 : ((2 : Int) ^ (31 - (n : Int)).toNat) = (pw ((n : Int) + 1) : Int) := by
            unfold pw
            rw [show ((32 : Int) - ((n : Int) + 1)).toNat = (31 - (n : Int)).toNat by omega]
            push_cast; rfl
          rw [e3]
          exact w_u32 (by omega) (by omega)
        rw [e1]
        exact w_u32 (by omega) (by omega)
      have ck1 : chk p ((n : Int) + 1) = true := by
        have := chk_of (p := p) (n := n + 1) (by omega) (by
          push_cast
          rw [hq] at hm
          push_cast at hm
          exact Int.emod_eq_zero_of_dvd (Int.dvd_trans (Int.dvd_mul_left 2 _) (Int.dvd_of_emod_eq_zero hm)))
        push_cast at this
        exact this
      have ck2 : chk (p + pw ((n : Int) + 1)) ((n : Int) + 1) = true := by
        have := chk_of (p := p + pw ((n : Int) + 1)) (n := n + 1) (by omega) (by
          push_cast
          rw [hq] at hm
          push_cast at hm
          exact Int.emod_eq_zero_of_dvd (Int.dvd_add (Int.dvd_trans (Int.dvd_mul_left 2 _) (Int.dvd_of_emod_eq_zero hm)) (Int.dvd_refl _)))
        push_cast at this
        exact this
      refine ⟨_, loc l2 rfl, _, loc l2 rfl, ?_⟩
      dsimp only
      rw [hw]
      refine new2_le fun b1 H3 hn1 hl1 hle3 => ?_
      have l3 := hle3 _ _ l2
      refine ⟨_, loc l3 rfl, _, loc l3 rfl, ?_⟩
      dsimp only
      rw [hw2]
      refine ⟨by omega, _, loc l3 rfl, ?_⟩
      dsimp only
      rw [hw, hsh]
      intro b2 hb2
      have hle4' := Le_set hb2 (.cells #[(.int .u32 0), (.int .i64 0)] 24)
      have l4' := hle4' _ _ l3
      refine ⟨⟨_, loc l4' rfl, rfl, rfl⟩, ⟨_, loc l4' rfl, rfl, rfl⟩, ⟨_, loc l4' rfl, rfl, rfl⟩, ?_⟩
      refine st_two (set_self _ _ _) fun H4 hl2 hrest => ?_
      have hle4 : Heap.Le H3 H4 := le_two hb2 hle4' hrest
      have l4 := hle4 _ _ l3
      have m4 := hle4 _ _ hl1
      refine ⟨_, loc m4 rfl, _, loc m4 rfl, _, loc hl2 rfl, _, loc hl2 rfl, prefix_Has.run (by omega) (by omega) (by omega) (by omega) ?_⟩
      refine ⟨⟨_, loc hl2 rfl, _, loc hl2 rfl, rfl, rfl⟩, prefix_Has.run (by omega) (by omega) (by omega) (by omega) ?_⟩
      refine ⟨_, loc m4 rfl, _, loc m4 rfl, prefix_Check.run (by omega) (by omega) ?_⟩
      rw [ck1, if_pos rfl]
      refine ⟨_, loc hl2 rfl, _, loc hl2 rfl, prefix_Check.run (by omega) (by omega) ?_⟩
      rw [ck2, if_pos rfl]
      refine ⟨_, loc l4 rfl, _, loc l4 rfl, prefix_Has.run (by omega) (by omega) (by omega) (by omega) ?_⟩
      rw [has_on ck1, has_on ck2, has_on hc, hq]
      push_cast
      have hx : (!(decide (p ≤ a ∧ a < p + (pw ((n : Int) + 1) : Int)) == decide (p + (pw ((n : Int) + 1) : Int) ≤ a ∧ a < p + (pw ((n : Int) + 1) : Int) + (pw ((n : Int) + 1) : Int)))) = decide (p ≤ a ∧ a < p + 2 * (pw ((n : Int) + 1) : Int)) := by
        by_cases c1 : p ≤ a ∧ a < p + (pw ((n : Int) + 1) : Int)
        · rw [decide_eq_true c1, decide_eq_false (show ¬ (p + (pw ((n : Int) + 1) : Int) ≤ a ∧ a < p + (pw ((n : Int) + 1) : Int) + (pw ((n : Int) + 1) : Int)) by omega), decide_eq_true (show p ≤ a ∧ a < p + 2 * (pw ((n : Int) + 1) : Int) by omega)]
          rfl
        · rw [decide_eq_false c1]
          by_cases c2 : p + (pw ((n : Int) + 1) : Int) ≤ a ∧ a < p + (pw ((n : Int) + 1) : Int) + (pw ((n : Int) + 1) : Int)
          · rw [decide_eq_true c2, decide_eq_true (show p ≤ a ∧ a < p + 2 * (pw ((n : Int) + 1) : Int) by omega)]
            rfl
          · rw [decide_eq_false c2, decide_eq_false (show ¬ (p ≤ a ∧ a < p + 2 * (pw ((n : Int) + 1) : Int)) by omega)]
            rfl
      rw [hx, if_pos (by simp)]
      refine ⟨_, loc m4 rfl, _, loc m4 rfl, prefix_Has.run (by omega) (by omega) (by omega) (by omega) ?_⟩
      rw [has_on ck1]
      by_cases c1 : p ≤ a ∧ a < p + (pw ((n : Int) + 1) : Int)
      · rw [if_pos (decide_eq_true c1)]
        refine ⟨_, loc hl2 rfl, _, loc hl2 rfl, prefix_Has.run (by omega) (by omega) (by omega) (by omega) ?_⟩
        rw [has_on ck2, decide_eq_false (show ¬ (p + (pw ((n : Int) + 1) : Int) ≤ a ∧ a < p + (pw ((n : Int) + 1) : Int) + (pw ((n : Int) + 1) : Int)) by omega)]
        exact fin _ (hle3.trans hle4)
      · rw [if_neg (by rw [decide_eq_false c1]; simp)]
        exact fin _ (hle3.trans hle4)
end Go.Sh
