/- PrefixEdges, PrefixBack. -/
import Derived.Test.YtennpdminebahaaDoorPfE
namespace Go.Sh
open Go.Proofs Num Go.ChangeShapes Go.WideShapes Go.RowKit
set_option maxRecDepth 8000
/-- One pick: 2^e addresses. -/
theorem covers_pick {lo hi e : Nat} (he : e ≤ 32) (hd : lo % 2 ^ e = 0) (hf : lo + 2 ^ e ≤ hi + 1) (hno : ∀ f, e < f → f ≤ 32 → lo % 2 ^ f = 0 → hi + 1 < lo + 2 ^ f) : covers lo hi = (lo, 32 - e) :: covers (lo + 2 ^ e) hi := by
  have hp : pickN lo hi = 32 - e := pickN_eq (by omega) (okN_spec.2 ⟨by rw [show 32 - (32 - e) = e by omega]; exact hd, by rw [show 32 - (32 - e) = e by omega]; exact hf⟩) fun j hj => by
    cases hb : okN lo hi j with
    | false => rfl
    | true =>
      obtain ⟨h1, h2⟩ := okN_spec.1 hb
      have := hno (32 - j) (by omega) (by omega) h1
      omega
  have hpos := Nat.two_pow_pos e
  rw [covers_step (by omega), hp, show 32 - (32 - e) = e by omega]
theorem covers_one {a n : Nat} (hn : n ≤ 32) (hd : a % 2 ^ (32 - n) = 0) : covers a (a + 2 ^ (32 - n) - 1) = [(a, n)] := by
  have hpos := Nat.two_pow_pos (32 - n)
  rw [covers_pick (e := 32 - n) (by omega) hd (by omega) fun f h1 _ _ => ?_]
  · rw [covers_end (by omega), show 32 - (32 - n) = n by omega]
  · have : 2 ^ (32 - n + 1) ≤ 2 ^ f := Nat.pow_le_pow_right (by decide) (by omega)
    rw [Nat.pow_succ] at this
    omega
theorem vizardlaw04_PrefixEdges.run {H : Heap} (ph : PH H) {p b : Int} {K : Bool → Heap → Prop} {E : Value → Heap → Prop} (hp : IntKind.u32.has p) (_ : IntKind.i64.has b) (h : K true H) : vizardlaw04_PrefixEdges.c p b K E H := by
  have p1 := has_u32 hp
  obtain ⟨A, rfl⟩ := Int.eq_ofNat_of_zero_le p1.1
  refine ⟨?_⟩
  unfold vizardlaw04_PrefixEdges.vc
  refine newB_le fun b0 H1 hn0 hl0 hle0 => ?_
  have ph1 : PH H1 := ⟨ph.g.le hle0, ph.db.le hle0⟩
  refine vizardlaw04_works.run ph1 fun H2 hle2 => ?_
  rw [if_neg (show ¬ ((!true) = true) by simp)]
  have l2 := hle2 _ _ hl0
  have fin : ∀ H', Heap.Le H2 H' → (∃ H3, Heap.Le H3 H' ∧ K true H3) := fun H' hl => ⟨H, (hle0.trans hle2).trans hl, h⟩
  refine ⟨_, loc l2 rfl, _, loc l2 rfl, prefix_Ends.run (by omega) (by omega) ?_⟩
  refine ⟨_, loc l2 rfl, _, loc l2 rfl, prefix_Check.run (by omega) (by omega) ?_⟩
  unfold ends1 ends2
  cases hc : chk A b with
  | false =>
    rw [if_pos (show (!false) = true from rfl), if_neg (show ¬ (false = true) by simp), if_neg (show ¬ (false = true) by simp), if_pos (by decide), if_pos (by decide)]
    refine ⟨_, loc l2 rfl, _, loc l2 rfl, _, loc l2 rfl, prefix_Has.run (by omega) (by omega) (by omega) (by omega) ?_⟩
    rw [has_off hc]
    exact fin _ (Heap.Le.refl _)
  | true =>
    rw [if_neg (show ¬ ((!true) = true) by simp), if_pos rfl, if_pos rfl]
    obtain ⟨b0', b1', hm, hle⟩ := chk_le (by omega) (by omega) hc
    obtain ⟨n, rfl⟩ := Int.eq_ofNat_of_zero_le b0'
    have hq := pw_nat (n := n) (by omega)
    have hpos := Nat.two_pow_pos (32 - n)
    rw [hq] at hm hle ⊢
    have hd : A % 2 ^ (32 - n) = 0 := by exact_mod_cast hm
    have e2 : (A : Int) + ((2 ^ (32 - n) : Nat) : Int) - 1 = ((A + 2 ^ (32 - n) - 1 : Nat) : Int) := by omega
    rw [e2]
    refine prefix_Cover.run (ph1.db.le hle2) (by omega) (by omega) fun q c H3 ho hs => ?_
    have hcov := covers_one (a := A) (n := n) (by omega) hd
    have hle3 : Heap.Le H2 H3 := hs.le
    have l3 := hle3 _ _ l2
    have has : ∀ z : Int, hasB A n z = decide ((A : Int) ≤ z ∧ z < (A : Int) + ((2 ^ (32 - n) : Nat) : Int)) := fun z => by rw [has_on hc, hq]
    refine ⟨_, loc l3 rfl, _, loc l3 rfl, prefix_Has.run (by omega) (by omega) (by omega) (by omega) ?_⟩
    rw [has, if_pos (decide_eq_true (by omega))]
    refine ⟨_, loc l3 rfl, _, loc l3 rfl, prefix_Has.run (by omega) (by omega) (by omega) (by omega) ?_⟩
    rw [has, if_pos (decide_eq_true (by omega))]
    -- the row
    have row : (if (((covers A (A + 2 ^ (32 - n) - 1)).length : Int) == 1) = true then
        nilc q fun a0 => (0 : Int) ≤ 0 ∧ 0 < ((covers A (A + 2 ^ (32 - n) - 1)).length : Int) ∧
        ldI H3 .u32 ((a0.add (0 * 2)).add 0) fun x21 => ldI H3 .i64 ((a0.add (0 * 2)).add 1) fun x22 =>
        ldI H3 .u32 ((⟨b0, 0, none⟩ : Addr).add 0) fun x23 => ldI H3 .i64 ((⟨b0, 0, none⟩ : Addr).add 1) fun x24 =>
        (∃ H4, Heap.Le H4 H3 ∧ K ((x21 == x23) && ((x22 == x24) && true)) H4) else ∃ H4, Heap.Le H4 H3 ∧ K false H4) := by
      have hx : (crow (covers A (A + 2 ^ (32 - n) - 1)))[0]? = some [.int .u32 (A : Int), .int .i64 (n : Int)] := by rw [hcov]; rfl
      obtain ⟨a1, ha1, c1⟩ := ho.at.cell hx
      have hlen : (covers A (A + 2 ^ (32 - n) - 1)).length = 1 := by rw [hcov]; rfl
      rw [if_pos (by rw [hlen]; rfl)]
      refine ⟨a1, ha1, by omega, by rw [hlen]; decide, ?_⟩
      refine ⟨_, c1 0 _ rfl, _, c1 1 _ rfl, _, loc l3 rfl, _, loc l3 rfl, ?_⟩
      obtain ⟨H4, h4, hk⟩ := fin _ hle3
      refine ⟨H4, h4, ?_⟩
      simpa using hk
    have below : A ≠ 0 → hasB A n (IntKind.u32.wrap ((A : Int) - 1)) = false := fun h0 => by
      rw [has, w_u32 (by omega) (by omega)]
      exact decide_eq_false (by omega)
    have above : A + 2 ^ (32 - n) - 1 ≠ 4294967295 → hasB A n (IntKind.u32.wrap (((A + 2 ^ (32 - n) - 1 : Nat) : Int) + 1)) = false := fun h0 => by
      rw [has, w_u32 (by omega) (by omega)]
      exact decide_eq_false (by omega)
    have r1 : ∀ x : Int, 0 ≤ IntKind.u32.wrap x ∧ IntKind.u32.wrap x < 4294967296 := fun x => by
      simp only [IntKind.wrap, IntKind.bits, IntKind.signed, Bool.false_and, Bool.false_eq_true, if_false]
      omega
    by_cases hA : A = 0
    · rw [if_pos (by simp [hA])]
      by_cases hZ : A + 2 ^ (32 - n) - 1 = 4294967295
      · rw [if_pos (by rw [hZ]; rfl)]
        exact row
      · rw [if_neg (by rw [beq_iff_eq]; omega)]
        refine ⟨_, loc l3 rfl, _, loc l3 rfl, prefix_Has.run (by omega) (by omega) (r1 _).1 (r1 _).2 ?_⟩
        rw [above hZ, if_pos (show (!false) = true from rfl)]
        exact row
    · rw [if_neg (by simp [hA])]
      refine ⟨_, loc l3 rfl, _, loc l3 rfl, prefix_Has.run (by omega) (by omega) (r1 _).1 (r1 _).2 ?_⟩
      rw [below hA, if_pos (show (!false) = true from rfl)]
      by_cases hZ : A + 2 ^ (32 - n) - 1 = 4294967295
      · rw [if_pos (by rw [hZ]; rfl)]
        exact row
      · rw [if_neg (by rw [beq_iff_eq]; omega)]
        refine ⟨_, loc l3 rfl, _, loc l3 rfl, prefix_Has.run (by omega) (by omega) (r1 _).1 (r1 _).2 ?_⟩
        rw [above hZ, if_pos (show (!false) = true from rfl)]
        exact row
theorem read_empty {a n : Int} {ok : Bool} (h : ReadIs (⟨#[]⟩ : ByteArray) a n ok) : ok = false := by
  rcases h with ⟨_, A, N, _, _, hA, hN, _, he⟩ | ⟨h, _⟩
  · exfalso
    have h1 := congrArg (fun x : ByteArray => x.data.toList) he
    dsimp only at h1
    rw [print_list hA (by omega)] at h1
    simp at h1
  · exact h
theorem vizardlaw04_PrefixBack.run {H : Heap} (ph : PH H) {a p b : Int} {K : Bool → Heap → Prop} {E : Value → Heap → Prop} (ha : IntKind.u32.has a) (hp : IntKind.u32.has p) (_ : IntKind.i64.has b) (h : K true H) : vizardlaw04_PrefixBack.c a p b K E H := by
  have a1 := has_u32 ha
  have p1 := has_u32 hp
  obtain ⟨A, rfl⟩ := Int.eq_ofNat_of_zero_le a1.1
  obtain ⟨P, rfl⟩ := Int.eq_ofNat_of_zero_le p1.1
  refine ⟨?_⟩
  unfold vizardlaw04_PrefixBack.vc
  refine newB_le fun b0 H1 hn0 hl0 hle0 => ?_
  have ph1 : PH H1 := ⟨ph.g.le hle0, ph.db.le hle0⟩
  refine vizardlaw04_works.run ph1 fun H2 hle2 => ?_
  rw [if_neg (show ¬ ((!true) = true) by simp)]
  have g2 := ph1.g.le hle2
  refine prefix_Text.run (by omega) g2.tab fun H3 hle3 => ?_
  have hsz := dotB_size A (by omega)
  refine prefix_Parse.run (g2.le hle3) (by omega) ?_
  rw [parse_dot (by omega)]
  dsimp only
  rw [if_neg (by simp)]
  refine ⟨?_⟩
  unfold vizardlaw04_PrefixBack.J1.vc
  rw [if_neg (show ¬ ((!true) = true) by simp)]
  refine ⟨?_⟩
  unfold vizardlaw04_PrefixBack.J2.vc
  have l3 := hle3 _ _ (hle2 _ _ hl0)
  have g3 := g2.le hle3
  have l13 : Heap.Le H H3 := (hle0.trans hle2).trans hle3
  refine ⟨_, loc l3 rfl, _, loc l3 rfl, prefix_Print.run g3.tab (by omega) fun H4 hle4 => ?_⟩
  have l4 := hle4 _ _ l3
  have hps : (pprint P b.toNat (chk P b)).size ≤ 281474976710656 := by
    unfold pprint
    split
    · rename_i hc
      obtain ⟨c0, c1, _, _⟩ := chk_le (by omega) (by omega) hc
      have h1 := dotB_size P (by omega)
      have h2 := num_small (n := b.toNat) (by omega)
      have h47 : (⟨#[47]⟩ : ByteArray).size = 1 := rfl
      unfold printB
      rw [ByteArray.size_append, ByteArray.size_append]
      omega
    · decide
  refine prefix_Read.run (g3.le hle4) hps fun x y ok H5 hr hle5 => ?_
  refine new2_le fun b1 H6 hn1 hl1 hle6 => ?_
  have l6 := hle6 _ _ (hle5 _ _ l4)
  have hall : Heap.Le H H6 := ((l13.trans hle4).trans hle5).trans hle6
  refine ⟨_, loc l6 rfl, _, loc l6 rfl, prefix_Check.run (by omega) (by omega) ?_⟩
  cases hc : chk P b with
  | false =>
    rw [hc] at hr
    rw [if_pos (show (!false) = true from rfl)]
    have hr : ReadIs (⟨#[]⟩ : ByteArray) x y ok := hr
    have := read_empty hr
    subst this
    rw [show pprint P b.toNat false = ⟨#[]⟩ from rfl, if_pos (by simp)]
    exact ⟨H, hall, h⟩
  | true =>
    rw [hc] at hr
    rw [if_neg (show ¬ ((!true) = true) by simp)]
    obtain ⟨c0, c1, _, _⟩ := chk_le (by omega) (by omega) hc
    obtain ⟨n, rfl⟩ := Int.eq_ofNat_of_zero_le c0
    have hr2 : ReadIs (pprint P (n : Int).toNat true) P n true := .inl ⟨rfl, P, n, rfl, rfl, by omega, by omega, hc, rfl⟩
    obtain ⟨rfl, rfl, rfl⟩ := hr.same hr2
    rw [if_pos rfl]
    refine ⟨_, loc hl1 rfl, _, loc hl1 rfl, _, loc l6 rfl, _, loc l6 rfl, H, hall, ?_⟩
    simpa using h
end Go.Sh
