/- The document's own answer for fields and targets: what its functions do. -/
import Derived.Test.YtpmgchippfmakaaDoorTgy
import Derived.Test.YtpmgchippfmakaaDoorGtr
namespace Go.Sh
open Go.Proofs Num
set_option maxRecDepth 8000
theorem bt_at {s : ByteArray} {i : Nat} {c : UInt8} (h : s.data.toList[i]? = some c) : bt s (i : Int) = (c.toNat : Int) := by
  unfold bt
  rw [Int.toNat_natCast, List.getD_eq_getElem?_getD, h]
  rfl
theorem list_size (s : ByteArray) : s.data.toList.length = s.size := by rw [Array.length_toList]; rfl
theorem vizardref04_Parse.run {H : Heap} {s : ByteArray} {K : Int → Bool → Heap → Prop} {E : Value → Heap → Prop} (h : ∀ H', Heap.Le H H' → K (parseV s).1 (parseV s).2 H') : vizardref04_Parse.c s K E H := by
  refine ⟨?_⟩
  unfold vizardref04_Parse.vc
  refine ⟨Loop.of (I := fun st H' m => ∃ i : Nat, st = ((((s.data.toList.take i).foldl stP (0, 0)).1 : Int), (((s.data.toList.take i).foldl stP (0, 0)).2 : Int), (i : Int)) ∧ i ≤ s.size ∧ i ≤ 16 ∧ m = 16 - i ∧ H' = H ∧ ((s.data.toList.take i).foldl stP (0, 0)).1 < 4294967296 ∧ ((s.data.toList.take i).foldl stP (0, 0)).2 < 256) ?_
    ⟨0, rfl, by omega, by omega, rfl, rfl, (show (0 : Nat) < 4294967296 by decide), (show (0 : Nat) < 256 by decide)⟩⟩
  rintro m st H' ⟨i, rfl, hi, hi16, rfl, rfl, hx, hy⟩ RR hRR
  unfold vizardref04_Parse.W1.vc
  dsimp only
  have fin : (s.data.toList.take i = s.data.toList.take 16) → vizardref04_Text.c (IntKind.u32.wrap ((IntKind.u32.wrap ((((s.data.toList.take i).foldl stP (0, 0)).1 : Int) * 256)) + (((s.data.toList.take i).foldl stP (0, 0)).2 : Int))) (fun x0 h2 => (if (!(x0.toList == s.toList)) = true then ∃ H3, Heap.Le H3 h2 ∧ K 0 false H3 else ∃ H3, Heap.Le H3 h2 ∧ K (IntKind.u32.wrap ((IntKind.u32.wrap ((((s.data.toList.take i).foldl stP (0, 0)).1 : Int) * 256)) + (((s.data.toList.take i).foldl stP (0, 0)).2 : Int))) true H3)) E H' := by
    intro ht
    have e : IntKind.u32.wrap ((IntKind.u32.wrap ((((s.data.toList.take i).foldl stP (0, 0)).1 : Int) * 256)) + (((s.data.toList.take i).foldl stP (0, 0)).2 : Int)) = (refA s.data.toList : Int) := by
      unfold refA
      rw [← ht]
      simp only [IntKind.wrap, IntKind.bits, IntKind.signed, Bool.false_and, Bool.false_eq_true, if_false]
      omega
    rw [e]
    refine vizardref04_Text.run (refA_lt _) fun H2 hle => ?_
    have hp := parse_ref s
    have hk := h H2 hle
    by_cases hd : dotB (refA s.data.toList) = s
    · rw [if_pos hd] at hp
      rw [hp] at hk
      rw [if_neg (by simp [hd])]
      exact ⟨H2, Heap.Le.refl _, hk⟩
    · rw [if_neg hd] at hp
      rw [hp] at hk
      rw [if_pos (by
        cases hb : ((dotB (refA s.data.toList)).toList == s.toList) with
        | false => rfl
        | true => exact absurd ((str_eq _ _).1 hb) hd)]
      exact ⟨H2, Heap.Le.refl _, hk⟩
  by_cases hc : (i : Int) < (s.size : Int)
  · rw [if_pos (by simpa using hc)]
    by_cases hc2 : (i : Int) < 16
    · rw [if_pos (by simpa using hc2)]
      refine ⟨?_⟩
      unfold vizardref04_Parse.J2.vc
      refine ⟨by omega, hc, ?_⟩
      have hl : i < s.data.toList.length := by rw [list_size]; omega
      obtain ⟨c, hcc⟩ : ∃ c, s.data.toList[i]? = some c := ⟨_, List.getElem?_eq_getElem hl⟩
      have hts : (s.data.toList.take (i + 1)).foldl stP (0, 0) = stP ((s.data.toList.take i).foldl stP (0, 0)) c := by
        rw [List.take_add_one, List.foldl_append, hcc]
        rfl
      rw [bt_at hcc]
      by_cases hd : c = 46
      · have e0 : stP ((s.data.toList.take i).foldl stP (0, 0)) c = ((((s.data.toList.take i).foldl stP (0, 0)).1 * 256 + ((s.data.toList.take i).foldl stP (0, 0)).2) % 4294967296, 0) := by unfold stP; rw [if_pos hd]
        rw [if_pos (by subst hd; rfl)]
        refine ⟨?_⟩
        unfold vizardref04_Parse.J3.vc
        rw [w_i64 (by omega) (by omega)]
        refine hRR _ H' (16 - (i + 1)) (by omega) ⟨i + 1, ?_, by omega, by omega, rfl, rfl, ?_, ?_⟩
        · rw [hts, e0]
          refine Prod.ext ?_ (Prod.ext rfl (by simp))
          dsimp only
          simp only [IntKind.wrap, IntKind.bits, IntKind.signed, Bool.false_and, Bool.false_eq_true, if_false]
          omega
        · rw [hts, e0]; exact Nat.mod_lt _ (by decide)
        · rw [hts, e0]; exact (by decide : (0 : Nat) < 256)
      · have e0 : stP ((s.data.toList.take i).foldl stP (0, 0)) c = (((s.data.toList.take i).foldl stP (0, 0)).1, (((s.data.toList.take i).foldl stP (0, 0)).2 * 10 + (c.toNat + 208) % 256) % 256) := by unfold stP; rw [if_neg hd]
        have hct : c.toNat < 256 := c.toNat_lt
        rw [if_neg (by
          intro hb
          have : (c.toNat : Int) = 46 := by simpa using hb
          exact hd (UInt8.toNat_inj.1 (by show c.toNat = 46; omega)))]
        refine ⟨by omega, hc, by decide, ⟨?_⟩⟩
        unfold vizardref04_Parse.J3.vc
        rw [w_i64 (n := (i : Int) + 1) (by omega) (by omega)]
        refine hRR _ H' (16 - (i + 1)) (by omega) ⟨i + 1, ?_, by omega, by omega, rfl, rfl, ?_, ?_⟩
        · rw [hts, e0]
          refine Prod.ext rfl (Prod.ext ?_ (by simp))
          dsimp only
          have w0 : IntKind.u8.wrap ((c.toNat : Int) - 48) = (((c.toNat + 208) % 256 : Nat) : Int) := by
            simp only [IntKind.wrap, IntKind.bits, IntKind.signed, Bool.false_and, Bool.false_eq_true, if_false]
            omega
          rw [w0, w_u32 (n := (((c.toNat + 208) % 256 : Nat) : Int)) (by omega) (by omega), w_u32 (n := _ * 10) (by omega) (by omega), w_u32 (by omega) (by omega), Int.tmod_eq_emod_of_nonneg (by omega)]
          omega
        · rw [hts, e0]; exact hx
        · rw [hts, e0]; exact Nat.mod_lt _ (by decide)
    · rw [if_neg (by simpa using hc2)]
      exact fin (by rw [show i = 16 by omega])
  · rw [if_neg (by simpa using hc)]
    refine fin ?_
    rw [List.take_of_length_le (by rw [list_size]; omega), List.take_of_length_le (by rw [list_size]; omega)]
/-! ### Fields -/
theorem vizardref14_right.J4.run {f0 : Addr} {i0 : Int} {x0 : Bool} {Kn : Heap → Prop} {Kr : Int → Heap → Prop} {E : Value → Heap → Prop} {H : Heap} (h1 : x0 = true → Kr 3 H) (h0 : x0 = false → Kn H) : vizardref14_right.J4 f0 i0 x0 Kn Kr E H := by
  refine ⟨?_⟩
  unfold vizardref14_right.J4.vc
  cases x0 with
  | true => rw [if_pos rfl]; exact h1 rfl
  | false => rw [if_neg (by simp)]; exact h0 rfl
theorem vizardref14_right.J7.run {f0 : Addr} {i0 : Int} {x0 : Bool} {Kn : Heap → Prop} {Kr : Int → Heap → Prop} {E : Value → Heap → Prop} {H : Heap} (h1 : x0 = true → Kr 3 H) (h0 : x0 = false → Kn H) : vizardref14_right.J7 f0 i0 x0 Kn Kr E H := by
  refine ⟨?_⟩
  unfold vizardref14_right.J7.vc
  cases x0 with
  | true => rw [if_pos rfl]; exact h1 rfl
  | false => rw [if_neg (by simp)]; exact h0 rfl
section
variable {H : Heap} {p : Option Addr} {n c : Nat} {l : FL} {E : Value → Heap → Prop}
theorem vizardref14_right.W3.run {b : Nat} {e : TypeId} {s t : ByteArray} {Kx0 : Heap → Prop} {Kr : Int → Heap → Prop} (hs : s.size ≤ 256) (hb : H b = some (.cells #[.string s, .string t] e)) (h1 : s.data.toList.all letB = true → Kx0 H) (h0 : s.data.toList.all letB = false → Kr 3 H) : vizardref14_right.W3 ⟨b, 0, none⟩ 0 Kx0 Kr E H := by
  refine ⟨Loop.of (I := fun st H' m => ∃ k : Nat, st = (k : Int) ∧ k ≤ s.size ∧ m = s.size - k ∧ H' = H ∧ (s.data.toList.take k).all letB = true) ?_ ⟨0, rfl, Nat.zero_le _, rfl, rfl, by simp⟩⟩
  rintro m st H' ⟨k, rfl, hk, rfl, rfl, hall⟩ RR hRR
  have hl := list_sizeB s
  have g0 := loc (o := 0) hb rfl
  unfold vizardref14_right.W3.vc
  refine ⟨_, g0, ?_⟩
  dsimp only
  by_cases hlt : k < s.size
  · rw [if_pos (by rw [decide_eq_true_eq]; omega)]
    obtain ⟨x, hx⟩ : ∃ x, s.data.toList[k]? = some x := ⟨_, List.getElem?_eq_getElem (by omega)⟩
    refine ⟨_, g0, by omega, by omega, ?_⟩
    have bad : letB x = false → Kr 3 H' := fun hx2 => h0 (by
      rw [Bool.eq_false_iff]
      intro hh
      have := List.all_eq_true.1 hh x (List.mem_of_getElem? hx)
      rw [hx2] at this
      cases this)
    have good : letB x = true → vizardref14_right.J5 ⟨b, 0, none⟩ (k : Int) (fun s H => RR s H) E H' := fun hx2 => ⟨by
      unfold vizardref14_right.J5.vc
      rw [w_i64 (by omega) (by omega)]
      refine hRR _ _ (s.size - (k + 1)) (by omega) ⟨k + 1, by simp, by omega, rfl, rfl, ?_⟩
      rw [List.take_add_one, hx, List.all_append, hall]
      simp [hx2]⟩
    rw [bt_at hx]
    unfold letB at bad good
    have e1 : decide ((x.toNat : Int) < 97) = !decide (97 ≤ x.toNat) := by rw [← decide_not, decide_eq_decide]; omega
    have e2 : decide ((x.toNat : Int) > 122) = !decide (x.toNat ≤ 122) := by rw [← decide_not, decide_eq_decide]; omega
    have e3 : decide ((x.toNat : Int) < 48) = !decide (48 ≤ x.toNat) := by rw [← decide_not, decide_eq_decide]; omega
    have e4 : decide ((x.toNat : Int) > 57) = !decide (x.toNat ≤ 57) := by rw [← decide_not, decide_eq_decide]; omega
    have e5 : ((x.toNat : Int) != 45) = !decide (x.toNat = 45) := by
      unfold bne
      congr 1
      rw [Bool.eq_iff_iff, beq_iff_eq, decide_eq_true_eq]; omega
    have e6 : ((x.toNat : Int) != 58) = !decide (x.toNat = 58) := by
      unfold bne
      congr 1
      rw [Bool.eq_iff_iff, beq_iff_eq, decide_eq_true_eq]; omega
    rw [e1, e2, e3, e4, e5, e6]
    generalize decide (97 ≤ x.toNat) = b1 at bad good ⊢
    generalize decide (x.toNat ≤ 122) = b2 at bad good ⊢
    generalize decide (48 ≤ x.toNat) = b3 at bad good ⊢
    generalize decide (x.toNat ≤ 57) = b4 at bad good ⊢
    generalize decide (x.toNat = 45) = b5 at bad good ⊢
    generalize decide (x.toNat = 58) = b6 at bad good ⊢
    cases b1 <;> cases b2 <;> cases b3 <;> cases b4 <;> cases b5 <;> cases b6 <;> first
      | exact vizardref14_right.J4.run (fun e => by cases e) (fun _ => good rfl)
      | exact vizardref14_right.J4.run (fun _ => bad rfl) (fun e => by cases e)
  · rw [if_neg (by rw [decide_eq_true_eq]; omega)]
    rw [List.take_of_length_le (by omega)] at hall
    exact h1 hall
theorem vizardref14_right.W6.run {b : Nat} {e : TypeId} {s t : ByteArray} {Kx0 : Heap → Prop} {Kr : Int → Heap → Prop} (hs : s.size ≤ 256) (hb : H b = some (.cells #[.string t, .string s] e)) (h1 : s.data.toList.all seeB = true → Kx0 H) (h0 : s.data.toList.all seeB = false → Kr 3 H) : vizardref14_right.W6 ⟨b, 0, none⟩ 0 Kx0 Kr E H := by
  refine ⟨Loop.of (I := fun st H' m => ∃ k : Nat, st = (k : Int) ∧ k ≤ s.size ∧ m = s.size - k ∧ H' = H ∧ (s.data.toList.take k).all seeB = true) ?_ ⟨0, rfl, Nat.zero_le _, rfl, rfl, by simp⟩⟩
  rintro m st H' ⟨k, rfl, hk, rfl, rfl, hall⟩ RR hRR
  have hl := list_sizeB s
  have g1 := loc (o := 1) hb rfl
  unfold vizardref14_right.W6.vc
  refine ⟨_, g1, ?_⟩
  dsimp only
  by_cases hlt : k < s.size
  · rw [if_pos (by rw [decide_eq_true_eq]; omega)]
    obtain ⟨x, hx⟩ : ∃ x, s.data.toList[k]? = some x := ⟨_, List.getElem?_eq_getElem (by omega)⟩
    refine ⟨_, g1, by omega, by omega, ?_⟩
    have bad : seeB x = false → Kr 3 H' := fun hx2 => h0 (by
      rw [Bool.eq_false_iff]
      intro hh
      have := List.all_eq_true.1 hh x (List.mem_of_getElem? hx)
      rw [hx2] at this
      cases this)
    have good : seeB x = true → vizardref14_right.J8 ⟨b, 0, none⟩ (k : Int) (fun s H => RR s H) E H' := fun hx2 => ⟨by
      unfold vizardref14_right.J8.vc
      rw [w_i64 (by omega) (by omega)]
      refine hRR _ _ (s.size - (k + 1)) (by omega) ⟨k + 1, by simp, by omega, rfl, rfl, ?_⟩
      rw [List.take_add_one, hx, List.all_append, hall]
      simp [hx2]⟩
    rw [bt_at hx]
    unfold seeB at bad good
    by_cases h32 : x.toNat < 32
    · rw [if_pos (by rw [decide_eq_true_eq]; omega)]
      refine vizardref14_right.J7.run (fun _ => bad ?_) (fun h => by cases h)
      simp; omega
    · rw [if_neg (by rw [decide_eq_true_eq]; omega)]
      refine ⟨_, g1, by omega, by omega, ?_⟩
      rw [bt_at hx]
      refine vizardref14_right.J7.run (fun h => bad ?_) (fun h => good ?_)
      · rw [decide_eq_true_eq] at h
        simp; omega
      · rw [decide_eq_false_iff_not] at h
        simp; omega
  · rw [if_neg (by rw [decide_eq_true_eq]; omega)]
    rw [List.take_of_length_le (by omega)] at hall
    exact h1 hall
theorem vizardref14_right.run {x y : ByteArray} {K : Int → Heap → Prop} (h1 : fieldOk (x, y) = true → K 0 H) (h0 : fieldOk (x, y) = false → ∀ e, e ≠ 0 → K e H) : vizardref14_right.c x y K E H := by
  refine ⟨?_⟩
  unfold vizardref14_right.vc
  refine newB_le fun b0 H1 hn hl hle => ?_
  have g0 := loc (o := 0) hl rfl
  have g1 := loc (o := 1) hl rfl
  have bad : fieldOk (x, y) = false → ∀ (e : Int) H', e ≠ 0 → Heap.Le H H' → ∃ H'', Heap.Le H'' H' ∧ K e H'' := fun h e H' he hl => ⟨H, hl, h0 h e he⟩
  refine ⟨_, g0, ?_⟩; dsimp only
  unfold fieldOk at h1 bad
  dsimp only at h1 bad
  by_cases hx : x.size ≤ 256
  · rw [if_neg (by rw [decide_eq_true_eq]; omega)]
    refine ⟨_, g1, ⟨?_⟩⟩
    unfold vizardref14_right.J1.vc
    by_cases hy : y.size ≤ 256
    · rw [if_neg (by rw [decide_eq_true_eq]; omega)]
      refine ⟨⟨_, g0, ?_⟩⟩; dsimp only
      rw [ba_eq]
      by_cases he : x = (⟨#[]⟩ : ByteArray)
      · rw [if_pos (by rw [decide_eq_true_eq]; exact he)]
        exact bad (by rw [size0.1 he]; simp) 3 _ (by decide) hle
      · rw [if_neg (by rw [decide_eq_true_eq]; exact he)]
        have hx0 : x.size ≠ 0 := fun h => he (size0.2 h)
        refine vizardref14_right.W3.run hx hl (fun hall => ?_) (fun hall => ?_)
        · refine vizardref14_right.W6.run hy hl (fun hall2 => ?_) (fun hall2 => ?_)
          · refine ⟨H, hle, h1 ?_⟩
            simp [hx, hy, hx0]
            exact ⟨by simpa using hall, by simpa using hall2⟩
          · refine bad ?_ 3 _ (by decide) hle
            rw [hall2]; simp
        · refine bad ?_ 3 _ (by decide) hle
          rw [hall]; simp
    · rw [if_pos (by rw [decide_eq_true_eq]; omega)]
      exact bad (by simp [hy]) 8 _ (by decide) hle
  · rw [if_pos (by rw [decide_eq_true_eq]; omega)]
    refine ⟨?_⟩
    unfold vizardref14_right.J1.vc
    rw [if_pos rfl]
    exact bad (by simp [hx]) 8 _ (by decide) hle
theorem vizardref14_Check.run {K : Int → Heap → Prop} (hr : RowsAt H p n 2 (rF l)) (h1 : chkL l = true → K 0 H) (h0 : chkL l = false → ∀ e, e ≠ 0 → K e H) : vizardref14_Check.c p n c K E H := by
  have hlen := rF_len hr
  refine ⟨?_⟩
  unfold vizardref14_Check.vc
  unfold chkL at h1 h0
  by_cases hn : n ≤ 16
  · rw [if_neg (by rw [decide_eq_true_eq]; omega)]
    have e16 : decide (l.length ≤ 16) = true := by rw [decide_eq_true_eq]; omega
    rw [e16, Bool.true_and] at h1 h0
    refine ⟨Loop.of (I := fun st H' m => ∃ i : Nat, st = (i : Int) ∧ i ≤ n ∧ m = n - i ∧ Heap.Le H H' ∧ (l.take i).all fieldOk = true) ?_ ⟨0, rfl, Nat.zero_le _, rfl, Heap.Le.refl _, by simp⟩⟩
    rintro m st H' ⟨i, rfl, hi, rfl, hle, hall⟩ RR hRR
    unfold vizardref14_Check.W1.vc
    by_cases hlt : i < n
    · rw [if_pos (by rw [decide_eq_true_eq]; omega)]
      obtain ⟨f, hf⟩ : ∃ f, l[i]? = some f := ⟨_, List.getElem?_eq_getElem (by omega)⟩
      obtain ⟨a, ha, c0, c1⟩ := fcell (hr.mono hle) hf
      refine ⟨a, ha, by omega, by omega, _, by rw [Int.toNat_natCast]; exact c0, _, by rw [Int.toNat_natCast]; exact c1, ?_⟩
      refine vizardref14_right.run (fun hk => ?_) (fun hk e he => ?_)
      · rw [if_neg (by simp), w_i64 (by omega) (by omega)]
        exact hRR _ _ (n - (i + 1)) (by omega) ⟨i + 1, by simp, by omega, rfl, hle, take_all hf hall hk⟩
      · rw [if_pos (by simpa using he)]
        exact ⟨H, hle, h0 (not_all hf hk) e he⟩
    · rw [if_neg (by rw [decide_eq_true_eq]; omega)]
      rw [List.take_of_length_le (by omega)] at hall
      exact ⟨H, hle, h1 hall⟩
  · rw [if_pos (by rw [decide_eq_true_eq]; omega)]
    exact ⟨H, Heap.Le.refl _, h0 (by rw [decide_eq_false (by omega)]; rfl) 8 (by decide)⟩
theorem vizardref14_Get.run {K : ByteArray → Bool → Heap → Prop} {nm : ByteArray} (hr : RowsAt H p n 2 (rF l)) (hn : n ≤ 4611686018427387904) (h : K ((getF l nm).getD ⟨#[]⟩) (getF l nm).isSome H) : vizardref14_Get.c p n c nm K E H := by
  have hlen := rF_len hr
  refine ⟨?_⟩
  unfold vizardref14_Get.vc
  refine ⟨Loop.of (I := fun st H' m => ∃ i : Nat, st = (((hits (l.take i) nm).length : Int), lastV (l.take i) nm, (i : Int)) ∧ i ≤ n ∧ m = n - i ∧ H' = H) ?_ ⟨0, by simp [hits, lastV], Nat.zero_le _, rfl, rfl⟩⟩
  rintro m st H' ⟨i, rfl, hi, rfl, rfl⟩ RR hRR
  unfold vizardref14_Get.W1.vc
  dsimp only
  by_cases hlt : i < n
  · rw [if_pos (by rw [decide_eq_true_eq]; omega)]
    obtain ⟨f, hf⟩ : ∃ f, l[i]? = some f := ⟨_, List.getElem?_eq_getElem (by omega)⟩
    obtain ⟨a, ha, c0, c1⟩ := fcell hr hf
    have hh := hits_le (l.take i) nm
    rw [List.length_take] at hh
    have e1 : l.take (i + 1) = l.take i ++ [f] := by rw [List.take_add_one, hf]; rfl
    refine ⟨a, ha, by omega, by omega, _, by rw [Int.toNat_natCast]; exact c0, ?_⟩
    dsimp only
    rw [ba_eq]
    by_cases hq : f.1 = nm
    · rw [if_pos (by rw [decide_eq_true_eq]; exact hq)]
      refine ⟨a, ha, by omega, by omega, _, by rw [Int.toNat_natCast]; exact c1, ⟨?_⟩⟩
      unfold vizardref14_Get.J2.vc
      rw [w_i64 (n := (i : Int) + 1) (by omega) (by omega), w_i64 (by omega) (by omega)]
      refine hRR (_, _, _) _ (n - (i + 1)) (by omega) ⟨i + 1, ?_, by omega, rfl, rfl⟩
      rw [e1, lastV_snoc, hits_snoc, if_pos hq, if_pos hq]
      simp
    · rw [if_neg (by rw [decide_eq_true_eq]; exact hq)]
      refine ⟨?_⟩
      unfold vizardref14_Get.J2.vc
      rw [w_i64 (n := (i : Int) + 1) (by omega) (by omega)]
      refine hRR (_, _, _) _ (n - (i + 1)) (by omega) ⟨i + 1, ?_, by omega, rfl, rfl⟩
      rw [e1, lastV_snoc, hits_snoc, if_neg hq, if_neg hq]
      simp
  · rw [if_neg (by rw [decide_eq_true_eq]; omega)]
    rw [List.take_of_length_le (by omega)]
    exact getF_end (Heap.Le.refl _) h
theorem vizardref17_pseudo.J1.run {x0 : Bool} {Kn : Heap → Prop} {Kr : Bool → Heap → Prop} (h1 : x0 = true → Kr true H) (h0 : x0 = false → Kn H) : vizardref17_pseudo.J1 x0 Kn Kr E H := by
  refine ⟨?_⟩
  unfold vizardref17_pseudo.J1.vc
  cases x0 with
  | true => rw [if_pos rfl]; exact h1 rfl
  | false => rw [if_neg (by simp)]; exact h0 rfl
theorem vizardref17_pseudo.run {x : ByteArray} {K : Bool → Heap → Prop} (h : K (pseudoB x) H) : vizardref17_pseudo.c x K E H := by
  refine ⟨?_⟩
  unfold vizardref17_pseudo.vc
  unfold pseudoB at h
  rw [ba_eq, ba_eq, ba_eq, ba_eq, ba_eq]
  generalize decide (x = mNm) = c1 at h ⊢
  generalize decide (x = sNm) = c2 at h ⊢
  generalize decide (x = aNm) = c3 at h ⊢
  generalize decide (x = hNm) = c4 at h ⊢
  generalize decide (x = pNm) = c5 at h ⊢
  cases c1 <;> cases c2 <;> cases c3 <;> cases c4 <;> cases c5 <;> first
    | exact vizardref17_pseudo.J1.run (fun _ => ⟨H, Heap.Le.refl _, h⟩) (fun e => by cases e)
    | exact vizardref17_pseudo.J1.run (fun e => by cases e) (fun _ => ⟨H, Heap.Le.refl _, h⟩)
theorem colon_bt {x : ByteArray} (h : x.size ≠ 0) : (bt x 0 != 58) = !colonB x := by
  have hl := list_sizeB x
  cases hx : x.data.toList with
  | nil => rw [hx] at hl; exact absurd hl.symm h
  | cons a t =>
    have h0 : x.data.toList[0]? = some a := by rw [hx]; rfl
    have := bt_at h0
    rw [show ((0 : Nat) : Int) = (0 : Int) from rfl] at this
    rw [this]
    unfold colonB
    rw [hx]
    unfold bne
    congr 1
    rw [Bool.eq_iff_iff, beq_iff_eq, decide_eq_true_eq]
    simp only [List.head?_cons, Option.some.injEq]
    constructor
    · intro h
      exact UInt8.toNat_inj.1 (by show a.toNat = 58; omega)
    · rintro rfl; rfl
theorem vizardref17_shaped.J3.run {l0 : Option Addr} {l1 l2 : Nat} {bh : Bool} {i0 : Int} {x0 : Bool} {Kn : Heap → Prop} {Kr : Bool → Heap → Prop} (h1 : x0 = true → Kr false H) (h0 : x0 = false → Kn H) : vizardref17_shaped.J3 l0 l1 l2 bh i0 x0 Kn Kr E H := by
  refine ⟨?_⟩
  unfold vizardref17_shaped.J3.vc
  cases x0 with
  | true => rw [if_pos rfl]; exact h1 rfl
  | false => rw [if_neg (by simp)]; exact h0 rfl
theorem vizardref17_shaped.run {K : Bool → Heap → Prop} (hr : RowsAt H p n 2 (rF l)) (hn : n ≤ 4611686018427387904) (hk : chkL l = true) (h : K (shapeGo l false l) H) : vizardref17_shaped.c p n c K E H := by
  have hlen := rF_len hr
  refine ⟨⟨Loop.of (I := fun st H' m => ∃ i : Nat, st.2 = (i : Int) ∧ i ≤ n ∧ m = n - i ∧ H' = H ∧ shapeGo l st.1 (l.drop i) = shapeGo l false l) ?_ ⟨0, rfl, Nat.zero_le _, rfl, rfl, by simp⟩⟩⟩
  rintro m ⟨bh, i'⟩ H' ⟨i, hi', hi, rfl, rfl, hgo⟩ RR hRR
  dsimp only at hi' hgo
  subst hi'
  unfold vizardref17_shaped.W1.vc
  dsimp only
  by_cases hlt : i < n
  · rw [if_pos (by rw [decide_eq_true_eq]; omega)]
    obtain ⟨f, hf⟩ : ∃ f, l[i]? = some f := ⟨_, List.getElem?_eq_getElem (by omega)⟩
    obtain ⟨a, ha, c0, c1⟩ := fcell hr hf
    rw [drop_at hf, shape_iff] at hgo
    have hne : f.1.size ≠ 0 := by
      unfold chkL at hk
      rw [Bool.and_eq_true] at hk
      have := List.all_eq_true.1 hk.2 f (List.mem_of_getElem? hf)
      unfold fieldOk at this
      simp only [Bool.and_eq_true, decide_eq_true_eq] at this
      exact this.1.1.2
    refine ⟨a, ha, by omega, by omega, _, by rw [Int.toNat_natCast]; exact c0, by omega, by omega, ?_⟩
    rw [colon_bt hne]
    have next : ∀ (b' : Bool), shapeGo l b' (l.drop (i + 1)) = shapeGo l false l → ∀ RRo : Int → Heap → Prop, (∀ s H', RR (b', s) H' → RRo s H') → RRo (IntKind.i64.wrap ((i : Int) + 1)) H' := fun b' hb' RRo h => by
      rw [w_i64 (by omega) (by omega)]
      exact h _ _ (hRR (b', _) _ (n - (i + 1)) (by omega) ⟨i + 1, by simp, by omega, rfl, rfl, hb'⟩)
    cases hc : colonB f.1 with
    | false =>
      rw [if_pos (by simp)]
      refine ⟨next true ?_ _ fun s H' h => h⟩
      rw [hc] at hgo
      simpa using hgo
    | true =>
      rw [if_neg (by simp)]
      rw [hc] at hgo
      simp only [Bool.not_true, Bool.or_false, Bool.false_or] at hgo
      refine ⟨a, ha, by omega, by omega, _, by rw [Int.toNat_natCast]; exact c0, ?_⟩
      have fail : ((getF l f.1).isSome && !bh && pseudoB f.1) = false → K false H' := fun hf => by
        have : shapeGo l false l = false := by rw [← hgo, hf, Bool.and_false]
        rw [this] at h; exact h
      refine vizardref14_Get.run hr hn ?_
      cases bh with
      | true =>
        rw [if_pos rfl]
        exact vizardref17_shaped.J3.run (fun _ => ⟨H', Heap.Le.refl _, fail (by simp)⟩) (fun e => by cases e)
      | false =>
        rw [if_neg (by simp)]
        refine ⟨a, ha, by omega, by omega, _, by rw [Int.toNat_natCast]; exact c0, ?_⟩
        refine vizardref17_pseudo.run ?_
        cases hp : pseudoB f.1 with
        | false =>
          rw [if_pos (by simp)]
          exact vizardref17_shaped.J3.run (fun _ => ⟨H', Heap.Le.refl _, fail (by rw [hp, Bool.and_false])⟩) (fun e => by cases e)
        | true =>
          rw [if_neg (by simp)]
          refine vizardref17_shaped.J3.run (fun hs => ?_) (fun hs => ⟨next false ?_ _ fun s H' h => h⟩)
          · rw [Bool.not_eq_true'] at hs
            exact ⟨H', Heap.Le.refl _, fail (by rw [hs]; rfl)⟩
          · rw [Bool.not_eq_false'] at hs
            rw [← hgo, hs, hp]
            simp
  · rw [if_neg (by rw [decide_eq_true_eq]; omega)]
    rw [List.drop_of_length_le (by omega)] at hgo
    refine ⟨H', Heap.Le.refl _, ?_⟩
    rw [← hgo] at h
    exact h
end
end Go.Sh
