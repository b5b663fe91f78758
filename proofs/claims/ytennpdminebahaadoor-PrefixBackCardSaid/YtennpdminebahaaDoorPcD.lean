/- PrefixCovers: addresses are covered by the fewest prefixes. -/
import Derived.Test.YtennpdminebahaaDoorPfD
import Derived.Test.YtennpdminebahaaDoorShX
import Derived.Test.YtennpdminebahaaDoorShV
namespace Go.Sh
/-! ### The lowest bit -/
theorem land_even (a b : Nat) : (2 * a) &&& (2 * b) = 2 * (a &&& b) := by
  apply Nat.eq_of_testBit_eq
  intro i
  cases i with
  | zero => simp [Nat.testBit_and]
  | succ i =>
    have e1 : ∀ m : Nat, 2 * m / 2 = m := fun m => by omega
    rw [Nat.testBit_and, Nat.testBit_succ, Nat.testBit_succ, Nat.testBit_succ, e1, e1, e1, Nat.testBit_and]
theorem land_odd (a b : Nat) : (2 * a + 1) &&& (2 * b + 1) = 2 * (a &&& b) + 1 := by
  apply Nat.eq_of_testBit_eq
  intro i
  cases i with
  | zero => simp [Nat.testBit_and]
  | succ i =>
    have e1 : ∀ m : Nat, (2 * m + 1) / 2 = m := fun m => by omega
    rw [Nat.testBit_and, Nat.testBit_succ, Nat.testBit_succ, Nat.testBit_succ, e1, e1, e1, Nat.testBit_and]
theorem land_compl {n a : Nat} (h : a < 2 ^ n) : a &&& (2 ^ n - (a + 1)) = 0 := by
  apply Nat.eq_of_testBit_eq
  intro i
  rw [Nat.testBit_and, Nat.testBit_two_pow_sub_succ h]
  simp
  intro h1 _
  exact h1
theorem low_bit : ∀ (n x : Nat), 0 < x → x < 2 ^ n → ∃ k, k < n ∧ x &&& (2 ^ n - x) = 2 ^ k ∧ x % 2 ^ k = 0 ∧ x % 2 ^ (k + 1) ≠ 0
  | 0, x, h0, h1 => by simp at h1; omega
  | n + 1, x, h0, h1 => by
    have hp : 2 ^ (n + 1) = 2 * 2 ^ n := by rw [Nat.pow_succ]; omega
    by_cases he : x % 2 = 0
    · obtain ⟨a, rfl⟩ : ∃ a, x = 2 * a := ⟨x / 2, by omega⟩
      obtain ⟨k, hk, e1, e2, e3⟩ := low_bit n a (by omega) (by omega)
      refine ⟨k + 1, by omega, ?_, ?_, ?_⟩
      · rw [hp, ← Nat.mul_sub, land_even, e1, Nat.pow_succ]; omega
      · rw [Nat.pow_succ, Nat.mul_comm (2 ^ k) 2, Nat.mul_mod_mul_left, e2]
      · rw [Nat.pow_succ, Nat.mul_comm (2 ^ (k + 1)) 2, Nat.mul_mod_mul_left]
        omega
    · obtain ⟨a, rfl⟩ : ∃ a, x = 2 * a + 1 := ⟨x / 2, by omega⟩
      refine ⟨0, by omega, ?_, by simp [Nat.mod_one], by simp⟩
      have e : 2 ^ (n + 1) - (2 * a + 1) = 2 * (2 ^ n - (a + 1)) + 1 := by
        rw [hp]; omega
      rw [e, land_odd, land_compl (by omega)]
def dbTab : List Int := [0, 1, 28, 2, 29, 14, 24, 3, 30, 22, 20, 15, 25, 17, 4, 8, 31, 27, 13, 23, 21, 19, 16, 7, 26, 12, 18, 6, 11, 5, 10, 9]
theorem db_table : ∀ k : Fin 32, 0 ≤ shrI .u32 (IntKind.u32.wrap (((2 ^ k.val : Nat) : Int) * 125613361)) 27 ∧ shrI .u32 (IntKind.u32.wrap (((2 ^ k.val : Nat) : Int) * 125613361)) 27 < 32 ∧ dbTab[(shrI .u32 (IntKind.u32.wrap (((2 ^ k.val : Nat) : Int) * 125613361)) 27).toNat]? = some (k.val : Int) := by
  decide +kernel
theorem IntsIn.le {H H' : Heap} {g : Nat} {k : IntKind} {xs : List Int} (h : IntsIn H g k xs) (hl : Heap.Le H H') : IntsIn H' g k xs := fun i x hi => Le_cell hl (h i x hi)
theorem math_bits_TrailingZeros32.run {H : Heap} (ht : IntsIn H 0 .u8 dbTab) {x : Nat} (hx : x < 4294967296) {K : Int → Heap → Prop} {E : Value → Heap → Prop}
    (h : ∀ k : Nat, k ≤ 32 → x % 2 ^ k = 0 → (k < 32 → x % 2 ^ (k + 1) ≠ 0) → K k H) : math_bits_TrailingZeros32.c x K E H := by
  refine ⟨?_⟩
  unfold math_bits_TrailingZeros32.vc
  by_cases h0 : x = 0
  · rw [if_pos (by simp [h0])]
    exact ⟨H, Heap.Le.refl _, h 32 (Nat.le_refl _) (by rw [h0]) (fun c => by omega)⟩
  · rw [if_neg (by simp; omega)]
    obtain ⟨k, hk, e1, e2, e3⟩ := low_bit 32 x (by omega) (by omega)
    have hw : IntKind.u32.wrap (0 - (x : Int)) = ((4294967296 - x : Nat) : Int) := by
      simp only [IntKind.wrap, IntKind.bits, IntKind.signed, Bool.false_and, Bool.false_eq_true, if_false]
      omega
    rw [hw, and_u32 x (4294967296 - x) (by omega) (by omega)]
    have e1' : x &&& (4294967296 - x) = 2 ^ k := e1
    rw [e1']
    obtain ⟨t1, t2, t3⟩ := db_table ⟨k, hk⟩
    refine ⟨by decide, t1, t2, k, ?_, ?_⟩
    · rw [Nat.mul_one, add_mk, Nat.zero_add]
      exact ht _ _ t3
    · dsimp only
      rw [w_i64 (by omega) (by omega)]
      exact ⟨H, Heap.Le.refl _, h k (by omega) e2 (fun _ => e3)⟩
/-! ### What is covered -/
def okN (low high n : Nat) : Bool := decide (low % 2 ^ (32 - n) = 0 ∧ low + 2 ^ (32 - n) ≤ high + 1)
def leastN (low high : Nat) : Nat → Nat → Nat
  | 0, n => n
  | f + 1, n => if okN low high n = true then n else leastN low high f (n + 1)
def pickN (low high : Nat) : Nat := leastN low high 32 0
theorem leastN_eq {low high n : Nat} (hn : okN low high n = true) : ∀ (f m : Nat), m ≤ n → n ≤ m + f → (∀ j, m ≤ j → j < n → okN low high j = false) → leastN low high f m = n
  | 0, m, h1, h2, _ => by unfold leastN; omega
  | f + 1, m, h1, h2, h3 => by
    unfold leastN
    by_cases h : m = n
    · rw [h, if_pos hn]
    · rw [if_neg (by rw [h3 m (Nat.le_refl _) (by omega)]; simp)]
      exact leastN_eq hn f (m + 1) (by omega) (by omega) fun j hj1 hj2 => h3 j (by omega) hj2
theorem pickN_eq {low high n : Nat} (h1 : n ≤ 32) (hn : okN low high n = true) (h2 : ∀ j, j < n → okN low high j = false) : pickN low high = n := leastN_eq hn 32 0 (Nat.zero_le _) (by omega) fun j _ hj => h2 j hj
theorem ok_last {low high : Nat} (h : low ≤ high) : okN low high 32 = true := by
  unfold okN
  exact decide_eq_true ⟨by simp [Nat.mod_one], by simp; omega⟩
def cvr (high : Nat) : Nat → Nat → List (Nat × Nat)
  | 0, _ => []
  | f + 1, low => if low ≤ high then (low, pickN low high) :: cvr high f (low + 2 ^ (32 - pickN low high)) else []
theorem cvr_more {high : Nat} : ∀ (f g low : Nat), high + 1 - low ≤ f → high + 1 - low ≤ g → cvr high f low = cvr high g low
  | 0, 0, _, _, _ => rfl
  | 0, g + 1, low, h1, _ => by
    unfold cvr
    rw [if_neg (by omega)]
  | f + 1, 0, low, _, h2 => by
    unfold cvr
    rw [if_neg (by omega)]
  | f + 1, g + 1, low, h1, h2 => by
    unfold cvr
    by_cases h : low ≤ high
    · have := Nat.two_pow_pos (32 - pickN low high)
      rw [if_pos h, if_pos h, cvr_more f g _ (by omega) (by omega)]
    · rw [if_neg h, if_neg h]
def covers (low high : Nat) : List (Nat × Nat) := cvr high (high + 1 - low) low
theorem covers_step {low high : Nat} (h : low ≤ high) : covers low high = (low, pickN low high) :: covers (low + 2 ^ (32 - pickN low high)) high := by
  have := Nat.two_pow_pos (32 - pickN low high)
  unfold covers
  obtain ⟨f, hf⟩ : ∃ f, high + 1 - low = f + 1 := ⟨high - low, by omega⟩
  rw [hf]
  conv => lhs; unfold cvr
  rw [if_pos h, cvr_more f (high + 1 - (low + 2 ^ (32 - pickN low high))) _ (by omega) (by omega)]
theorem covers_end {low high : Nat} (h : high < low) : covers low high = [] := by
  unfold covers
  rw [show high + 1 - low = 0 by omega]
  rfl
theorem cvr_len {high : Nat} : ∀ (f low : Nat), (cvr high f low).length ≤ f
  | 0, _ => Nat.le_refl _
  | f + 1, low => by
    unfold cvr
    split
    · have := cvr_len (high := high) f (low + 2 ^ (32 - pickN low high))
      simp; omega
    · simp
def crow (l : List (Nat × Nat)) : List (List Value) := l.map fun x => [.int .u32 (x.1 : Int), .int .i64 (x.2 : Int)]
theorem crow_len (l : List (Nat × Nat)) : ∀ es ∈ crow l, es.length = 2 := by
  intro es he
  obtain ⟨x, _, rfl⟩ := List.mem_map.1 he
  rfl
/-- One row is put behind. -/
theorem push_row {H : Heap} {p : Option Addr} {n c : Nat} {l : List (Nat × Nat)} {a b : Nat} {e1 : TypeId} {K : Option Addr → Nat → Nat → Heap → Prop} (h : OwnRows H 24 2 p n c (crow l)) (hn : n ≤ 4294967296)
    (hk : ∀ p' c' H', OwnRows H' 24 2 p' (n + 1) c' (crow (l ++ [(a, b)])) → Step (bl p) H (bl p') H' → K p' (n + 1) c' H') :
    newB (.cells #[(.int .u32 (a : Int)), (.int .i64 (b : Int))] e1) (fun b1 h5 => rdRow h5 (some (⟨b1, 0, none⟩ : Addr)) (1 * 2) fun cs0 => appT 24 (.agg #[(.int .u32 0), (.int .i64 0)]) p n 1 c 2 16 cs0 K h5) H := by
  refine newB_le fun b1 H1 hb1 hl1 hle1 => ?_
  refine rdRow_of (n := 1) (sz := 2) (rows := [[.int .u32 (a : Int), .int .i64 (b : Int)]]) ⟨rfl, (fun h => by cases h), fun ad ha i es hi => ?_⟩ (by decide) rfl ?_
  · cases ha
    cases i with
    | zero =>
      simp only [List.getElem?_cons_zero, Option.some.injEq] at hi
      subst hi
      refine ⟨rfl, fun j v hj => ?_⟩
      rw [add_add]
      exact loc hl1 (by simpa using hj)
    | succ i => simp at hi
  · refine appT_step (xs := [[.int .u32 (a : Int), .int .i64 (b : Int)]]) (h.le hle1) (by decide) rfl rfl rfl (fun es he => by simp only [List.mem_singleton] at he; subst he; rfl) (fun v hv => ?_) (by omega) (by omega) fun p' c' H2 h1 h2 => hk p' c' H2 ?_ ?_
    · simp only [List.flatten_cons, List.flatten_nil, List.append_nil, List.mem_cons, List.not_mem_nil, or_false] at hv
      rcases hv with rfl | rfl <;> rfl
    · simpa [crow] using h1
    · exact (Step.of_le hle1).trans h2
theorem okN_spec {low high n : Nat} : okN low high n = true ↔ low % 2 ^ (32 - n) = 0 ∧ low + 2 ^ (32 - n) ≤ high + 1 := by
  unfold okN
  exact decide_eq_true_iff
theorem dvd_up {x a b : Nat} (h : a ≤ b) (hx : x % 2 ^ b = 0) : x % 2 ^ a = 0 :=
  Nat.mod_eq_zero_of_dvd (Nat.dvd_trans (Nat.pow_dvd_pow 2 h) (Nat.dvd_of_mod_eq_zero hx))
theorem pw_nat {n : Nat} (h : n ≤ 32) : pw (n : Int) = 2 ^ (32 - n) := by
  unfold pw
  rw [show ((32 : Int) - (n : Int)).toNat = 32 - n by omega]
theorem prefix_Cover.inner {Hb H0 : Heap} {low high : Nat} (hlh : low ≤ high) (hh : high < 4294967296) {p : Option Addr} {n c : Nat} {l : List (Nat × Nat)} (hn : n ≤ low) (ho : OwnRows H0 24 2 p n c (crow l)) (hst : Step [] Hb (bl p) H0) {n0 : Nat} (hn0 : n0 ≤ 32) (hno : ∀ j, j < n0 → okN low high j = false) (hdv : low % 2 ^ (32 - n0) = 0)
    {Kx : Int → Option Addr → Nat → Nat → Heap → Prop} {Kr : Option Addr → Nat → Nat → Heap → Prop} {E : Value → Heap → Prop}
    (hk : ∀ p' c' H, OwnRows H 24 2 p' (n + 1) c' (crow (l ++ [(low, pickN low high)])) → Step [] Hb (bl p') H → (low + 2 ^ (32 - pickN low high) ≤ high + 1) → (low + 2 ^ (32 - pickN low high) = high + 1 → Kr p' (n + 1) c' H) ∧ (low + 2 ^ (32 - pickN low high) ≤ high → Kx ((low + 2 ^ (32 - pickN low high) : Nat) : Int) p' (n + 1) c' H)) :
    prefix_Cover.W2 low high p n c n0 Kx Kr E H0 := by
  refine ⟨Loop.of (I := fun st H m => ∃ k : Nat, st = ((low : Int), p, n, c, (k : Int)) ∧ n0 ≤ k ∧ k ≤ 32 ∧ m = 32 - k ∧ OwnRows H 24 2 p n c (crow l) ∧ Step [] Hb (bl p) H ∧ (∀ j, j < k → okN low high j = false)) ?_ ⟨n0, rfl, Nat.le_refl _, hn0, rfl, ho, hst, hno⟩⟩
  rintro m st H ⟨k, rfl, hk0, hk1, rfl, ho, hst, hno⟩ RR hRR
  unfold prefix_Cover.W2.vc
  dsimp only
  refine new2_le fun b0 H1 hn1 hl1 hle1 => ?_
  refine ⟨_, loc hl1 rfl, _, loc hl1 rfl, ?_⟩
  have hdvk : low % 2 ^ (32 - k) = 0 := dvd_up (by omega) hdv
  have hchk : chk low k = true := by
    unfold chk
    refine decide_eq_true ⟨by omega, by omega, ?_⟩
    rw [pw_nat hk1]
    have : ((low % 2 ^ (32 - k) : Nat) : Int) = 0 := by rw [hdvk]; rfl
    rw [← this]
    simp
  refine prefix_Ends.run (by omega) (by omega) ?_
  have hle := chk_le (by omega) (by omega) hchk
  have e2 : ends2 low k = ((low + 2 ^ (32 - k) - 1 : Nat) : Int) := by
    unfold ends2
    have := Nat.two_pow_pos (32 - k)
    rw [if_pos hchk, pw_nat hk1]
    omega
  rw [e2]
  have hpos := Nat.two_pow_pos (32 - k)
  have hst1 : Step [] Hb (bl p) H1 := hst.trans (Step.of_le hle1)
  have ho1 := ho.le hle1
  have hok : okN low high k = true ↔ low + 2 ^ (32 - k) ≤ high + 1 := okN_spec.trans ⟨fun h => h.2, fun h => ⟨hdvk, h⟩⟩
  by_cases hc : low + 2 ^ (32 - k) ≤ high + 1
  · have hp : pickN low high = k := pickN_eq hk1 (hok.2 hc) hno
    rw [hp] at hk
    rw [if_neg (by rw [decide_eq_true_eq]; omega)]
    refine ⟨_, loc hl1 rfl, _, loc hl1 rfl, ?_⟩
    refine push_row ho1 (by omega) fun p' c' H2 h1 h2 => ⟨?_⟩
    unfold prefix_Cover.J3.vc
    have := hk p' c' H2 h1 (hst1.trans h2) hc
    by_cases he : low + 2 ^ (32 - k) = high + 1
    · rw [if_pos (by rw [beq_iff_eq]; omega)]
      exact this.1 he
    · rw [if_neg (by rw [beq_iff_eq]; omega)]
      have hw : IntKind.u32.wrap (((low + 2 ^ (32 - k) - 1 : Nat) : Int) + 1) = ((low + 2 ^ (32 - k) : Nat) : Int) := by rw [w_u32 (by omega) (by omega)]; omega
      rw [hw]
      exact this.2 (by omega)
  · rw [if_pos (by rw [decide_eq_true_eq]; omega), w_i64 (by omega) (by omega)]
    have hk32 : k ≠ 32 := fun e => by
      subst e
      have : 2 ^ (32 - 32) = 1 := rfl
      omega
    refine hRR _ _ (32 - (k + 1)) (by omega) ⟨k + 1, by simp, by omega, by omega, rfl, ho1, hst1, fun j hj => ?_⟩
    by_cases hjk : j = k
    · rw [hjk]
      cases hb : okN low high k with
      | false => rfl
      | true => exact absurd (hok.1 hb) hc
    · exact hno j (by omega)
theorem prefix_Cover.run {Hb : Heap} (ht : IntsIn Hb 0 .u8 dbTab) {low high : Nat} (hlo : low < 4294967296) (hh : high < 4294967296) {K : Option Addr → Nat → Nat → Heap → Prop} {E : Value → Heap → Prop}
    (h : ∀ p c H, OwnRows H 24 2 p (covers low high).length c (crow (covers low high)) → Step [] Hb (bl p) H → K p (covers low high).length c H) : prefix_Cover.c low high K E Hb := by
  refine ⟨?_⟩
  unfold prefix_Cover.vc
  by_cases hlh : low ≤ high
  · rw [if_neg (by rw [decide_eq_true_eq]; omega)]
    refine ⟨Loop.of (I := fun st H m => ∃ (lo : Nat) (l : List (Nat × Nat)), st.1 = (lo : Int) ∧ lo ≤ high ∧ m = high - lo ∧ st.2.2.1 = l.length ∧ l.length ≤ lo ∧ OwnRows H 24 2 st.2.1 st.2.2.1 st.2.2.2 (crow l) ∧ Step [] Hb (bl st.2.1) H ∧ covers low high = l ++ covers lo high) ?_
      ⟨low, [], rfl, hlh, rfl, rfl, Nat.zero_le _, ⟨rfl, crow_len _, Nat.le_refl _, .inl ⟨rfl, rfl⟩⟩, Step.refl _ _, rfl⟩⟩
    rintro m ⟨lo', p, n, c⟩ H ⟨lo, l, hlo', hle, rfl, hn, hll, ho, hst, heq⟩ RR hRR
    dsimp only at hlo' hn hll ho hst
    subst hlo'; subst hn
    unfold prefix_Cover.W1.vc
    dsimp only
    refine math_bits_TrailingZeros32.run (ht.le hst.le) (by omega) fun k hk1 hk2 hk3 => ?_
    have hw : IntKind.i64.wrap (32 - (k : Int)) = ((32 - k : Nat) : Int) := by rw [w_i64 (by omega) (by omega)]; omega
    rw [hw]
    refine prefix_Cover.inner (Hb := Hb) hle hh hll ho hst (by omega) (fun j hj => ?_) (by rw [show 32 - (32 - k) = k by omega]; exact hk2) fun p' c' H2 h1 h2 h3 => ⟨fun h4 => ?_, fun h4 => ?_⟩
    · cases hb : okN lo high j with
      | false => rfl
      | true => exact absurd (dvd_up (a := k + 1) (by omega) (okN_spec.1 hb).1) (hk3 (by omega))
    · have e : covers low high = l ++ [(lo, pickN lo high)] := by
        rw [heq, covers_step hle, covers_end (by omega)]
      have := h p' c' H2
      rw [e, List.length_append] at this
      exact ⟨H2, Heap.Le.refl _, this h1 h2⟩
    · have hpos := Nat.two_pow_pos (32 - pickN lo high)
      refine hRR (_, p', l.length + 1, c') _ (high - (lo + 2 ^ (32 - pickN lo high))) (by omega) ⟨lo + 2 ^ (32 - pickN lo high), l ++ [(lo, pickN lo high)], rfl, h4, rfl, by simp, ?_, h1, h2, ?_⟩
      · rw [List.length_append]; simp; omega
      · rw [heq, covers_step hle, List.append_assoc]; rfl
  · rw [if_pos (by rw [decide_eq_true_eq]; omega)]
    have := h none 0 Hb
    rw [covers_end (by omega)] at this
    exact ⟨Hb, Heap.Le.refl _, this ⟨rfl, crow_len _, Nat.le_refl _, .inl ⟨rfl, rfl⟩⟩ (Step.refl _ _)⟩
end Go.Sh
