/- What the functions on prefixes compute: whether a prefix is right, its ends, what is in it. -/
import Derived.Test.YtennpdminebahaaShR
import Derived.Test.YtennpdminebahaaGpol
namespace Go.Sh
def pw (b : Int) : Nat := 2 ^ (32 - b).toNat
def chk (p b : Int) : Bool := decide (0 ≤ b ∧ b ≤ 32 ∧ p % (pw b : Int) = 0)
theorem pw_pos (b : Int) : 0 < pw b := Nat.two_pow_pos _
theorem pw_le {b : Int} (h : 0 ≤ b) : pw b ≤ 4294967296 := by
  have : pw b ≤ 2 ^ 32 := Nat.pow_le_pow_right (by decide) (by omega)
  simpa using this
theorem prefix_rest.run {n : Int} {K : Int → Heap → Prop} {E : Value → Heap → Prop} {H : Heap} (h0 : 0 ≤ n) (h1 : n ≤ 32) (h : K ((pw n : Int) - 1) H) : prefix_rest.c n K E H := by
  refine ⟨?_⟩
  unfold prefix_rest.vc
  have e1 : IntKind.i64.wrap (32 - n) = 32 - n := w_i64 (by omega) (by omega)
  rw [e1]
  refine ⟨by omega, H, Heap.Le.refl H, ?_⟩
  have hm : min (32 - n).toNat IntKind.u64.bits = (32 - n).toNat := Nat.min_eq_left (by show (32 - n).toNat ≤ 64; omega)
  have hp := pw_pos n
  have hq := pw_le h0
  have e2 : shlI .u64 1 (32 - n) = (pw n : Int) := by
    unfold shlI
    rw [hm, Int.one_mul]
    have : ((2 : Int) ^ (32 - n).toNat) = (pw n : Int) := by unfold pw; push_cast; rfl
    rw [this]
    exact w_u64 (by omega) (by omega)
  rw [e2, w_u64 (by omega) (by omega), w_u32 (by omega) (by omega)]
  exact h
theorem vizardref04_size.run {n : Int} {K : Int → Heap → Prop} {E : Value → Heap → Prop} {H : Heap} (h0 : 0 ≤ n) (h1 : n ≤ 32) (h : K (pw n : Int) H) : vizardref04_size.c n K E H := by
  refine ⟨?_⟩
  unfold vizardref04_size.vc
  have e1 : IntKind.i64.wrap (32 - n) = 32 - n := w_i64 (by omega) (by omega)
  rw [e1]
  refine ⟨by omega, H, Heap.Le.refl H, ?_⟩
  have hm : min (32 - n).toNat IntKind.i64.bits = (32 - n).toNat := Nat.min_eq_left (by show (32 - n).toNat ≤ 64; omega)
  have hp := pw_pos n
  have hq := pw_le h0
  have e2 : shlI .i64 1 (32 - n) = (pw n : Int) := by
    unfold shlI
    rw [hm, Int.one_mul]
    have : ((2 : Int) ^ (32 - n).toNat) = (pw n : Int) := by unfold pw; push_cast; rfl
    rw [this]
    exact w_i64 (by omega) (by omega)
  rw [e2]
  exact h
theorem and_pw {p b : Int} (h0 : 0 ≤ p) (h1 : p < 4294967296) (hb : 0 ≤ b) : bits .and .u32 p ((pw b : Int) - 1) = p % (pw b : Int) := by
  have hp := pw_pos b
  have hq := pw_le hb
  obtain ⟨a, rfl⟩ := Int.eq_ofNat_of_zero_le h0
  have e : ((pw b : Int) - 1) = ((pw b - 1 : Nat) : Int) := by omega
  rw [e, and_u32 a (pw b - 1) (by omega) (by omega)]
  unfold pw
  rw [Nat.and_two_pow_sub_one_eq_mod]
  push_cast
  rfl
theorem prefix_Check.run {p b : Int} {K : Bool → Heap → Prop} {E : Value → Heap → Prop} {H : Heap} (h0 : 0 ≤ p) (h1 : p < 4294967296) (h : K (chk p b) H) : prefix_Check.c p b K E H := by
  refine ⟨?_⟩
  unfold prefix_Check.vc
  intro c hc
  simp only [ldI_iff, add_mk, cell_set_same]
  refine ⟨b, by simp, ?_⟩
  by_cases hb : b ≥ 0
  · rw [if_pos (by simpa using hb)]
    refine ⟨b, by simp, ?_⟩
    by_cases hb2 : b ≤ 32
    · rw [if_pos (by simpa using hb2)]
      refine ⟨p, by simp, b, by simp, ?_⟩
      refine prefix_rest.run hb hb2 ?_
      refine ⟨⟨p, by simp, by simp⟩, leave hc ?_⟩
      have e : (bits .and .u32 p ((pw b : Int) - 1) == 0) = chk p b := by
        rw [and_pw h0 h1 hb]
        simp [chk, hb, hb2]
        rfl
      rw [e]
      exact h
    · rw [if_neg (by simpa using hb2)]
      refine ⟨trivial, leave hc ?_⟩
      have e : chk p b = false := by simp [chk, hb2]
      rw [← e]; exact h
  · rw [if_neg (by simpa using hb)]
    refine ⟨trivial, leave hc ?_⟩
    have e : chk p b = false := by simp [chk, hb]
    rw [← e]; exact h
theorem vizardref04_Check.run {p b : Int} {K : Bool → Heap → Prop} {E : Value → Heap → Prop} {H : Heap} (h0 : 0 ≤ p) (h1 : p < 4294967296) (h : K (chk p b) H) : vizardref04_Check.c p b K E H := by
  refine ⟨?_⟩
  unfold vizardref04_Check.vc
  intro c hc
  simp only [ldI_iff, add_mk, cell_set_same]
  refine ⟨b, by simp, ?_⟩
  by_cases hb : b ≥ 0
  · rw [if_pos (by simpa using hb)]
    refine ⟨b, by simp, ?_⟩
    by_cases hb2 : b ≤ 32
    · rw [if_pos (by simpa using hb2)]
      refine ⟨p, by simp, b, by simp, ?_⟩
      refine vizardref04_size.run hb hb2 ?_
      have hp := pw_pos b
      refine ⟨⟨rfl, rfl⟩, ⟨p, by simp, by simp⟩, by omega, leave hc ?_⟩
      have e : (Int.tmod (IntKind.i64.wrap p) (pw b : Int) == 0) = chk p b := by
        rw [w_i64 (by omega) (by omega), Int.tmod_eq_emod_of_nonneg h0]
        simp [chk, hb, hb2]
        rfl
      rw [e]
      exact h
    · rw [if_neg (by simpa using hb2)]
      refine ⟨trivial, trivial, leave hc ?_⟩
      have e : chk p b = false := by simp [chk, hb2]
      rw [← e]; exact h
  · rw [if_neg (by simpa using hb)]
    refine ⟨trivial, trivial, leave hc ?_⟩
    have e : chk p b = false := by simp [chk, hb]
    rw [← e]; exact h
theorem chk_le {p b : Int} (h0 : 0 ≤ p) (h1 : p < 4294967296) (h : chk p b = true) : 0 ≤ b ∧ b ≤ 32 ∧ p % (pw b : Int) = 0 ∧ p + pw b ≤ 4294967296 := by
  unfold chk at h
  obtain ⟨hb, hb2, hm⟩ := of_decide_eq_true h
  refine ⟨hb, hb2, hm, ?_⟩
  have hp := pw_pos b
  have hd : pw b ∣ 4294967296 := by
    have : pw b ∣ 2 ^ 32 := Nat.pow_dvd_pow 2 (by omega)
    simpa using this
  obtain ⟨m, hm2⟩ := hd
  obtain ⟨n, rfl⟩ := Int.eq_ofNat_of_zero_le h0
  have hn : n % pw b = 0 := by exact_mod_cast hm
  obtain ⟨q, rfl⟩ := Nat.dvd_of_mod_eq_zero hn
  have hlt : pw b * q < pw b * m := by rw [← hm2]; omega
  have hq : q + 1 ≤ m := Nat.lt_of_mul_lt_mul_left hlt
  have := Nat.mul_le_mul_left (pw b) hq
  rw [← hm2, Nat.mul_add, Nat.mul_one] at this
  omega
theorem or_pw {p b : Int} (h0 : 0 ≤ p) (h1 : p < 4294967296) (h : chk p b = true) : bits .or .u32 p ((pw b : Int) - 1) = p + pw b - 1 := by
  obtain ⟨hb, hb2, hm, _⟩ := chk_le h0 h1 h
  have hp := pw_pos b
  have hq := pw_le hb
  obtain ⟨n, rfl⟩ := Int.eq_ofNat_of_zero_le h0
  have hn : n % pw b = 0 := by exact_mod_cast hm
  have e : ((pw b : Int) - 1) = ((pw b - 1 : Nat) : Int) := by omega
  rw [e, or_u32 n (pw b - 1) (by omega) (by omega)]
  obtain ⟨q, rfl⟩ := Nat.dvd_of_mod_eq_zero hn
  have : pw b * q + (pw b - 1) = pw b * q ||| (pw b - 1) := Nat.two_pow_add_eq_or_of_lt (by unfold pw; have := Nat.two_pow_pos (32 - b).toNat; omega) q
  rw [← this]
  omega
theorem andNot_pw {a b : Int} (h0 : 0 ≤ a) (h1 : a < 4294967296) (hb : 0 ≤ b) : bits .andNot .u32 a ((pw b : Int) - 1) = a / pw b * pw b := by
  have hp := pw_pos b
  have hq := pw_le hb
  obtain ⟨n, rfl⟩ := Int.eq_ofNat_of_zero_le h0
  have e : ((pw b : Int) - 1) = ((pw b - 1 : Nat) : Int) := by omega
  rw [e, andNot_u32 n (pw b - 1) (by omega) (by omega)]
  have : n &&& (4294967295 - (pw b - 1)) = n / pw b * pw b := by
    have e2 : 4294967295 - (pw b - 1) = 2 ^ 32 - ((pw b - 1) + 1) := by omega
    rw [e2]
    apply Nat.eq_of_testBit_eq
    intro i
    rw [Nat.testBit_and, Nat.testBit_two_pow_sub_succ (by omega)]
    unfold pw
    rw [Nat.testBit_two_pow_sub_one, Nat.testBit_mul_two_pow, Nat.testBit_div_two_pow]
    by_cases hi : (32 - b).toNat ≤ i
    · have e3 : i - (32 - b).toNat + (32 - b).toNat = i := by omega
      rw [e3]
      by_cases hi2 : i < 32
      · have h9 : 32 - b ≤ (i : Int) := by omega
        simp [hi2, hi, h9]
      · have : n.testBit i = false := Nat.testBit_lt_two_pow (Nat.lt_of_lt_of_le (by omega : n < 2 ^ 32) (Nat.pow_le_pow_right (by decide) (by omega)))
        simp [this]
    · have hi2 : i < 32 := by omega
      have hi3 : i < (32 - b).toNat := by omega
      simp [hi2, hi3, hi]
  rw [this]
  push_cast
  rfl
def ends1 (p b : Int) : Int := if chk p b = true then p else 0
def ends2 (p b : Int) : Int := if chk p b = true then p + pw b - 1 else 0
def hasB (p b a : Int) : Bool := chk p b && decide (p ≤ a ∧ a < p + pw b)
theorem prefix_Ends.run {p b : Int} {K : Int → Int → Heap → Prop} {E : Value → Heap → Prop} {H : Heap} (h0 : 0 ≤ p) (h1 : p < 4294967296) (h : K (ends1 p b) (ends2 p b) H) : prefix_Ends.c p b K E H := by
  refine ⟨?_⟩
  unfold prefix_Ends.vc
  intro c hc
  simp only [ldI_iff, add_mk, cell_set_same]
  refine ⟨p, by simp, b, by simp, prefix_Check.run h0 h1 ?_⟩
  cases hk : chk p b with
  | false =>
    rw [if_pos (by simp)]
    refine leave hc ?_
    simpa [ends1, ends2, hk] using h
  | true =>
    obtain ⟨hb, hb2, _, _⟩ := chk_le h0 h1 hk
    rw [if_neg (by simp)]
    refine ⟨p, by simp, p, by simp, b, by simp, prefix_rest.run hb hb2 ⟨⟨p, by simp, by simp⟩, ⟨p, by simp, by simp⟩, leave hc ?_⟩⟩
    rw [or_pw h0 h1 hk]
    simpa [ends1, ends2, hk] using h
theorem vizardref04_Ends.run {p b : Int} {K : Int → Int → Heap → Prop} {E : Value → Heap → Prop} {H : Heap} (h0 : 0 ≤ p) (h1 : p < 4294967296) (h : K (ends1 p b) (ends2 p b) H) : vizardref04_Ends.c p b K E H := by
  refine ⟨?_⟩
  unfold vizardref04_Ends.vc
  intro c hc
  simp only [ldI_iff, add_mk, cell_set_same]
  refine ⟨p, by simp, b, by simp, vizardref04_Check.run h0 h1 ?_⟩
  cases hk : chk p b with
  | false =>
    rw [if_pos (by simp)]
    refine leave hc ?_
    simpa [ends1, ends2, hk] using h
  | true =>
    obtain ⟨hb, hb2, _, hle⟩ := chk_le h0 h1 hk
    have hp := pw_pos b
    rw [if_neg (by simp)]
    refine ⟨p, by simp, p, by simp, b, by simp, vizardref04_size.run hb hb2 ⟨⟨rfl, rfl⟩, ⟨p, by simp, by simp⟩, ⟨p, by simp, by simp⟩, leave hc ?_⟩⟩
    rw [w_i64 (n := p) (by omega) (by omega), w_i64 (n := p + pw b) (by omega) (by omega), w_i64 (by omega) (by omega), w_u32 (by omega) (by omega)]
    simpa [ends1, ends2, hk] using h
theorem has_eq {p b a : Int} (h0 : 0 ≤ p) (h1 : p < 4294967296) (a0 : 0 ≤ a) (a1 : a < 4294967296) (hk : chk p b = true) : (bits .andNot .u32 a ((pw b : Int) - 1) == p) = hasB p b a := by
  obtain ⟨hb, hb2, hm, _⟩ := chk_le h0 h1 hk
  have hp : (0 : Int) < pw b := by have := pw_pos b; omega
  rw [andNot_pw a0 a1 hb]
  have e1 := Int.emod_add_mul_ediv a (pw b)
  have e2 := Int.emod_nonneg a (Int.ne_of_gt hp)
  have e3 := Int.emod_lt_of_pos a hp
  have e4 := Int.emod_add_mul_ediv p (pw b)
  rw [hm] at e4
  simp only [hasB, hk, Bool.true_and]
  have hc := Int.mul_comm (a / pw b) (pw b)
  by_cases he : a / (pw b : Int) * (pw b : Int) = p
  · rw [he, decide_eq_true (by omega)]
    simp
  · have hne : ¬ (p ≤ a ∧ a < p + pw b) := by
      rintro ⟨h2, h3⟩
      apply he
      have : a / (pw b : Int) = p / (pw b : Int) := by
        have h4 : a = p + (a - p) := by omega
        rw [h4, show p = (pw b : Int) * (p / pw b) by omega, Int.add_comm, Int.add_mul_ediv_left _ _ (Int.ne_of_gt hp), Int.ediv_eq_zero_of_lt (by omega) (by omega), Int.mul_ediv_cancel_left _ (Int.ne_of_gt hp)]
        omega
      rw [this, Int.mul_comm]
      omega
    rw [decide_eq_false hne]
    simpa using he
theorem prefix_Has.run {p b a : Int} {K : Bool → Heap → Prop} {E : Value → Heap → Prop} {H : Heap} (h0 : 0 ≤ p) (h1 : p < 4294967296) (a0 : 0 ≤ a) (a1 : a < 4294967296) (h : K (hasB p b a) H) : prefix_Has.c p b a K E H := by
  refine ⟨?_⟩
  unfold prefix_Has.vc
  intro c hc
  simp only [ldI_iff, add_mk, cell_set_same]
  refine ⟨p, by simp, b, by simp, prefix_Check.run h0 h1 ?_⟩
  cases hk : chk p b with
  | false =>
    rw [if_neg (by simp)]
    refine ⟨trivial, leave hc ?_⟩
    simpa [hasB, hk] using h
  | true =>
    obtain ⟨hb, hb2, _, _⟩ := chk_le h0 h1 hk
    rw [if_pos (by simp)]
    refine ⟨b, by simp, p, by simp, prefix_rest.run hb hb2 ⟨⟨p, by simp, by simp⟩, leave hc ?_⟩⟩
    rw [has_eq h0 h1 a0 a1 hk]
    exact h
theorem vizardref04_Has.run {p b a : Int} {K : Bool → Heap → Prop} {E : Value → Heap → Prop} {H : Heap} (h0 : 0 ≤ p) (h1 : p < 4294967296) (a0 : 0 ≤ a) (a1 : a < 4294967296) (h : K (hasB p b a) H) : vizardref04_Has.c p b a K E H := by
  refine ⟨?_⟩
  unfold vizardref04_Has.vc
  intro c hc
  simp only [ldI_iff, add_mk, cell_set_same]
  refine ⟨p, by simp, b, by simp, vizardref04_Check.run h0 h1 ?_⟩
  cases hk : chk p b with
  | false =>
    rw [if_neg (by simp)]
    refine ⟨trivial, trivial, trivial, leave hc ?_⟩
    simpa [hasB, hk] using h
  | true =>
    obtain ⟨hb, hb2, _, hle⟩ := chk_le h0 h1 hk
    have hp := pw_pos b
    rw [if_pos (by simp)]
    refine ⟨p, by simp, ?_⟩
    by_cases hap : a ≥ p
    · rw [if_pos (by simpa using hap)]
      refine ⟨p, by simp, b, by simp, vizardref04_size.run hb hb2 ⟨⟨rfl, rfl⟩, ⟨p, by simp, by simp⟩, ⟨rfl, rfl⟩, leave hc ?_⟩⟩
      rw [w_i64 (n := p) (by omega) (by omega), w_i64 (n := a) (by omega) (by omega), w_i64 (by omega) (by omega)]
      have : p ≤ a := hap
      simpa [hasB, hk, this] using h
    · rw [if_neg (by simpa using hap)]
      refine ⟨trivial, trivial, trivial, leave hc ?_⟩
      have : ¬ p ≤ a := hap
      simpa [hasB, hk, this] using h
end Go.Sh
