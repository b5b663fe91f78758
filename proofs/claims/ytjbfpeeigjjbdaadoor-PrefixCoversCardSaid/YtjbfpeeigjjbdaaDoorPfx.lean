/- Prefixes: what a prefix leaves open, whether it is right, its ends (as in PHas); over the texts of the cover. -/
import Derived.Test.YtjbfpeeigjjbdaaDoorShX
import Derived.Test.YtjbfpeeigjjbdaaDoorGcov
namespace Go.Sh
def pw (b : Int) : Nat := 2 ^ (32 - b).toNat
def chk (p b : Int) : Bool := decide (0 ≤ b ∧ b ≤ 32 ∧ p % (pw b : Int) = 0)
theorem pw_pos (b : Int) : 0 < pw b := Nat.two_pow_pos _
theorem pw_le {b : Int} (h : 0 ≤ b) : pw b ≤ 4294967296 := by
  have : pw b ≤ 2 ^ 32 := Nat.pow_le_pow_right (by decide) (by omega)
  simpa using this
theorem prefix_rest.run {n : Int} {K : Int → Heap → Prop} {E : Value → Heap → Prop} {H : Heap} (h0 : 0 ≤ n) (h1 : n ≤ 32) (h : K ((pw n : Int) - 1) H) : prefix_rest.c n K E H := by
  refine ⟨?_⟩
  unfold prefix_rest.vc
  have e1 : IntKind.i64.wrap (32 - n) = 32 - n := w_i64 (by omega) (by omega)
  rw [e1]
  refine ⟨by omega, H, Heap.Le.refl H, ?_⟩
  have hm : min (32 - n).toNat IntKind.u64.bits = (32 - n).toNat := Nat.min_eq_left (by show (32 - n).toNat ≤ 64; omega)
  have hp := pw_pos n
  have hq := pw_le h0
  have e2 : shlI .u64 1 (32 - n) = (pw n : Int) := by
    unfold shlI
    rw [hm, Int.one_mul]
    have : ((2 : Int) ^ (32 - n).toNat) = (pw n : Int) := by unfold pw; push_cast; rfl
    rw [this]
    exact w_u64 (by omega) (by omega)
  rw [e2, w_u64 (by omega) (by omega), w_u32 (by omega) (by omega)]
  exact h
theorem vizardref04_size.run {n : Int} {K : Int → Heap → Prop} {E : Value → Heap → Prop} {H : Heap} (h0 : 0 ≤ n) (h1 : n ≤ 32) (h : K (pw n : Int) H) : vizardref04_size.c n K E H := by
  refine ⟨?_⟩
  unfold vizardref04_size.vc
  have e1 : IntKind.i64.wrap (32 - n) = 32 - n := w_i64 (by omega) (by omega)
  rw [e1]
  refine ⟨by omega, H, Heap.Le.refl H, ?_⟩
  have hm : min (32 - n).toNat IntKind.i64.bits = (32 - n).toNat := Nat.min_eq_left (by show (32 - n).toNat ≤ 64; omega)
  have hp := pw_pos n
  have hq := pw_le h0
  have e2 : shlI .i64 1 (32 - n) = (pw n : Int) := by
    unfold shlI
    rw [hm, Int.one_mul]
    have : ((2 : Int) ^ (32 - n).toNat) = (pw n : Int) := by unfold pw; push_cast; rfl
    rw [this]
    exact w_i64 (by omega) (by omega)
  rw [e2]
  exact h
theorem and_pw {p b : Int} (h0 : 0 ≤ p) (h1 : p < 4294967296) (hb : 0 ≤ b) : bits .and .u32 p ((pw b : Int) - 1) = p % (pw b : Int) := by
  have hp := pw_pos b
  have hq := pw_le hb
  obtain ⟨a, rfl⟩ := Int.eq_ofNat_of_zero_le h0
  have e : ((pw b : Int) - 1) = ((pw b - 1 : Nat) : Int) := by omega
  rw [e, and_u32 a (pw b - 1) (by omega) (by omega)]
  unfold pw
  rw [Nat.and_two_pow_sub_one_eq_mod]
  push_cast
  rfl
theorem prefix_Check.run {p b : Int} {K : Bool → Heap → Prop} {E : Value → Heap → Prop} {H : Heap} (h0 : 0 ≤ p) (h1 : p < 4294967296) (h : K (chk p b) H) : prefix_Check.c p b K E H := by
  refine ⟨?_⟩
  unfold prefix_Check.vc
  intro c hc
  simp only [ldI_iff, add_mk, cell_set_same]
  refine ⟨b, by simp, ?_⟩
  by_cases hb : b ≥ 0
  · rw [if_pos (by simpa using hb)]
    refine ⟨b, by simp, ?_⟩
    by_cases hb2 : b ≤ 32
    · rw [if_pos (by simpa using hb2)]
      refine ⟨p, by simp, b, by simp, ?_⟩
      refine prefix_rest.run hb hb2 ?_
      refine ⟨⟨p, by simp, by simp⟩, leave hc ?_⟩
      have e : (bits .and .u32 p ((pw b : Int) - 1) == 0) = chk p b := by
        rw [and_pw h0 h1 hb]
        simp [chk, hb, hb2]
        rfl
      rw [e]
      exact h
    · rw [if_neg (by simpa using hb2)]
      refine ⟨trivial, leave hc ?_⟩
      have e : chk p b = false := by simp [chk, hb2]
      rw [← e]; exact h
  · rw [if_neg (by simpa using hb)]
    refine ⟨trivial, leave hc ?_⟩
    have e : chk p b = false := by simp [chk, hb]
    rw [← e]; exact h
theorem chk_le {p b : Int} (h0 : 0 ≤ p) (h1 : p < 4294967296) (h : chk p b = true) : 0 ≤ b ∧ b ≤ 32 ∧ p % (pw b : Int) = 0 ∧ p + pw b ≤ 4294967296 := by
  unfold chk at h
  obtain ⟨hb, hb2, hm⟩ := of_decide_eq_true h
  refine ⟨hb, hb2, hm, ?_⟩
  have hp := pw_pos b
  have hd : pw b ∣ 4294967296 := by
    have : pw b ∣ 2 ^ 32 := Nat.pow_dvd_pow 2 (by omega)
    simpa using this
  obtain ⟨m, hm2⟩ := hd
  obtain ⟨n, rfl⟩ := Int.eq_ofNat_of_zero_le h0
  have hn : n % pw b = 0 := by exact_mod_cast hm
  obtain ⟨q, rfl⟩ := Nat.dvd_of_mod_eq_zero hn
  have hlt : pw b * q < pw b * m := by rw [← hm2]; omega
  have hq : q + 1 ≤ m := Nat.lt_of_mul_lt_mul_left hlt
  have := Nat.mul_le_mul_left (pw b) hq
  rw [← hm2, Nat.mul_add, Nat.mul_one] at this
  omega
theorem or_pw {p b : Int} (h0 : 0 ≤ p) (h1 : p < 4294967296) (h : chk p b = true) : bits .or .u32 p ((pw b : Int) - 1) = p + pw b - 1 := by
  obtain ⟨hb, hb2, hm, _⟩ := chk_le h0 h1 h
  have hp := pw_pos b
  have hq := pw_le hb
  obtain ⟨n, rfl⟩ := Int.eq_ofNat_of_zero_le h0
  have hn : n % pw b = 0 := by exact_mod_cast hm
  have e : ((pw b : Int) - 1) = ((pw b - 1 : Nat) : Int) := by omega
  rw [e, or_u32 n (pw b - 1) (by omega) (by omega)]
  obtain ⟨q, rfl⟩ := Nat.dvd_of_mod_eq_zero hn
  have : pw b * q + (pw b - 1) = pw b * q ||| (pw b - 1) := Nat.two_pow_add_eq_or_of_lt (by unfold pw; have := Nat.two_pow_pos (32 - b).toNat; omega) q
  rw [← this]
  omega
def ends1 (p b : Int) : Int := if chk p b = true then p else 0
def ends2 (p b : Int) : Int := if chk p b = true then p + pw b - 1 else 0
def hasB (p b a : Int) : Bool := chk p b && decide (p ≤ a ∧ a < p + pw b)
theorem prefix_Ends.run {p b : Int} {K : Int → Int → Heap → Prop} {E : Value → Heap → Prop} {H : Heap} (h0 : 0 ≤ p) (h1 : p < 4294967296) (h : K (ends1 p b) (ends2 p b) H) : prefix_Ends.c p b K E H := by
  refine ⟨?_⟩
  unfold prefix_Ends.vc
  intro c hc
  simp only [ldI_iff, add_mk, cell_set_same]
  refine ⟨p, by simp, b, by simp, prefix_Check.run h0 h1 ?_⟩
  cases hk : chk p b with
  | false =>
    rw [if_pos (by simp)]
    refine leave hc ?_
    simpa [ends1, ends2, hk] using h
  | true =>
    obtain ⟨hb, hb2, _, _⟩ := chk_le h0 h1 hk
    rw [if_neg (by simp)]
    refine ⟨p, by simp, p, by simp, b, by simp, prefix_rest.run hb hb2 ⟨⟨p, by simp, by simp⟩, ⟨p, by simp, by simp⟩, leave hc ?_⟩⟩
    rw [or_pw h0 h1 hk]
    simpa [ends1, ends2, hk] using h
end Go.Sh
