/- Addresses in writing: plain laws (the first part of the prefix rows' text). -/
import Derived.Test.YtpmgchippfmakaaDoorTgA
import Derived.Test.YtpmgchippfmakaaDoorPaq
namespace Go.Sh
open Go.Proofs Num
set_option maxRecDepth 8000
/-! ### Decimal digits -/
def dg (n : Nat) : List UInt8 := if n < 10 then [UInt8.ofNat (48 + n)] else if n < 100 then [UInt8.ofNat (48 + n / 10), UInt8.ofNat (48 + n % 10)] else [UInt8.ofNat (48 + n / 100), UInt8.ofNat (48 + n / 10 % 10), UInt8.ofNat (48 + n % 10)]
theorem dg_eq {n : Nat} (h : n < 1000) : Lib.decDigits n = dg n := by
  unfold dg
  split
  · rename_i h1; exact Lib.decDigits_one h1
  · split
    · rename_i h1 h2; exact Lib.decDigits_two h1 h2
    · rename_i h1 h2
      rw [Lib.decDigits, dif_neg h1, Lib.decDigits_two (by omega) (by omega), Nat.div_div_eq_div_mul]
      rfl
theorem dg_itoa {n : Nat} (h : n < 1000) : Lib.itoa (n : Int) = dg n := by rw [itoa_nat, dg_eq h]
def dgOk (n : Nat) : Bool := (dg n).all (fun c => decide (48 ≤ c.toNat ∧ c.toNat ≤ 57)) && decide (Lib.atoiAll (dg n) = .ok (n : Int)) && decide ((dg n).foldl (fun m c => (m * 10 + (c.toNat - 48)) % 256) 0 = n) && decide ((dg n).length ≤ 3)
theorem dg_all : ∀ n : Fin 256, dgOk n.val = true := by decide +kernel
theorem dg_facts {n : Nat} (h : n < 256) : (∀ c ∈ dg n, 48 ≤ c.toNat ∧ c.toNat ≤ 57) ∧ Lib.atoiAll (dg n) = .ok (n : Int) ∧ (dg n).foldl (fun m c => (m * 10 + (c.toNat - 48)) % 256) 0 = n ∧ (dg n).length ≤ 3 := by
  have := dg_all ⟨n, h⟩
  unfold dgOk at this
  simp only [Bool.and_eq_true, decide_eq_true_eq, List.all_eq_true] at this
  exact ⟨this.1.1.1, this.1.1.2, this.1.2, this.2⟩
theorem dg_no {n : Nat} (h : n < 256) {c : UInt8} (hc : c.toNat < 48) : c ∉ dg n := fun hm => by
  have := (dg_facts h).1 c hm
  omega
theorem dg_inj {a b : Nat} (ha : a < 256) (hb : b < 256) (h : dg a = dg b) : a = b := by
  have h1 := (dg_facts ha).2.1
  have h2 := (dg_facts hb).2.1
  rw [h, h2] at h1
  have := Lib.NumEnd.ok.inj h1
  omega
def dotL (a : Nat) : List UInt8 := dg (a / 16777216) ++ 46 :: (dg (a / 65536 % 256) ++ 46 :: (dg (a / 256 % 256) ++ 46 :: dg (a % 256)))
theorem dotB_list {a : Nat} (h : a < 4294967296) : (dotB a).data.toList = dotL a := by
  unfold dotB dotL
  simp only [ba_app, numB, ba_list]
  rw [dg_eq (n := a / 16777216) (by omega), dg_eq (n := a / 65536 % 256) (by omega), dg_eq (n := a / 256 % 256) (by omega), dg_eq (n := a % 256) (by omega)]
  simp [sep46]
theorem split_dot {a : Nat} (h : a < 4294967296) : splitDot (dotL a) = [dg (a / 16777216), dg (a / 65536 % 256), dg (a / 256 % 256), dg (a % 256)] := by
  unfold dotL
  have hn : ∀ {n : Nat}, n < 256 → (46 : UInt8) ∉ dg n := fun hn => dg_no hn (by decide)
  rw [splitDot_at (hn (by omega)), splitDot_at (hn (by omega)), splitDot_at (hn (by omega)), splitDot_none (hn (by omega))]
theorem okPart_dg {n : Nat} (h : n < 256) : okPart ⟨(dg n).toArray⟩ = some (n : Int) :=
  okPart_some (by rw [ba_list]; exact (dg_facts h).2.1) (by omega) (by omega) (by rw [dg_itoa (by omega)])
theorem parse_dot {a : Nat} (h : a < 4294967296) : parseV (dotB a) = ((a : Int), true) := by
  have hp : partsB (dotB a).data.toList = [⟨(dg (a / 16777216)).toArray⟩, ⟨(dg (a / 65536 % 256)).toArray⟩, ⟨(dg (a / 256 % 256)).toArray⟩, ⟨(dg (a % 256)).toArray⟩] := by
    rw [dotB_list h]
    unfold partsB
    rw [split_dot h]
    rfl
  unfold parseV
  rw [hp, if_pos]
  · have e0 := okPart_dg (n := a / 16777216) (by omega)
    have e1 := okPart_dg (n := a / 65536 % 256) (by omega)
    have e2 := okPart_dg (n := a / 256 % 256) (by omega)
    have e3 := okPart_dg (n := a % 256) (by omega)
    simp only [valP, List.foldl_cons, List.foldl_nil, e0, e1, e2, e3, Option.getD_some]
    refine Prod.ext ?_ rfl
    dsimp only
    omega
  · refine ⟨?_, rfl⟩
    simp only [allOk, List.all_cons, List.all_nil, okPart_dg (n := a / 16777216) (by omega), okPart_dg (n := a / 65536 % 256) (by omega), okPart_dg (n := a / 256 % 256) (by omega), okPart_dg (n := a % 256) (by omega)]
    rfl
theorem dot_inj {a b : Nat} (ha : a < 4294967296) (hb : b < 4294967296) (h : dotB a = dotB b) : a = b := by
  have h1 := parse_dot ha
  rw [h, parse_dot hb] at h1
  have := (Prod.mk.inj h1).1
  omega
theorem unsplit : ∀ (l : List UInt8) (x : List UInt8) (xs : List (List UInt8)), splitDot l = x :: xs → (xs = [] ∧ l = x) ∨ (∃ l', l = x ++ 46 :: l' ∧ splitDot l' = xs)
  | [], x, xs, h => by
    unfold splitDot at h
    obtain ⟨rfl, rfl⟩ := List.cons.inj h
    exact .inl ⟨rfl, rfl⟩
  | c :: cs, x, xs, h => by
    unfold splitDot at h
    split at h
    · rename_i hc
      obtain ⟨rfl, rfl⟩ := List.cons.inj h
      exact .inr ⟨cs, by simp [hc], rfl⟩
    · split at h
      · rename_i he; exact absurd he (splitDot_ne cs)
      · rename_i y ys he
        obtain ⟨rfl, rfl⟩ := List.cons.inj h
        rcases unsplit cs y ys he with ⟨h1, h2⟩ | ⟨l', h1, h2⟩
        · exact .inl ⟨h1, by rw [h2]⟩
        · exact .inr ⟨l', by rw [h1]; rfl, h2⟩
theorem okPart_is {x : ByteArray} {d : Int} (h : okPart x = some d) : ∃ n : Nat, n < 256 ∧ d = n ∧ x = ⟨(dg n).toArray⟩ := by
  obtain ⟨h0, h1⟩ := okPart_range h
  unfold okPart at h
  split at h
  · split at h
    · rename_i hc
      cases h
      refine ⟨d.toNat, by omega, by omega, ?_⟩
      have hx := hc.2.2
      have e : d = ((d.toNat : Nat) : Int) := by omega
      rw [e, dg_itoa (by omega)] at hx
      exact hx.symm
    · cases h
  · cases h
theorem parse_is {s : ByteArray} (h : (parseV s).2 = true) : ∃ a : Nat, a < 4294967296 ∧ s = dotB a := by
  unfold parseV at h
  split at h
  · rename_i hc
    obtain ⟨hall, hlen⟩ := hc
    unfold partsB at hall hlen
    match hsp : splitDot s.data.toList, hlen with
    | [x0, x1, x2, x3], _ =>
      rw [hsp] at hall
      have hok : ∀ x ∈ [x0, x1, x2, x3], ∃ n : Nat, n < 256 ∧ x = dg n := fun x hx => by
        have := List.all_eq_true.1 hall ⟨x.toArray⟩ (List.mem_map.2 ⟨x, hx, rfl⟩)
        obtain ⟨d, hd⟩ := Option.isSome_iff_exists.1 this
        obtain ⟨n, h1, _, h3⟩ := okPart_is hd
        refine ⟨n, h1, ?_⟩
        have := congrArg (fun y : ByteArray => y.data.toList) h3
        simpa using this
      obtain ⟨d0, k0, e0⟩ := hok x0 (by simp)
      obtain ⟨d1, k1, e1⟩ := hok x1 (by simp)
      obtain ⟨d2, k2, e2⟩ := hok x2 (by simp)
      obtain ⟨d3, k3, e3⟩ := hok x3 (by simp)
      rcases unsplit _ _ _ hsp with ⟨h1, _⟩ | ⟨l1, h1, h2⟩
      · cases h1
      rcases unsplit _ _ _ h2 with ⟨h3, _⟩ | ⟨l2, h3, h4⟩
      · cases h3
      rcases unsplit _ _ _ h4 with ⟨h5, _⟩ | ⟨l3, h5, h6⟩
      · cases h5
      rcases unsplit _ _ _ h6 with ⟨_, h7⟩ | ⟨l4, _, h8⟩
      · refine ⟨((d0 * 256 + d1) * 256 + d2) * 256 + d3, by omega, ba_ext ?_⟩
        rw [dotB_list (by omega), h1, h3, h5, h7, e0, e1, e2, e3]
        unfold dotL
        rw [show (((d0 * 256 + d1) * 256 + d2) * 256 + d3) / 16777216 = d0 by omega, show (((d0 * 256 + d1) * 256 + d2) * 256 + d3) / 65536 % 256 = d1 by omega, show (((d0 * 256 + d1) * 256 + d2) * 256 + d3) / 256 % 256 = d2 by omega, show (((d0 * 256 + d1) * 256 + d2) * 256 + d3) % 256 = d3 by omega]
      · exact absurd h8 (splitDot_ne l4)
  · cases h
theorem parse_cases (s : ByteArray) : (∃ a : Nat, a < 4294967296 ∧ s = dotB a ∧ parseV s = ((a : Int), true)) ∨ ((∀ a : Nat, a < 4294967296 → s ≠ dotB a) ∧ parseV s = (0, false)) := by
  cases hb : (parseV s).2 with
  | true =>
    obtain ⟨a, ha, rfl⟩ := parse_is hb
    exact .inl ⟨a, ha, rfl, parse_dot ha⟩
  | false =>
    refine .inr ⟨fun a ha hs => ?_, ?_⟩
    · rw [hs, parse_dot ha] at hb; cases hb
    · unfold parseV at hb ⊢
      split
      · rename_i hc; rw [if_pos hc] at hb; cases hb
      · rfl
/-! ### The document's way: digits, whatever they are; then written and compared -/
def stP (x : Nat × Nat) (c : UInt8) : Nat × Nat := if c = 46 then ((x.1 * 256 + x.2) % 4294967296, 0) else (x.1, (x.2 * 10 + (c.toNat + 208) % 256) % 256)
def refA (l : List UInt8) : Nat := (((l.take 16).foldl stP (0, 0)).1 * 256 + ((l.take 16).foldl stP (0, 0)).2) % 4294967296
theorem st_run : ∀ (l : List UInt8) (a m : Nat), (∀ c ∈ l, 48 ≤ c.toNat ∧ c.toNat ≤ 57) → l.foldl stP (a, m) = (a, l.foldl (fun m c => (m * 10 + (c.toNat - 48)) % 256) m)
  | [], _, _, _ => rfl
  | c :: cs, a, m, h => by
    have hc := h c (by simp)
    have hne : c ≠ 46 := fun e => by subst e; exact absurd hc.1 (by decide)
    rw [List.foldl_cons, List.foldl_cons]
    have e : stP (a, m) c = (a, (m * 10 + (c.toNat - 48)) % 256) := by
      unfold stP
      rw [if_neg hne]
      refine Prod.ext rfl ?_
      dsimp only
      omega
    rw [e]
    exact st_run cs a _ fun c hc => h c (by simp [hc])
theorem st_dg {n : Nat} (h : n < 256) (a : Nat) : (dg n).foldl stP (a, 0) = (a, n) := by
  rw [st_run _ _ _ (dg_facts h).1, (dg_facts h).2.2.1]
theorem refA_dot {a : Nat} (h : a < 4294967296) : refA (dotL a) = a := by
  have hl : (dotL a).length ≤ 15 := by
    unfold dotL
    have h0 := (dg_facts (n := a / 16777216) (by omega)).2.2.2
    have h1 := (dg_facts (n := a / 65536 % 256) (by omega)).2.2.2
    have h2 := (dg_facts (n := a / 256 % 256) (by omega)).2.2.2
    have h3 := (dg_facts (n := a % 256) (by omega)).2.2.2
    simp only [List.length_append, List.length_cons]
    omega
  unfold refA
  rw [List.take_of_length_le (by omega)]
  have dot : ∀ x : Nat × Nat, stP x 46 = ((x.1 * 256 + x.2) % 4294967296, 0) := fun x => rfl
  unfold dotL
  simp only [List.foldl_append, List.foldl_cons, st_dg (n := a / 16777216) (by omega), st_dg (n := a / 65536 % 256) (by omega), st_dg (n := a / 256 % 256) (by omega), st_dg (n := a % 256) (by omega), dot]
  omega
theorem refA_lt (l : List UInt8) : refA l < 4294967296 := Nat.mod_lt _ (by decide)
theorem parse_ref (s : ByteArray) : parseV s = if dotB (refA s.data.toList) = s then ((refA s.data.toList : Int), true) else (0, false) := by
  split
  · rename_i h
    conv => lhs; rw [← h]
    exact parse_dot (refA_lt _)
  · rename_i h
    rcases parse_cases s with ⟨a, ha, h1, _⟩ | ⟨_, h2⟩
    · exfalso
      apply h
      rw [h1, dotB_list ha, refA_dot ha]
    · exact h2
/-! ### Prefixes in writing -/
def printB (a n : Nat) : ByteArray := (dotB a ++ (⟨#[47]⟩ : ByteArray)) ++ numB n
theorem print_list {a n : Nat} (ha : a < 4294967296) (hn : n < 1000) : (printB a n).data.toList = dotL a ++ 47 :: dg n := by
  unfold printB
  simp only [ba_app, numB, ba_list, dotB_list ha, dg_eq hn]
  simp
theorem dot_noslash {a : Nat} (h : a < 4294967296) : (47 : UInt8) ∉ dotL a := by
  have hn : ∀ {n : Nat}, n < 256 → (47 : UInt8) ∉ dg n := fun hn => dg_no hn (by decide)
  unfold dotL
  simp only [List.mem_append, List.mem_cons, not_or]
  refine ⟨hn (by omega), by decide, hn (by omega), by decide, hn (by omega), by decide, hn (by omega)⟩
theorem first_at {c : UInt8} : ∀ {x y x' y' : List UInt8}, c ∉ x → c ∉ x' → x ++ c :: y = x' ++ c :: y' → x = x' ∧ y = y'
  | [], y, [], y', _, _, h => ⟨rfl, (List.cons.inj h).2⟩
  | [], y, b :: x', y', _, h2, h => by
    exfalso
    exact h2 (by rw [← (List.cons.inj h).1]; simp)
  | b :: x, y, [], y', h1, _, h => by
    exfalso
    exact h1 (by rw [(List.cons.inj h).1]; simp)
  | b :: x, y, b' :: x', y', h1, h2, h => by
    obtain ⟨e1, e2⟩ := List.cons.inj h
    obtain ⟨e3, e4⟩ := first_at (fun hm => h1 (by simp [hm])) (fun hm => h2 (by simp [hm])) e2
    exact ⟨by rw [e1, e3], e4⟩
end Go.Sh
