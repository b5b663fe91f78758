/- What a request asks for: plain laws. -/
import Derived.Test.YtpmgchippfmakaaDoorPfQ
namespace Go.Sh
open Go.Proofs Num
set_option maxRecDepth 8000
theorem list_sizeB (s : ByteArray) : s.data.toList.length = s.size := by rw [Array.length_toList]; rfl
/-! ### Numbers -/
theorem pu_app : ∀ (x y : List UInt8) (acc a : Nat), Lib.parseUint10 acc x = .ok a → Lib.parseUint10 acc (x ++ y) = Lib.parseUint10 a y
  | [], y, acc, a, h => by
    have : acc = a := by simpa [Lib.parseUint10] using h
    rw [this]; rfl
  | c :: r, y, acc, a, h => by
    simp only [Lib.parseUint10, List.cons_append] at h ⊢
    split at h
    · rename_i h1
      rw [if_pos h1]
      split at h
      · cases h
      · rename_i h2
        rw [if_neg h2]
        split at h
        · cases h
        · rename_i h3
          rw [if_neg h3]
          exact pu_app r y _ a h
    · cases h
theorem pu_dig {acc d : Nat} (ha : acc < 100000000000000000) (hd : d < 10) : Lib.parseUint10 acc [UInt8.ofNat (48 + d)] = .ok (acc * 10 + d) := by
  have e : (UInt8.ofNat (48 + d)).toNat = 48 + d := by rw [UInt8.toNat_ofNat']; omega
  simp only [Lib.parseUint10, e]
  rw [if_pos (by omega), if_neg (by omega), if_neg (by omega)]
  congr 1
  omega
theorem pu_dec (n : Nat) (hn : n < 1000000000000000000) : Lib.parseUint10 0 (Lib.decDigits n) = .ok n := by
  induction n using Nat.strongRecOn with
  | _ n ih =>
    rcases Nat.lt_or_ge n 10 with h | h
    · rw [Lib.decDigits_one h, pu_dig (by decide) h]; congr 1; omega
    · have := digits_rest n
      unfold restD at this
      rw [if_neg (by omega)] at this
      rw [this, pu_app _ _ 0 (n / 10) (ih (n / 10) (by omega) (by omega)), pu_dig (by omega) (by omega)]
      congr 1
      omega
theorem dec_dig (n : Nat) : ∀ c ∈ Lib.decDigits n, 48 ≤ c.toNat ∧ c.toNat ≤ 57 := by
  induction n using Nat.strongRecOn with
  | _ n ih =>
    have e : ∀ d : Nat, d < 10 → 48 ≤ (UInt8.ofNat (48 + d)).toNat ∧ (UInt8.ofNat (48 + d)).toNat ≤ 57 := fun d hd => by rw [UInt8.toNat_ofNat']; omega
    rcases Nat.lt_or_ge n 10 with h | h
    · rw [Lib.decDigits_one h]
      intro c hc
      rw [List.mem_singleton] at hc
      subst hc
      exact e n h
    · have := digits_rest n
      unfold restD at this
      rw [if_neg (by omega)] at this
      rw [this]
      intro c hc
      rcases List.mem_append.1 hc with hc | hc
      · exact ih (n / 10) (by omega) c hc
      · rw [List.mem_singleton] at hc
        subst hc
        exact e _ (by omega)
theorem dec_ne (n : Nat) : Lib.decDigits n ≠ [] := fun h => by have := digits_pos n; rw [h] at this; simp at this
theorem dec_atoi {n : Nat} (hn : n < 1000000000000000000) : Lib.atoiAll (Lib.decDigits n) = .ok (n : Int) := by
  have hd := dec_dig n
  have hp := pu_dec n hn
  have hne := dec_ne n
  cases hl : Lib.decDigits n with
  | nil => exact absurd hl hne
  | cons c r =>
    rw [hl] at hd hp
    have := hd c (by simp)
    unfold Lib.atoiAll
    have h1 : ¬ (c.toNat = 43 ∨ c.toNat = 45) := by omega
    have h2 : ¬ c.toNat = 45 := by omega
    simp only [if_neg h1]
    unfold Lib.parseMag
    rw [if_neg (by simp), hp]
    simp [h2]
    omega
theorem dec_inj {a b : Nat} (ha : a < 1000000000000000000) (hb : b < 1000000000000000000) (h : Lib.decDigits a = Lib.decDigits b) : a = b := by
  have h1 := pu_dec a ha
  rw [h, pu_dec b hb] at h1
  cases h1
  rfl
theorem dec_len5 {n : Nat} (h : n ≤ 65535) : (Lib.decDigits n).length ≤ 5 := by
  have step : ∀ m, (Lib.decDigits m).length ≤ (if m < 10 then 0 else (Lib.decDigits (m / 10)).length) + 1 := fun m => by
    split
    · rename_i h; rw [Lib.decDigits_one h]; simp
    · have := digits_rest m
      unfold restD at this
      rw [if_neg (by omega)] at this
      rw [this, List.length_append]
      simp
  have h1 := step n
  have h2 := step (n / 10)
  have h3 := step (n / 10 / 10)
  have h4 := step (n / 10 / 10 / 10)
  have h5 := step (n / 10 / 10 / 10 / 10)
  rw [if_pos (by omega)] at h5
  split at h1 <;> split at h2 <;> split at h3 <;> split at h4 <;> omega
/-- The number that digits say. -/
def foldD (l : List UInt8) : Nat := l.foldl (fun m c => m * 10 + (c.toNat - 48)) 0
theorem foldD_snoc (l : List UInt8) (c : UInt8) : foldD (l ++ [c]) = foldD l * 10 + (c.toNat - 48) := by simp [foldD]
theorem foldD_dec (n : Nat) : foldD (Lib.decDigits n) = n := by
  induction n using Nat.strongRecOn with
  | _ n ih =>
    have e : ∀ d : Nat, d < 10 → (UInt8.ofNat (48 + d)).toNat = 48 + d := fun d hd => by rw [UInt8.toNat_ofNat']; omega
    rcases Nat.lt_or_ge n 10 with h | h
    · rw [Lib.decDigits_one h]
      show 0 * 10 + _ = n
      rw [e n h]; omega
    · have := digits_rest n
      unfold restD at this
      rw [if_neg (by omega)] at this
      rw [this, foldD_snoc, ih (n / 10) (by omega), e _ (by omega)]
      omega
/-! ### Paths -/
abbrev frontB : ByteArray := ⟨#[47, 46, 119, 101, 108, 108, 45, 107, 110, 111, 119, 110, 47, 109, 97, 115, 113, 117, 101, 47, 117, 100, 112, 47]⟩
abbrev packB : ByteArray := ⟨#[47, 46, 119, 101, 108, 108, 45, 107, 110, 111, 119, 110, 47, 109, 97, 115, 113, 117, 101, 47, 105, 112, 47, 42, 47, 42, 47]⟩
abbrev slashB : ByteArray := ⟨#[47]⟩
theorem path_list {a p : Nat} (ha : a < 4294967296) : (pathUdp a p).data.toList = frontB.data.toList ++ (dotL a ++ 47 :: (Lib.decDigits p ++ [47])) := by
  unfold pathUdp
  simp only [ba_app, dotB_list ha, numB, ba_list]
  simp
def IsUdp (h : ByteArray) (x : Nat × Nat) : Prop := x.1 < 4294967296 ∧ 1 ≤ x.2 ∧ x.2 ≤ 65535 ∧ h = pathUdp x.1 x.2
theorem IsUdp.inj {h : ByteArray} {x y : Nat × Nat} (hx : IsUdp h x) (hy : IsUdp h y) : x = y := by
  obtain ⟨a, p⟩ := x
  obtain ⟨b, q⟩ := y
  obtain ⟨h1, h2, h3, h4⟩ := hx
  obtain ⟨k1, k2, k3, k4⟩ := hy
  dsimp only at *
  have := path_list h1 (p := p)
  rw [← h4, k4, path_list k1] at this
  obtain ⟨e1, e2⟩ := first_at (dot_noslash k1) (dot_noslash h1) (List.append_cancel_left this)
  have e3 : dotB b = dotB a := ba_ext (by rw [dotB_list k1, dotB_list h1, e1])
  have e4 := dot_inj k1 h1 e3
  have e5 := dec_inj (by omega) (by omega) (List.append_cancel_right e2)
  rw [e4, e5]
open Classical in
noncomputable def udpV (h : ByteArray) : Option (Nat × Nat) := if hx : ∃ x, IsUdp h x then some hx.choose else none
theorem udpV_of {h : ByteArray} {x : Nat × Nat} (hx : IsUdp h x) : udpV h = some x := by
  unfold udpV
  rw [dif_pos ⟨x, hx⟩, (Exists.choose_spec (⟨x, hx⟩ : ∃ x, IsUdp h x)).inj hx]
theorem udpV_none {h : ByteArray} (hx : ∀ x, ¬ IsUdp h x) : udpV h = none := by
  unfold udpV
  rw [dif_neg (fun ⟨x, k⟩ => hx x k)]
/-! ### Fields -/
abbrev FL := List (ByteArray × ByteArray)
def letB (c : UInt8) : Bool := (decide (97 ≤ c.toNat) && decide (c.toNat ≤ 122)) || (decide (48 ≤ c.toNat) && decide (c.toNat ≤ 57)) || decide (c.toNat = 45) || decide (c.toNat = 58)
def seeB (c : UInt8) : Bool := decide (32 ≤ c.toNat) && decide (c.toNat ≤ 126)
def fieldOk (f : ByteArray × ByteArray) : Bool := decide (f.1.size ≤ 256) && decide (f.2.size ≤ 256) && decide (f.1.size ≠ 0) && f.1.data.toList.all letB && f.2.data.toList.all seeB
def chkL (l : FL) : Bool := decide (l.length ≤ 16) && l.all fieldOk
def hits (l : FL) (n : ByteArray) : FL := l.filter fun f => decide (f.1 = n)
def lastV (l : FL) (n : ByteArray) : ByteArray := (((hits l n).getLast?).map (·.2)).getD ⟨#[]⟩
def getF (l : FL) (n : ByteArray) : Option ByteArray := if (hits l n).length = 1 then some (lastV l n) else none
theorem hits_snoc (l : FL) (f : ByteArray × ByteArray) (n : ByteArray) : (hits (l ++ [f]) n).length = (hits l n).length + (if f.1 = n then 1 else 0) := by
  unfold hits
  rw [List.filter_append, List.length_append]
  by_cases h : f.1 = n <;> simp [h]
theorem lastV_snoc (l : FL) (f : ByteArray × ByteArray) (n : ByteArray) : lastV (l ++ [f]) n = if f.1 = n then f.2 else lastV l n := by
  unfold lastV hits
  rw [List.filter_append]
  by_cases h : f.1 = n <;> simp [h]
abbrev mNm : ByteArray := ⟨#[58, 109, 101, 116, 104, 111, 100]⟩
abbrev pNm : ByteArray := ⟨#[58, 112, 114, 111, 116, 111, 99, 111, 108]⟩
abbrev sNm : ByteArray := ⟨#[58, 115, 99, 104, 101, 109, 101]⟩
abbrev aNm : ByteArray := ⟨#[58, 97, 117, 116, 104, 111, 114, 105, 116, 121]⟩
abbrev hNm : ByteArray := ⟨#[58, 112, 97, 116, 104]⟩
abbrev cNm : ByteArray := ⟨#[99, 97, 112, 115, 117, 108, 101, 45, 112, 114, 111, 116, 111, 99, 111, 108]⟩
abbrev connB : ByteArray := ⟨#[67, 79, 78, 78, 69, 67, 84]⟩
abbrev udpB : ByteArray := ⟨#[99, 111, 110, 110, 101, 99, 116, 45, 117, 100, 112]⟩
abbrev ipB : ByteArray := ⟨#[99, 111, 110, 110, 101, 99, 116, 45, 105, 112]⟩
abbrev httpsB : ByteArray := ⟨#[104, 116, 116, 112, 115]⟩
abbrev oneB : ByteArray := ⟨#[63, 49]⟩
def pseudoB (n : ByteArray) : Bool := decide (n = mNm) || decide (n = sNm) || decide (n = aNm) || decide (n = hNm) || decide (n = pNm)
def colonB (n : ByteArray) : Bool := decide (n.data.toList.head? = some 58)
/-- Are the names that begin with a colon right? What is behind is looked at with what was met. -/
def shapeGo (l : FL) : Bool → FL → Bool
  | _, [] => true
  | b, f :: t => if colonB f.1 then (getF l f.1).isSome && !b && pseudoB f.1 && shapeGo l b t else shapeGo l true t
def behindL (l : FL) : Bool := l.any fun f => !colonB f.1
/-- An answer: packets or not, an address, a port, a status. -/
abbrev Ans := Bool × Nat × Nat × Nat
def badA (n : Nat) : Ans := (false, 0, 0, n)
noncomputable def restA (l : FL) (m s a h : ByteArray) : Ans :=
  if (getF l pNm).isNone && decide (m = connB) then badA 400
  else if ¬ m = connB then badA 405
  else if ¬ (getF l pNm = some udpB ∨ getF l pNm = some ipB) then badA 501
  else if ¬ (s = httpsB ∧ a.size ≠ 0 ∧ getF l cNm = some oneB) then badA 400
  else if getF l pNm = some ipB then (if h = packB then (true, 0, 0, 200) else badA 404)
  else match udpV h with
    | some x => (false, x.1, x.2, 200)
    | none => badA 404
noncomputable def parseL (l : FL) : Ans :=
  if chkL l && shapeGo l false l then
    match getF l mNm, getF l sNm, getF l aNm, getF l hNm with
    | some m, some s, some a, some h => restA l m s a h
    | _, _, _, _ => badA 400
  else badA 400
end Go.Sh
