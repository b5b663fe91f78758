/- Hellos: what is in a packet that may be one. -/
import Derived.Test.YtkfkkkalcchpkaaGreatDoorSeaE
import Derived.Test.YtkfkkkalcchpkaaGreatDoorGco
namespace Go.Sh
open Go.Proofs
set_option maxRecDepth 8000
/-! ### Numbers of four bytes -/
def numL (l : List UInt8) : Nat := l.foldl (fun m c => m * 256 + c.toNat) 0
theorem numL_snoc (l : List UInt8) (c : UInt8) : numL (l ++ [c]) = numL l * 256 + c.toNat := by simp [numL]
theorem numL_lt (l : List UInt8) : numL l < 256 ^ l.length := by
  rcases List.eq_nil_or_concat l with h | ⟨a, x, h⟩
  · subst h; decide
  · rw [h, List.concat_eq_append, numL_snoc, List.length_append, List.length_singleton, Nat.pow_succ]
    have := numL_lt a
    have hx := x.toNat_lt
    omega
termination_by l.length
decreasing_by subst h; simp
theorem numL_take {l : List UInt8} {k : Nat} {x : UInt8} (h : l[k]? = some x) : numL (l.take (k + 1)) = numL (l.take k) * 256 + x.toNat := by
  rw [List.take_add_one, h]
  exact numL_snoc _ _
theorem numL_take_lt {l : List UInt8} {k : Nat} : numL (l.take k) < 256 ^ k := by
  refine Nat.lt_of_lt_of_le (numL_lt _) (Nat.pow_le_pow_right (by decide) ?_)
  rw [List.length_take]; omega
theorem ofInt_64 (a : Nat) (h : a < 9223372036854775808) : (BitVec.ofInt 64 (a : Int)).toNat = a := by
  rw [BitVec.toNat_ofInt]
  omega
theorem or_i64 (a b : Nat) (ha : a < 4611686018427387904) (hb : b < 4611686018427387904) : bits .or .i64 (a : Int) (b : Int) = ((a ||| b : Nat) : Int) := by
  have hx : a ||| b < 2 ^ 62 := Nat.or_lt_two_pow ha hb
  show IntKind.i64.wrap ((BitVec.ofInt 64 (a : Int) ||| BitVec.ofInt 64 (b : Int)).toNat : Int) = _
  rw [BitVec.toNat_or, ofInt_64 a (by omega), ofInt_64 b (by omega), w_i64 (by omega) (by omega)]
theorem or_bytes64 {x b : Nat} (hx : x < 16777216) (hb : b < 256) : bits .or .i64 (shlI .i64 (x : Int) 8) (b : Int) = ((x * 256 + b : Nat) : Int) := by
  have e : shlI .i64 (x : Int) 8 = ((x * 256 : Nat) : Int) := by
    show IntKind.i64.wrap ((x : Int) * 2 ^ 8) = _
    rw [w_i64 (by omega) (by omega)]
    omega
  rw [e, or_i64 _ _ (by omega) (by omega)]
  have : 2 ^ 8 * x + b = 2 ^ 8 * x ||| b := Nat.two_pow_add_eq_or_of_lt (by omega) x
  rw [show x * 256 = 2 ^ 8 * x by omega, ← this]
theorem locv {H : Heap} {b o : Nat} {arr : Array Value} {e : TypeId} {f : Nat × Nat} {v : Value} (h : H b = some (.cells arr e f)) (hv : arr[o]? = some v) : H.cell? ((⟨b, 0, none⟩ : Addr).add o) = some v := by
  rw [add_mk]
  simp [Heap.cell?, h, hv]
theorem bytes_get {s : ByteArray} {k : Nat} {x : UInt8} (h : s.data.toList[k]? = some x) (j : Nat) : ((byteVals s).toArray ++ Array.replicate j (.int .u8 0))[k]? = some (.int .u8 (x.toNat : Int)) := by
  have : (byteVals s)[k]? = some (.int .u8 (x.toNat : Int)) := by
    unfold byteVals
    rw [List.getElem?_map, h]; rfl
  rw [Array.getElem?_append_left (by have := (List.getElem?_eq_some_iff.1 this).1; simpa using this)]
  simpa using this
theorem size_listB (s : ByteArray) : s.data.toList.length = s.size := by rw [Array.length_toList]; rfl
theorem bt_some {s : ByteArray} {i : Nat} {c : UInt8} (h : s.data.toList[i]? = some c) : bt s (i : Int) = (c.toNat : Int) := by
  unfold bt
  rw [Int.toNat_natCast, List.getD_eq_getElem?_getD, h]
  rfl
section
variable {H : Heap} {E : Value → Heap → Prop}
theorem conn_number.run {p : ByteArray} (h13 : 13 ≤ p.size) {K : Int → Heap → Prop} (h : ∀ H', Heap.Le H H' → K (numL (p.extract 9 13).data.toList : Int) H') : conn_number.c p K E H := by
  refine ⟨by decide, by decide, by omega, fun j => newB_le fun b H1 hn hl hle => ?_⟩
  have hs : (p.extract 9 13).size = 4 := by rw [ByteArray.size_extract]; omega
  obtain ⟨s, hse⟩ : ∃ s, s = p.extract 9 13 := ⟨_, rfl⟩
  rw [← hse] at hs hl h ⊢
  have hll := size_listB s
  refine ⟨Loop.of (I := fun st H' m => ∃ k : Nat, st = ((numL (s.data.toList.take k) : Int), (k : Int)) ∧ k ≤ 4 ∧ m = 4 - k ∧ H' = H1) ?_ ⟨0, rfl, by decide, rfl, rfl⟩⟩
  rintro m st H' ⟨k, rfl, hk, rfl, rfl⟩ RR hRR
  unfold conn_number.W1.vc
  dsimp only
  by_cases hlt : k < 4
  · rw [if_pos (by rw [decide_eq_true_eq]; omega)]
    obtain ⟨x, hx⟩ : ∃ x, s.data.toList[k]? = some x := ⟨_, List.getElem?_eq_getElem (by omega)⟩
    refine ⟨_, rfl, by omega, by omega, (x.toNat : Int), by rw [Int.toNat_natCast, Nat.mul_one]; exact locv hl (bytes_get hx j), by decide, ?_⟩
    have hb := x.toNat_lt
    have h1 : numL (s.data.toList.take k) < 256 ^ 3 := Nat.lt_of_lt_of_le numL_take_lt (Nat.pow_le_pow_right (by decide) (by omega))
    have e3 : 256 ^ 3 = 16777216 := by decide
    rw [w_i64 (n := (x.toNat : Int)) (by omega) (by omega), or_bytes64 (by omega) (by omega), w_i64 (by omega) (by omega)]
    refine hRR (_, _) _ (4 - (k + 1)) (by omega) ⟨k + 1, ?_, by omega, rfl, rfl⟩
    rw [numL_take hx]
    rfl
  · rw [if_neg (by rw [decide_eq_true_eq]; omega)]
    rw [List.take_of_length_le (by omega)]
    exact ⟨H', Heap.Le.refl _, h H' hle⟩
theorem vizardref01_Number.run {s : ByteArray} (hs : s.size ≤ 4) {K : Int → Heap → Prop} (h : K (numL s.data.toList : Int) H) : vizardref01_Number.c s K E H := by
  have hll := size_listB s
  refine ⟨⟨Loop.of (I := fun st H' m => ∃ k : Nat, st = ((numL (s.data.toList.take k) : Int), (k : Int)) ∧ k ≤ s.size ∧ m = s.size - k ∧ H' = H) ?_ ⟨0, rfl, Nat.zero_le _, rfl, rfl⟩⟩⟩
  rintro m st H' ⟨k, rfl, hk, rfl, rfl⟩ RR hRR
  unfold vizardref01_Number.W1.vc
  dsimp only
  by_cases hlt : k < s.size
  · rw [if_pos (by rw [decide_eq_true_eq]; omega)]
    obtain ⟨x, hx⟩ : ∃ x, s.data.toList[k]? = some x := ⟨_, List.getElem?_eq_getElem (by omega)⟩
    refine ⟨by omega, by omega, ?_⟩
    have hb := x.toNat_lt
    have h1 : numL (s.data.toList.take k) < 256 ^ 3 := Nat.lt_of_lt_of_le numL_take_lt (Nat.pow_le_pow_right (by decide) (by omega))
    have e3 : 256 ^ 3 = 16777216 := by decide
    rw [bt_some hx, w_i64 (n := (numL (s.data.toList.take k) : Int) * 256) (by omega) (by omega), w_i64 (n := (x.toNat : Int)) (by omega) (by omega), w_i64 (by omega) (by omega), w_i64 (by omega) (by omega)]
    refine hRR (_, _) _ (s.size - (k + 1)) (by omega) ⟨k + 1, ?_, by omega, rfl, rfl⟩
    rw [numL_take hx]
    congr 1 <;> omega
  · rw [if_neg (by rw [decide_eq_true_eq]; omega)]
    rw [List.take_of_length_le (by omega)]
    exact ⟨H', Heap.Le.refl _, h⟩
/-! ### Greetings -/
def numP (p : ByteArray) : Nat := numL (p.extract 9 13).data.toList
def openP (s : List UInt8) (p : ByteArray) : List UInt8 × Int := openL s (un (numP p : Int)) (p.extract 0 13).data.toList (p.extract 13 p.size).data.toList
def greetL (s : List UInt8) (p : ByteArray) : ByteArray × Int :=
  if (openP s p).2 ≠ 0 then (⟨#[]⟩, (openP s p).2) else if numP p ≠ 0 ∨ (openP s p).1.length ≠ 16 then (⟨#[]⟩, 3) else (⟨(openP s p).1.toArray⟩, 0)
theorem conn_opened.run (ht : Tabs H) {b : Nat} {s p : ByteArray} (hs : s.size ≤ 100000) (h13 : 13 ≤ p.size) (hp : p.size ≤ 100000) (hk : KeyAt H b s 0 0) {K : ByteArray → Int → Heap → Prop} (h : ∀ H', Only b H H' → K ⟨(openP s.data.toList p).1.toArray⟩ (openP s.data.toList p).2 H') : conn_opened.c (some ⟨b, 0, none⟩) p K E H := by
  refine ⟨by decide, by omega, by decide, by omega, Nat.le_refl _, ?_⟩
  refine conn_number.run h13 fun H1 hle => ?_
  refine seal_Key_Open.run hs (by rw [ByteArray.size_extract]; omega) (by rw [ByteArray.size_extract]; omega) (hk.le hle) (by decide) (by decide) (ht.up hle) fun H2 o' _ ho _ => ?_
  exact ⟨H2, Heap.Le.refl _, h H2 ((Only.of_le hle).trans ho)⟩
theorem conn_greeting.J1.run {s : ByteArray} {x : Bool} {Kn : Heap → Prop} {Kr : ByteArray → Int → Heap → Prop} (h1 : x = true → Kr ⟨#[]⟩ 3 H) (h0 : x = false → Kn H) : conn_greeting.J1 s x Kn Kr E H := by
  refine ⟨?_⟩
  unfold conn_greeting.J1.vc
  cases x with
  | true => rw [if_pos rfl]; exact h1 rfl
  | false => rw [if_neg (by simp)]; exact h0 rfl
theorem conn_greeting.run (ht : Tabs H) {s p : ByteArray} (hs : s.size ≤ 100000) (h13 : 13 ≤ p.size) (hp : p.size ≤ 100000) {K : ByteArray → Int → Heap → Prop} (h : ∀ H', Heap.Le H H' → K (greetL s.data.toList p).1 (greetL s.data.toList p).2 H') : conn_greeting.c s p K E H := by
  refine ⟨seal_New.run ht fun b H1 hk hn hle => ?_⟩
  refine conn_opened.run (ht.up hle) hs h13 hp hk fun H2 ho => ?_
  have hle2 : Heap.Le H H2 := ho.le hle hn
  unfold greetL at h
  by_cases h1 : (openP s.data.toList p).2 = 0
  · rw [if_neg (by simp [h1])]
    rw [if_neg (by simp [h1])] at h
    refine conn_number.run h13 fun H3 hle3 => ?_
    have hle3 := hle2.trans hle3
    show (if ((numP p : Int) != 0) = true then _ else _)
    by_cases h2 : numP p = 0
    · rw [if_neg (by simp [h2])]
      refine conn_greeting.J1.run (fun hx => ⟨H3, Heap.Le.refl _, ?_⟩) (fun hx => ⟨⟨H3, Heap.Le.refl _, ?_⟩⟩)
      · have : (openP s.data.toList p).1.length ≠ 16 := by
          intro e
          rw [bne_iff_ne, ba_size] at hx
          exact hx (by rw [e]; rfl)
        have := h H3 hle3
        rw [if_pos (.inr (by assumption))] at this
        exact this
      · have : (openP s.data.toList p).1.length = 16 := by
          rw [bne_eq_false_iff_eq, ba_size] at hx
          omega
        have := h H3 hle3
        rw [if_neg (by rintro (e | e); exact e h2; exact e (by assumption))] at this
        exact this
    · rw [if_pos (by simpa using h2)]
      have := h H3 hle3
      rw [if_pos (.inl h2)] at this
      exact conn_greeting.J1.run (fun _ => ⟨H3, Heap.Le.refl _, this⟩) (fun e => by cases e)
  · rw [if_pos (by simpa using h1)]
    have := h H2 hle2
    rw [if_pos h1] at this
    exact ⟨H2, Heap.Le.refl _, this⟩
def helloB : ByteArray := ⟨#[104, 101, 108, 108, 111]⟩
def deriveB (key label ctx : ByteArray) : ByteArray := ⟨(derive key.data.toList label.data.toList ctx.data.toList).toArray⟩
def helloL (psk p : ByteArray) : ByteArray × ByteArray × Int :=
  if p.size < 29 then (⟨#[]⟩, ⟨#[]⟩, 1) else if bt p 0 ≠ 1 then (⟨#[]⟩, ⟨#[]⟩, 5)
  else if (greetL (deriveB psk helloB ⟨#[]⟩).data.toList p).2 ≠ 0 then (⟨#[]⟩, ⟨#[]⟩, (greetL (deriveB psk helloB ⟨#[]⟩).data.toList p).2)
  else (p.extract 1 9, (greetL (deriveB psk helloB ⟨#[]⟩).data.toList p).1, 0)
theorem derive_size (key label ctx : ByteArray) : (deriveB key label ctx).size ≤ 100000 := by
  unfold deriveB
  rw [ba_size]
  have : (derive key.data.toList label.data.toList ctx.data.toList).length = 32 := hmac_len _ _
  omega
theorem conn_Hello.run (ht : Tabs H) {psk p : ByteArray} (hs : psk.size ≤ 100000) (hp : p.size ≤ 100000) {K : ByteArray → ByteArray → Int → Heap → Prop} (h : ∀ H', Heap.Le H H' → K (helloL psk p).1 (helloL psk p).2.1 (helloL psk p).2.2 H') : conn_Hello.c psk p K E H := by
  refine ⟨?_⟩
  unfold conn_Hello.vc
  unfold helloL at h
  by_cases h29 : p.size < 29
  · rw [if_pos (by rw [decide_eq_true_eq]; omega)]
    rw [if_pos h29] at h
    exact ⟨H, Heap.Le.refl _, h H (Heap.Le.refl _)⟩
  · rw [if_neg (by rw [decide_eq_true_eq]; omega)]
    rw [if_neg h29] at h
    refine ⟨by decide, by omega, ?_⟩
    by_cases hk : bt p 0 = 1
    · rw [if_neg (by simp [hk])]
      rw [if_neg (fun e => e hk)] at h
      refine sha_Derive.run hs (by decide) (by decide) ht fun H1 hle1 => ?_
      show conn_greeting.c (deriveB psk helloB ⟨#[]⟩) p _ E H1
      refine conn_greeting.run (ht.up hle1) (derive_size _ _ _) (by omega) hp fun H2 hle2 => ?_
      have := h H2 (hle1.trans hle2)
      by_cases he : (greetL (deriveB psk helloB ⟨#[]⟩).data.toList p).2 = 0
      · rw [if_neg (by simp [he])]
        rw [if_neg (fun e => e he)] at this
        exact ⟨by decide, by decide, by omega, H2, Heap.Le.refl _, this⟩
      · rw [if_pos (by simpa using he)]
        rw [if_pos he] at this
        exact ⟨H2, Heap.Le.refl _, this⟩
    · rw [if_pos (by simpa using hk)]
      rw [if_pos hk] at h
      exact ⟨H, Heap.Le.refl _, h H (Heap.Le.refl _)⟩
/-! ### By the document -/
theorem vizardref13_open.run {s p : ByteArray} (hs : s.size ≤ 100000) (h13 : 13 ≤ p.size) (hp : p.size ≤ 100000) {K : Int → ByteArray → Int → Heap → Prop} (h : ∀ H', Heap.Le H H' → K (numP p : Int) ⟨(openP s.data.toList p).1.toArray⟩ (openP s.data.toList p).2 H') : vizardref13_open.c s p K E H := by
  refine ⟨by decide, by decide, by omega, ?_⟩
  refine vizardref01_Number.run (by rw [ByteArray.size_extract]; omega) ⟨by decide, by omega, by decide, by omega, Nat.le_refl _, ?_⟩
  refine vizardref06_Open.run hs (by rw [ByteArray.size_extract]; omega) (by rw [ByteArray.size_extract]; omega) fun H1 hle => ?_
  exact ⟨H1, Heap.Le.refl _, h H1 hle⟩
theorem vizardref13_nonce.J1.run {s : ByteArray} {x : Bool} {Kn : Heap → Prop} {Kr : ByteArray → Int → Heap → Prop} (h1 : x = true → Kr ⟨#[]⟩ 3 H) (h0 : x = false → Kn H) : vizardref13_nonce.J1 s x Kn Kr E H := by
  refine ⟨?_⟩
  unfold vizardref13_nonce.J1.vc
  cases x with
  | true => rw [if_pos rfl]; exact h1 rfl
  | false => rw [if_neg (by simp)]; exact h0 rfl
theorem vizardref13_nonce.run {s p : ByteArray} (hs : s.size ≤ 100000) (h13 : 13 ≤ p.size) (hp : p.size ≤ 100000) {K : ByteArray → Int → Heap → Prop} (h : ∀ H', Heap.Le H H' → K (greetL s.data.toList p).1 (greetL s.data.toList p).2 H') : vizardref13_nonce.c s p K E H := by
  refine ⟨vizardref13_open.run hs h13 hp fun H2 hle2 => ?_⟩
  unfold greetL at h
  by_cases h1 : (openP s.data.toList p).2 = 0
  · rw [if_neg (by simp [h1])]
    rw [if_neg (by simp [h1])] at h
    by_cases h2 : numP p = 0
    · rw [if_neg (by simp [h2])]
      refine vizardref13_nonce.J1.run (fun hx => ⟨H2, Heap.Le.refl _, ?_⟩) (fun hx => ⟨⟨H2, Heap.Le.refl _, ?_⟩⟩)
      · have : (openP s.data.toList p).1.length ≠ 16 := by
          intro e
          rw [bne_iff_ne, ba_size] at hx
          exact hx (by rw [e]; rfl)
        have := h H2 hle2
        rw [if_pos (.inr (by assumption))] at this
        exact this
      · have : (openP s.data.toList p).1.length = 16 := by
          rw [bne_eq_false_iff_eq, ba_size] at hx
          omega
        have := h H2 hle2
        rw [if_neg (by rintro (e | e); exact e h2; exact e (by assumption))] at this
        exact this
    · rw [if_pos (by simpa using h2)]
      have := h H2 hle2
      rw [if_pos (.inl h2)] at this
      exact vizardref13_nonce.J1.run (fun _ => ⟨H2, Heap.Le.refl _, this⟩) (fun e => by cases e)
  · rw [if_pos (by simpa using h1)]
    have := h H2 hle2
    rw [if_pos h1] at this
    exact ⟨H2, Heap.Le.refl _, this⟩
theorem vizardref13_Hello.run {psk p : ByteArray} (hs : psk.size ≤ 100000) (hp : p.size ≤ 100000) {K : ByteArray → ByteArray → Int → Heap → Prop} (h : ∀ H', Heap.Le H H' → K (helloL psk p).1 (helloL psk p).2.1 (helloL psk p).2.2 H') : vizardref13_Hello.c psk p K E H := by
  refine ⟨?_⟩
  unfold vizardref13_Hello.vc
  unfold helloL at h
  by_cases h29 : p.size < 29
  · rw [if_pos (by rw [decide_eq_true_eq]; omega)]
    rw [if_pos h29] at h
    exact ⟨H, Heap.Le.refl _, h H (Heap.Le.refl _)⟩
  · rw [if_neg (by rw [decide_eq_true_eq]; omega)]
    rw [if_neg h29] at h
    refine ⟨by decide, by omega, ?_⟩
    by_cases hk : bt p 0 = 1
    · rw [if_neg (by simp [hk])]
      rw [if_neg (fun e => e hk)] at h
      refine vizardref05_Derive.run hs (by decide) (by decide) fun H1 hle1 => ?_
      show vizardref13_nonce.c (deriveB psk helloB ⟨#[]⟩) p _ E H1
      refine vizardref13_nonce.run (derive_size _ _ _) (by omega) hp fun H2 hle2 => ?_
      have := h H2 (hle1.trans hle2)
      by_cases he : (greetL (deriveB psk helloB ⟨#[]⟩).data.toList p).2 = 0
      · rw [if_neg (by simp [he])]
        rw [if_neg (fun e => e he)] at this
        exact ⟨by decide, by decide, by omega, H2, Heap.Le.refl _, this⟩
      · rw [if_pos (by simpa using he)]
        rw [if_pos he] at this
        exact ⟨H2, Heap.Le.refl _, this⟩
    · rw [if_pos (by simpa using hk)]
      rw [if_pos hk] at h
      exact ⟨H, Heap.Le.refl _, h H (Heap.Le.refl _)⟩
end
end Go.Sh
