/- What the functions on rules compute: whether rules are right, what they say of a packet. -/
import Derived.Test.YtennpdminebahaaPfHas
import Derived.Test.YtennpdminebahaaShT
import Derived.Test.YtennpdminebahaaGpol
namespace Go.Sh
structure Rul where
  allow : Bool
  proto : Int
  addr : Int
  bits : Int
  lo : Int
  hi : Int
def Rul.cells (r : Rul) : List Value := [.bool r.allow, .int .i64 r.proto, .int .u32 r.addr, .int .i64 r.bits, .int .i64 r.lo, .int .i64 r.hi]
def Rul.fine (r : Rul) : Prop := 0 ≤ r.addr ∧ r.addr < 4294967296
def Rul.right (r : Rul) : Bool := decide (0 ≤ r.proto) && (decide (r.proto ≤ 255) && (chk r.addr r.bits && (decide (0 ≤ r.lo) && (decide (r.lo ≤ r.hi) && decide (r.hi ≤ 65535)))))
def Rul.fits (proto dst port : Int) (r : Rul) : Bool := (r.proto == 0 || r.proto == proto) && (hasB r.addr r.bits dst && (decide (port ≥ r.lo) && decide (port ≤ r.hi)))
def RulesAt (H : Heap) (p : Option Addr) (n : Nat) (l : List Rul) : Prop := RowsAt H p n 6 (l.map Rul.cells)
theorem RulesAt.len {H : Heap} {p : Option Addr} {n : Nat} {l : List Rul} (h : RulesAt H p n l) : l.length = n := by simpa using h.1
theorem RulesAt.mono {H H' : Heap} {p : Option Addr} {n : Nat} {l : List Rul} (h : RulesAt H p n l) (hl : Heap.Le H H') : RulesAt H' p n l :=
  ⟨h.1, h.2.1, fun a ha i es hi => ⟨(h.2.2 a ha i es hi).1, fun j v hj => Le_cell hl ((h.2.2 a ha i es hi).2 j v hj)⟩⟩
theorem RulesAt.get {H : Heap} {p : Option Addr} {n : Nat} {l : List Rul} (h : RulesAt H p n l) {i : Nat} {r : Rul} (hi : l[i]? = some r) : ∃ a, p = some a ∧
    H.cell? ((a.add (i * 6)).add 0) = some (.bool r.allow) ∧ H.cell? ((a.add (i * 6)).add 1) = some (.int .i64 r.proto) ∧ H.cell? ((a.add (i * 6)).add 2) = some (.int .u32 r.addr) ∧
    H.cell? ((a.add (i * 6)).add 3) = some (.int .i64 r.bits) ∧ H.cell? ((a.add (i * 6)).add 4) = some (.int .i64 r.lo) ∧ H.cell? ((a.add (i * 6)).add 5) = some (.int .i64 r.hi) := by
  have hlt : i < l.length := (List.getElem?_eq_some_iff.1 hi).1
  cases p with
  | none => have := h.2.1 rfl; have := h.len; omega
  | some a =>
    have := (h.2.2 a rfl i r.cells (by simp [hi])).2
    exact ⟨a, rfl, this 0 _ rfl, this 1 _ rfl, this 2 _ rfl, this 3 _ rfl, this 4 _ rfl, this 5 _ rfl⟩
theorem policy_right.run {r : Rul} {K : Bool → Heap → Prop} {E : Value → Heap → Prop} {H : Heap} (hf : r.fine) (h : K r.right H) : policy_right.c r.allow r.proto r.addr r.bits r.lo r.hi K E H := by
  refine ⟨?_⟩
  unfold policy_right.vc
  intro b hb
  simp only [ldI_iff, add_mk, cell_set_same]
  refine ⟨r.proto, by simp, ?_⟩
  have fin : ∀ {A : Prop}, r.right = false → (K false H → A) → A := fun e k => k (e ▸ h)
  by_cases h1 : r.proto ≥ 0
  · rw [if_pos (by simpa using h1)]
    refine ⟨r.proto, by simp, ?_⟩
    by_cases h2 : r.proto ≤ 255
    · rw [if_pos (by simpa using h2)]
      refine ⟨r.addr, by simp, r.bits, by simp, prefix_Check.run hf.1 hf.2 ?_⟩
      cases h3 : chk r.addr r.bits with
      | false =>
        rw [if_neg (by simp)]
        exact leave hb (by rw [show false = r.right by simp [Rul.right, h3]]; exact h)
      | true =>
        rw [if_pos rfl]
        refine ⟨r.lo, by simp, ?_⟩
        by_cases h4 : r.lo ≥ 0
        · rw [if_pos (by simpa using h4)]
          refine ⟨r.lo, by simp, r.hi, by simp, ?_⟩
          by_cases h5 : r.lo ≤ r.hi
          · rw [if_pos (by simpa using h5)]
            refine ⟨r.hi, by simp, leave hb ?_⟩
            have e : decide (r.hi ≤ 65535) = r.right := by
              have h1' : 0 ≤ r.proto := h1
              have h4' : 0 ≤ r.lo := h4
              simp [Rul.right, h1', h2, h3, h4', h5]
            rw [e]; exact h
          · rw [if_neg (by simpa using h5)]
            exact leave hb (by rw [show false = r.right by simp [Rul.right, h5]]; exact h)
        · rw [if_neg (by simpa using h4)]
          have h4' : ¬ 0 ≤ r.lo := h4
          exact leave hb (by rw [show false = r.right by simp [Rul.right, h4']]; exact h)
    · rw [if_neg (by simpa using h2)]
      exact leave hb (by rw [show false = r.right by simp [Rul.right, h2]]; exact h)
  · rw [if_neg (by simpa using h1)]
    have h1' : ¬ 0 ≤ r.proto := h1
    exact leave hb (by rw [show false = r.right by simp [Rul.right, h1']]; exact h)
theorem Rul.right_iff (r : Rul) : r.right = true ↔ 0 ≤ r.proto ∧ r.proto ≤ 255 ∧ chk r.addr r.bits = true ∧ 0 ≤ r.lo ∧ r.lo ≤ r.hi ∧ r.hi ≤ 65535 := by
  simp [Rul.right]
theorem Rul.wrong {r : Rul} (h : ¬ (0 ≤ r.proto ∧ r.proto ≤ 255 ∧ chk r.addr r.bits = true ∧ 0 ≤ r.lo ∧ r.lo ≤ r.hi ∧ r.hi ≤ 65535)) : r.right = false := by
  cases e : r.right with
  | false => rfl
  | true => exact absurd ((Rul.right_iff r).1 e) h
theorem take_all {α : Type} {f : α → Bool} {l : List α} {k : Nat} {x : α} (h : (l.take k).all f = true) (hx : l[k]? = some x) : (l.take (k + 1)).all f = f x := by
  rw [List.take_add_one, hx, List.all_append, h]
  simp
theorem not_all {α : Type} {f : α → Bool} {l : List α} {k : Nat} {x : α} (hx : l[k]? = some x) (hf : f x = false) : l.all f = false := by
  cases h : l.all f with
  | false => rfl
  | true => have := List.all_eq_true.1 h x (List.mem_of_getElem? hx); rw [hf] at this; cases this
theorem policy_Check.loop {H0 : Heap} {p : Option Addr} {n c : Nat} {l : List Rul} (hat : RulesAt H0 p n l) (hf : ∀ r ∈ l, r.fine) (hn : n ≤ 32) {Kx : Heap → Prop} {Kr : Int → Heap → Prop} {E : Value → Heap → Prop}
    (hx : ∀ H, Heap.Le H0 H → l.all Rul.right = true → Kx H) (hr : ∀ H, Heap.Le H0 H → l.all Rul.right = false → Kr 2 H) : policy_Check.W1 p n c (n : Int) 0 Kx Kr E H0 := by
  refine ⟨Loop.of (I := fun s H m => ∃ k : Nat, s = (k : Int) ∧ k ≤ n ∧ m = n - k ∧ Heap.Le H0 H ∧ (l.take k).all Rul.right = true) ?_ ⟨0, rfl, Nat.zero_le _, rfl, Heap.Le.refl H0, rfl⟩⟩
  rintro m s H ⟨k, rfl, hk, rfl, hle, hall⟩ RR hRR
  have hlen := hat.len
  unfold policy_Check.W1.vc
  by_cases hlt : k < n
  · rw [if_pos (by simp; omega)]
    obtain ⟨r, hget⟩ : ∃ r, l[k]? = some r := ⟨l[k]'(by omega), List.getElem?_eq_getElem (by omega)⟩
    obtain ⟨a, rfl, f0, f1, f2, f3, f4, f5⟩ := (hat.mono hle).get hget
    refine ⟨a, rfl, by omega, by omega, ?_⟩
    simp only [Int.toNat_natCast]
    refine ⟨_, f0, _, f1, _, f2, _, f3, _, f4, _, f5, ?_⟩
    intro b hb
    simp [-Bool.exists_bool]
    refine policy_right.run (hf r (List.mem_of_getElem? hget)) ?_
    have hle2 : Heap.Le H0 (H.set b (.cells #[.bool r.allow, .int .i64 r.proto, .int .u32 r.addr, .int .i64 r.bits, .int .i64 r.lo, .int .i64 r.hi] 40)) := hle.trans (Le_set hb _)
    cases hri : r.right with
    | false =>
      rw [if_neg (by simp)]
      exact hr _ hle2 (not_all hget hri)
    | true =>
      rw [if_pos rfl]
      refine hRR _ _ (n - (k + 1)) (by omega) ⟨k + 1, ?_, by omega, rfl, hle2, ?_⟩
      · rw [w_i64 (by omega) (by omega)]; simp
      · rw [take_all hall hget, hri]
  · rw [if_neg (by simp; omega)]
    refine hx H hle ?_
    rw [List.take_of_length_le (by omega)] at hall
    exact hall
theorem rul_plain (l : List Rul) : ∀ v ∈ (l.map Rul.cells).flatten, plainCell1 v = true := by
  intro v hv
  simp only [List.mem_flatten, List.mem_map] at hv
  obtain ⟨es, ⟨r, _, rfl⟩, hv⟩ := hv
  simp only [Rul.cells, List.mem_cons, List.not_mem_nil, or_false] at hv
  rcases hv with rfl | rfl | rfl | rfl | rfl | rfl <;> rfl
theorem rul_len (l : List Rul) : ∀ es ∈ l.map Rul.cells, es.length = 6 := by
  intro es he
  obtain ⟨r, _, rfl⟩ := List.mem_map.1 he
  rfl
theorem vizardlaw18_own.run {H : Heap} {p : Option Addr} {n c : Nat} {l : List Rul} (hat : RulesAt H p n l) (hn : n * 48 ≤ 140737488351232) {K : Option Addr → Nat → Nat → Heap → Prop} {E : Value → Heap → Prop}
    (h : ∀ p' c' H', Heap.Le H H' → RulesAt H' p' n l → K p' n c' H') : vizardlaw18_own.c p n c K E H := by
  refine ⟨?_⟩
  unfold vizardlaw18_own.vc
  intro b hb
  refine rdRow_of (RulesAt.mono hat (Le_set hb _)) (by decide) rfl ?_
  refine appT_own (rows := []) (xs := l.map Rul.cells) ⟨rfl, (fun es he => by cases he), Nat.le_refl _, .inr ⟨b, #[], rfl, set_self _ _ _, rfl, rfl⟩⟩ (by decide) rfl rfl (by simpa using hat.len) (rul_len l) (rul_plain l) (by omega) (by omega) ?_
  intro p' c' H' h1 h2 _
  refine ⟨H', Heap.Le.refl H', ?_⟩
  rw [Nat.zero_add] at h1 ⊢
  refine h p' c' H' (fun k o ho => h2 k o ?_ ?_) h1.at
  · have : k ≠ b := fun e => by subst e; rw [hb] at ho; cases ho
    rw [set_ne _ _ this]; exact ho
  · intro b' hb' e
    cases hb'
    subst e
    rw [hb] at ho
    cases ho
def checkL (l : List Rul) : Int := if l.length > 32 then 8 else if l.all Rul.right = true then 0 else 2
theorem policy_Check.run {H : Heap} {p : Option Addr} {n c : Nat} {l : List Rul} (hat : RulesAt H p n l) (hf : ∀ r ∈ l, r.fine) {K : Int → Heap → Prop} {E : Value → Heap → Prop} (h : K (checkL l) H) : policy_Check.c p n c K E H := by
  refine ⟨?_⟩
  unfold policy_Check.vc
  have hl := hat.len
  by_cases h32 : n > 32
  · rw [if_pos (by simp; omega)]
    exact ⟨H, Heap.Le.refl H, by rw [show (8 : Int) = checkL l by unfold checkL; rw [if_pos (by omega)]]; exact h⟩
  · rw [if_neg (by simp; omega)]
    refine policy_Check.loop hat hf (by omega) (fun H' hle ha => ⟨H, hle, ?_⟩) (fun H' hle ha => ⟨H, hle, ?_⟩)
    · rw [show (0 : Int) = checkL l by unfold checkL; rw [if_neg (by omega), if_pos ha]]; exact h
    · rw [show (2 : Int) = checkL l by unfold checkL; rw [if_neg (by omega), if_neg (by rw [ha]; simp)]]; exact h
theorem vizardref18_port.run {n : Int} {K : Bool → Heap → Prop} {E : Value → Heap → Prop} {H : Heap} (h : K (decide (0 ≤ n ∧ n ≤ 65535)) H) : vizardref18_port.c n K E H := by
  refine ⟨?_⟩
  unfold vizardref18_port.vc
  by_cases h0 : n ≥ 0
  · rw [if_pos (by simpa using h0)]
    have h0' : 0 ≤ n := h0
    exact ⟨H, Heap.Le.refl H, by simpa [h0'] using h⟩
  · rw [if_neg (by simpa using h0)]
    have h0' : ¬ 0 ≤ n := h0
    exact ⟨H, Heap.Le.refl H, by simpa [h0'] using h⟩
theorem vizardref18_Check.J2.run {l0 : Option Addr} {l1 l2 : Nat} {i0 : Int} {x0 : Bool} {Kn : Heap → Prop} {Kr : Int → Heap → Prop} {E : Value → Heap → Prop} {H : Heap} (h1 : x0 = true → Kr 2 H) (h2 : x0 = false → Kn H) : vizardref18_Check.J2 l0 l1 l2 i0 x0 Kn Kr E H := by
  refine ⟨?_⟩
  unfold vizardref18_Check.J2.vc
  cases x0 with
  | true => rw [if_pos rfl]; exact h1 rfl
  | false => rw [if_neg (by simp)]; exact h2 rfl
theorem vizardref18_Check.loop {H0 : Heap} {p : Option Addr} {n c : Nat} {l : List Rul} (hat : RulesAt H0 p n l) (hf : ∀ r ∈ l, r.fine) (hn : n ≤ 32) {Kx : Heap → Prop} {Kr : Int → Heap → Prop} {E : Value → Heap → Prop}
    (hx : ∀ H, Heap.Le H0 H → l.all Rul.right = true → Kx H) (hr : ∀ H, Heap.Le H0 H → l.all Rul.right = false → Kr 2 H) : vizardref18_Check.W1 p n c 0 Kx Kr E H0 := by
  refine ⟨Loop.of (I := fun s H m => ∃ k : Nat, s = (k : Int) ∧ k ≤ n ∧ m = n - k ∧ Heap.Le H0 H ∧ (l.take k).all Rul.right = true) ?_ ⟨0, rfl, Nat.zero_le _, rfl, Heap.Le.refl H0, rfl⟩⟩
  rintro m s H ⟨k, rfl, hk, rfl, hle, hall⟩ RR hRR
  have hlen := hat.len
  unfold vizardref18_Check.W1.vc
  by_cases hlt : k < n
  · rw [if_pos (by simp; omega)]
    obtain ⟨r, hget⟩ : ∃ r, l[k]? = some r := ⟨l[k]'(by omega), List.getElem?_eq_getElem (by omega)⟩
    obtain ⟨a, rfl, f0, f1, f2, f3, f4, f5⟩ := (hat.mono hle).get hget
    refine ⟨a, rfl, by omega, by omega, ?_⟩
    simp only [Int.toNat_natCast]
    refine ⟨_, f0, _, f1, _, f2, _, f3, _, f4, _, f5, ?_⟩
    intro b hb
    have hle2 : Heap.Le H0 (H.set b (.cells #[.bool r.allow, .int .i64 r.proto, .int .u32 r.addr, .int .i64 r.bits, .int .i64 r.lo, .int .i64 r.hi] 40)) := hle.trans (Le_set hb _)
    have bad : ∀ {x0 : Bool} {Kn : Heap → Prop}, r.right = false → x0 = true → vizardref18_Check.J2 (some a) n c (k : Int) x0 Kn Kr E (H.set b (.cells #[.bool r.allow, .int .i64 r.proto, .int .u32 r.addr, .int .i64 r.bits, .int .i64 r.lo, .int .i64 r.hi] 40)) := fun e e1 =>
      vizardref18_Check.J2.run (fun _ => hr _ hle2 (not_all hget e)) (fun e2 => by rw [e1] at e2; cases e2)
    simp [-Bool.exists_bool]
    by_cases h1 : r.proto < 0
    · rw [if_pos h1]; exact bad (by have : ¬ 0 ≤ r.proto := by omega
                                    simp [Rul.right, this]) rfl
    · rw [if_neg h1]
      by_cases h2 : 255 < r.proto
      · rw [if_pos h2]; exact bad (by have : ¬ r.proto ≤ 255 := by omega
                                      simp [Rul.right, this]) rfl
      · rw [if_neg h2]
        have hfr := hf r (List.mem_of_getElem? hget)
        refine vizardref04_Check.run hfr.1 hfr.2 ?_
        cases h3 : chk r.addr r.bits with
        | false => rw [if_neg (by simp)]; exact bad (Rul.wrong (by simp [h3])) rfl
        | true =>
          rw [if_pos rfl]
          refine ⟨r.lo, by simp, vizardref18_port.run ?_⟩
          by_cases h4 : 0 ≤ r.lo ∧ r.lo ≤ 65535
          · rw [if_pos (by simpa using h4)]
            refine ⟨r.hi, by simp, vizardref18_port.run ?_⟩
            by_cases h5 : 0 ≤ r.hi ∧ r.hi ≤ 65535
            · rw [if_pos (by simpa using h5)]
              refine ⟨r.lo, by simp, r.hi, by simp, ?_⟩
              refine vizardref18_Check.J2.run (fun e => hr _ hle2 (not_all hget (Rul.wrong fun hq => ?_))) (fun e => ⟨?_⟩)
              · simp only [decide_eq_true_eq] at e; omega
              · simp only [decide_eq_false_iff_not] at e
                refine hRR _ _ (n - (k + 1)) (by omega) ⟨k + 1, ?_, by omega, rfl, hle2, ?_⟩
                · rw [w_i64 (by omega) (by omega)]; simp
                · rw [take_all hall hget]
                  exact (Rul.right_iff r).2 ⟨by omega, by omega, h3, h4.1, by omega, h5.2⟩
            · rw [if_neg (by simpa using h5)]; exact bad (Rul.wrong fun hq => h5 (by omega)) rfl
          · rw [if_neg (by simpa using h4)]; exact bad (Rul.wrong fun hq => h4 (by omega)) rfl
  · rw [if_neg (by simp; omega)]
    refine hx H hle ?_
    rw [List.take_of_length_le (by omega)] at hall
    exact hall
def allowL (proto dst port : Int) (l : List Rul) : Bool :=
  match l.find? (Rul.fits proto dst port) with
  | some r => r.allow
  | none => false
theorem policy_allow.J2.run {H : Heap} {al x6 : Bool} {proto dst port : Int} {p : Option Addr} {n c : Nat} {s i : Int} {x0 : Addr} {Kn : Heap → Prop} {Kr : Bool → Heap → Prop} {E : Value → Heap → Prop} (hc : H.cell? (x0.add 0) = some (.bool al)) (h1 : x6 = true → Kr al H) (h2 : x6 = false → Kn H) : policy_allow.J2 proto dst port x0 p n c s i x6 Kn Kr E H := by
  refine ⟨?_⟩
  unfold policy_allow.J2.vc
  cases x6 with
  | true => rw [if_pos rfl]; exact ⟨al, hc, h1 rfl⟩
  | false => rw [if_neg (by simp)]; exact h2 rfl
theorem policy_allow.loop {H0 : Heap} {p : Option Addr} {n c : Nat} {l : List Rul} {proto dst port : Int} (hat : RulesAt H0 p n l) (hf : ∀ r ∈ l, r.fine) (hd : 0 ≤ dst ∧ dst < 4294967296) (hn : n ≤ 1000000) {Kx : Heap → Prop} {Kr : Bool → Heap → Prop} {E : Value → Heap → Prop}
    (hx : ∀ H, Heap.Le H0 H → allowL proto dst port l = false → Kx H) (hr : ∀ H, Heap.Le H0 H → Kr (allowL proto dst port l) H) : policy_allow.W1 proto dst port p n c (n : Int) 0 Kx Kr E H0 := by
  refine ⟨Loop.of (I := fun s H m => ∃ k : Nat, s = (k : Int) ∧ k ≤ n ∧ m = n - k ∧ Heap.Le H0 H ∧ (l.take k).find? (Rul.fits proto dst port) = none) ?_ ⟨0, rfl, Nat.zero_le _, rfl, Heap.Le.refl H0, rfl⟩⟩
  rintro m s H ⟨k, rfl, hk, rfl, hle, hall⟩ RR hRR
  have hlen := hat.len
  unfold policy_allow.W1.vc
  by_cases hlt : k < n
  · rw [if_pos (by simp; omega)]
    obtain ⟨r, hget⟩ : ∃ r, l[k]? = some r := ⟨l[k]'(by omega), List.getElem?_eq_getElem (by omega)⟩
    obtain ⟨a, rfl, f0, f1, f2, f3, f4, f5⟩ := (hat.mono hle).get hget
    refine ⟨a, rfl, by omega, by omega, ?_⟩
    simp only [Int.toNat_natCast]
    refine ⟨_, f0, _, f1, _, f2, _, f3, _, f4, _, f5, ?_⟩
    intro b hb
    have hle2 : Heap.Le H0 (H.set b (.cells #[.bool r.allow, .int .i64 r.proto, .int .u32 r.addr, .int .i64 r.bits, .int .i64 r.lo, .int .i64 r.hi] 40)) := hle.trans (Le_set hb _)
    have hfr := hf r (List.mem_of_getElem? hget)
    have no : ∀ {H'}, Heap.Le H0 H' → r.fits proto dst port = false → RR (IntKind.i64.wrap ((k : Int) + 1)) H' := fun h1 e =>
      hRR _ _ (n - (k + 1)) (by omega) ⟨k + 1, by rw [w_i64 (by omega) (by omega)]; simp, by omega, rfl, h1, by rw [List.take_add_one, hget, List.find?_append, hall]; simp [e]⟩
    have yes : r.fits proto dst port = true → allowL proto dst port l = r.allow := fun e => by
      have : l.find? (Rul.fits proto dst port) = some r := by
        rw [← List.take_append_drop k l, List.find?_append, hall, List.drop_eq_getElem_cons (by omega)]
        have e2 : l[k]'(by omega) = r := by rw [List.getElem?_eq_getElem (by omega)] at hget; exact Option.some.inj hget
        simp [e2, e]
      simp [allowL, this]
    have j2 : ∀ {x6 : Bool}, r.fits proto dst port = x6 → policy_allow.J2 proto dst port ⟨b, 0, none⟩ (some a) n c (n : Int) (k : Int) x6 (fun h9 => policy_allow.J3 proto dst port (some a) n c (n : Int) (k : Int) (fun x17 h10 => RR x17 h10) E h9) Kr E (H.set b (.cells #[.bool r.allow, .int .i64 r.proto, .int .u32 r.addr, .int .i64 r.bits, .int .i64 r.lo, .int .i64 r.hi] 40)) := fun e =>
      policy_allow.J2.run (al := r.allow) (by simp) (fun e2 => by have h7 := hr _ hle2; rw [yes (e.trans e2)] at h7; exact h7) (fun e2 => ⟨no hle2 (e.trans e2)⟩)
    simp [-Bool.exists_bool]
    by_cases hp0 : r.proto = 0
    · rw [if_pos hp0]
      refine prefix_Has.run hfr.1 hfr.2 hd.1 hd.2 ?_
      cases hb4 : hasB r.addr r.bits dst with
      | false =>
        rw [if_neg (by simp)]
        exact j2 (by simp [Rul.fits, hb4])
      | true =>
        rw [if_pos rfl]
        refine ⟨r.lo, by simp, ?_⟩
        by_cases h5 : r.lo ≤ port
        · rw [if_pos h5]
          refine ⟨r.hi, by simp, j2 ?_⟩
          simp [Rul.fits, hb4, h5, hp0]
        · rw [if_neg h5]
          exact j2 (by simp [Rul.fits, h5])
    · rw [if_neg hp0]
      by_cases hp1 : r.proto = proto
      · rw [if_pos hp1]
        refine prefix_Has.run hfr.1 hfr.2 hd.1 hd.2 ?_
        cases hb4 : hasB r.addr r.bits dst with
        | false =>
          rw [if_neg (by simp)]
          exact j2 (by simp [Rul.fits, hb4])
        | true =>
          rw [if_pos rfl]
          refine ⟨r.lo, by simp, ?_⟩
          by_cases h5 : r.lo ≤ port
          · rw [if_pos h5]
            refine ⟨r.hi, by simp, j2 ?_⟩
            simp [Rul.fits, hb4, h5, hp1]
          · rw [if_neg h5]
            exact j2 (by simp [Rul.fits, h5])
      · rw [if_neg hp1]
        exact j2 (by simp [Rul.fits, hp0, hp1])
  · rw [if_neg (by simp; omega)]
    refine hx H hle ?_
    rw [List.take_of_length_le (by omega)] at hall
    simp [allowL, hall]
theorem vizardref18_Allow.J2.run {H : Heap} {al x6 : Bool} {proto dst port : Int} {p : Option Addr} {n c : Nat} {i : Int} {x0 : Addr} {Kn : Heap → Prop} {Kr : Bool → Heap → Prop} {E : Value → Heap → Prop} (hc : H.cell? (x0.add 0) = some (.bool al)) (h1 : x6 = true → Kr al H) (h2 : x6 = false → Kn H) : vizardref18_Allow.J2 p n c proto dst port i x0 x6 Kn Kr E H := by
  refine ⟨?_⟩
  unfold vizardref18_Allow.J2.vc
  cases x6 with
  | true => rw [if_pos rfl]; exact ⟨al, hc, h1 rfl⟩
  | false => rw [if_neg (by simp)]; exact h2 rfl
theorem vizardref18_Allow.loop {H0 : Heap} {p : Option Addr} {n c : Nat} {l : List Rul} {proto dst port : Int} (hat : RulesAt H0 p n l) (hf : ∀ r ∈ l, r.fine) (hd : 0 ≤ dst ∧ dst < 4294967296) (hn : n ≤ 1000000) {Kx : Heap → Prop} {Kr : Bool → Heap → Prop} {E : Value → Heap → Prop}
    (hx : ∀ H, Heap.Le H0 H → allowL proto dst port l = false → Kx H) (hr : ∀ H, Heap.Le H0 H → Kr (allowL proto dst port l) H) : vizardref18_Allow.W1 p n c proto dst port 0 Kx Kr E H0 := by
  refine ⟨Loop.of (I := fun s H m => ∃ k : Nat, s = (k : Int) ∧ k ≤ n ∧ m = n - k ∧ Heap.Le H0 H ∧ (l.take k).find? (Rul.fits proto dst port) = none) ?_ ⟨0, rfl, Nat.zero_le _, rfl, Heap.Le.refl H0, rfl⟩⟩
  rintro m s H ⟨k, rfl, hk, rfl, hle, hall⟩ RR hRR
  have hlen := hat.len
  unfold vizardref18_Allow.W1.vc
  by_cases hlt : k < n
  · rw [if_pos (by simp; omega)]
    obtain ⟨r, hget⟩ : ∃ r, l[k]? = some r := ⟨l[k]'(by omega), List.getElem?_eq_getElem (by omega)⟩
    obtain ⟨a, rfl, f0, f1, f2, f3, f4, f5⟩ := (hat.mono hle).get hget
    refine ⟨a, rfl, by omega, by omega, ?_⟩
    simp only [Int.toNat_natCast]
    refine ⟨_, f0, _, f1, _, f2, _, f3, _, f4, _, f5, ?_⟩
    intro b hb
    have hle2 : Heap.Le H0 (H.set b (.cells #[.bool r.allow, .int .i64 r.proto, .int .u32 r.addr, .int .i64 r.bits, .int .i64 r.lo, .int .i64 r.hi] 40)) := hle.trans (Le_set hb _)
    have hfr := hf r (List.mem_of_getElem? hget)
    have no : ∀ {H'}, Heap.Le H0 H' → r.fits proto dst port = false → RR (IntKind.i64.wrap ((k : Int) + 1)) H' := fun h1 e =>
      hRR _ _ (n - (k + 1)) (by omega) ⟨k + 1, by rw [w_i64 (by omega) (by omega)]; simp, by omega, rfl, h1, by rw [List.take_add_one, hget, List.find?_append, hall]; simp [e]⟩
    have yes : r.fits proto dst port = true → allowL proto dst port l = r.allow := fun e => by
      have : l.find? (Rul.fits proto dst port) = some r := by
        rw [← List.take_append_drop k l, List.find?_append, hall, List.drop_eq_getElem_cons (by omega)]
        have e2 : l[k]'(by omega) = r := by rw [List.getElem?_eq_getElem (by omega)] at hget; exact Option.some.inj hget
        simp [e2, e]
      simp [allowL, this]
    have j2 : ∀ {x6 : Bool}, r.fits proto dst port = x6 → vizardref18_Allow.J2 (some a) n c proto dst port (k : Int) ⟨b, 0, none⟩ x6 (fun h9 => vizardref18_Allow.J3 (some a) n c proto dst port (k : Int) (fun x17 h10 => RR x17 h10) E h9) Kr E (H.set b (.cells #[.bool r.allow, .int .i64 r.proto, .int .u32 r.addr, .int .i64 r.bits, .int .i64 r.lo, .int .i64 r.hi] 40)) := fun e =>
      vizardref18_Allow.J2.run (al := r.allow) (by simp) (fun e2 => by have h7 := hr _ hle2; rw [yes (e.trans e2)] at h7; exact h7) (fun e2 => ⟨no hle2 (e.trans e2)⟩)
    simp [-Bool.exists_bool]
    by_cases hp0 : r.proto = 0
    · rw [if_pos hp0]
      refine vizardref04_Has.run hfr.1 hfr.2 hd.1 hd.2 ?_
      cases hb4 : hasB r.addr r.bits dst with
      | false =>
        rw [if_neg (by simp)]
        exact j2 (by simp [Rul.fits, hb4])
      | true =>
        rw [if_pos rfl]
        refine ⟨r.lo, by simp, ?_⟩
        by_cases h5 : r.lo ≤ port
        · rw [if_pos h5]
          refine ⟨r.hi, by simp, j2 ?_⟩
          simp [Rul.fits, hb4, h5, hp0]
        · rw [if_neg h5]
          exact j2 (by simp [Rul.fits, h5])
    · rw [if_neg hp0]
      by_cases hp1 : r.proto = proto
      · rw [if_pos hp1]
        refine vizardref04_Has.run hfr.1 hfr.2 hd.1 hd.2 ?_
        cases hb4 : hasB r.addr r.bits dst with
        | false =>
          rw [if_neg (by simp)]
          exact j2 (by simp [Rul.fits, hb4])
        | true =>
          rw [if_pos rfl]
          refine ⟨r.lo, by simp, ?_⟩
          by_cases h5 : r.lo ≤ port
          · rw [if_pos h5]
            refine ⟨r.hi, by simp, j2 ?_⟩
            simp [Rul.fits, hb4, h5, hp1]
          · rw [if_neg h5]
            exact j2 (by simp [Rul.fits, h5])
      · rw [if_neg hp1]
        exact j2 (by simp [Rul.fits, hp0, hp1])
  · rw [if_neg (by simp; omega)]
    refine hx H hle ?_
    rw [List.take_of_length_le (by omega)] at hall
    simp [allowL, hall]
theorem vizardref18_Check.run {H : Heap} {p : Option Addr} {n c : Nat} {l : List Rul} (hat : RulesAt H p n l) (hf : ∀ r ∈ l, r.fine) {K : Int → Heap → Prop} {E : Value → Heap → Prop} (h : K (checkL l) H) : vizardref18_Check.c p n c K E H := by
  refine ⟨?_⟩
  unfold vizardref18_Check.vc
  have hl := hat.len
  by_cases h32 : n > 32
  · rw [if_pos (by simp; omega)]
    exact ⟨H, Heap.Le.refl H, by rw [show (8 : Int) = checkL l by unfold checkL; rw [if_pos (by omega)]]; exact h⟩
  · rw [if_neg (by simp; omega)]
    refine vizardref18_Check.loop hat hf (by omega) (fun H' hle ha => ⟨H, hle, ?_⟩) (fun H' hle ha => ⟨H, hle, ?_⟩)
    · rw [show (0 : Int) = checkL l by unfold checkL; rw [if_neg (by omega), if_pos ha]]; exact h
    · rw [show (2 : Int) = checkL l by unfold checkL; rw [if_neg (by omega), if_neg (by rw [ha]; simp)]]; exact h
theorem checkL_len {l : List Rul} (h : checkL l = 0) : l.length ≤ 32 := by
  unfold checkL at h
  split at h
  · cases h
  · omega
def mayGo (l : List Rul) (proto dst port : Int) : Bool := checkL l == 0 && allowL proto dst port l
theorem policy_Allow.run {H : Heap} {p : Option Addr} {n c : Nat} {l : List Rul} {proto dst port : Int} (hat : RulesAt H p n l) (hf : ∀ r ∈ l, r.fine) (hd : 0 ≤ dst ∧ dst < 4294967296) {K : Bool → Heap → Prop} {E : Value → Heap → Prop} (h : K (mayGo l proto dst port) H) : policy_Allow.c p n c proto dst port K E H := by
  refine ⟨?_⟩
  unfold policy_Allow.vc
  refine policy_Check.run hat hf ?_
  have hl := hat.len
  by_cases hc : checkL l = 0
  · rw [if_pos (by simpa using hc)]
    have h32 := checkL_len hc
    refine ⟨?_⟩
    unfold policy_allow.vc
    have e : mayGo l proto dst port = allowL proto dst port l := by simp [mayGo, hc]
    rw [e] at h
    refine policy_allow.loop hat hf hd (by omega) (fun H' hle ha => ⟨H, hle, H, Heap.Le.refl H, by rw [← ha]; exact h⟩) (fun H' hle => ⟨H, hle, H, Heap.Le.refl H, h⟩)
  · rw [if_neg (by simpa using hc)]
    exact ⟨H, Heap.Le.refl H, by rw [show false = mayGo l proto dst port by simp [mayGo, hc]]; exact h⟩
theorem vizardref18_Allow.run {H : Heap} {p : Option Addr} {n c : Nat} {l : List Rul} {proto dst port : Int} (hat : RulesAt H p n l) (hf : ∀ r ∈ l, r.fine) (hd : 0 ≤ dst ∧ dst < 4294967296) {K : Bool → Heap → Prop} {E : Value → Heap → Prop} (h : K (mayGo l proto dst port) H) : vizardref18_Allow.c p n c proto dst port K E H := by
  refine ⟨?_⟩
  unfold vizardref18_Allow.vc
  refine vizardref18_Check.run hat hf ?_
  have hl := hat.len
  by_cases hc : checkL l = 0
  · rw [if_neg (by simpa using hc)]
    have h32 := checkL_len hc
    have e : mayGo l proto dst port = allowL proto dst port l := by simp [mayGo, hc]
    rw [e] at h
    exact vizardref18_Allow.loop hat hf hd (by omega) (fun H' hle ha => ⟨H, hle, by rw [← ha]; exact h⟩) (fun H' hle => ⟨H, hle, h⟩)
  · rw [if_pos (by simpa using hc)]
    exact ⟨H, Heap.Le.refl H, by rw [show false = mayGo l proto dst port by simp [mayGo, hc]]; exact h⟩
end Go.Sh
