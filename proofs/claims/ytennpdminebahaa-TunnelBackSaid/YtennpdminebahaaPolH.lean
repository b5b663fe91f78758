/- The reference's routes; both are alike. -/
import Derived.Test.YtennpdminebahaaPolG
namespace Go.Sh
theorem vizardref18_bounds.built {Hb H0 : Heap} {p p1 : Option Addr} {n c c1 : Nat} {l : List Rul} (hat : RulesAt Hb p n l) (hn : n ≤ 32) (hf : ∀ r ∈ l, r.fine) (ho : OwnRows H0 2 1 p1 1 c1 (irow [0])) (hst : Step [] Hb (bl p1) H0) {Kx : Option Addr → Nat → Nat → Heap → Prop} {E : Value → Heap → Prop}
    (h : ∀ p' c' H, OwnRows H 2 1 p' (1 + 2 * n) c' (irow (0 :: bnds l)) → Step [] Hb (bl p') H → Kx p' (1 + 2 * n) c' H) : vizardref18_bounds.W1 p n c p1 1 c1 0 Kx E H0 := by
  have hlen := hat.len
  refine ⟨Loop.of (I := fun st H m => ∃ (k : Nat) (p' : Option Addr) (c' : Nat), st = (p', 1 + 2 * k, c', (k : Int)) ∧ k ≤ n ∧ m = n - k ∧ OwnRows H 2 1 p' (1 + 2 * k) c' (irow (0 :: bnds (l.take k))) ∧ Step [] Hb (bl p') H) ?_ ⟨0, p1, c1, rfl, Nat.zero_le _, rfl, ho, hst⟩⟩
  rintro m st H ⟨k, p', c', rfl, hk, rfl, hown, hst⟩ RR hRR
  unfold vizardref18_bounds.W1.vc
  dsimp only
  by_cases hlt : k < n
  · rw [if_pos (by simp; omega)]
    obtain ⟨x, hget⟩ : ∃ x, l[k]? = some x := ⟨l[k]'(by omega), List.getElem?_eq_getElem (by omega)⟩
    have hfx := hf x (List.mem_of_getElem? hget)
    have hr := ends_range hfx
    obtain ⟨a, rfl, f0, f1, f2, f3, f4, f5⟩ := (hat.mono hst.le).get hget
    refine ⟨a, rfl, by omega, by omega, ?_⟩
    simp only [Int.toNat_natCast]
    refine ⟨x.addr, by rw [add_add, Nat.add_zero]; exact f2, x.bits, by rw [add_add]; exact f3, ?_⟩
    refine vizardref04_Ends.run hfx.1 hfx.2 ?_
    have e1 : IntKind.i64.wrap (ends1 x.addr x.bits) = ends1 x.addr x.bits := w_i64 (by omega) (by omega)
    have e2 : IntKind.i64.wrap (ends2 x.addr x.bits) = ends2 x.addr x.bits := w_i64 (by omega) (by omega)
    have e3 : IntKind.i64.wrap (ends2 x.addr x.bits + 1) = ends2 x.addr x.bits + 1 := w_i64 (by omega) (by omega)
    rw [e1, e2, e3]
    refine push_ints (xs := [ends1 x.addr x.bits, ends2 x.addr x.bits + 1]) hown (by omega) rfl (by decide) rfl fun p2 c2 H2 h1 h2 => ⟨?_⟩
    unfold vizardref18_bounds.J2.vc
    have e4 : 1 + 2 * k + 2 = 1 + 2 * (k + 1) := by omega
    rw [e4] at h1 ⊢
    refine hRR _ _ (n - (k + 1)) (by omega) ⟨k + 1, p2, c2, by rw [w_i64 (by omega) (by omega)]; rfl, by omega, rfl, ?_, hst.trans h2⟩
    rw [bnds_snoc hget]
    exact h1
  · rw [if_neg (by simp; omega)]
    have hkn : k = n := by omega
    subst hkn
    rw [List.take_of_length_le (by omega)] at hown
    exact h p' c' H hown hst
/-- Behind the last one, if there is one. -/
def above (o : Option Int) (x : Int) : Prop := ∀ y, o = some y → y < x
theorem vizardref18_bounds.least {H0 : Heap} {pb po : Option Addr} {nb cb no co : Nat} {bs os : List Int} (hb : OwnRows H0 2 1 pb nb cb (irow bs)) (ho : OwnRows H0 2 1 po no co (irow os)) (hn : nb ≤ 1000) (hno : no ≤ 1000) (hmax : ∀ x ∈ bs, x ≤ 4294967296) {E : Value → Heap → Prop} {Kx : Int → Heap → Prop}
    (h : ∀ y, (y = 4294967296 ∨ y ∈ bs) → y ≤ 4294967296 → (y = 4294967296 ∨ above os.getLast? y) → (∀ x ∈ bs, above os.getLast? x → y ≤ x) → Kx y H0) : vizardref18_bounds.W5 pb nb cb po no co 4294967296 0 Kx E H0 := by
  have hlb : bs.length = nb := by simpa [irow] using hb.1
  have hlo : os.length = no := by simpa [irow] using ho.1
  refine ⟨Loop.of (I := fun st H m => ∃ (k : Nat), st.2 = (k : Int) ∧ k ≤ nb ∧ m = nb - k ∧ H = H0 ∧ (st.1 = 4294967296 ∨ st.1 ∈ bs) ∧ st.1 ≤ 4294967296 ∧ (st.1 = 4294967296 ∨ above os.getLast? st.1) ∧ ∀ x ∈ bs.take k, above os.getLast? x → st.1 ≤ x) ?_ ⟨0, rfl, Nat.zero_le _, rfl, rfl, .inl rfl, Int.le_refl _, .inl rfl, by simp⟩⟩
  rintro m ⟨y, i0⟩ H1 ⟨k, hk0, hk, rfl, rfl, h1, h2, h3, h4⟩ RR hRR
  dsimp only at hk0 h1 h2 h3 h4
  subst hk0
  unfold vizardref18_bounds.W5.vc
  dsimp only
  by_cases hlt : k < nb
  · rw [if_pos (by simp; omega)]
    obtain ⟨x, hx⟩ : ∃ x, bs[k]? = some x := ⟨bs[k]'(by omega), List.getElem?_eq_getElem (by omega)⟩
    have hxm := List.mem_of_getElem? hx
    obtain ⟨a, rfl, hc⟩ := int_get hb hx
    have next : ∀ {y' : Int}, (y' = 4294967296 ∨ y' ∈ bs) → y' ≤ 4294967296 → (y' = 4294967296 ∨ above os.getLast? y') → y' ≤ y → (above os.getLast? x → y' ≤ x) → RR (y', IntKind.i64.wrap ((k : Int) + 1)) H1 := fun q1 q2 q3 q4 q5 =>
      hRR _ _ (nb - (k + 1)) (by omega) ⟨k + 1, by show IntKind.i64.wrap ((k : Int) + 1) = _; rw [w_i64 (by omega) (by omega)]; rfl, by omega, rfl, rfl, q1, q2, q3, fun z hz hab => by
        rw [List.take_add_one, hx] at hz
        rcases List.mem_append.1 hz with hz | hz
        · exact Int.le_trans q4 (h4 z hz hab)
        · simp at hz; subst hz; exact q5 hab⟩
    have j6 : ∀ {b : Bool}, (b = true → above os.getLast? x ∧ x < y) → (b = false → above os.getLast? x → y ≤ x) → vizardref18_bounds.J6 (some a) nb cb po no co y (k : Int) b (fun l1 h1 => vizardref18_bounds.J7 (some a) nb cb po no co l1 (k : Int) (fun i1 h2 => RR (l1, i1) h2) E h1) E H1 := by
      intro b hb1 hb0
      refine ⟨?_⟩
      unfold vizardref18_bounds.J6.vc
      cases b with
      | true =>
        obtain ⟨q1, q2⟩ := hb1 rfl
        rw [if_pos rfl]
        refine ⟨a, rfl, by omega, by omega, x, by simpa using hc, ⟨?_⟩⟩
        unfold vizardref18_bounds.J7.vc
        exact next (.inr hxm) (hmax x hxm) (.inr q1) (by omega) (fun _ => Int.le_refl _)
      | false =>
        rw [if_neg (by simp)]
        refine ⟨?_⟩
        unfold vizardref18_bounds.J7.vc
        exact next h1 h2 h3 (Int.le_refl _) (hb0 rfl)
    refine ⟨a, rfl, by omega, by omega, x, by simpa using hc, ?_⟩
    dsimp only
    by_cases hxy : x < y
    · rw [if_pos (by simpa using hxy)]
      by_cases h0 : no = 0
      · rw [if_pos (by simp [h0])]
        have hnil : os = [] := List.eq_nil_of_length_eq_zero (by omega)
        subst hnil
        exact j6 (fun _ => ⟨fun z hz => by simp at hz, hxy⟩) (fun h => by cases h)
      · rw [if_neg (by simp [h0])]
        refine ⟨a, rfl, by omega, by omega, x, by simpa using hc, ?_⟩
        have en : IntKind.i64.wrap ((no : Int) - 1) = ((no - 1 : Nat) : Int) := by rw [w_i64 (by omega) (by omega)]; omega
        obtain ⟨z, hz⟩ : ∃ z, os[no - 1]? = some z := ⟨os[no - 1]'(by omega), List.getElem?_eq_getElem (by omega)⟩
        have hlast : os.getLast? = some z := by rw [List.getLast?_eq_getElem?, hlo]; exact hz
        obtain ⟨a2, ha2, hc2⟩ := int_get ho hz
        refine ⟨a2, ha2, by rw [en]; omega, by rw [en]; omega, z, by rw [en, Int.toNat_natCast]; exact hc2, ?_⟩
        refine j6 (fun hb => ⟨fun w hw => ?_, hxy⟩) (fun hb hab => ?_)
        · rw [hlast] at hw; cases hw
          have := of_decide_eq_true hb
          omega
        · have h5 := hab z hlast
          have := of_decide_eq_false hb
          omega
    · rw [if_neg (by simpa using hxy)]
      exact j6 (fun h => by cases h) (fun _ _ => by omega)
  · rw [if_neg (by simp; omega)]
    rw [List.take_of_length_le (by omega)] at h4
    exact h y h1 h2 h3 h4
theorem vizardref18_bounds.run {Hb : Heap} {p : Option Addr} {n c : Nat} {l : List Rul} (hat : RulesAt Hb p n l) (hn : n ≤ 32) (hf : ∀ r ∈ l, r.fine) {K : Option Addr → Nat → Nat → Heap → Prop} {E : Value → Heap → Prop}
    (h : ∀ p' c' H, OwnRows H 2 1 p' (risen l).length c' (irow (risen l)) → Heap.Le Hb H → K p' (risen l).length c' H) : vizardref18_bounds.c p n c K E Hb := by
  have hlen := hat.len
  refine ⟨?_⟩
  unfold vizardref18_bounds.vc
  intro b hb
  refine vizardref18_bounds.built hat hn hf ⟨rfl, irow_len _, Nat.le_refl _, .inr ⟨b, _, rfl, set_self _ _ _, rfl, rfl⟩⟩ (Step.new hb _ []) fun pb cb H1 hbo hst1 => ?_
  have hrs := risen_rises hf
  have hrl := risen_len l
  have hmem : ∀ x, x ∈ risen l ↔ x = 4294967296 ∨ x ∈ (0 :: bnds l) := fun x => by rw [risen_mem, List.mem_cons]; constructor <;> (rintro (h | h | h) <;> simp [h])
  refine ⟨Loop.of (I := fun st H m => ∃ (j : Nat) (po : Option Addr) (co : Nat), st = (po, j, co) ∧ j ≤ (risen l).length ∧ m = (risen l).length - j ∧ OwnRows H 2 1 po j co (irow ((risen l).take j)) ∧ Step [] H1 (bl po) H) ?_ ⟨0, none, 0, rfl, Nat.zero_le _, rfl, ⟨rfl, (fun es he => by cases he), Nat.le_refl _, .inl ⟨rfl, rfl⟩⟩, Step.refl _ _⟩⟩
  rintro m st H ⟨j, po, co, rfl, hj, rfl, hown, hst⟩ RR hRR
  unfold vizardref18_bounds.W3.vc
  dsimp only
  have hlt' : ((risen l).take j).length = j := by rw [List.length_take]; omega
  -- one more bound
  have more : j < (risen l).length → vizardref18_bounds.J4 pb (1 + 2 * n) cb po j co (fun o0 o1 o2 h => RR (o0, o1, o2) h) E H := fun hjl => by
    refine ⟨?_⟩
    unfold vizardref18_bounds.J4.vc
    obtain ⟨z, hz⟩ : ∃ z, (risen l)[j]? = some z := ⟨(risen l)[j], List.getElem?_eq_getElem hjl⟩
    refine vizardref18_bounds.least (hbo.step hst (by simp)) hown (by omega) (by omega) (fun x hx => ((hrs.range x ((hmem x).2 (.inr hx))).2)) fun y h1 h2 h3 h4 => ?_
    have hlast : ∀ w, ((risen l).take j).getLast? = some w → w < z := fun w hw => by
      rw [List.getLast?_eq_getElem?, hlt', List.getElem?_take] at hw
      split at hw
      · exact hrs.rise _ _ _ _ hw hz (by omega)
      · cases hw
    have hzm := List.mem_of_getElem? hz
    have hyz : y ≤ z := by
      rcases (hmem z).1 hzm with e | e
      · omega
      · exact h4 z e hlast
    have hy : y = z := by
      obtain ⟨i, hi⟩ := List.getElem?_of_mem ((hmem y).2 h1)
      rcases Nat.lt_trichotomy i j with hij | hij | hij
      · exfalso
        have hj0 : ((risen l).take j).getLast? = some ((risen l)[j - 1]'(by omega)) := by
          rw [List.getLast?_eq_getElem?, hlt', List.getElem?_take, if_pos (by omega), List.getElem?_eq_getElem (by omega)]
        have hle : y ≤ (risen l)[j - 1]'(by omega) := by
          by_cases e : i = j - 1
          · subst e
            rw [List.getElem?_eq_getElem (by omega)] at hi
            exact Int.le_of_eq (Option.some.inj hi).symm
          · exact Int.le_of_lt (hrs.rise i (j - 1) _ _ hi (List.getElem?_eq_getElem (by omega)) (by omega))
        have hw := hlast _ hj0
        rcases h3 with e | e
        · have := (hrs.range z hzm).2
          omega
        · have := e _ hj0
          omega
      · subst hij
        rw [hi] at hz; cases hz; rfl
      · have := hrs.rise j i _ _ hz hi hij
        omega
    subst hy
    refine push_ints (xs := [y]) hown (by omega) rfl (by decide) rfl fun p2 c2 H2 q1 q2 => ?_
    refine hRR _ _ ((risen l).length - (j + 1)) (by omega) ⟨j + 1, p2, c2, rfl, by omega, rfl, ?_, hst.trans q2⟩
    rw [List.take_add_one, hz]
    exact q1
  have h2 := risen_two l
  by_cases h0 : j = 0
  · rw [if_pos (by simp [h0])]
    exact more (by omega)
  · rw [if_neg (by simp [h0])]
    have en : IntKind.i64.wrap ((j : Int) - 1) = ((j - 1 : Nat) : Int) := by rw [w_i64 (by omega) (by omega)]; omega
    obtain ⟨z, hz⟩ : ∃ z, (risen l)[j - 1]? = some z := ⟨(risen l)[j - 1]'(by omega), List.getElem?_eq_getElem (by omega)⟩
    obtain ⟨a2, ha2, hc2⟩ := int_get hown (i := j - 1) (x := z) (by rw [List.getElem?_take, if_pos (by omega)]; exact hz)
    refine ⟨a2, ha2, by rw [en]; omega, by rw [en]; omega, z, by rw [en, Int.toNat_natCast]; exact hc2, ?_⟩
    have hzm := hrs.range z (List.mem_of_getElem? hz)
    dsimp only
    by_cases hlz : z < 4294967296
    · rw [if_pos (by simpa using hlz)]
      refine more ?_
      rcases Nat.lt_or_ge j (risen l).length with h | h
      · exact h
      · exfalso
        obtain ⟨i, hi⟩ := List.getElem?_of_mem ((hmem 4294967296).2 (.inl rfl))
        have hil := (List.getElem?_eq_some_iff.1 hi).1
        by_cases e : i = j - 1
        · subst e; rw [hi] at hz; cases hz; omega
        · have := hrs.rise i (j - 1) _ _ hi hz (by omega)
          omega
    · rw [if_neg (by simpa using hlz)]
      have hjn : j = (risen l).length := by
        rcases Nat.lt_or_ge j (risen l).length with h | h
        · exfalso
          have h5 : (risen l)[j]? = some (risen l)[j] := List.getElem?_eq_getElem h
          have := hrs.rise (j - 1) j _ _ hz h5 (by omega)
          have := (hrs.range _ (List.mem_of_getElem? h5)).2
          omega
        · omega
      subst hjn
      rw [List.take_of_length_le (Nat.le_refl _)] at hown
      exact ⟨H, Heap.Le.refl _, h po co H hown (hst1.le.trans hst.le)⟩
end Go.Sh
