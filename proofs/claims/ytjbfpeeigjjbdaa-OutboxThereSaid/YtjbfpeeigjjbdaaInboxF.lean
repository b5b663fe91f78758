/- The box of the reference, and what ends a stream. -/
import Derived.Test.YtjbfpeeigjjbdaaInboxC
namespace Go.Sh
/-! ### The program: Reset -/
def resetE (s : Bx) (size : Int) : Int := if placeOk size = true then fitsE s size true else 2
def resetS (s : Bx) (size : Int) : Bx := if placeOk size = true ∧ fitsE s size true = 0 ∧ s.size ≠ s.read then { s with reset := true, size := size } else s
theorem inbox_Box_Reset.run {H : Heap} {b mb : Nat} {s : Bx} (hb : BoxAt H b mb s) {n : Int} {K : Int → Heap → Prop} {E : Value → Heap → Prop}
    (h : ∀ H', BoxAt H' b mb (resetS s n) → Keep2 b mb H H' → K (resetE s n) H') : inbox_Box_Reset.c (some ⟨b, 0, none⟩) n K E H := by
  refine ⟨?_⟩
  unfold inbox_Box_Reset.vc
  refine inbox_place.run ?_
  cases hp : placeOk n with
  | false =>
    rw [if_pos (by simp)]
    refine ⟨H, Heap.Le.refl H, ?_⟩
    have := h H (by simpa [resetS, hp] using hb) (Keep2.refl _ _ _)
    simpa [resetE, hp] using this
  | true =>
    rw [if_neg (by simp)]
    refine inbox_Box_fits.run hb ?_
    by_cases hf : fitsE s n true = 0
    · rw [if_neg (by simp [hf])]
      refine ⟨_, rfl, s.size, hb.cell rfl, _, rfl, s.read, hb.cell rfl, ?_⟩
      dsimp only
      by_cases he : s.size = s.read
      · rw [if_neg (by simp [he])]
        refine ⟨H, Heap.Le.refl H, ?_⟩
        have := h H (by simpa [resetS, he] using hb) (Keep2.refl _ _ _)
        simpa [resetE, hp, hf] using this
      · rw [if_pos (by simpa using he)]
        refine ⟨_, rfl, hb.set (s' := { s with reset := true }) rfl rfl (by decide) fun H1 hb1 hk1 => ⟨_, rfl, ?_⟩⟩
        refine hb1.set (s' := { s with reset := true, size := n }) rfl rfl (by decide) fun H2 hb2 hk2 => ?_
        refine ⟨H2, Heap.Le.refl H2, ?_⟩
        have := h H2 (by simpa [resetS, hp, hf, he] using hb2) (hk1.trans hk2)
        simpa [resetE, hp, hf] using this
    · rw [if_pos (by simpa using hf)]
      refine ⟨H, Heap.Le.refl H, ?_⟩
      have := h H (by simpa [resetS, hf] using hb) (Keep2.refl _ _ _)
      simpa [resetE, hp] using this
/-! ### The reference -/
theorem vizardref11_New.run {H : Heap} {K : Option Addr → Heap → Prop} {E : Value → Heap → Prop} (h : ∀ b mb H', BoxAt H' b mb bx0 → H b = none → H mb = none → Heap.Le H H' → K (some ⟨b, 0, none⟩) H') : vizardref11_New.c K E H := by
  refine ⟨?_⟩
  unfold vizardref11_New.vc
  intro mb hmb b hb
  have hne : b ≠ mb := fun e => by subst e; rw [set_self] at hb; cases hb
  have hHb : H b = none := by rw [set_ne _ _ hne] at hb; exact hb
  refine ⟨_, Heap.Le.refl _, h b mb _ ⟨⟨64, by rw [set_self]; rfl⟩, ?_, hne⟩ hHb hmb ((Le_set hmb _).trans (Le_set hb _))⟩
  refine ⟨#[], 0, by rw [set_ne _ _ (fun e => hne e.symm), set_self], (fun e he => by simp at he), by simp, fun n => rfl⟩
theorem vizardref11_place.run {n : Int} {K : Bool → Heap → Prop} {E : Value → Heap → Prop} {H : Heap} (h : K (placeOk n) H) : vizardref11_place.c n K E H := by
  refine ⟨?_⟩
  unfold vizardref11_place.vc
  by_cases h0 : n ≥ 0
  · rw [if_pos (by simpa using h0)]
    have h0' : 0 ≤ n := h0
    exact ⟨H, Heap.Le.refl H, by simpa [placeOk, h0'] using h⟩
  · rw [if_neg (by simpa using h0)]
    have h0' : ¬ 0 ≤ n := h0
    exact ⟨H, Heap.Le.refl H, by simpa [placeOk, h0'] using h⟩
theorem vizardref11_Box_Limit.run {H : Heap} {b mb : Nat} {s : Bx} (hb : BoxAt H b mb s) {K : Int → Heap → Prop} {E : Value → Heap → Prop} (h : K (IntKind.i64.wrap (s.read + 4096)) H) : vizardref11_Box_Limit.c (some ⟨b, 0, none⟩) K E H := by
  refine ⟨?_⟩
  unfold vizardref11_Box_Limit.vc
  exact ⟨_, rfl, s.read, hb.cell rfl, H, Heap.Le.refl H, h⟩
theorem vizardref11_Box_Ended.run {H : Heap} {b mb : Nat} {s : Bx} (hb : BoxAt H b mb s) {K : Int → Heap → Prop} {E : Value → Heap → Prop} (h : K (howE s) H) : vizardref11_Box_Ended.c (some ⟨b, 0, none⟩) K E H := by
  refine ⟨?_⟩
  unfold vizardref11_Box_Ended.vc
  refine ⟨_, rfl, s.reset, hb.cell rfl, ?_⟩
  cases hr : s.reset with
  | true => exact (if_pos rfl).mpr ⟨H, Heap.Le.refl H, by simpa [howE, hr] using h⟩
  | false =>
    refine (if_neg (by simp)).mpr ⟨_, rfl, s.size, hb.cell rfl, _, rfl, s.read, hb.cell rfl, ?_⟩
    by_cases he : s.size = s.read
    · exact (if_pos (by simpa using he)).mpr ⟨H, Heap.Le.refl H, by simpa [howE, hr, he] using h⟩
    · exact (if_neg (by simpa using he)).mpr ⟨H, Heap.Le.refl H, by simpa [howE, hr, he] using h⟩
theorem vizardref11_Box_Put.loop {H0 : Heap} {b mb : Nat} {s : Bx} (hb : BoxAt H0 b mb s) {off en : Int} {data : ByteArray} {fin : Bool} (ho : 0 ≤ off ∧ off ≤ 4611686018427387903) (hd : data.size ≤ reachBytes) {Kx : Heap → Prop} {E : Value → Heap → Prop}
    (hx : ∀ H, BoxAt H b mb { s with f := putF s off data data.size } → Keep2 b mb H0 H → Kx H) : vizardref11_Box_Put.W4 (some ⟨b, 0, none⟩) off data fin en 0 Kx E H0 := by
  have hr : reachBytes = 140737488351232 := rfl
  refine ⟨Loop.of (I := fun st H m => ∃ k : Nat, st = (k : Int) ∧ k ≤ data.size ∧ m = data.size - k ∧ BoxAt H b mb { s with f := putF s off data k } ∧ Keep2 b mb H0 H) ?_ ⟨0, rfl, Nat.zero_le _, rfl, ?_, Keep2.refl _ _ _⟩⟩
  · rintro m st H ⟨k, rfl, hk, rfl, hbx, hkeep⟩ RR hRR
    unfold vizardref11_Box_Put.W4.vc
    by_cases hlt : k < data.size
    · rw [if_pos (by simp; omega)]
      have hw : IntKind.i64.wrap (off + (k : Int)) = off + k := w_i64 (by omega) (by omega)
      rw [hw]
      have next : ∀ H', BoxAt H' b mb { s with f := putF s off data ((k : Int) + 1) } → Keep2 b mb H0 H' → vizardref11_Box_Put.J7 (some ⟨b, 0, none⟩) off data fin en (k : Int) RR E H' := fun H' h1 h2 => ⟨by
        unfold vizardref11_Box_Put.J7.vc
        rw [w_i64 (by omega) (by omega)]
        exact hRR _ _ (data.size - (k + 1)) (by omega) ⟨k + 1, by simp, by omega, rfl, by simpa using h1, h2⟩⟩
      have hat : putF s off data k (off + k) = s.f (off + k) := by unfold putF; rw [if_neg (by omega)]
      refine ⟨_, rfl, some mb, hbx.cell rfl, ?_⟩
      refine hbx.map.look (fun x hx => ?_) (fun hx => ⟨?_⟩)
      · simp only [hat, Option.map_eq_some_iff] at hx
        obtain ⟨v, hv, rfl⟩ := hx
        refine ⟨_, rfl, ⟨?_⟩⟩
        unfold vizardref11_Box_Put.J5.vc
        have j : vizardref11_Box_Put.J6 (some ⟨b, 0, none⟩) off data fin en (k : Int) (off + k) false (fun h1 => vizardref11_Box_Put.J7 (some ⟨b, 0, none⟩) off data fin en (k : Int) RR E h1) E H := ⟨by
          unfold vizardref11_Box_Put.J6.vc
          rw [if_neg (by simp)]
          exact next H (by rw [putF_keep (by rw [hv]; simp)]; exact hbx) hkeep⟩
        refine ⟨_, rfl, s.read, hbx.cell rfl, ?_⟩
        dsimp only
        split
        · exact j
        · exact j
      · simp only [hat, Option.map_eq_none_iff] at hx
        unfold vizardref11_Box_Put.J5.vc
        refine ⟨_, rfl, s.read, hbx.cell rfl, ?_⟩
        dsimp only
        by_cases hge : s.read ≤ off + k
        · rw [if_pos (by simpa using hge)]
          refine ⟨?_⟩
          unfold vizardref11_Box_Put.J6.vc
          rw [if_pos (by simp)]
          refine ⟨_, rfl, some mb, hbx.cell rfl, by omega, by omega, hbx.putMap (x := bget data k) fun H' h1 h2 => next H' ?_ (hkeep.trans h2)⟩
          rw [putF_add (by omega) ⟨hge, hx⟩]
          exact h1
        · rw [if_neg (by simpa using hge)]
          refine ⟨?_⟩
          unfold vizardref11_Box_Put.J6.vc
          rw [if_neg (by simp)]
          exact next H (by rw [putF_keep (fun h => hge h.1)]; exact hbx) hkeep
    · rw [if_neg (by simp; omega)]
      have : k = data.size := by omega
      subst this
      exact hx H hbx hkeep
  · rw [show ((0 : Nat) : Int) = 0 from rfl, putF_zero]; exact hb
theorem vizardref11_Box_Put.J8.run {H0 H : Heap} {b mb : Nat} {s : Bx} (hb : BoxAt H b mb s) (hk0 : Keep2 b mb H0 H) {en : Int} {fin : Bool} {Kr : Int → Heap → Prop} {E : Value → Heap → Prop} (h : ∀ H', BoxAt H' b mb { s with size := if fin = true then en else s.size } → Keep2 b mb H0 H' → Kr 0 H') : vizardref11_Box_Put.J8 (some ⟨b, 0, none⟩) fin en Kr E H := by
  refine ⟨?_⟩
  unfold vizardref11_Box_Put.J8.vc
  cases fin with
  | true =>
    rw [if_pos rfl]
    exact ⟨_, rfl, hb.set (s' := { s with size := en }) rfl rfl (by decide) fun H' h1 h2 => h H' h1 (hk0.trans h2)⟩
  | false =>
    rw [if_neg (by simp)]
    exact h H hb hk0
theorem vizardref11_Box_Put.J2.run {b : Option Addr} {off en : Int} {data : ByteArray} {fin x : Bool} {H : Heap} {Kn : Heap → Prop} {Kr : Int → Heap → Prop} {E : Value → Heap → Prop} (h1 : x = true → Kr 13 H) (h2 : x = false → Kn H) : vizardref11_Box_Put.J2 b off data fin en x Kn Kr E H := by
  refine ⟨?_⟩
  unfold vizardref11_Box_Put.J2.vc
  cases x with
  | true => rw [if_pos rfl]; exact h1 rfl
  | false => rw [if_neg (by simp)]; exact h2 rfl
theorem vizardref11_Box_Put.J1.run {H : Heap} {b mb : Nat} {s : Bx} (hb : BoxAt H b mb s) {off en : Int} {data : ByteArray} {fin x : Bool} {Kn : Heap → Prop} {Kr : Int → Heap → Prop} {E : Value → Heap → Prop} (h1 : (x = true ∨ (fin = true ∧ s.most > en)) → Kr 13 H) (h2 : x = false → ¬ (fin = true ∧ s.most > en) → Kn H) : vizardref11_Box_Put.J1 (some ⟨b, 0, none⟩) off data fin en x Kn Kr E H := by
  refine ⟨?_⟩
  unfold vizardref11_Box_Put.J1.vc
  cases x with
  | true => rw [if_pos rfl]; exact h1 (.inl rfl)
  | false =>
    rw [if_neg (by simp)]
    cases fin with
    | true =>
      rw [if_pos rfl]
      refine ⟨_, rfl, s.most, hb.cell rfl, vizardref11_Box_Put.J2.run (fun e => h1 (.inr ⟨rfl, by simpa using e⟩)) (fun e => h2 rfl fun h => ?_)⟩
      have : ¬ s.most > en := by simpa using e
      exact this h.2
    | false =>
      rw [if_neg (by simp)]
      exact vizardref11_Box_Put.J2.run (fun e => by cases e) (fun _ => h2 rfl fun h => by cases h.1)
theorem vizardref11_Box_Put.run {H : Heap} {b mb : Nat} {s : Bx} (hb : BoxAt H b mb s) (hsz : -1 ≤ s.size) {off : Int} {data : ByteArray} {fin : Bool} (hoff : IntKind.i64.has off) (hd : data.size ≤ reachBytes) {K : Int → Heap → Prop} {E : Value → Heap → Prop}
    (h : ∀ H', BoxAt H' b mb (putS s off data fin) → Keep2 b mb H H' → K (putE s off data fin) H') : vizardref11_Box_Put.c (some ⟨b, 0, none⟩) off data fin K E H := by
  have hr : reachBytes = 140737488351232 := rfl
  refine ⟨?_⟩
  unfold vizardref11_Box_Put.vc
  refine vizardref11_place.run ?_
  cases hp : placeOk off with
  | false =>
    rw [if_pos (by simp)]
    refine ⟨H, Heap.Le.refl H, ?_⟩
    have := h H (by simpa [putS, hp] using hb) (Keep2.refl _ _ _)
    simpa [putE, hp] using this
  | true =>
    rw [if_neg (by simp)]
    have ho : 0 ≤ off ∧ off ≤ 4611686018427387903 := by simpa [placeOk] using hp
    have hw : IntKind.i64.wrap (off + (data.size : Int)) = putEnd off data := w_i64 (by omega) (by omega)
    rw [hw]
    refine vizardref11_Box_Limit.run hb ?_
    by_cases h1 : putEnd off data > IntKind.i64.wrap (s.read + 4096)
    · refine (if_pos (by simpa using h1)).mpr ⟨H, Heap.Le.refl H, ?_⟩
      have hf : fitsE s (putEnd off data) fin = 12 := by unfold fitsE; rw [if_pos h1]
      have := h H (by simpa [putS, hf] using hb) (Keep2.refl _ _ _)
      simpa [putE, hp, hf] using this
    · refine (if_neg (by simpa using h1)).mpr ⟨_, rfl, s.size, hb.cell rfl, ?_⟩
      have bad : fitsE s (putEnd off data) fin = 13 → ∃ H', Heap.Le H' H ∧ K 13 H' := fun hf => by
        refine ⟨H, Heap.Le.refl H, ?_⟩
        have := h H (by simpa [putS, hf] using hb) (Keep2.refl _ _ _)
        simpa [putE, hp, hf] using this
      have good : fitsE s (putEnd off data) fin = 0 → vizardref11_Box_Put.J3 (some ⟨b, 0, none⟩) off data fin (putEnd off data) (fun x3 h2 => ∃ H', Heap.Le H' h2 ∧ K x3 H') E H := fun hf => by
        refine ⟨?_⟩
        unfold vizardref11_Box_Put.J3.vc
        refine ⟨_, rfl, s.reset, hb.cell rfl, ?_⟩
        dsimp only
        cases hres : s.reset with
        | true =>
          rw [if_pos rfl]
          refine ⟨H, Heap.Le.refl H, ?_⟩
          have := h H (by simpa [putS, hres] using hb) (Keep2.refl _ _ _)
          simpa [putE, hp, hf] using this
        | false =>
          rw [if_neg (by simp)]
          have fin2 : ∀ {H1 : Heap} {m : Int}, m = (if data.size = 0 then s.most else if putEnd off data > s.most then putEnd off data else s.most) → BoxAt H1 b mb { s with f := putF s off data data.size, most := m } → Keep2 b mb H H1 →
              vizardref11_Box_Put.J8 (some ⟨b, 0, none⟩) fin (putEnd off data) (fun x1 h3 => ∃ H', Heap.Le H' h3 ∧ K x1 H') E H1 := fun hm h1 h2 => by
            subst hm
            refine vizardref11_Box_Put.J8.run h1 h2 fun H' h3 h4 => ⟨H', Heap.Le.refl H', ?_⟩
            have := h H' (by simpa [putS, hp, hf, hres, putBx] using h3) h4
            simpa [putE, hp, hf] using this
          refine vizardref11_Box_Put.loop hb ho hd fun H1 hb1 hk1 => ?_
          by_cases hz : data.size = 0
          · rw [if_neg (by simp [hz])]
            exact fin2 (by rw [if_pos hz]) hb1 hk1
          · rw [if_pos (by simp; omega)]
            refine ⟨_, rfl, s.most, hb1.cell rfl, _, rfl, ?_⟩
            exact hb1.set (s' := { s with f := putF s off data data.size, most := if putEnd off data > s.most then putEnd off data else s.most }) rfl rfl (by decide) fun H2 h1 h2 => fin2 (by rw [if_neg hz]) h1 (hk1.trans h2)
      have j1 : ∀ {x : Bool}, (x = true ↔ s.size ≠ -1 ∧ (putEnd off data > s.size ∨ (fin = true ∧ putEnd off data < s.size))) →
          vizardref11_Box_Put.J1 (some ⟨b, 0, none⟩) off data fin (putEnd off data) x (fun h3 => vizardref11_Box_Put.J3 (some ⟨b, 0, none⟩) off data fin (putEnd off data) (fun x3 h2 => ∃ H', Heap.Le H' h2 ∧ K x3 H') E h3) (fun x3 h2 => ∃ H', Heap.Le H' h2 ∧ K x3 H') E H := by
        intro x hx
        refine vizardref11_Box_Put.J1.run hb (fun e => bad ?_) (fun e1 e2 => good ?_)
        · unfold fitsE
          rw [if_neg h1]
          by_cases hc : s.size ≠ -1 ∧ (putEnd off data > s.size ∨ (fin = true ∧ putEnd off data < s.size))
          · rw [if_pos hc]
          · rw [if_neg hc, if_pos (e.resolve_left fun e => hc (hx.1 e))]
        · unfold fitsE
          rw [if_neg h1, if_neg (fun hc => by rw [hx.2 hc] at e1; cases e1), if_neg e2]
      by_cases h2 : s.size ≥ 0
      · refine (if_pos (by simpa using h2)).mpr ⟨_, rfl, s.size, hb.cell rfl, ?_⟩
        by_cases h3 : putEnd off data > s.size
        · exact (if_pos (by simpa using h3)).mpr (j1 (by simp [h3]; omega))
        · refine (if_neg (by simpa using h3)).mpr ?_
          cases fin with
          | true =>
            rw [if_pos rfl]
            refine ⟨_, rfl, s.size, hb.cell rfl, j1 ?_⟩
            simp [h3]
            omega
          | false =>
            rw [if_neg (by simp)]
            exact j1 (by simp [h3])
      · have : s.size = -1 := by omega
        exact (if_neg (by simpa using h2)).mpr (j1 (by simp [this]))
theorem vizardref11_Box_End.run {H : Heap} {b mb : Nat} {s : Bx} (hb : BoxAt H b mb s) (hsz : -1 ≤ s.size) (hrd : 0 ≤ s.read) {n : Int} {K : Int → Heap → Prop} {E : Value → Heap → Prop}
    (h : ∀ H', BoxAt H' b mb (resetS s n) → Keep2 b mb H H' → K (resetE s n) H') : vizardref11_Box_End.c (some ⟨b, 0, none⟩) n K E H := by
  refine ⟨?_⟩
  unfold vizardref11_Box_End.vc
  refine vizardref11_place.run ?_
  cases hp : placeOk n with
  | false =>
    rw [if_pos (by simp)]
    refine ⟨H, Heap.Le.refl H, ?_⟩
    have := h H (by simpa [resetS, hp] using hb) (Keep2.refl _ _ _)
    simpa [resetE, hp] using this
  | true =>
    rw [if_neg (by simp)]
    refine vizardref11_Box_Limit.run hb ?_
    by_cases h1 : n > IntKind.i64.wrap (s.read + 4096)
    · refine (if_pos (by simpa using h1)).mpr ⟨H, Heap.Le.refl H, ?_⟩
      have hf : fitsE s n true = 12 := by unfold fitsE; rw [if_pos h1]
      have := h H (by simpa [resetS, hf] using hb) (Keep2.refl _ _ _)
      simpa [resetE, hp, hf] using this
    · refine (if_neg (by simpa using h1)).mpr ⟨_, rfl, s.size, hb.cell rfl, ?_⟩
      have j1 : ∀ {x : Bool}, (x = true ↔ (s.size ≠ -1 ∧ (n > s.size ∨ n < s.size)) ∨ s.most > n) →
          vizardref11_Box_End.J1 (some ⟨b, 0, none⟩) n x (fun h3 => vizardref11_Box_End.J2 (some ⟨b, 0, none⟩) n (fun x3 h2 => ∃ H', Heap.Le H' h2 ∧ K x3 H') E h3) (fun x3 h2 => ∃ H', Heap.Le H' h2 ∧ K x3 H') E H := by
        intro x hx
        refine ⟨?_⟩
        unfold vizardref11_Box_End.J1.vc
        cases x with
        | true =>
          rw [if_pos rfl]
          have hf : fitsE s n true = 13 := by
            unfold fitsE
            rw [if_neg h1]
            by_cases hc : s.size ≠ -1 ∧ (n > s.size ∨ (true = true ∧ n < s.size))
            · rw [if_pos hc]
            · rw [if_neg hc, if_pos ⟨rfl, (hx.1 rfl).resolve_left fun e => hc ⟨e.1, e.2.imp id fun e => ⟨rfl, e⟩⟩⟩]
          refine ⟨H, Heap.Le.refl H, ?_⟩
          have := h H (by simpa [resetS, hf] using hb) (Keep2.refl _ _ _)
          simpa [resetE, hp, hf] using this
        | false =>
          rw [if_neg (by simp)]
          have hx : ¬ ((s.size ≠ -1 ∧ (n > s.size ∨ n < s.size)) ∨ s.most > n) := fun e => by have := hx.2 e; cases this
          have hf : fitsE s n true = 0 := by
            unfold fitsE
            rw [if_neg h1, if_neg (fun hc => hx (.inl ⟨hc.1, hc.2.imp id fun e => e.2⟩)), if_neg (fun hc => hx (.inr hc.2))]
          refine ⟨?_⟩
          unfold vizardref11_Box_End.J2.vc
          refine vizardref11_Box_Ended.run hb ?_
          by_cases hh : howE s = 1
          · rw [if_neg (by simp [hh])]
            have he : s.size = s.read := by
              unfold howE at hh
              split at hh
              · cases hh
              · split at hh
                · assumption
                · cases hh
            refine ⟨H, Heap.Le.refl H, ?_⟩
            have := h H (by simpa [resetS, he] using hb) (Keep2.refl _ _ _)
            simpa [resetE, hp, hf] using this
          · rw [if_pos (by simpa using hh)]
            refine ⟨_, rfl, hb.set (s' := { s with reset := true }) rfl rfl (by decide) fun H1 hb1 hk1 => ⟨_, rfl, ?_⟩⟩
            refine hb1.set (s' := { s with reset := true, size := n }) rfl rfl (by decide) fun H2 hb2 hk2 => ?_
            refine ⟨H2, Heap.Le.refl H2, ?_⟩
            have hS : resetS s n = { s with reset := true, size := n } := by
              unfold resetS
              by_cases he : s.size = s.read
              · rw [if_neg (fun c => c.2.2 he)]
                have hr : s.reset = true := by
                  cases hr : s.reset with
                  | true => rfl
                  | false => exact absurd (by simp [howE, hr, he]) hh
                have hn : s.size = n := by
                  by_cases h2 : s.size = -1
                  · omega
                  · have := fun e => hx (.inl ⟨h2, e⟩)
                    omega
                obtain ⟨sf, sr, ss, sm, srs⟩ := s
                dsimp only at hr hn
                subst hr
                subst hn
                rfl
              · rw [if_pos ⟨hp, hf, he⟩]
            have := h H2 (by rw [hS]; exact hb2) (hk1.trans hk2)
            simpa [resetE, hp, hf] using this
      by_cases h2 : s.size ≥ 0
      · refine (if_pos (by simpa using h2)).mpr ⟨_, rfl, s.size, hb.cell rfl, ?_⟩
        by_cases h3 : n = s.size
        · refine (if_neg (by simp [h3])).mpr ⟨_, rfl, s.most, hb.cell rfl, j1 ?_⟩
          simp [h3]
        · exact (if_pos (by simpa using h3)).mpr (j1 (by simp; omega))
      · have : s.size = -1 := by omega
        exact (if_neg (by simpa using h2)).mpr ⟨_, rfl, s.most, hb.cell rfl, j1 (by simp [this])⟩
/-! ### What is taken out of the reference stays there. -/
def Bx.step (s : Bx) : Bx := { s with read := s.read + 1 }
def takeL : Nat → Bx → List UInt8 × Bx
  | 0, s => ([], s)
  | m + 1, s => if s.reset = true then ([], s) else match s.f s.read with
    | none => ([], s)
    | some c => (c :: (takeL m s.step).1, (takeL m s.step).2)
theorem Bx.step_fine {s : Bx} (h : s.fine) {c : UInt8} (hc : s.f s.read = some c) : s.step.fine := by
  have h1 := h.1 _ _ hc
  refine ⟨fun n x hx => ?_, by show 0 ≤ s.read + 1; have := h.2.1; omega, by show s.read + 1 ≤ _; omega⟩
  have := h.1 n x hx
  exact ⟨by show n < s.read + 1 + 4096; omega, this.2⟩
theorem vizardref11_Box_Take.loop {H0 : Heap} {b mb : Nat} {s0 : Bx} (hb : BoxAt H0 b mb s0) (hf0 : s0.fine) {n0 : Int} {Kx : Option Addr → Nat → Nat → Heap → Prop} {E : Value → Heap → Prop}
    (hx : ∀ p c H, OwnRows H 5 1 p (takeL n0.toNat s0).1.length c (vrow (takeL n0.toNat s0).1) → BoxAt H b mb (takeL n0.toNat s0).2 → Keep2 b mb H0 H → Kx p (takeL n0.toNat s0).1.length c H) : vizardref11_Box_Take.W1 (some ⟨b, 0, none⟩) n0 none 0 0 Kx E H0 := by
  refine ⟨Loop.of (I := fun st H m => ∃ l s', st.2.1 = l.length ∧ OwnRows H 5 1 st.1 l.length st.2.2 (vrow l) ∧ (∀ ob, st.1 = some ⟨ob, 0, none⟩ → ob ≠ b ∧ ob ≠ mb ∧ H0 ob = none) ∧ BoxAt H b mb s' ∧ s'.fine ∧ Keep2 b mb H0 H ∧ m = n0.toNat - l.length ∧
    s'.read = s0.read + l.length ∧ s'.f = s0.f ∧ takeL n0.toNat s0 = (l ++ (takeL (n0.toNat - l.length) s').1, (takeL (n0.toNat - l.length) s').2)) ?_
    ⟨[], s0, rfl, ⟨rfl, (fun es he => by cases he), Nat.le_refl _, .inl ⟨rfl, rfl⟩⟩, (fun ob h => by cases h), hb, hf0, Keep2.refl _ _ _, rfl, by simp, rfl, rfl⟩⟩
  rintro m ⟨p, n, c⟩ H ⟨l, s', hn, hown, hfr, hbx, hfine, hkeep, hm, hrd, hsub, heq⟩ RR hRR
  dsimp only at hn hown hfr
  subst hn
  subst hm
  unfold vizardref11_Box_Take.W1.vc
  dsimp only
  have stop : takeL (n0.toNat - l.length) s' = ([], s') → Kx p l.length c H := fun e => by
    rw [e, List.append_nil] at heq
    have := hx p c H
    rw [heq] at this
    exact this hown hbx hkeep
  by_cases hlt : (l.length : Int) < n0
  · rw [if_pos (by simpa using hlt)]
    obtain ⟨fuel, hfu⟩ : ∃ fuel, n0.toNat - l.length = fuel + 1 := ⟨n0.toNat - l.length - 1, by omega⟩
    refine ⟨_, rfl, s'.reset, hbx.cell rfl, ?_⟩
    dsimp only
    cases hres : s'.reset with
    | true =>
      refine (if_neg (by simp)).mpr (stop ?_)
      rw [hfu]; unfold takeL; rw [if_pos hres]
    | false =>
      refine (if_pos (by simp)).mpr ⟨?_⟩
      unfold vizardref11_Box_Take.J2.vc
      refine ⟨_, rfl, some mb, hbx.cell rfl, _, rfl, s'.read, hbx.cell rfl, hbx.map.look (fun x hx => ?_) (fun hx => ⟨?_⟩)⟩
      · simp only [Option.map_eq_some_iff] at hx
        obtain ⟨ch, hch, rfl⟩ := hx
        refine ⟨_, rfl, ⟨?_⟩⟩
        unfold vizardref11_Box_Take.J3.vc
        rw [if_neg (by simp)]
        intro b1 hb1n
        have hH2 : ∀ k o, H k = some o → (H.set b1 (.cells #[byV ch] 5)) k = some o := fun k o hk => Le_set hb1n _ k o hk
        have hown2 : OwnRows (H.set b1 (.cells #[byV ch] 5)) 5 1 p l.length c (vrow l) := hown.keep fun ob o hp ho => hH2 ob o ho
        have hb2 : BoxAt (H.set b1 (.cells #[byV ch] 5)) b mb s' := hbx.keep (fun o => hH2 b o) (fun o => hH2 mb o)
        have hlen : l.length < 4096 := by
          have hch' : s0.f s'.read = some ch := by rw [← hsub]; exact hch
          have := (hf0.1 _ _ hch').1
          omega
        refine rdRow_of (n := 1) (sz := 1) (rows := [[byV ch]]) ⟨rfl, (fun h => by cases h), fun a ha i es hi => ?_⟩ (by decide) rfl ?_
        · cases ha
          cases i with
          | zero =>
            simp only [List.getElem?_cons_zero, Option.some.injEq] at hi
            subst hi
            refine ⟨rfl, fun j v hj => ?_⟩
            cases j with
            | zero =>
              simp only [List.getElem?_cons_zero, Option.some.injEq] at hj
              subst hj
              rw [add_add, add_mk, cell_set_same]; rfl
            | succ j => simp at hj
          | succ i => simp at hi
        · refine appT_own (xs := [[byV ch]]) hown2 (by decide) rfl rfl rfl (fun es he => by simp only [List.mem_singleton] at he; subst he; rfl) (fun v hv => by simp at hv; subst hv; rfl) (by omega) (by omega) fun p' c' H3 h1 h2 h3 => ⟨?_⟩
          have hob : ∀ ob, p' = some ⟨ob, 0, none⟩ → ob ≠ b ∧ ob ≠ mb ∧ H0 ob = none := by
            intro ob hp'
            rcases h3 ob hp' with e | e
            · exact hfr ob (e.trans hp')
            · have nb : ob ≠ b := fun e2 => hb2.some_b (e2 ▸ e)
              have nm : ob ≠ mb := fun e2 => hb2.some_mb (e2 ▸ e)
              refine ⟨nb, nm, ?_⟩
              cases h0 : H0 ob with
              | none => rfl
              | some o =>
                have := hH2 ob o (hkeep ob o h0 nb nm)
                have e9 : H.set b1 (.cells #[byV ch] 5) ob = none := e
                rw [this] at e9; cases e9
          have hb3 : BoxAt H3 b mb s' := hb2.keep (fun o ho => h2 b o ho fun ob hp => fun e => (hfr ob hp).1 e.symm) (fun o ho => h2 mb o ho fun ob hp => fun e => (hfr ob hp).2.1 e.symm)
          unfold vizardref11_Box_Take.J4.vc
          refine ⟨_, rfl, s'.read, hb3.cell rfl, _, rfl, ?_⟩
          have hrange := hfine.1 _ _ hch
          rw [w_i64 (by have := hfine.2.1; omega) (by omega)]
          refine hb3.set (s' := s'.step) rfl rfl (by decide) fun H4 hb4 hk4 => ?_
          refine hRR (p', l.length + 1, c') H4 (n0.toNat - (l.length + 1)) (by omega) ⟨l ++ [ch], s'.step, by simp, ?_, hob, hb4, Bx.step_fine hfine hch, ?_, by simp, ?_, hsub, ?_⟩
          · have := h1.keep (H' := H4) fun ob o hp ho => hk4 ob o ho (hob ob hp).1 (hob ob hp).2.1
            simpa [vrow] using this
          · intro k o hk hkb hkm
            refine hk4 k o (h2 k o (hH2 k o (hkeep k o hk hkb hkm)) fun ob hp e => ?_) hkb hkm
            have := (hfr ob hp).2.2
            rw [← e, hk] at this; cases this
          · show s'.read + 1 = _
            rw [hrd]; simp; omega
          · rw [heq, hfu]
            have e1 : n0.toNat - (l ++ [ch]).length = fuel := by simp; omega
            rw [e1]
            have e2 : takeL (fuel + 1) s' = (ch :: (takeL fuel s'.step).1, (takeL fuel s'.step).2) := by
              rw [takeL, if_neg (by simp [hres]), hch]
            rw [e2]
            simp
      · simp only [Option.map_eq_none_iff] at hx
        unfold vizardref11_Box_Take.J3.vc
        rw [if_pos (by simp)]
        refine stop ?_
        rw [hfu]; unfold takeL; rw [if_neg (by simp [hres]), hx]
  · rw [if_neg (by simpa using hlt)]
    refine stop ?_
    rw [show n0.toNat - l.length = 0 by omega]
    rfl
theorem vizardref11_Box_Take.run {H : Heap} {b mb : Nat} {s : Bx} (hb : BoxAt H b mb s) (hf : s.fine) {n : Int} {K : ByteArray → Heap → Prop} {E : Value → Heap → Prop}
    (h : ∀ H', BoxAt H' b mb (takeL n.toNat s).2 → Keep2 b mb H H' → K ⟨(takeL n.toNat s).1.toArray⟩ H') : vizardref11_Box_Take.c (some ⟨b, 0, none⟩) n K E H := by
  refine ⟨?_⟩
  unfold vizardref11_Box_Take.vc
  exact vizardref11_Box_Take.loop hb hf fun p c H' h1 h2 h3 => own_rdBytes h1 ⟨H', Heap.Le.refl H', h H' h2 h3⟩
end Go.Sh
