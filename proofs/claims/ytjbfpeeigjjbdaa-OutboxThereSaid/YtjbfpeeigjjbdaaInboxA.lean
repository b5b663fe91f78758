/- What the functions of the box of a stream that comes compute. -/
import Derived.Test.YtjbfpeeigjjbdaaShV
import Derived.Test.YtjbfpeeigjjbdaaGin
namespace Go.Sh
def bget (s : ByteArray) (i : Int) : UInt8 := s.data.toList.getD i.toNat 0
structure Bx where
  f : Int → Option UInt8
  read : Int
  size : Int
  most : Int
  reset : Bool
def Bx.cells (s : Bx) (mb : Nat) : Array Value := #[.map (some mb), .int .i64 s.read, .int .i64 s.size, .int .i64 s.most, .bool s.reset]
structure BoxAt (H : Heap) (b mb : Nat) (s : Bx) : Prop where
  box : ∃ e, H b = some (.cells (s.cells mb) e)
  map : MapOf H mb .i64 (fun n => (s.f n).map byV)
  ne : b ≠ mb
/-- All that is known but of two blocks stays. -/
def Keep2 (b mb : Nat) (H H' : Heap) : Prop := ∀ k o, H k = some o → k ≠ b → k ≠ mb → H' k = some o
theorem Keep2.refl (b mb : Nat) (H : Heap) : Keep2 b mb H H := fun _ _ h _ _ => h
theorem Keep2.trans {b mb : Nat} {H H1 H2 : Heap} (h : Keep2 b mb H H1) (k : Keep2 b mb H1 H2) : Keep2 b mb H H2 := fun i o hi h1 h2 => k i o (h i o hi h1 h2) h1 h2
theorem BoxAt.cell {H : Heap} {b mb : Nat} {s : Bx} (h : BoxAt H b mb s) {o : Nat} {v : Value} (hv : (s.cells mb)[o]? = some v) : H.cell? ((⟨b, 0, none⟩ : Addr).add o) = some v := by
  obtain ⟨e, he⟩ := h.box
  rw [add_mk, Nat.zero_add]
  unfold Heap.cell?
  rw [he]
  simpa using hv
theorem MapOf.keep {H H' : Heap} {r : Nat} {k : IntKind} {f : Int → Option Value} (h : MapOf H r k f) (he : H' r = H r) : MapOf H' r k f := by
  obtain ⟨es, clk, h1, h2⟩ := h
  exact ⟨es, clk, by rw [he]; exact h1, h2⟩
theorem stc_at {H : Heap} {b o : Nat} {arr : Array Value} {e : TypeId} {v : Value} {K : Heap → Prop} (hb : H b = some (.cells arr e)) (ho : o < arr.size) (h : K (H.set b (.cells (arr.setIfInBounds o v) e))) : stc H ((⟨b, 0, none⟩ : Addr).add o) v K := by
  rw [add_mk, Nat.zero_add]
  refine ⟨by simp [Heap.cell?, hb, ho], by simp [Heap.frozen?, hb], ?_⟩
  have : H.setCell ⟨b, o, none⟩ v = H.set b (.cells (arr.setIfInBounds o v) e) := by
    funext i
    by_cases hi : i = b <;> simp [Heap.setCell, Heap.upd, Heap.set, Heap.setObj, hi, hb]
  rw [this]; exact h
theorem BoxAt.set {H : Heap} {b mb : Nat} {s s' : Bx} (h : BoxAt H b mb s) {o : Nat} {v : Value} {K : Heap → Prop} (hs : (s.cells mb).setIfInBounds o v = s'.cells mb) (hf : s'.f = s.f) (ho : o < 5) (hk : ∀ H', BoxAt H' b mb s' → Keep2 b mb H H' → K H') : stc H ((⟨b, 0, none⟩ : Addr).add o) v K := by
  obtain ⟨e, he⟩ := h.box
  refine stc_at he (by simpa [Bx.cells] using ho) (hk _ ⟨⟨e, by rw [set_self, hs]⟩, ?_, h.ne⟩ fun k o' hk' h1 _ => by rw [set_ne _ _ h1]; exact hk')
  rw [hf]
  exact h.map.keep (set_ne _ _ (fun e => h.ne e.symm))
def bx0 : Bx := ⟨fun _ => none, 0, -1, 0, false⟩
theorem inbox_New.run {H : Heap} {K : Option Addr → Heap → Prop} {E : Value → Heap → Prop} (h : ∀ b mb H', BoxAt H' b mb bx0 → H b = none → H mb = none → Heap.Le H H' → K (some ⟨b, 0, none⟩) H') : inbox_New.c K E H := by
  refine ⟨?_⟩
  unfold inbox_New.vc
  intro mb hmb b hb
  have hne : b ≠ mb := fun e => by subst e; rw [set_self] at hb; cases hb
  have hHb : H b = none := by rw [set_ne _ _ hne] at hb; exact hb
  refine ⟨_, Heap.Le.refl _, h b mb _ ⟨⟨94, by rw [set_self]; rfl⟩, ?_, hne⟩ hHb hmb ((Le_set hmb _).trans (Le_set hb _))⟩
  refine ⟨#[], 0, by rw [set_ne _ _ (fun e => hne e.symm), set_self], (fun e he => by simp at he), by simp, fun n => rfl⟩
def placeOk (n : Int) : Bool := decide (0 ≤ n ∧ n ≤ 4611686018427387903)
theorem inbox_place.run {n : Int} {K : Bool → Heap → Prop} {E : Value → Heap → Prop} {H : Heap} (h : K (placeOk n) H) : inbox_place.c n K E H := by
  refine ⟨?_⟩
  unfold inbox_place.vc
  by_cases h0 : n ≥ 0
  · rw [if_pos (by simpa using h0)]
    have h0' : 0 ≤ n := h0
    exact ⟨H, Heap.Le.refl H, by simpa [placeOk, h0'] using h⟩
  · rw [if_neg (by simpa using h0)]
    have h0' : ¬ 0 ≤ n := h0
    exact ⟨H, Heap.Le.refl H, by simpa [placeOk, h0'] using h⟩
def fitsE (s : Bx) (en : Int) (fin : Bool) : Int :=
  if en > IntKind.i64.wrap (s.read + 4096) then 12
  else if s.size ≠ -1 ∧ (en > s.size ∨ (fin = true ∧ en < s.size)) then 13
  else if fin = true ∧ s.most > en then 13 else 0
theorem inbox_Box_fits.J2.run {x : Bool} {H : Heap} {Kn : Heap → Prop} {Kr : Int → Heap → Prop} {E : Value → Heap → Prop} (h1 : x = true → Kr 13 H) (h2 : x = false → Kn H) : inbox_Box_fits.J2 x Kn Kr E H := by
  refine ⟨?_⟩
  unfold inbox_Box_fits.J2.vc
  cases x with
  | true => rw [if_pos rfl]; exact h1 rfl
  | false => rw [if_neg (by simp)]; exact h2 rfl
theorem inbox_Box_fits.J1.run {H : Heap} {b mb : Nat} {s : Bx} (hb : BoxAt H b mb s) {en : Int} {fin x : Bool} {Kn : Heap → Prop} {Kr : Int → Heap → Prop} {E : Value → Heap → Prop} (h1 : (x = true ∨ (fin = true ∧ s.most > en)) → Kr 13 H) (h2 : x = false → ¬ (fin = true ∧ s.most > en) → Kn H) : inbox_Box_fits.J1 (some ⟨b, 0, none⟩) en fin x Kn Kr E H := by
  refine ⟨?_⟩
  unfold inbox_Box_fits.J1.vc
  cases x with
  | true => rw [if_pos rfl]; exact h1 (.inl rfl)
  | false =>
    rw [if_neg (by simp)]
    cases fin with
    | true =>
      rw [if_pos rfl]
      refine ⟨_, rfl, s.most, hb.cell rfl, inbox_Box_fits.J2.run (fun e => h1 (.inr ⟨rfl, by simpa using e⟩)) (fun e => h2 rfl fun h => ?_)⟩
      have : ¬ s.most > en := by simpa using e
      exact this h.2
    | false =>
      rw [if_neg (by simp)]
      exact inbox_Box_fits.J2.run (fun e => by cases e) (fun _ => h2 rfl fun h => by cases h.1)
theorem inbox_Box_fits.run {H : Heap} {b mb : Nat} {s : Bx} (hb : BoxAt H b mb s) {en : Int} {fin : Bool} {K : Int → Heap → Prop} {E : Value → Heap → Prop} (h : K (fitsE s en fin) H) : inbox_Box_fits.c (some ⟨b, 0, none⟩) en fin K E H := by
  refine ⟨?_⟩
  unfold inbox_Box_fits.vc
  refine ⟨_, rfl, s.read, hb.cell rfl, ?_⟩
  by_cases h1 : en > IntKind.i64.wrap (s.read + 4096)
  · refine (if_pos (by simpa using h1)).mpr ⟨H, Heap.Le.refl H, ?_⟩
    rw [show (12 : Int) = fitsE s en fin by unfold fitsE; rw [if_pos h1]]
    exact h
  · refine (if_neg (by simpa using h1)).mpr ⟨_, rfl, s.size, hb.cell rfl, ?_⟩
    have j1 : ∀ {x : Bool}, (x = true ↔ s.size ≠ -1 ∧ (en > s.size ∨ (fin = true ∧ en < s.size))) →
        inbox_Box_fits.J1 (some ⟨b, 0, none⟩) en fin x (fun h1 => ∃ H', Heap.Le H' h1 ∧ K 0 H') (fun x3 h2 => ∃ H', Heap.Le H' h2 ∧ K x3 H') E H := by
      intro x hx
      refine inbox_Box_fits.J1.run hb (fun e => ⟨H, Heap.Le.refl H, ?_⟩) (fun e1 e2 => ⟨H, Heap.Le.refl H, ?_⟩)
      · rw [show (13 : Int) = fitsE s en fin by
          unfold fitsE
          rw [if_neg h1]
          by_cases hc : s.size ≠ -1 ∧ (en > s.size ∨ (fin = true ∧ en < s.size))
          · rw [if_pos hc]
          · rw [if_neg hc, if_pos (e.resolve_left fun e => hc (hx.1 e))]]
        exact h
      · rw [show (0 : Int) = fitsE s en fin by
          unfold fitsE
          rw [if_neg h1, if_neg (fun hc => by rw [hx.2 hc] at e1; cases e1), if_neg e2]]
        exact h
    by_cases h2 : s.size = -1
    · exact (if_neg (by simp [h2])).mpr (j1 (by simp [h2]))
    · refine (if_pos (by simpa using h2)).mpr ⟨_, rfl, s.size, hb.cell rfl, ?_⟩
      by_cases h3 : en > s.size
      · exact (if_pos (by simpa using h3)).mpr (j1 (by simp [h2, h3]))
      · refine (if_neg (by simpa using h3)).mpr ?_
        cases fin with
        | true =>
          rw [if_pos rfl]
          refine ⟨_, rfl, s.size, hb.cell rfl, j1 ?_⟩
          simp [h2, h3]
        | false =>
          rw [if_neg (by simp)]
          exact j1 (by simp [h3])
def putF (s : Bx) (off : Int) (data : ByteArray) (j : Int) : Int → Option UInt8 := fun n =>
  if off ≤ n ∧ n < off + j ∧ s.read ≤ n ∧ s.f n = none then some (bget data (n - off)) else s.f n
theorem putF_zero (s : Bx) (off : Int) (data : ByteArray) : putF s off data 0 = s.f := by
  funext n
  unfold putF
  rw [if_neg (by omega)]
theorem putF_keep {s : Bx} {off : Int} {data : ByteArray} {k : Int} (h : ¬ (s.read ≤ off + k ∧ s.f (off + k) = none)) : putF s off data (k + 1) = putF s off data k := by
  funext n
  unfold putF
  by_cases hn : n = off + k
  · subst hn
    rw [if_neg (fun c => h ⟨c.2.2.1, c.2.2.2⟩), if_neg (by omega)]
  · by_cases hc : off ≤ n ∧ n < off + k ∧ s.read ≤ n ∧ s.f n = none
    · rw [if_pos hc, if_pos ⟨hc.1, by omega, hc.2.2⟩]
    · rw [if_neg hc, if_neg (fun c => hc ⟨c.1, by omega, c.2.2⟩)]
theorem putF_add {s : Bx} {off : Int} {data : ByteArray} {k : Int} (h0 : 0 ≤ k) (h : s.read ≤ off + k ∧ s.f (off + k) = none) : putF s off data (k + 1) = fun n => if n = off + k then some (bget data k) else putF s off data k n := by
  funext n
  unfold putF
  by_cases hn : n = off + k
  · subst hn
    rw [if_pos ⟨by omega, by omega, h⟩, if_pos rfl, show off + k - off = k by omega]
  · rw [if_neg hn]
    by_cases hc : off ≤ n ∧ n < off + k ∧ s.read ≤ n ∧ s.f n = none
    · rw [if_pos hc, if_pos ⟨hc.1, by omega, hc.2.2⟩]
    · rw [if_neg hc, if_neg (fun c => hc ⟨c.1, by omega, c.2.2⟩)]
theorem map_fun {f : Int → Option UInt8} {a : Int} {x : UInt8} : (fun n => if n = a then some (byV x) else (f n).map byV) = fun n => ((if n = a then some x else f n).map byV) := by
  funext n
  split <;> rfl
theorem BoxAt.putMap {H : Heap} {b mb : Nat} {s : Bx} (h : BoxAt H b mb s) {a : Int} {x : UInt8} {K : Heap → Prop} (hk : ∀ H', BoxAt H' b mb { s with f := fun n => if n = a then some x else s.f n } → Keep2 b mb H H' → K H') : putW (.int .i64) (some mb) (.int .i64 a) (byV x) K H := by
  refine h.map.put fun o ho => hk _ ⟨?_, ?_, h.ne⟩ fun k o' hk' _ h2 => by rw [set_ne _ _ h2]; exact hk'
  · obtain ⟨e, he⟩ := h.box
    exact ⟨e, by rw [set_ne _ _ h.ne]; exact he⟩
  · rw [map_fun] at ho; exact ho
theorem inbox_Box_Put.loop {H0 : Heap} {b mb : Nat} {s : Bx} (hb : BoxAt H0 b mb s) {off en : Int} {data : ByteArray} {fin : Bool} (ho : 0 ≤ off ∧ off ≤ 4611686018427387903) (hd : data.size ≤ reachBytes) {Kx : Heap → Prop} {E : Value → Heap → Prop}
    (hx : ∀ H, BoxAt H b mb { s with f := putF s off data data.size } → Keep2 b mb H0 H → Kx H) : inbox_Box_Put.W3 (some ⟨b, 0, none⟩) off data fin en (data.size : Int) 0 Kx E H0 := by
  have hr : reachBytes = 140737488351232 := rfl
  refine ⟨Loop.of (I := fun st H m => ∃ k : Nat, st = (k : Int) ∧ k ≤ data.size ∧ m = data.size - k ∧ BoxAt H b mb { s with f := putF s off data k } ∧ Keep2 b mb H0 H) ?_ ⟨0, rfl, Nat.zero_le _, rfl, ?_, Keep2.refl _ _ _⟩⟩
  · rintro m st H ⟨k, rfl, hk, rfl, hbx, hkeep⟩ RR hRR
    unfold inbox_Box_Put.W3.vc
    by_cases hlt : k < data.size
    · rw [if_pos (by simp; omega)]
      have hw : IntKind.i64.wrap (off + (k : Int)) = off + k := w_i64 (by omega) (by omega)
      rw [hw]
      have next : ∀ H', BoxAt H' b mb { s with f := putF s off data ((k : Int) + 1) } → Keep2 b mb H0 H' → inbox_Box_Put.J6 (some ⟨b, 0, none⟩) off data fin en (data.size : Int) (k : Int) RR E H' := fun H' h1 h2 => ⟨by
        unfold inbox_Box_Put.J6.vc
        rw [w_i64 (by omega) (by omega)]
        exact hRR _ _ (data.size - (k + 1)) (by omega) ⟨k + 1, by simp, by omega, rfl, by simpa using h1, h2⟩⟩
      have hat : putF s off data k (off + k) = s.f (off + k) := by unfold putF; rw [if_neg (by omega)]
      refine ⟨_, rfl, some mb, hbx.cell rfl, ?_⟩
      refine hbx.map.look (fun x hx => ?_) (fun hx => ⟨?_⟩)
      · simp only [hat, Option.map_eq_some_iff] at hx
        obtain ⟨v, hv, rfl⟩ := hx
        refine ⟨_, rfl, ⟨?_⟩⟩
        unfold inbox_Box_Put.J4.vc
        rw [if_neg (by simp)]
        refine ⟨?_⟩
        unfold inbox_Box_Put.J5.vc
        rw [if_neg (by simp)]
        exact next H (by rw [putF_keep (by rw [hv]; simp)]; exact hbx) hkeep
      · simp only [hat, Option.map_eq_none_iff] at hx
        unfold inbox_Box_Put.J4.vc
        rw [if_pos (by simp)]
        refine ⟨_, rfl, s.read, hbx.cell rfl, ⟨?_⟩⟩
        unfold inbox_Box_Put.J5.vc
        by_cases hge : s.read ≤ off + k
        · rw [if_pos (by simpa using hge)]
          refine ⟨_, rfl, some mb, hbx.cell rfl, by omega, by omega, hbx.putMap (x := bget data k) fun H' h1 h2 => next H' ?_ (hkeep.trans h2)⟩
          rw [putF_add (by omega) ⟨hge, hx⟩]
          exact h1
        · rw [if_neg (by simpa using hge)]
          exact next H (by rw [putF_keep (fun h => hge h.1)]; exact hbx) hkeep
    · rw [if_neg (by simp; omega)]
      have : k = data.size := by omega
      subst this
      exact hx H hbx hkeep
  · rw [show ((0 : Nat) : Int) = 0 from rfl, putF_zero]; exact hb
def putEnd (off : Int) (data : ByteArray) : Int := off + data.size
/-- What Put makes of a box. -/
def putBx (s : Bx) (off : Int) (data : ByteArray) (fin : Bool) : Bx :=
  { f := putF s off data data.size, read := s.read, size := if fin = true then putEnd off data else s.size, most := if data.size = 0 then s.most else if putEnd off data > s.most then putEnd off data else s.most, reset := s.reset }
def putE (s : Bx) (off : Int) (data : ByteArray) (fin : Bool) : Int := if placeOk off = true then fitsE s (putEnd off data) fin else 2
def putS (s : Bx) (off : Int) (data : ByteArray) (fin : Bool) : Bx := if placeOk off = true ∧ fitsE s (putEnd off data) fin = 0 ∧ s.reset = false then putBx s off data fin else s
theorem inbox_Box_Put.J7.run {H0 H : Heap} {b mb : Nat} {s : Bx} (hb : BoxAt H b mb s) (hk0 : Keep2 b mb H0 H) {en : Int} {fin : Bool} {Kr : Int → Heap → Prop} {E : Value → Heap → Prop} (h : ∀ H', BoxAt H' b mb { s with size := if fin = true then en else s.size } → Keep2 b mb H0 H' → Kr 0 H') : inbox_Box_Put.J7 (some ⟨b, 0, none⟩) fin en Kr E H := by
  refine ⟨?_⟩
  unfold inbox_Box_Put.J7.vc
  cases fin with
  | true =>
    rw [if_pos rfl]
    exact ⟨_, rfl, hb.set (s' := { s with size := en }) rfl rfl (by decide) fun H' h1 h2 => h H' h1 (hk0.trans h2)⟩
  | false =>
    rw [if_neg (by simp)]
    exact h H hb hk0
theorem inbox_Box_Put.run {H : Heap} {b mb : Nat} {s : Bx} (hb : BoxAt H b mb s) {off : Int} {data : ByteArray} {fin : Bool} (hoff : IntKind.i64.has off) (hd : data.size ≤ reachBytes) {K : Int → Heap → Prop} {E : Value → Heap → Prop}
    (h : ∀ H', BoxAt H' b mb (putS s off data fin) → Keep2 b mb H H' → K (putE s off data fin) H') : inbox_Box_Put.c (some ⟨b, 0, none⟩) off data fin K E H := by
  have hr : reachBytes = 140737488351232 := rfl
  refine ⟨?_⟩
  unfold inbox_Box_Put.vc
  refine inbox_place.run ?_
  cases hp : placeOk off with
  | false =>
    rw [if_pos (by simp)]
    refine ⟨H, Heap.Le.refl H, ?_⟩
    have := h H (by simpa [putS, hp] using hb) (Keep2.refl _ _ _)
    simpa [putE, hp] using this
  | true =>
    rw [if_neg (by simp)]
    have ho : 0 ≤ off ∧ off ≤ 4611686018427387903 := by simpa [placeOk] using hp
    have hw : IntKind.i64.wrap (off + (data.size : Int)) = putEnd off data := w_i64 (by omega) (by omega)
    rw [hw]
    refine inbox_Box_fits.run hb ?_
    by_cases hf : fitsE s (putEnd off data) fin = 0
    · rw [if_neg (by simp [hf])]
      refine ⟨_, rfl, s.reset, hb.cell rfl, ⟨?_⟩⟩
      unfold inbox_Box_Put.J1.vc
      cases hres : s.reset with
      | true =>
        rw [if_pos rfl]
        refine ⟨H, Heap.Le.refl H, ?_⟩
        have := h H (by simpa [putS, hres] using hb) (Keep2.refl _ _ _)
        simpa [putE, hp] using this
      | false =>
        rw [if_neg (by simp)]
        refine ⟨?_⟩
        unfold inbox_Box_Put.J2.vc
        have fin2 : ∀ {H1 : Heap} {m : Int}, m = (if data.size = 0 then s.most else if putEnd off data > s.most then putEnd off data else s.most) → BoxAt H1 b mb { s with f := putF s off data data.size, most := m } → Keep2 b mb H H1 →
            inbox_Box_Put.J7 (some ⟨b, 0, none⟩) fin (putEnd off data) (fun x1 h3 => ∃ H', Heap.Le H' h3 ∧ K x1 H') E H1 := fun hm h1 h2 => by
          subst hm
          refine inbox_Box_Put.J7.run h1 h2 fun H' h3 h4 => ⟨H', Heap.Le.refl H', ?_⟩
          have := h H' (by simpa [putS, hp, hf, hres, putBx] using h3) h4
          simpa [putE, hp, hf] using this
        refine inbox_Box_Put.loop hb ho hd fun H1 hb1 hk1 => ?_
        by_cases hz : data.size = 0
        · have : data = ⟨#[]⟩ := ByteArray.ext (Array.eq_empty_of_size_eq_zero hz)
          rw [if_neg (by rw [this]; simp)]
          exact fin2 (by rw [if_pos hz]) hb1 hk1
        · have : (data.toList == (⟨#[]⟩ : ByteArray).toList) = false := by
            cases hc : (data.toList == (⟨#[]⟩ : ByteArray).toList) with
            | false => rfl
            | true => rw [str_eq] at hc; subst hc; exact absurd rfl hz
          rw [if_pos (by rw [this]; rfl)]
          refine ⟨_, rfl, s.most, hb1.cell rfl, _, rfl, ?_⟩
          exact hb1.set (s' := { s with f := putF s off data data.size, most := if putEnd off data > s.most then putEnd off data else s.most }) rfl rfl (by decide) fun H2 h1 h2 => fin2 (by rw [if_neg hz]) h1 (hk1.trans h2)
    · rw [if_pos (by simpa using hf)]
      refine ⟨?_⟩
      unfold inbox_Box_Put.J1.vc
      rw [if_pos rfl]
      refine ⟨H, Heap.Le.refl H, ?_⟩
      have := h H (by simpa [putS, hf] using hb) (Keep2.refl _ _ _)
      simpa [putE, hp] using this
end Go.Sh
