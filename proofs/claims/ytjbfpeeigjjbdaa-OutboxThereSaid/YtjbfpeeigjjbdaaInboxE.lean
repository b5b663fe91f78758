/- InboxFlow: what was read lets as much more come. -/
import Derived.Test.YtjbfpeeigjjbdaaInboxC
namespace Go.Sh
def Bx.after (s : Bx) (m : Nat) : Bx := { s with f := fun n => if s.read ≤ n ∧ n < s.read + m then none else s.f n, read := s.read + m }
theorem readL_take : ∀ (m : Nat) (s : Bx), s.reset = false → (∀ i : Nat, i < m → ∃ x, s.f (s.read + i) = some x) →
    (readL m s).1.length = m ∧ (∀ i : Nat, i < m → (readL m s).1[i]? = s.f (s.read + i)) ∧ (readL m s).2 = s.after m := by
  intro m
  induction m with
  | zero =>
    intro s _ _
    refine ⟨rfl, fun i hi => by omega, ?_⟩
    show s = s.after 0
    unfold Bx.after
    have e : (fun n => if s.read ≤ n ∧ n < s.read + ((0 : Nat) : Int) then none else s.f n) = s.f := by
      funext n
      rw [if_neg (by omega)]
    rw [e]
    simp
  | succ m ih =>
    intro s hr hf
    obtain ⟨x, h0⟩ := hf 0 (by omega)
    have h0 : s.f s.read = some x := by simpa using h0
    have hstep : ∀ k : Int, 0 < k → s.next.f (s.read + k) = s.f (s.read + k) := fun k hk => by
      show (if s.read + k = s.read then none else s.f (s.read + k)) = _
      rw [if_neg (by omega)]
    have e : readL (m + 1) s = (x :: (readL m s.next).1, (readL m s.next).2) := by rw [readL, if_neg (by simp [hr]), h0]
    obtain ⟨h1, h2, h3⟩ := ih s.next hr fun i hi => by
      obtain ⟨y, hy⟩ := hf (i + 1) (by omega)
      refine ⟨y, ?_⟩
      show s.next.f (s.read + 1 + (i : Int)) = _
      rw [show s.read + 1 + (i : Int) = s.read + ((i : Int) + 1) by omega, hstep _ (by omega)]
      simpa using hy
    rw [e]
    refine ⟨by simp [h1], fun i hi => ?_, ?_⟩
    · cases i with
      | zero => simpa using h0.symm
      | succ i =>
        rw [List.getElem?_cons_succ, h2 i (by omega)]
        show s.next.f (s.read + 1 + (i : Int)) = _
        rw [show s.read + 1 + (i : Int) = s.read + ((i : Int) + 1) by omega, hstep _ (by omega)]
        simp
    · show (readL m s.next).2 = _
      rw [h3]
      unfold Bx.after Bx.next
      simp only [Bx.mk.injEq, and_true]
      refine ⟨?_, by simp; omega⟩
      funext n
      by_cases hn : n = s.read
      · subst hn
        rw [if_neg (by omega), if_pos rfl, if_pos (by omega)]
      · by_cases hc : s.read ≤ n ∧ n < s.read + ((m + 1 : Nat) : Int)
        · rw [if_pos (by omega), if_pos hc]
        · rw [if_neg (by omega), if_neg hn, if_neg hc]
def IntsAt (H : Heap) (p : Option Addr) (n : Nat) (l : List Int) : Prop := RowsAt H p n 1 (l.map fun x => [.int .i64 x])
theorem IntsAt.mono {H H' : Heap} {p : Option Addr} {n : Nat} {l : List Int} (h : IntsAt H p n l) (hl : Heap.Le H H') : IntsAt H' p n l :=
  ⟨h.1, h.2.1, fun a ha i es hi => ⟨(h.2.2 a ha i es hi).1, fun j v hj => Le_cell hl ((h.2.2 a ha i es hi).2 j v hj)⟩⟩
theorem IntsAt.len {H : Heap} {p : Option Addr} {n : Nat} {l : List Int} (h : IntsAt H p n l) : l.length = n := by simpa using h.1
theorem IntsAt.get {H : Heap} {p : Option Addr} {n : Nat} {l : List Int} (h : IntsAt H p n l) {i : Nat} {x : Int} (hi : l[i]? = some x) : ∃ a, p = some a ∧ H.cell? (a.add (i * 1)) = some (.int .i64 x) := by
  have hlt : i < l.length := (List.getElem?_eq_some_iff.1 hi).1
  cases p with
  | none => have := h.2.1 rfl; have := h.len; omega
  | some a =>
    refine ⟨a, rfl, ?_⟩
    have := (h.2.2 a rfl i [.int .i64 x] (by simp [hi])).2 0 _ rfl
    rw [add_add] at this
    exact this
/-- All bytes from r on up to h are there, and no others. -/
structure Full (s : Bx) (r h : Int) : Prop where
  read : s.read = r
  size : s.size = -1
  reset : s.reset = false
  keys : ∀ n, s.f n ≠ none ↔ r ≤ n ∧ n < h
theorem Full.fine {s : Bx} {r h : Int} (hf : Full s r h) (h0 : 0 ≤ r) (h1 : h ≤ r + 4096) (h2 : h ≤ 1000000) (h3 : r ≤ h) : s.fine := by
  refine ⟨fun n x hx => ?_, by rw [hf.read]; omega, by rw [hf.read]; omega⟩
  have := (hf.keys n).1 (by rw [hx]; simp)
  rw [hf.read]
  omega
theorem Full.put {s : Bx} {r h : Int} (hf : Full s r h) (h0 : 0 ≤ r) (h1 : h ≤ r + 4096) (h2 : r ≤ h) (h3 : r ≤ 1000000) {data : ByteArray} (hd : h + data.size = r + 4096) : putE s h data false = 0 ∧ Full (putS s h data false) r (r + 4096) := by
  have hp : placeOk h = true := by unfold placeOk; exact decide_eq_true ⟨by omega, by omega⟩
  have hfit : fitsE s (putEnd h data) false = 0 := by
    unfold fitsE putEnd
    rw [hf.read, w_i64 (by omega) (by omega), if_neg (by omega), if_neg (by simp [hf.size]), if_neg (by simp)]
  refine ⟨by unfold putE; rw [if_pos hp]; exact hfit, ?_⟩
  unfold putS
  rw [if_pos ⟨hp, hfit, hf.reset⟩]
  refine ⟨hf.read, hf.size, hf.reset, fun n => ?_⟩
  show putF s h data data.size n ≠ none ↔ _
  unfold putF
  rw [hf.read]
  by_cases hc : h ≤ n ∧ n < h + data.size ∧ r ≤ n ∧ s.f n = none
  · rw [if_pos hc]; simp; omega
  · rw [if_neg hc, hf.keys n]
    have hk := hf.keys n
    constructor
    · intro h9; omega
    · intro h9
      by_cases h8 : n < h
      · omega
      · exfalso
        refine hc ⟨by omega, by omega, h9.1, ?_⟩
        cases hfn : s.f n with
        | none => rfl
        | some x => have := hk.1 (by rw [hfn]; simp); omega
theorem Full.flow {s : Bx} {r h : Int} (hf : Full s r h) (h0 : 0 ≤ r) (h3 : r ≤ 1000000) {data : ByteArray} (hd : data.size = 1) : putE s (r + 4096) data false = 12 ∧ putS s (r + 4096) data false = s := by
  have hp : placeOk (r + 4096) = true := by unfold placeOk; exact decide_eq_true ⟨by omega, by omega⟩
  have hfit : fitsE s (putEnd (r + 4096) data) false = 12 := by
    unfold fitsE putEnd
    rw [hf.read, w_i64 (by omega) (by omega), if_pos (by omega)]
  refine ⟨by unfold putE; rw [if_pos hp]; exact hfit, ?_⟩
  unfold putS
  rw [if_neg (fun c => by rw [hfit] at c; cases c.2.1)]
theorem Full.take {s : Bx} {r h : Int} (hf : Full s r h) {k : Nat} (hk : r + k ≤ h) : (readL k s).1.length = k ∧ Full (readL k s).2 (r + k) h := by
  obtain ⟨h1, _, h3⟩ := readL_take k s hf.reset fun i hi => by
    have := (hf.keys (s.read + i)).2 (by rw [hf.read]; omega)
    cases hx : s.f (s.read + i) with
    | none => exact absurd hx this
    | some x => exact ⟨x, rfl⟩
  refine ⟨h1, ?_⟩
  rw [h3]
  refine ⟨by show s.read + (k : Int) = _; rw [hf.read], hf.size, hf.reset, fun n => ?_⟩
  show (if s.read ≤ n ∧ n < s.read + k then none else s.f n) ≠ none ↔ _
  rw [hf.read]
  by_cases hc : r ≤ n ∧ n < r + k
  · rw [if_pos hc]; simp; omega
  · rw [if_neg hc, hf.keys n]; omega
theorem u64_small {x m : Int} (hm : 0 < m) (hm2 : m ≤ 100000) : ∃ k : Nat, IntKind.i64.wrap (Int.tmod (IntKind.u64.wrap x) m) = (k : Int) ∧ (k : Int) < m := by
  have h0 : 0 ≤ IntKind.u64.wrap x := by
    simp only [IntKind.wrap, IntKind.bits, IntKind.signed, Bool.false_and, Bool.false_eq_true, if_false]
    exact Int.emod_nonneg _ (by decide)
  rw [Int.tmod_eq_emod_of_nonneg h0]
  have h1 := Int.emod_nonneg (IntKind.u64.wrap x) (show m ≠ 0 by omega)
  have h2 := Int.emod_lt_of_pos (IntKind.u64.wrap x) hm
  rw [w_i64 (by omega) (by omega)]
  exact ⟨(IntKind.u64.wrap x % m).toNat, by omega, by omega⟩
theorem vizardlaw11_InboxFlow.loop {Hb H0 : Heap} {p : Option Addr} {n c b mb : Nat} {l : List Int} (hat : IntsAt Hb p n l) (hle0 : Heap.Le Hb H0) (hnb : Hb b = none) (hnm : Hb mb = none) (hb0 : BoxAt H0 b mb bx0) {Kx : Heap → Prop} {Kr : Bool → Heap → Prop} {E : Value → Heap → Prop}
    (hx : ∀ H, Keep2 b mb H0 H → Kx H) : vizardlaw11_InboxFlow.W1 p n c (some ⟨b, 0, none⟩) 0 0 Kx Kr E H0 := by
  refine ⟨Loop.of (I := fun st H m => ∃ (k : Nat) (s : Bx) (r h : Int), st = (h, (k : Int)) ∧ k ≤ 12 ∧ m = 12 - k ∧ BoxAt H b mb s ∧ Full s r h ∧ 0 ≤ r ∧ r ≤ 4096 * k ∧ r ≤ h ∧ h ≤ r + 4096 ∧ Keep2 b mb H0 H) ?_
    ⟨0, bx0, 0, 0, rfl, by decide, rfl, hb0, ⟨rfl, rfl, rfl, fun n => by simp [bx0]⟩, by decide, by decide, by decide, by decide, Keep2.refl _ _ _⟩⟩
  rintro m st H ⟨k, s, r, h, rfl, hk, rfl, hb, hf, hr0, hrk, hrh, hh, hkeep⟩ RR hRR
  have hlen := hat.len
  unfold vizardlaw11_InboxFlow.W1.vc
  dsimp only
  by_cases hkn : (k : Int) < n
  · rw [if_pos (by simpa using hkn)]
    by_cases hk12 : (k : Int) < 12
    · rw [if_pos (by simpa using hk12)]
      refine ⟨?_⟩
      unfold vizardlaw11_InboxFlow.J2.vc
      refine inbox_Box_State.run hb ?_
      rw [hf.read, w_i64 (n := r + 4096) (by omega) (by omega), if_neg (by simp), if_neg (by simp; omega), w_i64 (n := h + 4096) (by omega) (by omega), if_neg (by simp; omega)]
      obtain ⟨e1, e2⟩ := hf.flow hr0 (by omega) (data := ⟨#[120]⟩) rfl
      have hra : reachBytes = 140737488351232 := rfl
      refine inbox_Box_Put.run hb ⟨by show (-9223372036854775808 : Int) ≤ r + 4096; omega, by show r + 4096 ≤ (9223372036854775807 : Int); omega⟩ (by rw [hra]; decide) fun H1 hb1 hk1 => ?_
      rw [e1, if_neg (by simp)]
      rw [e2] at hb1
      have hw : IntKind.i64.wrap (r + 4096 - h) = r + 4096 - h := w_i64 (by omega) (by omega)
      rw [hw]
      refine ⟨by omega, by omega, by omega, by omega, ?_⟩
      intro c1 hc1
      refine rdBytes_zeros (set_self _ _ _) ?_
      have hsz : (⟨(List.replicate (r + 4096 - h).toNat 0).toArray⟩ : ByteArray).size = (r + 4096 - h).toNat := by show (List.replicate (r + 4096 - h).toNat (0 : UInt8)).toArray.size = _; rw [List.size_toArray, List.length_replicate]
      obtain ⟨e3, hf2⟩ := hf.put hr0 hh hrh (by omega) (data := ⟨(List.replicate (r + 4096 - h).toNat 0).toArray⟩) (by rw [hsz]; omega)
      have hb2 : BoxAt (H1.set c1 (.cells (zerosOf (.int .u8 0) (r + 4096 - h).toNat).toArray 5)) b mb s := hb1.keep (fun o => Le_set hc1 _ b o) (fun o => Le_set hc1 _ mb o)
      refine inbox_Box_Put.run hb2 ⟨by show (-9223372036854775808 : Int) ≤ h; omega, by show h ≤ (9223372036854775807 : Int); omega⟩ (by rw [hra, hsz]; omega) fun H3 hb3 hk3 => ?_
      rw [e3]
      refine ⟨?_⟩
      unfold vizardlaw11_InboxFlow.J3.vc
      rw [if_neg (by simp)]
      refine ⟨?_⟩
      unfold vizardlaw11_InboxFlow.J4.vc
      have hkeep3 : Keep2 b mb H0 H3 := fun i o hi h1 h2 => hk3 i o (Le_set hc1 _ i o (hk1 i o (hkeep i o hi h1 h2) h1 h2)) h1 h2
      obtain ⟨x, hget⟩ : ∃ x, l[k]? = some x := ⟨l[k]'(by omega), List.getElem?_eq_getElem (by omega)⟩
      obtain ⟨a, rfl, fc⟩ := hat.get hget
      have fc3 : H3.cell? (a.add (k * 1)) = some (.int .i64 x) := by
        have n1 := some_ne_none_block fc hnb
        have n2 := some_ne_none_block fc hnm
        have fc0 := Le_cell hle0 fc
        unfold Heap.cell? at fc0 ⊢
        cases ho : H0 (a.add (k * 1)).block with
        | none => rw [ho] at fc0; cases fc0
        | some o =>
          rw [hkeep3 _ o ho n1 n2]
          rw [ho] at fc0
          exact fc0
      refine ⟨a, rfl, by omega, by omega, x, ?_, by decide, ?_⟩
      · rw [Int.toNat_natCast]; exact fc3
      obtain ⟨q, hq, hq2⟩ := u64_small (x := x) (m := 4097) (by decide) (by decide)
      rw [hq]
      obtain ⟨e4, hf4⟩ := hf2.take (k := q) (by omega)
      refine inbox_Box_Read.run hb3 (hf2.fine hr0 (by omega) (by omega) (by omega)) fun H4 hb4 hk4 => ?_
      rw [Int.toNat_natCast] at hb4 ⊢
      have hsz4 : ((⟨(readL q (putS s h ⟨(List.replicate (r + 4096 - h).toNat 0).toArray⟩ false)).1.toArray⟩ : ByteArray).size : Int) = q := by
        show ((readL q (putS s h ⟨(List.replicate (r + 4096 - h).toNat 0).toArray⟩ false)).1.toArray.size : Int) = q
        rw [List.size_toArray, e4]
      rw [hsz4, if_neg (by simp)]
      refine ⟨?_⟩
      unfold vizardlaw11_InboxFlow.J5.vc
      rw [w_i64 (by omega) (by omega)]
      exact hRR _ _ (12 - (k + 1)) (by omega) ⟨k + 1, _, r + q, r + 4096, by simp, by omega, rfl, hb4, hf4, by omega, by simp; omega, by omega, by omega, hkeep3.trans hk4⟩
    · rw [if_neg (by simpa using hk12)]
      exact hx H hkeep
  · rw [if_neg (by simpa using hkn)]
    exact hx H hkeep
theorem ints_of {H : Heap} {p : Option Addr} {n : Nat} (h : ∃ rows, RowsAt H p n 1 rows ∧ ∀ es ∈ rows, ∃ y, es = [(.int .i64 y)] ∧ IntKind.i64.has y) : ∃ l, IntsAt H p n l ∧ ∀ x ∈ l, IntKind.i64.has x := by
  obtain ⟨rows, hat, hes⟩ := h
  have : ∃ l : List Int, rows = l.map (fun x => [.int .i64 x]) ∧ ∀ x ∈ l, IntKind.i64.has x := by
    clear hat
    induction rows with
    | nil => exact ⟨[], rfl, fun x hx => by cases hx⟩
    | cons es rows ih =>
      obtain ⟨l, rfl, hl⟩ := ih fun es he => hes es (by simp [he])
      obtain ⟨y, rfl, hy⟩ := hes es (by simp)
      refine ⟨y :: l, rfl, fun x hx => ?_⟩
      rcases List.mem_cons.1 hx with rfl | hx
      · exact hy
      · exact hl x hx
  obtain ⟨l, rfl, hl⟩ := this
  exact ⟨l, hat, hl⟩
theorem vizardlaw11_InboxFlow.run {H : Heap} {p : Option Addr} {n c : Nat} {K : Bool → Heap → Prop} {E : Value → Heap → Prop} (_ : n ≤ c) (_ : c * 8 ≤ reachBytes) (hrows : ∃ rows, RowsAt H p n 1 rows ∧ ∀ es ∈ rows, ∃ y, es = [(.int .i64 y)] ∧ IntKind.i64.has y) (h : K true H) : vizardlaw11_InboxFlow.c p n c K E H := by
  obtain ⟨l, hat, _⟩ := ints_of hrows
  refine ⟨?_⟩
  unfold vizardlaw11_InboxFlow.vc
  refine vizardlaw11_works.run ?_
  rw [if_neg (by simp)]
  refine inbox_New.run fun b mb H1 hb1 hnb hnm hle1 => vizardlaw11_InboxFlow.loop hat hle1 hnb hnm hb1 fun H2 hk => ⟨H, fun i o hi => ?_, h⟩
  have nb : i ≠ b := fun e => by subst e; rw [hnb] at hi; cases hi
  have nm : i ≠ mb := fun e => by subst e; rw [hnm] at hi; cases hi
  exact hk i o (hle1 i o hi) nb nm
end Go.Sh
