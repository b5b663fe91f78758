/- Pieces are taken, told as there, told as lost. -/
import Derived.Test.YtjbfpeeigjjbdaaOutA
namespace Go.Sh
def runL (p : UInt8 → Bool) : List UInt8 → Nat
  | [] => 0
  | x :: l => if p x = true then runL p l + 1 else 0
theorem runL_eq {p : UInt8 → Bool} : ∀ {l : List UInt8} {k : Nat}, k ≤ l.length → (∀ (i : Nat) (x : UInt8), i < k → l[i]? = some x → p x = true) → (k = l.length ∨ ∃ x, l[k]? = some x ∧ p x = false) → runL p l = k
  | [], k, h, _, _ => by
    have : k = 0 := by simpa using h
    subst this
    rfl
  | x :: l, 0, _, _, h3 => by
    rcases h3 with h3 | ⟨y, hy, hp⟩
    · simp at h3
    · have : x = y := by simpa using hy
      subst this
      simp [runL, hp]
  | x :: l, k + 1, h1, h2, h3 => by
    have hx : p x = true := h2 0 x (by omega) rfl
    unfold runL
    rw [if_pos hx, runL_eq (k := k) (by simpa using h1) (fun i y hi hy => h2 (i + 1) y (by omega) (by simpa using hy)) (by simpa using h3)]
theorem runL_le {p : UInt8 → Bool} : ∀ (l : List UInt8), runL p l ≤ l.length
  | [] => Nat.le_refl _
  | x :: l => by
    unfold runL
    split
    · have := runL_le (p := p) l
      simpa using this
    · omega
theorem runL_lt {p : UInt8 → Bool} : ∀ {l : List UInt8} {i : Nat} {x : UInt8}, i < runL p l → l[i]? = some x → p x = true
  | [], _, _, h, _ => by simp [runL] at h
  | y :: l, i, x, h, hx => by
    unfold runL at h
    split at h
    · rename_i hy
      cases i with
      | zero => have : y = x := by simpa using hx
                subst this; exact hy
      | succ i => exact runL_lt (l := l) (i := i) (by omega) (by simpa using hx)
    · omega
theorem runL_at {p : UInt8 → Bool} : ∀ {l : List UInt8} {x : UInt8}, l[runL p l]? = some x → p x = false
  | [], _, h => by simp at h
  | y :: l, x, h => by
    unfold runL at h
    by_cases hy : p y = true
    · rw [if_pos hy] at h
      exact runL_at (l := l) (by simpa using h)
    · rw [if_neg hy] at h
      have : y = x := by simpa using h
      subst this
      simpa using hy
def OB.first (s : OB) : Nat := runL (· != 0) s.how
theorem outbox_Box_first.run {H : Heap} {b : Nat} {L : List Nat} {s : OB} (hb : OA H b L s) (hs : s.how.length ≤ 1000000) {K : Int → Heap → Prop} {E : Value → Heap → Prop} (h : K s.first H) : outbox_Box_first.c (some ⟨b, 0, none⟩) K E H := by
  obtain ⟨tp, tc, hp, hc, hb, rfl⟩ := hb
  refine ⟨?_⟩
  unfold outbox_Box_first.vc
  refine ⟨_, rfl, hp, s.how.length, hc, hb.cell rfl, ⟨Loop.of (I := fun st H' m => ∃ k : Nat, st = (k : Int) ∧ k ≤ s.how.length ∧ m = s.how.length - k ∧ H' = H ∧ ∀ (i : Nat) (x : UInt8), i < k → s.how[i]? = some x → (x != 0) = true) ?_ ⟨0, rfl, Nat.zero_le _, rfl, rfl, fun i x hi => by omega⟩⟩⟩
  rintro m st H' ⟨k, rfl, hk, rfl, rfl, hall⟩ RR hRR
  unfold outbox_Box_first.W1.vc
  by_cases hlt : k < s.how.length
  · rw [if_pos (by simp; omega)]
    obtain ⟨a, x, ha, hx, hc2⟩ := own_get hb.h hlt
    refine ⟨a, ha, by omega, by omega, (x.toNat : Int), by rw [Int.toNat_natCast]; exact hc2, ?_⟩
    dsimp only
    by_cases hz : x = 0
    · refine (if_pos ((byV_eq (n := 0) (by decide)).2 hz)).mpr ⟨H', Heap.Le.refl _, ?_⟩
      rw [show (k : Int) = ((s.first : Nat) : Int) by
        unfold OB.first
        rw [runL_eq hk hall (.inr ⟨x, hx, by simp [hz]⟩)]]
      exact h
    · refine (if_neg (fun c => hz ((byV_eq (n := 0) (by decide)).1 c))).mpr ?_
      rw [w_i64 (by omega) (by omega)]
      refine hRR _ _ (s.how.length - (k + 1)) (by omega) ⟨k + 1, by simp, by omega, rfl, rfl, fun i y hi hy => ?_⟩
      by_cases hik : i = k
      · subst hik
        rw [hx] at hy
        cases hy
        simpa using hz
      · exact hall i y (by omega) hy
  · rw [if_neg (by simp; omega)]
    have : k = s.how.length := by omega
    refine ⟨_, rfl, hp, s.how.length, hc, hb.cell rfl, H', Heap.Le.refl _, ?_⟩
    rw [show ((s.how.length : Nat) : Int) = ((s.first : Nat) : Int) by
      unfold OB.first
      rw [runL_eq (k := s.how.length) (Nat.le_refl _) (by rw [this] at hall; exact hall) (.inl rfl)]]
    exact h
def mark (l : List UInt8) (a e : Nat) (x : UInt8) : List UInt8 := l.mapIdx fun i y => if a ≤ i ∧ i < e then x else y
theorem mark_get {l : List UInt8} {a e : Nat} {x : UInt8} (i : Nat) : (mark l a e x)[i]? = (l[i]?).map fun y => if a ≤ i ∧ i < e then x else y := by
  unfold mark
  rw [List.getElem?_mapIdx]
theorem mark_len {l : List UInt8} {a e : Nat} {x : UInt8} : (mark l a e x).length = l.length := by simp [mark]
theorem mark_nil {l : List UInt8} {a : Nat} {x : UInt8} : mark l a a x = l := by
  apply List.ext_getElem?
  intro i
  rw [mark_get]
  cases l[i]? with
  | none => rfl
  | some y => rw [Option.map_some, if_neg (by omega)]
theorem mark_set {l : List UInt8} {a e : Nat} {x : UInt8} (h : a ≤ e) : (mark l a e x).set e x = mark l a (e + 1) x := by
  apply List.ext_getElem?
  intro i
  rw [List.getElem?_set, mark_get, mark_get, mark_len]
  by_cases hi : e = i
  · subst hi
    rw [if_pos rfl]
    split
    · rename_i hl
      rw [List.getElem?_eq_getElem hl, Option.map_some, if_pos ⟨h, by omega⟩]
    · rename_i hl
      rw [List.getElem?_eq_none (by omega)]
      rfl
  · rw [if_neg hi]
    cases l[i]? with
    | none => rfl
    | some y =>
      simp only [Option.map_some]
      by_cases hc : a ≤ i ∧ i < e
      · rw [if_pos hc, if_pos ⟨hc.1, by omega⟩]
      · rw [if_neg hc, if_neg (by omega)]
def OB.stop (s : OB) (most : Int) (a : Nat) : Nat → Nat → Nat
  | 0, e => e
  | f + 1, e => if e < s.text.length ∧ (e : Int) < s.limit ∧ (e : Int) - a < most ∧ s.how[e]? = some 0 then s.stop most a f (e + 1) else e
def OB.stopE (s : OB) (most : Int) : Nat := s.stop most s.first (s.text.length - s.first) s.first
theorem OB.stop_spec {s : OB} {most : Int} {a : Nat} : ∀ (f e : Nat), f = s.text.length - e → e ≤ s.text.length → e ≤ s.stop most a f e ∧ s.stop most a f e ≤ s.text.length ∧
    (∀ i, e ≤ i → i < s.stop most a f e → (i : Int) < s.limit ∧ (i : Int) - a < most ∧ s.how[i]? = some 0) ∧
    (s.stop most a f e = s.text.length ∨ s.limit ≤ (s.stop most a f e : Int) ∨ most ≤ (s.stop most a f e : Int) - a ∨ s.how[s.stop most a f e]? ≠ some 0)
  | 0, e, hf, he => ⟨Nat.le_refl _, he, fun i h1 h2 => by unfold OB.stop at h2; omega, .inl (by unfold OB.stop; omega)⟩
  | f + 1, e, hf, he => by
    unfold OB.stop
    by_cases hc : e < s.text.length ∧ (e : Int) < s.limit ∧ (e : Int) - a < most ∧ s.how[e]? = some 0
    · rw [if_pos hc]
      obtain ⟨h1, h2, h3, h4⟩ := OB.stop_spec (s := s) (most := most) (a := a) f (e + 1) (by omega) (by omega)
      refine ⟨by omega, h2, fun i hi1 hi2 => ?_, h4⟩
      by_cases hie : i = e
      · subst hie; exact hc.2
      · exact h3 i (by omega) hi2
    · rw [if_neg hc]
      refine ⟨Nat.le_refl _, he, fun i h1 h2 => by omega, ?_⟩
      by_cases h5 : e = s.text.length
      · exact .inl h5
      · right
        by_cases h6 : s.limit ≤ (e : Int)
        · exact .inl h6
        · right
          by_cases h7 : most ≤ (e : Int) - a
          · exact .inl h7
          · right
            intro h8
            exact hc ⟨by omega, by omega, by omega, h8⟩
structure Pc where
  off : Int
  data : ByteArray
  fin : Bool
  ok : Bool
def OB.next (s : OB) (most : Int) : Pc × OB :=
  if s.first = s.text.length then (if s.fin ≠ 0 ∨ s.limit < s.text.length then (⟨0, ⟨#[]⟩, false, false⟩, s) else (⟨s.text.length, ⟨#[]⟩, true, true⟩, { s with fin := 1 }))
  else if s.stopE most = s.first then (⟨0, ⟨#[]⟩, false, false⟩, s)
  else (⟨s.first, ⟨((s.text.drop s.first).take (s.stopE most - s.first)).toArray⟩, decide (s.stopE most = s.text.length ∧ s.fin ≠ 3), true⟩,
    { s with how := mark s.how s.first (s.stopE most) 1, fin := if (s.stopE most = s.text.length ∧ s.fin ≠ 3) ∧ s.fin = 0 then 1 else s.fin })
theorem outbox_Box_Next.loop {H0 : Heap} {b b1 : Nat} {tp hp : Option Addr} {tc hc : Nat} {s : OB} (hb : OAt H0 b tp tc hp hc s) (hlen : s.how.length = s.text.length) (hs : s.text.length ≤ 1000000) {most : Int} {a : Nat} (ha : a ≤ s.text.length) {Kx : Int → Heap → Prop} {E : Value → Heap → Prop}
    (hx : ∀ H, OAt H b tp tc hp hc { s with how := mark s.how a (s.stop most a (s.text.length - a) a) 1 } → Step (fpO b tp hp) H0 (fpO b tp hp) H → Kx (s.stop most a (s.text.length - a) a : Nat) H) :
    outbox_Box_Next.W3 (some ⟨b, 0, none⟩) most ⟨b1, 0, none⟩ a s.text.length a Kx E H0 := by
  refine ⟨Loop.of (I := fun st H m => ∃ e : Nat, st = (e : Int) ∧ a ≤ e ∧ e ≤ s.text.length ∧ m = s.text.length - e ∧ OAt H b tp tc hp hc { s with how := mark s.how a e 1 } ∧ Step (fpO b tp hp) H0 (fpO b tp hp) H ∧ s.stop most a (s.text.length - a) a = s.stop most a (s.text.length - e) e) ?_
    ⟨a, rfl, Nat.le_refl _, ha, rfl, by rw [mark_nil]; exact hb, Step.refl _ _, rfl⟩⟩
  rintro m st H ⟨e, rfl, hae, he, rfl, hbx, hst, heq⟩ RR hRR
  unfold outbox_Box_Next.W3.vc
  have out : s.stop most a (s.text.length - e) e = e → Kx (e : Int) H := fun h1 => by
    have := hx H
    rw [heq, h1] at this
    exact this hbx hst
  have hmget : (mark s.how a e 1)[e]? = s.how[e]? := by
    rw [mark_get]
    cases s.how[e]? with
    | none => rfl
    | some y => rw [Option.map_some, if_neg (by omega)]
  by_cases h1 : e < s.text.length
  · rw [if_pos (by simp; omega)]
    obtain ⟨f, hf⟩ : ∃ f, s.text.length - e = f + 1 := ⟨s.text.length - e - 1, by omega⟩
    refine ⟨_, rfl, s.limit, hbx.cell rfl, ?_⟩
    dsimp only
    by_cases h2 : (e : Int) < s.limit
    · rw [if_pos (by simpa using h2), w_i64 (n := (e : Int) - a) (by omega) (by omega)]
      by_cases h3 : (e : Int) - a < most
      · rw [if_pos (by simpa using h3)]
        have hml : (mark s.how a e 1).length = s.text.length := by rw [mark_len, hlen]
        obtain ⟨ad, x, had, hx2, hc2⟩ := own_get hbx.h (i := e) (by show e < (mark s.how a e 1).length; rw [hml]; exact h1)
        have hx2 : s.how[e]? = some x := by rw [← hmget]; exact hx2
        refine ⟨_, rfl, hp, (mark s.how a e 1).length, hc, hbx.cell rfl, ad, had, by omega, by rw [hml]; omega, (x.toNat : Int), by rw [Int.toNat_natCast]; exact hc2, ?_⟩
        dsimp only
        by_cases h4 : x = 0
        · refine (if_pos ((byV_eq (n := 0) (by decide)).2 h4)).mpr ⟨?_⟩
          unfold outbox_Box_Next.J4.vc
          refine ⟨_, rfl, hp, (mark s.how a e 1).length, hc, hbx.cell rfl, ad, had, by omega, by rw [hml]; omega, ?_⟩
          rw [Int.toNat_natCast]
          refine hbx.setHow (i := e) (x := 1) (by show e < (mark s.how a e 1).length; rw [hml]; exact h1) had fun H' h5 h6 => ?_
          rw [w_i64 (by omega) (by omega)]
          refine hRR _ _ (s.text.length - (e + 1)) (by omega) ⟨e + 1, by simp, by omega, by omega, rfl, ?_, hst.trans h6, ?_⟩
          · have : (mark s.how a e 1).set e 1 = mark s.how a (e + 1) 1 := mark_set hae
            rw [← this]; exact h5
          · rw [heq, hf, show s.text.length - (e + 1) = f by omega]
            conv => lhs; unfold OB.stop
            rw [if_pos ⟨h1, h2, h3, by rw [hx2, h4]⟩]
        · refine (if_neg (fun c => h4 ((byV_eq (n := 0) (by decide)).1 c))).mpr (out ?_)
          rw [hf]
          unfold OB.stop
          rw [if_neg (fun c => h4 (by have := c.2.2.2; rw [hx2] at this; exact Option.some.inj this))]
      · rw [if_neg (by simpa using h3)]
        refine out ?_
        rw [hf]
        unfold OB.stop
        rw [if_neg (fun c => h3 c.2.2.1)]
    · rw [if_neg (by simpa using h2)]
      refine out ?_
      rw [hf]
      unfold OB.stop
      rw [if_neg (fun c => h2 c.2.1)]
  · rw [if_neg (by simp; omega)]
    refine out ?_
    rw [show s.text.length - e = 0 by omega]
    rfl
def pz : Obj := .cells #[.int .i64 0, .string ⟨#[]⟩, .bool false] 72
theorem OB.next_len {s : OB} {most : Int} : (s.next most).2.text = s.text ∧ (s.next most).2.how.length = s.how.length := by
  unfold OB.next
  split
  · split
    · exact ⟨rfl, rfl⟩
    · exact ⟨rfl, rfl⟩
  · split
    · exact ⟨rfl, rfl⟩
    · exact ⟨rfl, mark_len⟩
theorem outbox_Box_Next.run {H : Heap} {b : Nat} {L : List Nat} {s : OB} (hb : OA H b L s) (hlen : s.how.length = s.text.length) (hs : s.text.length ≤ 1000000) {most : Int} {K : Int → ByteArray → Bool → Bool → Heap → Prop} {E : Value → Heap → Prop}
    (h : ∀ H', OA H' b L (s.next most).2 → Step L H L H' → K (s.next most).1.off (s.next most).1.data (s.next most).1.fin (s.next most).1.ok H') : outbox_Box_Next.c (some ⟨b, 0, none⟩) most K E H := by
  have hlv := hb.live
  refine ⟨?_⟩
  unfold outbox_Box_Next.vc
  refine newB_le fun b1 H1 hb1 hloc hle => ?_
  have hnb1 : b1 ∉ L := fun hm => hlv b1 hm hb1
  have hb2 := hb.le hle
  have hst : Step L H L H1 := Step.of_le hle
  have hbb := hb2
  obtain ⟨tp, tc, hp, hc, hb2, rfl⟩ := hb2
  refine ⟨_, rfl, tp, s.text.length, tc, hb2.cell rfl, ?_⟩
  refine outbox_Box_first.run hbb (by omega) ⟨⟨rfl, rfl⟩, ⟨tp, s.text.length, tc, hb2.cell rfl, rfl, rfl⟩, ?_⟩
  -- how it ends
  have fin : ∀ {H' : Heap} {s' : OB} {o : Int} {d : ByteArray} {f ok : Bool}, OAt H' b tp tc hp hc s' → Step (fpO b tp hp) H (fpO b tp hp) H' → H' b1 = some (.cells #[.int .i64 o, .string d, .bool f] 72) → s.next most = (⟨o, d, f, ok⟩, s') →
      ldI H' .i64 ((⟨b1, 0, none⟩ : Addr).add 0) fun r0 => ldS H' ((⟨b1, 0, none⟩ : Addr).add 1) fun r1 => ldB H' ((⟨b1, 0, none⟩ : Addr).add 2) fun r2 => ∃ H'', Heap.Le H'' H' ∧ K r0 r1 r2 ok H'' := by
    intro H' s' o d f ok h1 h2 h3 h4
    rw [h4] at h
    exact ⟨_, loc h3 rfl, _, loc h3 rfl, _, loc h3 rfl, H', Heap.Le.refl _, h H' ⟨tp, tc, hp, hc, h1, rfl⟩ h2⟩
  have put1 : ∀ {H' : Heap} {s' : OB}, OAt H' b tp tc hp hc s' → ∀ (o : Obj), OAt (H'.set b1 o) b tp tc hp hc s' := by
    intro H' s' h1 o
    obtain ⟨⟨e, he⟩, ht, hh, d1, d2, d3⟩ := h1
    have hs1 := Step.set H' b1 o
    have ne : ∀ k ∈ fpO b tp hp, k ∉ [b1] := fun k hk => not_one hnb1 hk
    exact ⟨⟨e, (hs1 b _ he (ne b (by simp [fpO]))).1⟩, ht.step hs1 fun k hk => ne k (by simp [fpO, hk]), hh.step hs1 fun k hk => ne k (by simp [fpO, hk]), d1, d2, d3⟩
  by_cases h1 : s.first = s.text.length
  · rw [h1, if_pos (by simp)]
    refine ⟨_, rfl, (s.fin.toNat : Int), hb2.cell rfl, ?_⟩
    have no : ∀ (h2 : s.fin ≠ 0 ∨ s.limit < s.text.length) {Kn : Heap → Prop}, outbox_Box_Next.J1 (some ⟨b, 0, none⟩) ⟨b1, 0, none⟩ s.text.length true Kn (fun x9 h5 => ldI h5 .i64 ((⟨b1, 0, none⟩ : Addr).add 0) fun r3 => ldS h5 ((⟨b1, 0, none⟩ : Addr).add 1) fun r4 => ldB h5 ((⟨b1, 0, none⟩ : Addr).add 2) fun r5 => ∃ H'', Heap.Le H'' h5 ∧ K r3 r4 r5 x9 H'') E H1 := by
      intro h2 Kn
      refine ⟨?_⟩
      unfold outbox_Box_Next.J1.vc
      rw [if_pos rfl]
      refine st3_loc hloc (fin (put1 hb2 _) (hst.put hb1 _) (set_self _ _ _) ?_)
      unfold OB.next
      rw [if_pos h1, if_pos h2]
    by_cases h2 : s.fin = 0
    · refine (if_neg (fun c => (byV_ne (n := 0) (by decide)).1 c h2)).mpr ⟨_, rfl, s.limit, hb2.cell rfl, ?_⟩
      dsimp only
      by_cases h3 : s.limit < s.text.length
      · rw [decide_eq_true h3]
        exact no (.inr h3)
      · rw [decide_eq_false h3]
        refine ⟨?_⟩
        unfold outbox_Box_Next.J1.vc
        rw [if_neg (by simp)]
        refine ⟨?_⟩
        unfold outbox_Box_Next.J2.vc
        refine ⟨_, rfl, hb2.set (s' := { s with fin := 1 }) rfl rfl rfl (by decide) fun H2 h5 h6 => ?_⟩
        have hloc2 := (h6 b1 _ hloc hnb1).1
        refine st3_loc hloc2 (fin (put1 h5 _) ((hst.trans h6).put hb1 _) (set_self _ _ _) ?_)
        unfold OB.next
        rw [if_pos h1, if_neg (by simp only [not_or]; exact ⟨fun c => c h2, h3⟩)]
    · exact (if_pos ((byV_ne (n := 0) (by decide)).2 h2)).mpr (no (.inl h2))
  · have hfl : s.first ≤ s.text.length := by rw [← hlen]; exact runL_le _
    rw [if_neg (by simp; omega)]
    refine outbox_Box_Next.loop hb2 hlen hs hfl fun H2 h2 h3 => ?_
    have hloc2 := (h3 b1 _ hloc hnb1).1
    have hsp := OB.stop_spec (s := s) (most := most) (a := s.first) (s.text.length - s.first) s.first rfl hfl
    have hE : s.stop most s.first (s.text.length - s.first) s.first = s.stopE most := rfl
    rw [hE] at h2 hsp ⊢
    have hsp1 : s.first ≤ s.stopE most := hsp.1
    have hsp2 : s.stopE most ≤ s.text.length := hsp.2.1
    by_cases h4 : s.stopE most = s.first
    · rw [if_pos (by simp [h4])]
      refine st3_loc hloc2 (fin (s' := s) (put1 ?_ _) ((hst.trans h3).put hb1 _) (set_self _ _ _) ?_)
      · rw [h4, mark_nil] at h2; exact h2
      · unfold OB.next
        rw [if_neg h1, if_pos h4]
    · rw [if_neg (by simp; omega)]
      refine ⟨_, rfl, tp, s.text.length, tc, h2.cell rfl, by omega, by omega, by have := h2.t.2.2.1; show (s.stopE most : Int) ≤ tc; have h5 : s.text.length ≤ tc := this; omega, ?_⟩
      rw [Int.toNat_natCast, Int.toNat_natCast]
      refine own_rdSub h2.t hsp2 ?_
      have h2t : OwnRows H2 5 1 tp s.text.length tc (vrow s.text) := h2.t
      -- the last part, with the second block
      have last : ∀ (b2 : Nat), H2 b2 = none → ∀ (f : Bool), f = decide (s.stopE most = s.text.length ∧ s.fin ≠ 3) →
          outbox_Box_Next.J5 (some ⟨b, 0, none⟩) ⟨b1, 0, none⟩ ⟨b2, 0, none⟩ (fun x23 h17 => ldI h17 .i64 ((⟨b1, 0, none⟩ : Addr).add 0) fun r15 => ldS h17 ((⟨b1, 0, none⟩ : Addr).add 1) fun r16 => ldB h17 ((⟨b1, 0, none⟩ : Addr).add 2) fun r17 => ∃ H'', Heap.Le H'' h17 ∧ K r15 r16 r17 x23 H'') E
            (H2.set b2 (.cells #[.int .i64 s.first, .string ⟨((s.text.drop s.first).take (s.stopE most - s.first)).toArray⟩, .bool f] 72)) := by
        intro b2 hb2n f hf
        have hloc3 := set_self H2 b2 (.cells #[.int .i64 s.first, .string ⟨((s.text.drop s.first).take (s.stopE most - s.first)).toArray⟩, .bool f] 72)
        have hle3 := Le_set hb2n (.cells #[.int .i64 s.first, .string ⟨((s.text.drop s.first).take (s.stopE most - s.first)).toArray⟩, .bool f] 72)
        generalize H2.set b2 (.cells #[.int .i64 s.first, .string ⟨((s.text.drop s.first).take (s.stopE most - s.first)).toArray⟩, .bool f] 72) = H3 at hloc3 hle3 ⊢
        have hOA : OA H2 b (fpO b tp hp) { s with how := mark s.how s.first (s.stopE most) 1 } := ⟨tp, tc, hp, hc, h2, rfl⟩
        have hnb2 : b2 ∉ fpO b tp hp := fun hm => hOA.live b2 hm hb2n
        have h23 : OAt H3 b tp tc hp hc { s with how := mark s.how s.first (s.stopE most) 1 } := by
          obtain ⟨⟨e, he⟩, ht, hh, d1, d2, d3⟩ := h2
          exact ⟨⟨e, hle3 _ _ he⟩, ht.le hle3, hh.le hle3, d1, d2, d3⟩
        have hst3 : Step (fpO b tp hp) H (fpO b tp hp) H3 := (hst.trans h3).trans (Step.of_le hle3)
        have j7 : ∀ {H4 : Heap} {s4 : OB}, OAt H4 b tp tc hp hc s4 → Step (fpO b tp hp) H3 (fpO b tp hp) H4 → s4 = { s with how := mark s.how s.first (s.stopE most) 1, fin := if (s.stopE most = s.text.length ∧ s.fin ≠ 3) ∧ s.fin = 0 then 1 else s.fin } →
            outbox_Box_Next.J7 ⟨b1, 0, none⟩ ⟨b2, 0, none⟩ (fun x23 h17 => ldI h17 .i64 ((⟨b1, 0, none⟩ : Addr).add 0) fun r15 => ldS h17 ((⟨b1, 0, none⟩ : Addr).add 1) fun r16 => ldB h17 ((⟨b1, 0, none⟩ : Addr).add 2) fun r17 => ∃ H'', Heap.Le H'' h17 ∧ K r15 r16 r17 x23 H'') E H4 := by
          intro H4 s4 h4a hst4 hs4
          refine ⟨?_⟩
          unfold outbox_Box_Next.J7.vc
          have hl4 := (hst4 b2 _ hloc3 hnb2).1
          have hl1 := (hst4 b1 _ (hle3 _ _ hloc2) hnb1).1
          refine ⟨_, loc hl4 rfl, _, loc hl4 rfl, _, loc hl4 rfl, ?_⟩
          refine st3_loc hl1 (fin (put1 h4a _) ((hst3.trans hst4).put hb1 _) (set_self _ _ _) ?_)
          subst hs4
          unfold OB.next
          rw [if_neg h1, if_neg h4, hf]
        refine ⟨?_⟩
        unfold outbox_Box_Next.J5.vc
        refine ⟨f, loc hloc3 rfl, ?_⟩
        have j6 : ∀ {x : Bool}, (x = true ↔ ((s.stopE most = s.text.length ∧ s.fin ≠ 3) ∧ s.fin = 0)) → outbox_Box_Next.J6 (some ⟨b, 0, none⟩) ⟨b1, 0, none⟩ ⟨b2, 0, none⟩ x (fun h1 => outbox_Box_Next.J7 ⟨b1, 0, none⟩ ⟨b2, 0, none⟩ (fun x23 h17 => ldI h17 .i64 ((⟨b1, 0, none⟩ : Addr).add 0) fun r15 => ldS h17 ((⟨b1, 0, none⟩ : Addr).add 1) fun r16 => ldB h17 ((⟨b1, 0, none⟩ : Addr).add 2) fun r17 => ∃ H'', Heap.Le H'' h17 ∧ K r15 r16 r17 x23 H'') E h1) E H3 := by
          intro x hx
          refine ⟨?_⟩
          unfold outbox_Box_Next.J6.vc
          cases x with
          | true =>
            rw [if_pos rfl]
            refine ⟨_, rfl, h23.set (s' := { s with how := mark s.how s.first (s.stopE most) 1, fin := 1 }) rfl rfl rfl (by decide) fun H4 h5 h6 => j7 h5 h6 ?_⟩
            rw [if_pos (hx.1 rfl)]
          | false =>
            rw [if_neg (by simp)]
            refine j7 h23 (Step.refl _ _) ?_
            rw [if_neg (fun c => by have := hx.2 c; cases this)]
        by_cases hff : f = true
        · refine (if_pos hff).mpr ⟨_, rfl, (s.fin.toNat : Int), h23.cell rfl, j6 ?_⟩
          have hd : s.stopE most = s.text.length ∧ s.fin ≠ 3 := by rw [hff] at hf; exact of_decide_eq_true hf.symm
          exact (byV_eq (n := 0) (by decide)).trans ⟨fun e => ⟨hd, e⟩, fun e => e.2⟩
        · refine (if_neg hff).mpr (j6 ⟨fun c => (by cases c), fun c => absurd ?_ hff⟩)
          rw [hf]; exact decide_eq_true c.1
      by_cases h6 : s.stopE most = s.text.length
      · rw [if_pos (by simp [h6])]
        refine ⟨_, rfl, (s.fin.toNat : Int), h2.cell rfl, ?_⟩
        intro b2 hb2n
        have hle3 := Le_set hb2n pz
        have h23 : OAt (H2.set b2 pz) b tp tc hp hc { s with how := mark s.how s.first (s.stopE most) 1 } := by
          obtain ⟨⟨e, he⟩, ht, hh, d1, d2, d3⟩ := h2
          exact ⟨⟨e, hle3 _ _ he⟩, ht.le hle3, hh.le hle3, d1, d2, d3⟩
        refine ⟨⟨_, h23.cell rfl, rfl, rfl⟩, own_rdSub h23.t hsp2 ⟨rfl, rfl⟩, ⟨_, _, _, h23.cell rfl, rfl, rfl⟩, ?_⟩
        refine st3_loc (set_self _ _ _) ?_
        rw [set_set]
        refine last b2 hb2n _ ?_
        by_cases h7 : s.fin = 3
        · have e3 : ((s.fin.toNat : Int) != 3) = false := by rw [h7]; rfl
          rw [e3, decide_eq_false (fun c => c.2 h7)]
        · have e3 : ((s.fin.toNat : Int) != 3) = true := (byV_ne (n := 3) (by decide)).2 h7
          rw [e3, decide_eq_true ⟨h6, h7⟩]
      · rw [if_neg (by simp; omega)]
        intro b2 hb2n
        have hle3 := Le_set hb2n pz
        have h23 : OAt (H2.set b2 pz) b tp tc hp hc { s with how := mark s.how s.first (s.stopE most) 1 } := by
          obtain ⟨⟨e, he⟩, ht, hh, d1, d2, d3⟩ := h2
          exact ⟨⟨e, hle3 _ _ he⟩, ht.le hle3, hh.le hle3, d1, d2, d3⟩
        refine ⟨trivial, own_rdSub h23.t hsp2 ⟨rfl, rfl⟩, ⟨_, _, _, h23.cell rfl, rfl, rfl⟩, ?_⟩
        refine st3_loc (set_self _ _ _) ?_
        rw [set_set]
        refine last b2 hb2n _ ?_
        rw [decide_eq_false (fun c => h6 c.1)]
end Go.Sh
