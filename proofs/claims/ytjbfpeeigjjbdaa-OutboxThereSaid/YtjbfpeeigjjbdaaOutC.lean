/- Pieces are told as there, or as lost; the state. -/
import Derived.Test.YtjbfpeeigjjbdaaOutB
namespace Go.Sh
def lostH (l : List UInt8) (a e : Nat) : List UInt8 := l.mapIdx fun i y => if a ≤ i ∧ i < e ∧ y ≠ 2 then 0 else y
theorem lostH_get {l : List UInt8} {a e : Nat} (i : Nat) : (lostH l a e)[i]? = (l[i]?).map fun y => if a ≤ i ∧ i < e ∧ y ≠ 2 then 0 else y := by
  unfold lostH
  rw [List.getElem?_mapIdx]
theorem lostH_len {l : List UInt8} {a e : Nat} : (lostH l a e).length = l.length := by simp [lostH]
theorem lostH_nil {l : List UInt8} {a : Nat} : lostH l a a = l := by
  apply List.ext_getElem?
  intro i
  rw [lostH_get]
  cases l[i]? with
  | none => rfl
  | some y => rw [Option.map_some, if_neg (by omega)]
theorem lostH_set {l : List UInt8} {a e : Nat} {x : UInt8} (h : a ≤ e) (hx : l[e]? = some x) (h2 : x ≠ 2) : (lostH l a e).set e 0 = lostH l a (e + 1) := by
  apply List.ext_getElem?
  intro i
  rw [List.getElem?_set, lostH_get, lostH_get, lostH_len]
  by_cases hi : e = i
  · subst hi
    rw [if_pos rfl, if_pos (List.getElem?_eq_some_iff.1 hx).1, hx, Option.map_some, if_pos ⟨h, by omega, h2⟩]
  · rw [if_neg hi]
    cases l[i]? with
    | none => rfl
    | some y =>
      simp only [Option.map_some]
      by_cases hc : a ≤ i ∧ i < e ∧ y ≠ 2
      · rw [if_pos hc, if_pos ⟨hc.1, by omega, hc.2.2⟩]
      · rw [if_neg hc, if_neg (fun c => hc ⟨c.1, by omega, c.2.2⟩)]
theorem lostH_keep {l : List UInt8} {a e : Nat} (hx : l[e]? = some 2) : lostH l a e = lostH l a (e + 1) := by
  apply List.ext_getElem?
  intro i
  rw [lostH_get, lostH_get]
  by_cases hi : e = i
  · subst hi
    rw [hx, Option.map_some, Option.map_some, if_neg (by omega), if_neg (fun c => c.2.2 rfl)]
  · cases l[i]? with
    | none => rfl
    | some y =>
      simp only [Option.map_some]
      by_cases hc : a ≤ i ∧ i < e ∧ y ≠ 2
      · rw [if_pos hc, if_pos ⟨hc.1, by omega, hc.2.2⟩]
      · rw [if_neg hc, if_neg (fun c => hc ⟨c.1, by omega, c.2.2⟩)]
def OB.lost (s : OB) (o n : Nat) (fin : Bool) : OB := { s with how := lostH s.how o (o + n), fin := if fin = true ∧ s.fin ≠ 2 then 0 else s.fin }
def OB.acked (s : OB) (o n : Nat) (fin : Bool) (k : Int) : OB := { s with how := mark s.how o (o + n) 2, fin := if fin = true then 2 else s.fin, kept := k }
theorem outbox_Box_Lost.run {H : Heap} {b : Nat} {L : List Nat} {s : OB} (hb : OA H b L s) (hs : s.how.length ≤ 1000000) {o : Nat} {d : ByteArray} {f : Bool} (ho : o + d.size ≤ s.how.length) {K : Heap → Prop} {E : Value → Heap → Prop}
    (h : ∀ H', OA H' b L (s.lost o d.size f) → Step L H L H' → K H') : outbox_Box_Lost.c (some ⟨b, 0, none⟩) o d f K E H := by
  have hlv := hb.live
  refine ⟨?_⟩
  unfold outbox_Box_Lost.vc
  refine newB_le fun b1 H1 hb1 hloc hle => ?_
  have hnb1 : b1 ∉ L := fun hm => hlv b1 hm hb1
  have hb2 := hb.le hle
  have hst : Step L H L H1 := Step.of_le hle
  obtain ⟨tp, tc, hp, hc, hb2, rfl⟩ := hb2
  refine ⟨d, loc hloc rfl, ⟨Loop.of (I := fun st H' m => ∃ k : Nat, st = (k : Int) ∧ k ≤ d.size ∧ m = d.size - k ∧ OAt H' b tp tc hp hc { s with how := lostH s.how o (o + k) } ∧ Step (fpO b tp hp) H1 (fpO b tp hp) H') ?_ ⟨0, rfl, Nat.zero_le _, rfl, by rw [Nat.add_zero, lostH_nil]; exact hb2, Step.refl _ _⟩⟩⟩
  rintro m st H' ⟨k, rfl, hk, rfl, hbx, hst2⟩ RR hRR
  have hloc2 := (hst2 b1 _ hloc hnb1).1
  unfold outbox_Box_Lost.W1.vc
  by_cases hlt : k < d.size
  · rw [if_pos (by simp; omega)]
    have hml : (lostH s.how o (o + k)).length = s.how.length := lostH_len
    obtain ⟨a, x, ha, hx, hc2⟩ := own_get hbx.h (i := o + k) (by show o + k < (lostH s.how o (o + k)).length; rw [hml]; omega)
    have hx2 : s.how[o + k]? = some x := by
      have hx : (lostH s.how o (o + k))[o + k]? = some x := hx
      rw [lostH_get] at hx
      cases hy : s.how[o + k]? with
      | none => rw [hy] at hx; cases hx
      | some y => rw [hy, Option.map_some, if_neg (by omega)] at hx; exact hx
    refine ⟨_, rfl, hp, (lostH s.how o (o + k)).length, hc, hbx.cell rfl, o, loc hloc2 rfl, a, ha, ?_⟩
    have hw : IntKind.i64.wrap ((o : Int) + (k : Int)) = ((o + k : Nat) : Int) := by rw [w_i64 (by omega) (by omega)]; simp
    rw [hw]
    have next : ∀ {H2 : Heap}, OAt H2 b tp tc hp hc { s with how := lostH s.how o (o + (k + 1)) } → Step (fpO b tp hp) H1 (fpO b tp hp) H2 → outbox_Box_Lost.J2 (some ⟨b, 0, none⟩) ⟨b1, 0, none⟩ d.size k RR E H2 := fun h1 h2 => ⟨by
      unfold outbox_Box_Lost.J2.vc
      rw [w_i64 (by omega) (by omega)]
      exact hRR _ _ (d.size - (k + 1)) (by omega) ⟨k + 1, by simp, by omega, rfl, h1, h2⟩⟩
    refine ⟨by omega, by rw [hml]; omega, _, rfl, (x.toNat : Int), by rw [Int.toNat_natCast]; exact hc2, ?_⟩
    dsimp only
    by_cases h2 : x = 2
    · refine (if_neg (fun c => (byV_ne (n := 2) (by decide)).1 c h2)).mpr (next ?_ hst2)
      rw [h2] at hx2
      have : lostH s.how o (o + k) = lostH s.how o (o + k + 1) := lostH_keep hx2
      rw [← Nat.add_assoc, ← this]
      exact hbx
    · refine (if_pos ((byV_ne (n := 2) (by decide)).2 h2)).mpr ⟨_, rfl, ?_⟩
      rw [Int.toNat_natCast]
      refine hbx.setHow (x := 0) (by show o + k < (lostH s.how o (o + k)).length; rw [hml]; omega) ha fun H2 h3 h4 => next ?_ (hst2.trans h4)
      have : (lostH s.how o (o + k)).set (o + k) 0 = lostH s.how o (o + k + 1) := lostH_set (by omega) hx2 h2
      rw [← Nat.add_assoc, ← this]
      exact h3
  · rw [if_neg (by simp; omega)]
    have hkd : k = d.size := by omega
    subst hkd
    refine ⟨f, loc hloc2 rfl, ?_⟩
    dsimp only
    have j3 : ∀ {x : Bool}, (x = true ↔ f = true ∧ s.fin ≠ 2) → outbox_Box_Lost.J3 (some ⟨b, 0, none⟩) x (fun H => ∃ H', Heap.Le H' H ∧ K H') E H' := by
      intro x hx
      refine ⟨?_⟩
      unfold outbox_Box_Lost.J3.vc
      cases x with
      | true =>
        rw [if_pos rfl]
        refine ⟨_, rfl, hbx.set (s' := { s with how := lostH s.how o (o + d.size), fin := 0 }) rfl rfl rfl (by decide) fun H2 h3 h4 => ⟨H2, Heap.Le.refl _, h H2 ⟨tp, tc, hp, hc, ?_, rfl⟩ ((hst.trans hst2).trans h4)⟩⟩
        unfold OB.lost
        rw [if_pos (hx.1 rfl)]
        exact h3
      | false =>
        rw [if_neg (by simp)]
        refine ⟨H', Heap.Le.refl _, h H' ⟨tp, tc, hp, hc, ?_, rfl⟩ (hst.trans hst2)⟩
        unfold OB.lost
        rw [if_neg (fun c => by have := hx.2 c; cases this)]
        exact hbx
    by_cases hf : f = true
    · refine (if_pos hf).mpr ⟨_, rfl, (s.fin.toNat : Int), hbx.cell rfl, j3 ?_⟩
      exact (byV_ne (n := 2) (by decide)).trans ⟨fun e => ⟨hf, e⟩, fun e => e.2⟩
    · exact (if_neg hf).mpr (j3 ⟨fun c => (by cases c), fun c => absurd c.1 hf⟩)
theorem outbox_Box_Acked.run {H : Heap} {b : Nat} {L : List Nat} {s : OB} (hb : OA H b L s) (hs : s.how.length ≤ 1000000) {o : Nat} {d : ByteArray} {f : Bool} (ho : o + d.size ≤ s.how.length) {K : Heap → Prop} {E : Value → Heap → Prop}
    (h : ∀ k H', OA H' b L (s.acked o d.size f k) → Step L H L H' → K H') : outbox_Box_Acked.c (some ⟨b, 0, none⟩) o d f K E H := by
  have hlv := hb.live
  refine ⟨?_⟩
  unfold outbox_Box_Acked.vc
  refine newB_le fun b1 H1 hb1 hloc hle => ?_
  have hnb1 : b1 ∉ L := fun hm => hlv b1 hm hb1
  have hb2 := hb.le hle
  have hst : Step L H L H1 := Step.of_le hle
  obtain ⟨tp, tc, hp, hc, hb2, rfl⟩ := hb2
  refine ⟨d, loc hloc rfl, ⟨Loop.of (I := fun st H' m => ∃ (k : Nat) (q : Int), st = (k : Int) ∧ k ≤ d.size ∧ m = d.size - k ∧ OAt H' b tp tc hp hc { s with how := mark s.how o (o + k) 2, kept := q } ∧ Step (fpO b tp hp) H1 (fpO b tp hp) H') ?_ ⟨0, s.kept, rfl, Nat.zero_le _, rfl, by rw [Nat.add_zero, mark_nil]; exact hb2, Step.refl _ _⟩⟩⟩
  rintro m st H' ⟨k, q, rfl, hk, rfl, hbx, hst2⟩ RR hRR
  have hloc2 := (hst2 b1 _ hloc hnb1).1
  unfold outbox_Box_Acked.W1.vc
  by_cases hlt : k < d.size
  · rw [if_pos (by simp; omega)]
    have hml : (mark s.how o (o + k) 2).length = s.how.length := mark_len
    obtain ⟨a, x, ha, hx, hc2⟩ := own_get hbx.h (i := o + k) (by show o + k < (mark s.how o (o + k) 2).length; rw [hml]; omega)
    refine ⟨_, rfl, hp, (mark s.how o (o + k) 2).length, hc, hbx.cell rfl, o, loc hloc2 rfl, a, ha, ?_⟩
    have hw : IntKind.i64.wrap ((o : Int) + (k : Int)) = ((o + k : Nat) : Int) := by rw [w_i64 (by omega) (by omega)]; simp
    rw [hw]
    have next : ∀ {H2 : Heap} {q2 : Int}, OAt H2 b tp tc hp hc { s with how := mark s.how o (o + k) 2, kept := q2 } → Step (fpO b tp hp) H1 (fpO b tp hp) H2 → outbox_Box_Acked.J2 (some ⟨b, 0, none⟩) ⟨b1, 0, none⟩ (a.add (((o + k : Nat) : Int).toNat * 1)) d.size k (fun h2 => outbox_Box_Acked.J3 (some ⟨b, 0, none⟩) ⟨b1, 0, none⟩ d.size k RR E h2) E H2 := fun {H2 q2} h1 h2 => ⟨by
      unfold outbox_Box_Acked.J2.vc
      refine ⟨_, rfl, ?_⟩
      rw [Int.toNat_natCast]
      refine h1.setHow (x := 2) (by show o + k < (mark s.how o (o + k) 2).length; rw [hml]; omega) ha fun H3 h3 h4 => ⟨?_⟩
      unfold outbox_Box_Acked.J3.vc
      rw [w_i64 (by omega) (by omega)]
      refine hRR _ _ (d.size - (k + 1)) (by omega) ⟨k + 1, q2, by simp, by omega, rfl, ?_, h2.trans h4⟩
      have : (mark s.how o (o + k) 2).set (o + k) 2 = mark s.how o (o + k + 1) 2 := mark_set (by omega)
      rw [← Nat.add_assoc, ← this]
      exact h3⟩
    refine ⟨by omega, by rw [hml]; omega, _, rfl, (x.toNat : Int), by rw [Int.toNat_natCast]; exact hc2, ?_⟩
    dsimp only
    by_cases h2 : x = 2
    · exact (if_neg (fun c => (byV_ne (n := 2) (by decide)).1 c h2)).mpr (next hbx hst2)
    · refine (if_pos ((byV_ne (n := 2) (by decide)).2 h2)).mpr ⟨_, rfl, q, hbx.cell rfl, _, rfl, ?_⟩
      exact hbx.set (s' := { s with how := mark s.how o (o + k) 2, kept := IntKind.i64.wrap (q - 1) }) rfl rfl rfl (by decide) fun H2 h3 h4 => next h3 (hst2.trans h4)
  · rw [if_neg (by simp; omega)]
    have hkd : k = d.size := by omega
    subst hkd
    refine ⟨f, loc hloc2 rfl, ?_⟩
    dsimp only
    by_cases hf : f = true
    · refine (if_pos hf).mpr ⟨_, rfl, hbx.set (s' := { s with how := mark s.how o (o + d.size) 2, kept := q, fin := 2 }) rfl rfl rfl (by decide) fun H2 h3 h4 => ⟨H2, Heap.Le.refl _, h q H2 ⟨tp, tc, hp, hc, ?_, rfl⟩ ((hst.trans hst2).trans h4)⟩⟩
      unfold OB.acked
      rw [if_pos hf]
      exact h3
    · refine (if_neg hf).mpr ⟨H', Heap.Le.refl _, h q H' ⟨tp, tc, hp, hc, ?_, rfl⟩ (hst.trans hst2)⟩
      unfold OB.acked
      rw [if_neg hf]
      exact hbx
def OB.pre (s : OB) : Nat := runL (· == 2) s.how
theorem outbox_Box_State.run {H : Heap} {b : Nat} {L : List Nat} {s : OB} (hb : OA H b L s) (hs : s.how.length ≤ 1000000) {K : Int → Int → Bool → Heap → Prop} {E : Value → Heap → Prop} (h : K s.how.length s.pre (decide (s.pre = s.how.length ∧ s.fin = 2)) H) : outbox_Box_State.c (some ⟨b, 0, none⟩) K E H := by
  obtain ⟨tp, tc, hp, hc, hb, rfl⟩ := hb
  refine ⟨?_⟩
  unfold outbox_Box_State.vc
  refine ⟨Loop.of (I := fun st H' m => ∃ k : Nat, st = (k : Int) ∧ k ≤ s.how.length ∧ m = s.how.length - k ∧ H' = H ∧ ∀ (i : Nat) (x : UInt8), i < k → s.how[i]? = some x → (x == 2) = true) ?_ ⟨0, rfl, Nat.zero_le _, rfl, rfl, fun i x hi => by omega⟩⟩
  rintro m st H' ⟨k, rfl, hk, rfl, rfl, hall⟩ RR hRR
  have out : s.pre = k → nilc (some ⟨b, 0, none⟩) fun a0 => ldSl H' (a0.add 1) fun x0 x1 x2 => nilc (some ⟨b, 0, none⟩) fun a1 => ldSl H' (a1.add 1) fun x3 x4 x5 =>
      (if ((k : Int) == (x4 : Int)) = true then nilc (some ⟨b, 0, none⟩) fun a2 => ldI H' .u8 (a2.add 2) fun x6 => ∃ H'', Heap.Le H'' H' ∧ K (x1 : Int) k (x6 == 2) H'' else ∃ H'', Heap.Le H'' H' ∧ K (x1 : Int) k false H'') := by
    intro he
    rw [he] at h
    refine ⟨_, rfl, hp, s.how.length, hc, hb.cell rfl, _, rfl, hp, s.how.length, hc, hb.cell rfl, ?_⟩
    by_cases h1 : k = s.how.length
    · refine (if_pos (by simp [h1])).mpr ⟨_, rfl, (s.fin.toNat : Int), hb.cell rfl, H', Heap.Le.refl _, ?_⟩
      have e : ((s.fin.toNat : Int) == 2) = decide (k = s.how.length ∧ s.fin = 2) := by
        by_cases h2 : s.fin = 2
        · rw [decide_eq_true ⟨h1, h2⟩]; exact (byV_eq (n := 2) (by decide)).2 h2
        · rw [decide_eq_false (fun c => h2 c.2)]
          cases hc : ((s.fin.toNat : Int) == 2) with
          | false => rfl
          | true => exact absurd ((byV_eq (n := 2) (by decide)).1 hc) h2
      rw [e]
      exact h
    · refine (if_neg (by simp; omega)).mpr ⟨H', Heap.Le.refl _, ?_⟩
      rw [decide_eq_false (fun c => h1 c.1)] at h
      exact h
  unfold outbox_Box_State.W1.vc
  refine ⟨_, rfl, hp, s.how.length, hc, hb.cell rfl, ?_⟩
  dsimp only
  by_cases hlt : k < s.how.length
  · rw [if_pos (by simp; omega)]
    obtain ⟨a, x, ha, hx, hc2⟩ := own_get hb.h hlt
    refine ⟨_, rfl, hp, s.how.length, hc, hb.cell rfl, a, ha, by omega, by omega, (x.toNat : Int), by rw [Int.toNat_natCast]; exact hc2, ?_⟩
    dsimp only
    by_cases hz : x = 2
    · refine (if_pos ((byV_eq (n := 2) (by decide)).2 hz)).mpr ⟨?_⟩
      unfold outbox_Box_State.J2.vc
      rw [w_i64 (by omega) (by omega)]
      refine hRR _ _ (s.how.length - (k + 1)) (by omega) ⟨k + 1, by simp, by omega, rfl, rfl, fun i y hi hy => ?_⟩
      by_cases hik : i = k
      · subst hik
        rw [hx] at hy
        cases hy
        simpa using hz
      · exact hall i y (by omega) hy
    · refine (if_neg (fun c => hz ((byV_eq (n := 2) (by decide)).1 c))).mpr (out ?_)
      exact runL_eq hk hall (.inr ⟨x, hx, by simpa using hz⟩)
  · rw [if_neg (by simp; omega)]
    exact out (runL_eq hk hall (.inl (by omega)))
end Go.Sh
