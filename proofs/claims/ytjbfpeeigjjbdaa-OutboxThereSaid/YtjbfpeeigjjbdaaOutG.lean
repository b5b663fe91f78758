/- OutboxThere: the walk of the law. -/
import Derived.Test.YtjbfpeeigjjbdaaOutF
namespace Go.Sh
set_option maxRecDepth 8000
def BoolsAt (H : Heap) (p : Option Addr) (n : Nat) (l : List Bool) : Prop := RowsAt H p n 1 (l.map fun x => [.bool x])
theorem BoolsAt.len {H : Heap} {p : Option Addr} {n : Nat} {l : List Bool} (h : BoolsAt H p n l) : l.length = n := by simpa using h.1
theorem BoolsAt.get {H : Heap} {p : Option Addr} {n : Nat} {l : List Bool} (h : BoolsAt H p n l) {i : Nat} (hi : i < n) : ∃ a x, p = some a ∧ H.cell? (a.add (i * 1)) = some (.bool x) := by
  have hl := h.len
  have hx : l[i]? = some (l[i]'(by omega)) := List.getElem?_eq_getElem (by omega)
  obtain ⟨a, ha, hc⟩ := RowsAt.cell h (i := i) (es := [.bool (l[i]'(by omega))]) (by simp [hx])
  refine ⟨a, l[i]'(by omega), ha, ?_⟩
  have := hc 0 _ rfl
  rw [add_add] at this
  exact this
theorem bools_of {H : Heap} {p : Option Addr} {n : Nat} (h : ∃ rows, RowsAt H p n 1 rows ∧ ∀ es ∈ rows, ∃ y, es = [(.bool y)]) : ∃ l, BoolsAt H p n l := by
  obtain ⟨rows, hat, hes⟩ := h
  have : ∃ l : List Bool, rows = l.map (fun x => [.bool x]) := by
    clear hat
    induction rows with
    | nil => exact ⟨[], rfl⟩
    | cons es rows ih =>
      obtain ⟨l, rfl⟩ := ih fun es he => hes es (by simp [he])
      obtain ⟨y, rfl⟩ := hes es (by simp)
      exact ⟨y :: l, rfl⟩
  obtain ⟨l, rfl⟩ := this
  exact ⟨l, hat⟩
/-- The arguments of the law, and where they lie. -/
structure ThArgs (Hb : Heap) (mp lp wp : Option Addr) (mn ln wn : Nat) : Prop where
  m : ∃ l, IntsAt Hb mp mn l
  l : ∃ l, BoolsAt Hb lp ln l
  w : ∃ l, BoolsAt Hb wp wn l
theorem cell_le {Hb H : Heap} (hl : Heap.Le Hb H) {a : Addr} {v : Value} (h : Hb.cell? a = some v) : H.cell? a = some v := Le_cell hl h
structure ThAt (Hb H : Heap) (b : Nat) (L : List Nat) (ib im : Nat) (s : OB) (bx : Bx) : Prop where
  ob : OA H b L s
  box : BoxAt H ib im bx
  d1 : ib ∉ L
  d2 : im ∉ L
  st : Step [] Hb (ib :: im :: L) H
theorem ThAt.grow {Hb H H' : Heap} {b : Nat} {L : List Nat} {ib im : Nat} {s : OB} {bx : Bx} (h : ThAt Hb H b L ib im s bx) (hl : Heap.Le H H') : ThAt Hb H' b L ib im s bx :=
  ⟨h.ob.le hl, h.box.keep (fun o => hl ib o) (fun o => hl im o), h.d1, h.d2, h.st.trans (Step.of_le hl)⟩
theorem ThAt.out {Hb H H' : Heap} {b : Nat} {L : List Nat} {ib im : Nat} {s s' : OB} {bx : Bx} (h : ThAt Hb H b L ib im s bx) (hs : Step L H L H') (ho : OA H' b L s') : ThAt Hb H' b L ib im s' bx :=
  ⟨ho, h.box.keep (fun o ho => (hs ib o ho h.d1).1) (fun o ho => (hs im o ho h.d2).1), h.d1, h.d2, h.st.trans (hs.frame (fun k hk hm => hk (by simp [hm])) fun k hk _ => hk)⟩
theorem ThAt.inb {Hb H H' : Heap} {b : Nat} {L : List Nat} {ib im : Nat} {s : OB} {bx bx' : Bx} (h : ThAt Hb H b L ib im s bx) (hs : Keep2 ib im H H') (ho : BoxAt H' ib im bx') : ThAt Hb H' b L ib im s bx' :=
  ⟨h.ob.step (M := [ib, im]) (M' := [ib, im]) (hs.step (by simp) (by simp)) (fun k hk hm => by
    simp only [List.mem_cons, List.not_mem_nil, or_false] at hm
    rcases hm with rfl | rfl
    · exact h.d1 hk
    · exact h.d2 hk), ho, h.d1, h.d2, h.st.trans (hs.step (by simp) (by simp))⟩
theorem ThAt.fresh {Hb H : Heap} {b : Nat} {L : List Nat} {ib im : Nat} {s : OB} {bx : Bx} (h : ThAt Hb H b L ib im s bx) {k : Nat} (hk : H k = none) : k ∉ L ∧ k ≠ ib ∧ k ≠ im :=
  ⟨fun hm => h.ob.live k hm hk, fun e => h.box.some_b (e ▸ hk), fun e => h.box.some_mb (e ▸ hk)⟩
theorem vizardlaw12_OutboxThere.turn {Hb H : Heap} {T : ByteArray} (hT : T.size ≤ 3000) {mp lp wp : Option Addr} {mn mc ln lc wn wc : Nat} (ha : ThArgs Hb mp lp wp mn ln wn) {b ib im : Nat} {L : List Nat} {s : OB} {bx : Bx} {o k : Nat} (hk : k < 4000) (hat : ThAt Hb H b L ib im s bx) (hth : Th T s bx o)
    {most : Int} (hm : 1 ≤ most) (hm2 : most ≤ 60) {Kx0 Kx1 Kn : ByteArray → Heap → Prop} {Kr : Bool → Heap → Prop} {E : Value → Heap → Prop}
    (h0 : ∀ H', ThAt Hb H' b L ib im s bx → (∀ (i : Nat) (x : UInt8), s.how[i]? = some x → x = 2) → s.fin = 2 → Kx0 (T.extract 0 o) H')
    (h1 : ∀ H', ThAt Hb H' b L ib im s bx → k < 300 → Kx1 (T.extract 0 o) H')
    (h2 : ∀ H' s' bx' o', ThAt Hb H' b L ib im s' bx' → Th T s' bx' o' → s.first + (if s.fin = 0 then 0 else 1) < s'.first + (if s'.fin = 0 then 0 else 1) → Kn (T.extract 0 o') H') :
    vizardlaw12_OutboxThere.J6 T mp mn mc lp ln lc wp wn wc (some ⟨b, 0, none⟩) (some ⟨ib, 0, none⟩) (T.extract 0 o) k most Kx0 Kx1 Kn Kr E H := by
  have hTl : T.data.toList.length = T.size := by rw [Array.length_toList]; rfl
  have hra : reachBytes = 140737488351232 := rfl
  have htx := hth.tx
  refine ⟨?_⟩
  unfold vizardlaw12_OutboxThere.J6.vc
  refine outbox_Box_Next.run hat.ob (by rw [htx.len, htx.text]) (by rw [htx.text]; omega) fun H2 hb2 hs2 => ?_
  have hat2 := hat.out hs2 hb2
  rcases htx.next (by omega) hm with ⟨e1, e2, e3⟩ | ⟨a, e, f, ae, eT, em, hf, hfa, hlt, hz, e1⟩
  · rw [e1] at hat2 ⊢
    dsimp only at hat2 ⊢
    refine new3_le fun b1 H3 hn1 hl1 hle3 => ?_
    rw [if_pos (by simp)]
    exact h0 H3 (hat2.grow hle3) e2 e3
  · rw [e1] at hat2 ⊢
    dsimp only at hat2 ⊢
    have hd : (⟨((T.data.toList.drop a).take (e - a)).toArray⟩ : ByteArray) = T.extract a e := (ext_list T a e).symm
    rw [hd]
    have hsz : (T.extract a e).size = e - a := by rw [ByteArray.size_extract]; omega
    refine new3_le fun b1 H3 hn1 hl1 hle3 => ?_
    have hat3 := hat2.grow hle3
    have q1 := hat2.fresh hn1
    rw [if_neg (by simp)]
    refine ⟨_, loc hl1 rfl, ?_⟩
    dsimp only
    rw [hsz, if_neg (by rw [decide_eq_true_eq]; omega)]
    refine ⟨_, loc hl1 rfl, ?_⟩
    dsimp only
    rw [if_neg (by rw [decide_eq_true_eq]; omega)]
    refine ⟨_, loc hl1 rfl, _, loc hl1 rfl, ?_⟩
    dsimp only
    rw [hsz, w_i64 (n := (T.size : Int) - ((e - a : Nat) : Int)) (by omega) (by omega), if_neg (by rw [decide_eq_true_eq]; omega)]
    have hw : IntKind.i64.wrap ((a : Int) + ((e - a : Nat) : Int)) = (e : Int) := by rw [w_i64 (by omega) (by omega)]; omega
    refine ⟨_, loc hl1 rfl, _, loc hl1 rfl, _, loc hl1 rfl, ?_⟩
    dsimp only
    rw [hsz, hw]
    refine ⟨by omega, by omega, by omega, _, loc hl1 rfl, ?_⟩
    rw [Int.toNat_natCast, Int.toNat_natCast]
    refine ⟨?_⟩
    unfold vizardlaw12_OutboxThere.J7.vc
    rw [if_neg (by simp)]
    -- what is kept is put
    have keep : vizardlaw12_OutboxThere.J10 T mp mn mc lp ln lc wp wn wc (some ⟨b, 0, none⟩) (some ⟨ib, 0, none⟩) (T.extract 0 o) k ⟨b1, 0, none⟩ Kn Kr E H3 := by
      refine ⟨?_⟩
      unfold vizardlaw12_OutboxThere.J10.vc
      refine ⟨_, loc hl1 rfl, _, loc hl1 rfl, _, loc hl1 rfl, ?_⟩
      have hp1 := hth.part.put (by omega) ae eT (fin := f) (fun h => hf.1 h)
      have hai : IntKind.i64.has (a : Int) := ⟨by show (-9223372036854775808 : Int) ≤ a; omega, by show (a : Int) ≤ 9223372036854775807; omega⟩
      refine inbox_Box_Put.run hat3.box hai (by rw [hsz]; omega) fun H4 hb4 hk4 => ?_
      rw [hp1.1, if_neg (by simp)]
      have hat4 := hat3.inb hk4 hb4
      have hl4 := hk4 b1 _ hl1 q1.2.1 q1.2.2
      -- the end of the turn
      have last : ∀ {H5 : Heap} {bx2 : Bx}, ThAt Hb H5 b L ib im { s with how := mark s.how a e 1, fin := if f = true ∧ s.fin = 0 then 1 else s.fin } bx2 → (bx2 = putS bx a (T.extract a e) f ∨ bx2 = putS (putS bx a (T.extract a e) f) a (T.extract a e) f) → Part T bx2 o → H5 b1 = some (.cells #[.int .i64 a, .string (T.extract a e), .bool f] 72) →
          vizardlaw12_OutboxThere.J11 T mp mn mc lp ln lc wp wn wc (some ⟨b, 0, none⟩) (some ⟨ib, 0, none⟩) (T.extract 0 o) k ⟨b1, 0, none⟩ false (fun h2 => vizardlaw12_OutboxThere.J12 T mp mn mc lp ln lc wp wn wc (some ⟨b, 0, none⟩) (some ⟨ib, 0, none⟩) (T.extract 0 o) k ⟨b1, 0, none⟩ Kn E h2) Kr E H5 := by
        intro H5 bx2 hat5 hbx2 hpart2 hl5
        refine ⟨?_⟩
        unfold vizardlaw12_OutboxThere.J11.vc
        rw [if_neg (by simp)]
        refine ⟨?_⟩
        unfold vizardlaw12_OutboxThere.J12.vc
        refine ⟨_, loc hl5 rfl, _, loc hl5 rfl, _, loc hl5 rfl, ?_⟩
        refine outbox_Box_Acked.run (o := a) hat5.ob (by dsimp only; rw [mark_len, htx.len]; omega) (by dsimp only; rw [mark_len, htx.len, hsz]; omega) fun q H6 hb6 hs6 => ?_
        rw [hsz] at hb6
        have hat6 := hat5.out hs6 hb6
        refine inbox_Box_Read.run hat6.box (hpart2.fine (by omega)) fun H7 hb7 hk7 => ?_
        have hat7 := hat6.inb hk7 hb7
        obtain ⟨t1, t2⟩ := hth.turn (k := q) hT ae eT hf hfa hlt rfl hbx2
        change (readL 5000 bx2).1 = _ at t1
        have e5 : (5000 : Int).toNat = 5000 := rfl
        rw [e5] at hat7 ⊢
        rw [ext_add t1]
        refine ⟨?_, h2 H7 _ _ _ hat7 t2 (htx.acked (k := q) (f := f) ae (by omega) hfa hlt).2.2.2⟩
        rw [ext_size hth.part.le]
        show o + (readL 5000 bx2).1.toArray.size ≤ _
        rw [List.size_toArray]
        have := t2.part.le
        omega
      by_cases hw2 : (k : Int) < wn
      · rw [if_pos (by simpa using hw2)]
        obtain ⟨wl, hwl⟩ := ha.w
        obtain ⟨wa, x, hwa, hwc⟩ := hwl.get (i := k) (by omega)
        refine ⟨wa, hwa, by omega, by omega, x, cell_le hat4.st.le hwc, ?_⟩
        dsimp only
        cases x with
        | true =>
          rw [if_pos rfl]
          refine ⟨_, loc hl4 rfl, _, loc hl4 rfl, _, loc hl4 rfl, ?_⟩
          have hp2 := hp1.2.1.put (by omega) ae eT (fin := f) (fun h => hf.1 h)
          refine inbox_Box_Put.run hat4.box hai (by rw [hsz]; omega) fun H5 hb5 hk5 => ?_
          rw [hp2.1]
          exact last (hat4.inb hk5 hb5) (.inr rfl) hp2.2.1 (hk5 b1 _ hl4 q1.2.1 q1.2.2)
        | false =>
          rw [if_neg (by simp)]
          exact last hat4 (.inl rfl) hp1.2.1 hl4
      · rw [if_neg (by simpa using hw2)]
        exact last hat4 (.inl rfl) hp1.2.1 hl4
    have j9 : ∀ {x : Bool}, (x = true → k < 300) → vizardlaw12_OutboxThere.J9 T mp mn mc lp ln lc wp wn wc (some ⟨b, 0, none⟩) (some ⟨ib, 0, none⟩) (T.extract 0 o) k ⟨b1, 0, none⟩ x (fun h1 => Kx1 (T.extract 0 o) h1) (fun h2 => vizardlaw12_OutboxThere.J10 T mp mn mc lp ln lc wp wn wc (some ⟨b, 0, none⟩) (some ⟨ib, 0, none⟩) (T.extract 0 o) k ⟨b1, 0, none⟩ Kn Kr E h2) E H3 := by
      intro x hx
      refine ⟨?_⟩
      unfold vizardlaw12_OutboxThere.J9.vc
      cases x with
      | true =>
        rw [if_pos rfl]
        refine ⟨_, loc hl1 rfl, _, loc hl1 rfl, _, loc hl1 rfl, ?_⟩
        refine outbox_Box_Lost.run (o := a) hat3.ob (by dsimp only; rw [mark_len, htx.len]; omega) (by dsimp only; rw [mark_len, htx.len, hsz]; omega) fun H4 hb4 hs4 => ?_
        rw [hsz, htx.lost ae hz] at hb4
        exact h1 H4 (hat3.out hs4 hb4) (hx rfl)
      | false =>
        rw [if_neg (by simp)]
        exact keep
    refine ⟨?_⟩
    unfold vizardlaw12_OutboxThere.J8.vc
    by_cases hl : (k : Int) < ln
    · rw [if_pos (by simpa using hl)]
      by_cases hl3 : (k : Int) < 300
      · rw [if_pos (by simpa using hl3)]
        obtain ⟨ll, hll⟩ := ha.l
        obtain ⟨la, x, hla, hlc⟩ := hll.get (i := k) (by omega)
        exact ⟨la, hla, by omega, by omega, x, cell_le hat3.st.le hlc, j9 (fun _ => by omega)⟩
      · rw [if_neg (by simpa using hl3)]
        exact j9 (fun c => by cases c)
    · rw [if_neg (by simpa using hl)]
      exact j9 (fun c => by cases c)
theorem vizardlaw12_OutboxThere.loop {Hb H0 : Heap} {T : ByteArray} (hT : T.size ≤ 3000) {mp lp wp : Option Addr} {mn mc ln lc wn wc : Nat} (ha : ThArgs Hb mp lp wp mn ln wn) {b ib im : Nat} {L : List Nat} {s0 : OB} (hat0 : ThAt Hb H0 b L ib im s0 bx0) (hth0 : Th T s0 bx0 0)
    {Kx : ByteArray → Heap → Prop} {Kr : Bool → Heap → Prop} {E : Value → Heap → Prop} (h : ∀ H s bx o, ThAt Hb H b L ib im s bx → Th T s bx o → (∀ (i : Nat) (x : UInt8), s.how[i]? = some x → x = 2) → s.fin = 2 → Kx (T.extract 0 o) H) :
    vizardlaw12_OutboxThere.W4 T mp mn mc lp ln lc wp wn wc (some ⟨b, 0, none⟩) (some ⟨ib, 0, none⟩) ⟨#[]⟩ 0 Kx Kr E H0 := by
  have hTl : T.data.toList.length = T.size := by rw [Array.length_toList]; rfl
  have hemp : T.extract 0 0 = ⟨#[]⟩ := by
    apply ByteArray.ext
    rw [ByteArray.data_extract]
    simp
  refine ⟨Loop.of (I := fun st H m => ∃ (k o : Nat) (s : OB) (bx : Bx), st = (T.extract 0 o, (k : Int)) ∧ k ≤ 4000 ∧ m = 4000 - k ∧ ThAt Hb H b L ib im s bx ∧ Th T s bx o ∧ (k ≤ 300 ∨ k - 300 ≤ s.first + (if s.fin = 0 then 0 else 1))) ?_
    ⟨0, 0, s0, bx0, by rw [hemp]; rfl, by decide, rfl, hat0, hth0, .inl (by decide)⟩⟩
  rintro m st H ⟨k, o, s, bx, rfl, hk, rfl, hat, hth, hpr⟩ RR hRR
  unfold vizardlaw12_OutboxThere.W4.vc
  dsimp only
  have hfl : s.first ≤ T.size := by
    have := runL_le (p := (· != 0)) s.how
    rw [hth.tx.len, hTl] at this
    exact this
  have hk4 : k < 4000 := by
    rcases hpr with h1 | h1
    · omega
    · split at h1 <;> omega
  rw [if_pos (by simp; omega)]
  have j13 : ∀ {H' : Heap} {s' : OB} {bx' : Bx} {o' : Nat}, ThAt Hb H' b L ib im s' bx' → Th T s' bx' o' → (k < 300 ∨ s.first + (if s.fin = 0 then 0 else 1) < s'.first + (if s'.fin = 0 then 0 else 1)) → vizardlaw12_OutboxThere.J13 T mp mn mc lp ln lc wp wn wc (some ⟨b, 0, none⟩) (some ⟨ib, 0, none⟩) (T.extract 0 o') k (fun i1 h4 => RR (T.extract 0 o', i1) h4) E H' := by
    intro H' s' bx' o' h1 h2 h3
    refine ⟨?_⟩
    unfold vizardlaw12_OutboxThere.J13.vc
    rw [w_i64 (by omega) (by omega)]
    refine hRR _ _ (4000 - (k + 1)) (by omega) ⟨k + 1, o', s', bx', by simp, by omega, rfl, h1, h2, ?_⟩
    rcases h3 with h3 | h3
    · exact .inl (by omega)
    · rcases hpr with h4 | h4
      · by_cases h5 : k + 1 ≤ 300
        · exact .inl h5
        · exact .inr (by omega)
      · exact .inr (by omega)
  have j6 : ∀ {most : Int}, 1 ≤ most → most ≤ 60 → vizardlaw12_OutboxThere.J6 T mp mn mc lp ln lc wp wn wc (some ⟨b, 0, none⟩) (some ⟨ib, 0, none⟩) (T.extract 0 o) k most Kx
      (fun out2 h3 => vizardlaw12_OutboxThere.J13 T mp mn mc lp ln lc wp wn wc (some ⟨b, 0, none⟩) (some ⟨ib, 0, none⟩) out2 k (fun i1 h4 => RR (out2, i1) h4) E h3)
      (fun out3 h5 => vizardlaw12_OutboxThere.J13 T mp mn mc lp ln lc wp wn wc (some ⟨b, 0, none⟩) (some ⟨ib, 0, none⟩) out3 k (fun i2 h6 => RR (out3, i2) h6) E h5) Kr E H := fun hm1 hm2 =>
    vizardlaw12_OutboxThere.turn hT ha hk4 hat hth hm1 hm2 (fun H' a1 a2 a3 => h H' s bx o a1 hth a2 a3) (fun H' a1 a2 => j13 a1 hth (.inl a2)) (fun H' s' bx' o' a1 a2 a3 => j13 a1 a2 (.inr a3))
  by_cases hkm : (k : Int) < mn
  · rw [if_pos (by simpa using hkm)]
    refine ⟨?_⟩
    unfold vizardlaw12_OutboxThere.J5.vc
    by_cases hk3 : (k : Int) < 300
    · rw [if_pos (by simpa using hk3)]
      obtain ⟨ml, hml⟩ := ha.m
      have hmlen := hml.len
      obtain ⟨x, hx⟩ : ∃ x, ml[k]? = some x := ⟨ml[k]'(by omega), List.getElem?_eq_getElem (by omega)⟩
      obtain ⟨a, ha2, hc⟩ := hml.get hx
      refine ⟨a, ha2, by omega, by omega, x, cell_le hat.st.le hc, by decide, ?_⟩
      obtain ⟨q, hq, hq2⟩ := u64_small (x := x) (m := 60) (by decide) (by decide)
      rw [hq, w_i64 (by omega) (by omega)]
      exact j6 (by omega) (by omega)
    · rw [if_neg (by simpa using hk3)]
      exact j6 (by decide) (by decide)
  · rw [if_neg (by simpa using hkm)]
    refine ⟨?_⟩
    unfold vizardlaw12_OutboxThere.J5.vc
    rw [if_neg (by simp)]
    exact j6 (by decide) (by decide)
theorem vizardlaw12_OutboxThere.main {Hb : Heap} {T : ByteArray} (hT : T.size ≤ 3000) {mp lp wp : Option Addr} {mn mc ln lc wn wc : Nat} (ha : ThArgs Hb mp lp wp mn ln wn) {Kr : Bool → Heap → Prop} {E : Value → Heap → Prop} (h : ∀ H, Heap.Le Hb H → Kr true H) :
    vizardlaw12_OutboxThere.J1 T mp mn mc lp ln lc wp wn wc Kr E Hb := by
  have hTl : T.data.toList.length = T.size := by rw [Array.length_toList]; rfl
  refine ⟨?_⟩
  unfold vizardlaw12_OutboxThere.J1.vc
  refine outbox_New.run fun b H0 hb0 hnb hle0 => ?_
  refine inbox_New.run fun ib im H1 hi1 hni hnm hle1 => ?_
  rw [if_neg (by simp)]
  have hb1 := hb0.le hle1
  have q1 : ib ∉ [b] := fun hm => hb0.live ib hm hni
  have q2 : im ∉ [b] := fun hm => hb0.live im hm hnm
  obtain ⟨w1, _, w2⟩ := ob0_write (d := T) (by omega)
  refine outbox_Box_Write.run hb1 (by show 0 + T.size ≤ _; omega) (by show 0 + T.size ≤ _; omega) fun L H2 hb2 hs2 => ?_
  rw [w2] at hb2
  rw [w1]
  refine ⟨?_⟩
  unfold vizardlaw12_OutboxThere.J2.vc
  rw [if_neg (by simp)]
  have hi2 := hi1
  obtain ⟨⟨eb, hbx⟩, ⟨es, clk, hmx, _⟩, _⟩ := hi2
  have k1 := hs2 ib _ hbx q1
  have k2 := hs2 im _ hmx q2
  have hst : Step [] Hb (ib :: im :: L) H2 := by
    intro k o hk _
    have a1 := hle0 k o hk
    have a2 := hle1 k o a1
    have n1 : k ∉ [b] := fun hm => by
      rw [List.mem_singleton] at hm
      subst hm
      rw [hnb] at hk; cases hk
    have a3 := hs2 k o a2 n1
    refine ⟨a3.1, fun hm => ?_⟩
    simp only [List.mem_cons] at hm
    rcases hm with rfl | rfl | hm
    · rw [hni] at a1; cases a1
    · rw [hnm] at a1; cases a1
    · exact a3.2 hm
  have hat : ThAt Hb H2 b L ib im (Sx T.data.toList 0 0 T.size) bx0 := ⟨hb2, hi1.keep (fun o ho => (hs2 ib o ho q1).1) (fun o ho => (hs2 im o ho q2).1), k1.2, k2.2, hst⟩
  have hth : Th T (Sx T.data.toList 0 0 T.size) bx0 0 := by
    have hg : ∀ (i : Nat) (x : UInt8), (Sx T.data.toList 0 0 T.size).how[i]? = some x → x = 0 := fun i x hx => by
      change (List.replicate T.data.toList.length 0)[i]? = some x at hx
      rw [List.getElem?_replicate] at hx
      by_cases hi : i < T.data.toList.length
      · rw [if_pos hi] at hx; exact (Option.some.inj hx).symm
      · rw [if_neg hi] at hx; cases hx
    refine ⟨⟨rfl, Sx.how_len, fun i x hx => .inl (hg i x hx), .inl rfl, rfl⟩, ⟨rfl, Nat.zero_le _, rfl, .inl rfl, by show (0 : Int) ≤ _; omega, fun n x hx => by cases hx⟩, fun i hi => ?_, (fun c => by cases c), rfl⟩
    have := hg i 2 hi
    cases this
  refine ⟨?_⟩
  unfold vizardlaw12_OutboxThere.J3.vc
  refine vizardlaw12_OutboxThere.loop hT ha hat hth fun H3 s bx o hat3 hth3 hall hfin => ?_
  obtain ⟨rfl, d2, d3⟩ := hth3.done hall hfin
  refine outbox_Box_State.run hat3.ob (by rw [hth3.tx.len]; omega) ?_
  refine inbox_Box_State.run hat3.box ?_
  rw [if_pos (by rw [d2, decide_eq_true ⟨by rw [hth3.tx.len, hTl], hfin⟩]), if_pos (by rw [d2]; simp), ext_all, if_pos (by simp), d3]
  exact h H3 hat3.st.le
theorem vizardlaw12_OutboxThere.run {H : Heap} {T : ByteArray} {mp lp wp : Option Addr} {mn mc ln lc wn wc : Nat} {K : Bool → Heap → Prop} {E : Value → Heap → Prop} (_ : T.size ≤ reachBytes) (_ : mn ≤ mc) (_ : mc * 8 ≤ reachBytes) (hm : ∃ rows, RowsAt H mp mn 1 rows ∧ ∀ es ∈ rows, ∃ y, es = [(.int .i64 y)] ∧ IntKind.i64.has y)
    (_ : ln ≤ lc) (_ : lc * 1 ≤ reachBytes) (hl : ∃ rows, RowsAt H lp ln 1 rows ∧ ∀ es ∈ rows, ∃ y, es = [(.bool y)]) (_ : wn ≤ wc) (_ : wc * 1 ≤ reachBytes) (hw : ∃ rows, RowsAt H wp wn 1 rows ∧ ∀ es ∈ rows, ∃ y, es = [(.bool y)]) (h : K true H) :
    vizardlaw12_OutboxThere.c T mp mn mc lp ln lc wp wn wc K E H := by
  obtain ⟨ml, hml, _⟩ := ints_of hm
  have ha : ThArgs H mp lp wp mn ln wn := ⟨⟨ml, hml⟩, bools_of hl, bools_of hw⟩
  refine ⟨?_⟩
  unfold vizardlaw12_OutboxThere.vc
  refine vizardlaw12_works.run ?_
  rw [if_neg (by simp)]
  by_cases hT : (T.size : Int) > 3000
  · rw [if_pos (by simpa using hT)]
    refine ⟨by decide, by omega, ?_⟩
    exact vizardlaw12_OutboxThere.main (by rw [ByteArray.size_extract]; omega) ha fun H' hl => ⟨H, hl, h⟩
  · rw [if_neg (by simpa using hT)]
    exact vizardlaw12_OutboxThere.main (by omega) ha fun H' hl => ⟨H, hl, h⟩
end Go.Sh
