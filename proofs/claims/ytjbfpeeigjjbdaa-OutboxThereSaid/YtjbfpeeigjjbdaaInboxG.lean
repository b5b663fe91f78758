/- InboxDoes: the box and the reference's box answer alike. -/
import Derived.Test.YtjbfpeeigjjbdaaInboxF
namespace Go.Sh
structure Rel (s r : Bx) : Prop where
  read : s.read = r.read
  size : s.size = r.size
  most : s.most = r.most
  reset : s.reset = r.reset
  f : ∀ n, s.f n = if r.read ≤ n then r.f n else none
theorem Rel.fits {s r : Bx} (h : Rel s r) (en : Int) (fin : Bool) : fitsE s en fin = fitsE r en fin := by
  unfold fitsE
  rw [h.read, h.size, h.most]
theorem Rel.putF {s r : Bx} (h : Rel s r) (off : Int) (data : ByteArray) (j n : Int) : putF s off data j n = if r.read ≤ n then putF r off data j n else none := by
  unfold Sh.putF
  rw [h.read, h.f n]
  by_cases h1 : r.read ≤ n
  · rw [if_pos h1, if_pos h1]
  · rw [if_neg h1, if_neg h1, if_neg (fun c => h1 c.2.2.1)]
theorem Rel.putE {s r : Bx} (h : Rel s r) (off : Int) (data : ByteArray) (fin : Bool) : putE s off data fin = putE r off data fin := by
  unfold Sh.putE
  rw [h.fits]
theorem Rel.putS {s r : Bx} (h : Rel s r) (off : Int) (data : ByteArray) (fin : Bool) : Rel (putS s off data fin) (putS r off data fin) := by
  unfold Sh.putS
  rw [h.fits, h.reset]
  split
  · refine ⟨h.read, ?_, ?_, h.reset, fun n => h.putF _ _ _ n⟩
    · show (if fin = true then _ else s.size) = _
      rw [h.size]
      rfl
    · show (if data.size = 0 then s.most else if _ > s.most then _ else s.most) = _
      rw [h.most]
      rfl
  · exact h
theorem Rel.resetE {s r : Bx} (h : Rel s r) (n : Int) : resetE s n = resetE r n := by
  unfold Sh.resetE
  rw [h.fits]
theorem Rel.resetS {s r : Bx} (h : Rel s r) (n : Int) : Rel (resetS s n) (resetS r n) := by
  unfold Sh.resetS
  rw [h.fits, h.size, h.read]
  split
  · exact ⟨rfl, rfl, h.most, rfl, h.f⟩
  · exact h
theorem Rel.take : ∀ (m : Nat) {s r : Bx}, Rel s r → (readL m s).1 = (takeL m r).1 ∧ Rel (readL m s).2 (takeL m r).2
  | 0, _, _, h => ⟨rfl, h⟩
  | m + 1, s, r, h => by
    have e : s.f s.read = r.f r.read := by rw [h.f, h.read, if_pos (Int.le_refl _)]
    unfold readL takeL
    rw [e, h.reset]
    split
    · exact ⟨rfl, h⟩
    · cases hc : r.f r.read with
      | none => exact ⟨rfl, h⟩
      | some c =>
        have hn : Rel s.next r.step := ⟨by show s.read + 1 = r.read + 1; rw [h.read], h.size, h.most, h.reset, fun n => by
          show (if n = s.read then none else s.f n) = if r.read + 1 ≤ n then r.f n else none
          rw [h.f, h.read]
          by_cases h1 : n = r.read
          · rw [if_pos h1, if_neg (by omega)]
          · rw [if_neg h1]
            by_cases h2 : r.read ≤ n
            · rw [if_pos h2, if_pos (by omega)]
            · rw [if_neg h2, if_neg (by omega)]⟩
        have := Rel.take m hn
        exact ⟨by dsimp only; rw [this.1], this.2⟩
theorem Rel.how {s r : Bx} (h : Rel s r) : howE s = howE r := by
  unfold howE
  rw [h.reset, h.size, h.read]
theorem takeL_fine : ∀ (m : Nat) (s : Bx), s.fine → (takeL m s).2.fine
  | 0, _, h => h
  | m + 1, s, h => by
    unfold takeL
    split
    · exact h
    · split
      · exact h
      · rename_i c hc
        exact takeL_fine m s.step (Bx.step_fine h hc)
theorem takeL_size : ∀ (m : Nat) (s : Bx), (takeL m s).2.size = s.size
  | 0, _ => rfl
  | m + 1, s => by
    unfold takeL
    split
    · rfl
    · split
      · rfl
      · exact takeL_size m s.step
theorem resetS_fine {s : Bx} (h : s.fine) (n : Int) : (resetS s n).fine := by
  unfold resetS
  split
  · exact h
  · exact h
theorem putS_size {s : Bx} (h : -1 ≤ s.size) (off : Int) (data : ByteArray) (fin : Bool) : -1 ≤ (putS s off data fin).size := by
  unfold putS
  split
  · rename_i hc
    have : 0 ≤ off ∧ off ≤ 4611686018427387903 := by simpa [placeOk] using hc.1
    show -1 ≤ (if fin = true then putEnd off data else s.size)
    unfold putEnd
    split <;> omega
  · exact h
theorem resetS_size {s : Bx} (h : -1 ≤ s.size) (n : Int) : -1 ≤ (resetS s n).size := by
  unfold resetS
  split
  · rename_i hc
    have : 0 ≤ n ∧ n ≤ 4611686018427387903 := by simpa [placeOk] using hc.1
    show -1 ≤ n
    omega
  · exact h
/-- All that is known but of some blocks stays. -/
def KeepL (bs : List Nat) (H H' : Heap) : Prop := ∀ k o, H k = some o → k ∉ bs → H' k = some o
theorem KeepL.refl (bs : List Nat) (H : Heap) : KeepL bs H H := fun _ _ h _ => h
theorem KeepL.trans {bs : List Nat} {H H1 H2 : Heap} (h : KeepL bs H H1) (k : KeepL bs H1 H2) : KeepL bs H H2 := fun i o hi h1 => k i o (h i o hi h1) h1
theorem Keep2.to {b mb : Nat} {H H' : Heap} (h : Keep2 b mb H H') {bs : List Nat} (h1 : b ∈ bs) (h2 : mb ∈ bs) : KeepL bs H H' := fun k o hk hn => h k o hk (fun e => hn (e ▸ h1)) (fun e => hn (e ▸ h2))
theorem Heap.Le.toKeep {H H' : Heap} (h : Heap.Le H H') (bs : List Nat) : KeepL bs H H' := fun k o hk _ => h k o hk
theorem KeepL.cell {bs : List Nat} {H H' : Heap} (h : KeepL bs H H') {a : Addr} {v : Value} (hc : H.cell? a = some v) (hn : a.block ∉ bs) : H'.cell? a = some v := by
  unfold Heap.cell? at hc ⊢
  cases ho : H a.block with
  | none => rw [ho] at hc; cases hc
  | some o => rw [h _ o ho hn]; rw [ho] at hc; exact hc
theorem KeepL.le {bs : List Nat} {H H' : Heap} (h : KeepL bs H H') (hn : ∀ b ∈ bs, H b = none) : Heap.Le H H' := fun k o hk => h k o hk fun hm => by rw [hn k hm] at hk; cases hk
theorem vizardlaw11_InboxDoes.loop {Hb H0 : Heap} {p : Option Addr} {n c b mb rb rm : Nat} {rows : List (List Value)} (hat : RowsAt Hb p n 5 rows) (hes : ∀ es ∈ rows, ∃ y0 y1 y2 y3 y4, es = [.int .i64 y0, .int .i64 y1, .string y2, .bool y3, .int .i64 y4] ∧ IntKind.i64.has y0 ∧ IntKind.i64.has y1 ∧ y2.size ≤ reachBytes ∧ IntKind.i64.has y4)
    (hk0 : KeepL [b, mb, rb, rm] Hb H0) (hn : ∀ k ∈ [b, mb, rb, rm], Hb k = none) (hb0 : BoxAt H0 b mb bx0) (hr0 : BoxAt H0 rb rm bx0) (ha : rb ≠ b ∧ rb ≠ mb ∧ rm ≠ b ∧ rm ≠ mb) {Kx : Heap → Prop} {K : Bool → Heap → Prop} {E : Value → Heap → Prop}
    (hx : ∀ H, KeepL [b, mb, rb, rm] Hb H → Kx H) (h : ∀ H, KeepL [b, mb, rb, rm] Hb H → K true H) : vizardlaw11_InboxDoes.W1 p n c (some ⟨b, 0, none⟩) (some ⟨rb, 0, none⟩) 0 Kx K E H0 := by
  have hlen := hat.1
  have hra : reachBytes = 140737488351232 := rfl
  have keepR : ∀ {H H' : Heap} {r : Bx}, BoxAt H rb rm r → Keep2 b mb H H' → BoxAt H' rb rm r := fun hr hk => hr.keep (fun o ho => hk rb o ho ha.1 ha.2.1) (fun o ho => hk rm o ho ha.2.2.1 ha.2.2.2)
  have keepB : ∀ {H H' : Heap} {s : Bx}, BoxAt H b mb s → Keep2 rb rm H H' → BoxAt H' b mb s := fun hb hk => hb.keep (fun o ho => hk b o ho (fun e => ha.1 e.symm) (fun e => ha.2.2.1 e.symm)) (fun o ho => hk mb o ho (fun e => ha.2.1 e.symm) (fun e => ha.2.2.2 e.symm))
  refine ⟨Loop.of (I := fun st H m => ∃ (k : Nat) (s r : Bx), st = (k : Int) ∧ k ≤ 100 ∧ m = 100 - k ∧ BoxAt H b mb s ∧ BoxAt H rb rm r ∧ Rel s r ∧ s.fine ∧ r.fine ∧ -1 ≤ r.size ∧ KeepL [b, mb, rb, rm] Hb H) ?_
    ⟨0, bx0, bx0, rfl, by decide, rfl, hb0, hr0, ⟨rfl, rfl, rfl, rfl, fun n => (ite_self none).symm⟩, bx0_fine, bx0_fine, by decide, hk0⟩⟩
  rintro m st H ⟨k, s, r, rfl, hk, rfl, hb, hr, hrel, hsf, hrf, hsz, hkeep⟩ RR hRR
  unfold vizardlaw11_InboxDoes.W1.vc
  by_cases hkn : (k : Int) < n
  · rw [if_pos (by simpa using hkn)]
    by_cases hk1 : (k : Int) < 100
    · rw [if_pos (by simpa using hk1)]
      refine ⟨?_⟩
      unfold vizardlaw11_InboxDoes.J2.vc
      obtain ⟨es, hget⟩ : ∃ es, rows[k]? = some es := ⟨rows[k]'(by omega), List.getElem?_eq_getElem (by omega)⟩
      obtain ⟨y0, y1, y2, y3, y4, rfl, i0, i1, i2, i4⟩ := hes es (List.mem_of_getElem? hget)
      obtain ⟨a, rfl, fc⟩ := hat.cell hget
      have fcH : ∀ (j : Nat) (v : Value), ([.int .i64 y0, .int .i64 y1, .string y2, .bool y3, .int .i64 y4] : List Value)[j]? = some v → H.cell? ((a.add (k * 5)).add j) = some v := fun j v hj => by
        refine hkeep.cell (fc j v hj) fun hm => ?_
        exact some_ne_none_block (fc j v hj) (hn _ hm) rfl
      -- the end of a turn
      have fin : ∀ {H1 : Heap} {s1 r1 : Bx}, BoxAt H1 b mb s1 → BoxAt H1 rb rm r1 → Rel s1 r1 → s1.fine → r1.fine → -1 ≤ r1.size → KeepL [b, mb, rb, rm] Hb H1 →
          vizardlaw11_InboxDoes.J3 (some a) n c (some ⟨b, 0, none⟩) (some ⟨rb, 0, none⟩) k (fun h9 => vizardlaw11_InboxDoes.J5 (some a) n c (some ⟨b, 0, none⟩) (some ⟨rb, 0, none⟩) k RR E h9) K E H1 := by
        intro H1 s1 r1 hb1 hr1 hrel1 hsf1 hrf1 hsz1 hk1
        refine ⟨?_⟩
        unfold vizardlaw11_InboxDoes.J3.vc
        refine inbox_Box_State.run hb1 ?_
        refine ⟨_, rfl, r1.read, hr1.cell rfl, ?_⟩
        rw [hrel1.read]
        refine (if_neg (by simp)).mpr (vizardref11_Box_Limit.run hr1 ?_)
        refine (if_neg (by simp)).mpr (vizardref11_Box_Ended.run hr1 ?_)
        refine ⟨?_⟩
        unfold vizardlaw11_InboxDoes.J4.vc
        rw [hrel1.how, if_neg (by simp)]
        refine ⟨?_⟩
        unfold vizardlaw11_InboxDoes.J5.vc
        rw [w_i64 (by omega) (by omega)]
        exact hRR _ _ (100 - (k + 1)) (by omega) ⟨k + 1, s1, r1, by simp, by omega, rfl, hb1, hr1, hrel1, hsf1, hrf1, hsz1, hk1⟩
      refine ⟨a, rfl, by omega, by omega, ?_⟩
      rw [Int.toNat_natCast]
      refine ⟨y0, fcH 0 _ rfl, y1, fcH 1 _ rfl, y2, fcH 2 _ rfl, y3, fcH 3 _ rfl, y4, fcH 4 _ rfl, ?_⟩
      intro b1 hb1n
      simp only [add_mk, Nat.zero_add, stc_set_iff]
      refine ⟨by simp, by simp, by simp, by simp, by simp, ?_⟩
      have e1 : (((((#[(.int .i64 0), (.int .i64 0), (.string (⟨#[]⟩ : ByteArray)), (.bool false), (.int .i64 0)] : Array Value).setIfInBounds 0 (.int .i64 y0)).setIfInBounds 1 (.int .i64 y1)).setIfInBounds 2 (.string y2)).setIfInBounds 3 (.bool y3)).setIfInBounds 4 (.int .i64 y4) = #[.int .i64 y0, .int .i64 y1, .string y2, .bool y3, .int .i64 y4] := rfl
      rw [e1]
      generalize hH2 : H.set b1 (.cells #[.int .i64 y0, .int .i64 y1, .string y2, .bool y3, .int .i64 y4] 60) = H2
      have hle2 : Heap.Le H H2 := by rw [← hH2]; exact Le_set hb1n _
      have hk2 : KeepL [b, mb, rb, rm] Hb H2 := hkeep.trans (hle2.toKeep _)
      have hb2 : BoxAt H2 b mb s := hb.keep (fun o => hle2 b o) (fun o => hle2 mb o)
      have hr2 : BoxAt H2 rb rm r := hr.keep (fun o => hle2 rb o) (fun o => hle2 rm o)
      have n1 : b1 ≠ b := fun e => hb.some_b (e ▸ hb1n)
      have n2 : b1 ≠ mb := fun e => hb.some_mb (e ▸ hb1n)
      have hloc : H2 b1 = some (.cells #[.int .i64 y0, .int .i64 y1, .string y2, .bool y3, .int .i64 y4] 60) := by rw [← hH2, set_self]
      have lc : ∀ {H3 : Heap}, H3 b1 = some (.cells #[.int .i64 y0, .int .i64 y1, .string y2, .bool y3, .int .i64 y4] 60) → ∀ (j : Nat) (v : Value), ([.int .i64 y0, .int .i64 y1, .string y2, .bool y3, .int .i64 y4] : List Value)[j]? = some v → H3.cell? ⟨b1, j, none⟩ = some v := fun h3 j v hj => by
        unfold Heap.cell?
        rw [h3]
        simpa using hj
      refine ⟨y2, lc hloc 2 _ rfl, ?_⟩
      dsimp only
      by_cases hbig : (y2.size : Int) > 6000
      · rw [if_pos (by simpa using hbig)]
        exact h _ hk2
      · rw [if_neg (by simpa using hbig)]
        refine ⟨y0, lc hloc 0 _ rfl, ?_⟩
        dsimp only
        by_cases hy0 : y0 = 0
        · rw [if_pos (by simp [hy0])]
          refine ⟨y1, lc hloc 1 _ rfl, y2, lc hloc 2 _ rfl, y3, lc hloc 3 _ rfl, y1, lc hloc 1 _ rfl, y2, lc hloc 2 _ rfl, y3, lc hloc 3 _ rfl, ?_⟩
          refine inbox_Box_Put.run hb2 i1 i2 fun H3 hb3 hk3 => ?_
          have hl3 := hk3 b1 _ hloc n1 n2
          have hr3 := keepR hr2 hk3
          refine ⟨⟨y3, lc hl3 3 _ rfl, rfl, rfl⟩, ⟨y2, lc hl3 2 _ rfl, rfl, rfl⟩, ⟨y1, lc hl3 1 _ rfl, rfl, rfl⟩, ?_⟩
          refine vizardref11_Box_Put.run hr3 hsz i1 i2 fun H4 hr4 hk4 => ?_
          rw [hrel.putE, if_neg (by simp)]
          exact fin (keepB hb3 hk4) hr4 (hrel.putS _ _ _) (putS_fine hsf i2) (putS_fine hrf i2) (putS_size hsz _ _ _) ((hk2.trans (hk3.to (by simp) (by simp))).trans (hk4.to (by simp) (by simp)))
        · rw [if_neg (by simpa using hy0)]
          by_cases hy1 : y0 = 1
          · rw [if_pos (by simp [hy1])]
            refine ⟨y1, lc hloc 1 _ rfl, y1, lc hloc 1 _ rfl, ?_⟩
            refine inbox_Box_Reset.run hb2 fun H3 hb3 hk3 => ?_
            have hl3 := hk3 b1 _ hloc n1 n2
            have hr3 := keepR hr2 hk3
            refine ⟨⟨y1, lc hl3 1 _ rfl, rfl, rfl⟩, ?_⟩
            refine vizardref11_Box_End.run hr3 hsz hrf.2.1 fun H4 hr4 hk4 => ?_
            rw [hrel.resetE, if_neg (by simp)]
            exact fin (keepB hb3 hk4) hr4 (hrel.resetS _) (resetS_fine hsf _) (resetS_fine hrf _) (resetS_size hsz _) ((hk2.trans (hk3.to (by simp) (by simp))).trans (hk4.to (by simp) (by simp)))
          · rw [if_neg (by simpa using hy1)]
            by_cases hy2 : y0 = 2
            · rw [if_pos (by simp [hy2])]
              refine ⟨y4, lc hloc 4 _ rfl, y4, lc hloc 4 _ rfl, ?_⟩
              refine inbox_Box_Read.run hb2 hsf fun H3 hb3 hk3 => ?_
              have hl3 := hk3 b1 _ hloc n1 n2
              have hr3 := keepR hr2 hk3
              refine ⟨⟨y4, lc hl3 4 _ rfl, rfl, rfl⟩, ?_⟩
              refine vizardref11_Box_Take.run hr3 hrf fun H4 hr4 hk4 => ?_
              have e := hrel.take y4.toNat
              rw [e.1, if_neg (by simp)]
              exact fin (keepB hb3 hk4) hr4 e.2 (readL_fine _ _ hsf) (takeL_fine _ _ hrf) (by rw [takeL_size]; exact hsz) ((hk2.trans (hk3.to (by simp) (by simp))).trans (hk4.to (by simp) (by simp)))
            · rw [if_neg (by simpa using hy2)]
              exact fin hb2 hr2 hrel hsf hrf hsz hk2
    · rw [if_neg (by simpa using hk1)]
      exact hx H hkeep
  · rw [if_neg (by simpa using hkn)]
    exact hx H hkeep
theorem vizardlaw11_InboxDoes.run {H : Heap} {p : Option Addr} {n c : Nat} {K : Bool → Heap → Prop} {E : Value → Heap → Prop} (_ : n ≤ c) (_ : c * 48 ≤ reachBytes)
    (hrows : ∃ rows, RowsAt H p n 5 rows ∧ ∀ es ∈ rows, ∃ y0 y1 y2 y3 y4, es = [.int .i64 y0, .int .i64 y1, .string y2, .bool y3, .int .i64 y4] ∧ IntKind.i64.has y0 ∧ IntKind.i64.has y1 ∧ y2.size ≤ reachBytes ∧ IntKind.i64.has y4) (h : K true H) : vizardlaw11_InboxDoes.c p n c K E H := by
  obtain ⟨rows, hat, hes⟩ := hrows
  refine ⟨?_⟩
  unfold vizardlaw11_InboxDoes.vc
  refine inbox_New.run fun b mb H1 hb1 hnb hnm hle1 => ?_
  refine vizardref11_New.run fun rb rm H2 hr2 hrb hrm hle2 => ?_
  rw [if_neg (by simp)]
  have hb2 : BoxAt H2 b mb bx0 := hb1.keep (fun o => hle2 b o) (fun o => hle2 mb o)
  have nn : ∀ {k : Nat}, H1 k = none → H k = none := fun {k} hk => by
    cases hh : H k with
    | none => rfl
    | some o => rw [hle1 k o hh] at hk; cases hk
  have hn : ∀ k ∈ [b, mb, rb, rm], H k = none := by
    intro k hk
    simp only [List.mem_cons, List.not_mem_nil, or_false] at hk
    rcases hk with rfl | rfl | rfl | rfl
    · exact hnb
    · exact hnm
    · exact nn hrb
    · exact nn hrm
  refine vizardlaw11_InboxDoes.loop hat hes ((hle1.trans hle2).toKeep _) hn hb2 hr2 ⟨fun e => hb1.some_b (e ▸ hrb), fun e => hb1.some_mb (e ▸ hrb), fun e => hb1.some_b (e ▸ hrm), fun e => hb1.some_mb (e ▸ hrm)⟩ (fun H3 hk3 => ⟨H, hk3.le hn, h⟩) (fun H3 hk3 => ⟨H, hk3.le hn, h⟩)
end Go.Sh
