/- A packet that comes once more changes nothing (part 28 of the walk and its laws) -/
import Derived.Test.YtkfkkkalcchpkaaGreatDoorTw2za
namespace Go.Sh
open Go.Proofs
set_option maxRecDepth 8000
section
variable {H : Heap} {E : Value → Heap → Prop}
def numRows (m : Nat) : List (List Value) := if m = 0 then [] else [[.int .i64 0, .int .i64 ((m - 1 : Nat) : Int)]]
def numLen (m : Nat) : Nat := if m = 0 then 0 else 1
def NumO (nb m : Nat) : Own := fun L H => ∃ p c, H nb = some (.cells #[.slice p (numLen m) c] 225) ∧ zlb H 251 2 p (numLen m) c (numRows m) ∧ nb ∉ bl p ∧ L = nb :: bl p
theorem NumO.good (nb m : Nat) : (NumO nb m).good := by
  refine ⟨?_, ?_⟩
  · rintro L M M' H H' ⟨p, c, hb, ho, hn, rfl⟩ hs hd
    exact ⟨p, c, (hs nb _ hb (hd nb (by simp))).1, ho.step hs fun k hk => hd k (by simp [hk]), hn, rfl⟩
  · rintro L H ⟨p, c, hb, ho, hn, rfl⟩ k hk
    rcases List.mem_cons.1 hk with rfl | hk
    · rw [hb]; simp
    · exact ho.live k hk
theorem slA0 {p : Option Addr} {c sz : Nat} : slA p c 0 sz = p := by
  unfold slA
  split
  · rfl
  · cases p with
    | none => rfl
    | some a => simp [Addr.add]
theorem acks_tail {nb m : Nat} (hm : m ≤ 1000000) {p : Option Addr} {c : Nat} {sb lb hb : Nat} {from' upto' : Int} (hnb : H nb = some (.cells #[.slice p (numLen m) c] 225)) (ho : zlb H 251 2 p (numLen m) c (numRows m)) (hnp : nb ∉ bl p) (hs : H sb = some (.cells #[.pointer (some ⟨nb, 0, none⟩)] 65)) (hl : H lb = some (.cells #[.int .i64 0] 2)) (hh : H hb = some (.cells #[.int .i64 m] 2))
    (hsp : sb ∉ nb :: bl p) (hf : from' = 0) (hu : upto' = (numLen m : Int)) {K : Int → Heap → Prop} (h : ∀ L' H', NumO nb (m + 1) L' H' → Step (nb :: bl p) H L' H' → K 0 H') :
    zbe.J1 ⟨sb, 0, none⟩ ⟨lb, 0, none⟩ ⟨hb, 0, none⟩ from' upto' K E H := by
  subst hf hu
  have hmx : (if ((numLen m : Nat) : Int) > 0 then ((numLen m : Nat) : Int) else 0) = (numLen m : Int) := by split <;> omega
  refine ⟨?_⟩
  unfold zbe.J1.vc
  refine ⟨_, cellA hs, _, cellA hs, _, rfl, _, _, _, loc (o := 0) hnb rfl, _, cellA hl, _, cellA hh, zna fun bx H1 hn1 hl1 hle1 => ?_⟩
  refine ⟨⟨rfl, rfl⟩, ⟨_, _, _, loc (o := 0) (hle1 _ _ hnb) rfl, rfl, rfl⟩, ⟨_, cellA (hle1 _ _ hs), rfl, rfl⟩, ⟨_, cellA (hle1 _ _ hs), rfl, rfl⟩, ?_⟩
  rw [hmx]
  have hrow : RowsAt H1 (some ⟨bx, 0, none⟩) 1 2 [[.int .i64 0, .int .i64 m]] := by
    refine ⟨rfl, (fun e => by cases e), fun a ha j es hj => ?_⟩
    cases ha
    match j with
    | 0 =>
      simp at hj; subst hj
      refine ⟨rfl, fun q v hq => ?_⟩
      rw [Nat.zero_mul]
      exact loc (o := q) hl1 (by rw [← Array.getElem?_toList]; exact hq)
    | j + 1 => simp at hj
  have hn01 : numLen m ≤ 1 := by unfold numLen; split <;> omega
  have hnc := ho.2.2.1
  -- behind the new row
  have fin : ∀ {p' : Option Addr} {c' : Nat} {H2 : Heap}, zlb H2 251 2 p' 1 c' [[.int .i64 0, .int .i64 m]] → Step (bl p) H1 (bl p') H2 →
      (ldP H2 ⟨sb, 0, none⟩ fun x15 => eqv H2 H2 (some (.pointer (some ⟨nb, 0, none⟩))) (.pointer x15)) ∧
      nilc (some ⟨nb, 0, none⟩) fun a1 =>
      stc H2 (a1.add 0) (.slice p' 1 c') fun h3 =>
      ldP h3 ⟨sb, 0, none⟩ fun x16 =>
      ldP h3 ⟨sb, 0, none⟩ fun x17 =>
      nilc x17 fun a2 =>
      ldSl h3 (a2.add 0) fun x18 x19 x20 =>
      ldP h3 ⟨sb, 0, none⟩ fun x21 =>
      nilc x21 fun a3 =>
      ldSl h3 (a3.add 0) fun x22 x23 x24 =>
      (0 : Int) ≤ (if (16 : Int) < (x23 : Int) then 16 else (x23 : Int)) ∧ (if (16 : Int) < (x23 : Int) then 16 else (x23 : Int)) ≤ (x20 : Int) ∧
      nilc x16 fun a4 =>
      stc h3 (a4.add 0) (.slice (slA x18 x20 0 2) (if (16 : Int) < (x23 : Int) then 16 else (x23 : Int)).toNat x20) fun h4 =>
      K 0 h4 := fun {p' c' H2} h2 hs2 => by
    obtain ⟨hb2, hnp2⟩ := hs2 nb _ (hle1 _ _ hnb) hnp
    have hsb : sb ∉ bl p := fun hm => hsp (by simp [hm])
    obtain ⟨hs3, hsp2⟩ := hs2 sb _ (hle1 _ _ hs) hsb
    have nsn : sb ≠ nb := fun e => hsp (by rw [e]; simp)
    have h1c := h2.2.2.1
    refine ⟨⟨_, cellA hs3, rfl, rfl⟩, _, rfl, stc_at (o := 0) (arr' := #[.slice p' 1 c']) hb2 (show 0 < 1 by decide) rfl ?_⟩
    have hs4 : (H2.set nb (.cells #[.slice p' 1 c'] 225)) sb = some (.cells #[.pointer (some ⟨nb, 0, none⟩)] 65) := by rw [set_ne _ _ nsn]; exact hs3
    refine ⟨_, cellA hs4, _, cellA hs4, _, rfl, _, _, _, loc (o := 0) (set_self _ _ _) rfl, _, cellA hs4, _, rfl, _, _, _, loc (o := 0) (set_self _ _ _) rfl, ?_⟩
    refine ⟨by decide, by rw [if_neg (by decide)]; omega, _, rfl, ?_⟩
    rw [slA0, if_neg (by decide)]
    refine stc_at (o := 0) (arr' := #[.slice p' 1 c']) (set_self _ _ _) (show 0 < 1 by decide) rfl ?_
    rw [zdc]
    have e1 : numLen (m + 1) = 1 := rfl
    have e2 : numRows (m + 1) = [[.int .i64 0, .int .i64 m]] := rfl
    refine h (nb :: bl p') _ ⟨p', c', by rw [e1]; exact set_self _ _ _, ?_, hnp2, rfl⟩ fun k o hk hn => ?_
    · rw [e1, e2]
      refine h2.keep fun ob o hp hob => ?_
      rw [set_ne _ _ (fun e => hnp2 (by rw [hp, ← e]; simp [bl]))]
      exact hob
    · have kl : k ≠ nb := fun e => hn (by rw [e]; simp)
      obtain ⟨k1, k2⟩ := hs2 k o (hle1 _ _ hk) (fun hm => hn (by simp [hm]))
      exact ⟨by rw [set_ne _ _ kl]; exact k1, by simp [kl, k2]⟩
  have app : ∀ {Kr : Option Addr → Nat → Nat → Heap → Prop}, (∀ p' c' H2, zlb H2 251 2 p' 1 c' [[.int .i64 0, .int .i64 m]] → Step (bl p) H1 (bl p') H2 → Kr p' 1 c' H2) →
      ∀ cs0, cs0 = [Value.int .i64 0, .int .i64 m] → appT 251 (.agg #[(.int .i64 0), (.int .i64 0)]) p 0 1 c 2 16 cs0 Kr H1 := fun {Kr} hk cs0 hcs => by
    have ho0 : zlb H1 251 2 p 0 c [] := by
      obtain ⟨a1, a2, a3, a4⟩ := ho.le hle1
      refine ⟨rfl, by simp, Nat.zero_le _, ?_⟩
      rcases a4 with h4 | ⟨b, arr, r1, r2, r3, r4⟩
      · exact .inl h4
      · exact .inr ⟨b, arr, r1, r2, r3, by simp⟩
    refine appT_step (xs := [[.int .i64 0, .int .i64 m]]) ho0 (by decide) rfl hcs rfl (by simp) ?_ (by decide) (by decide) fun p' c' H2 h2 hs2 => hk p' c' H2 h2 hs2
    intro v hv
    rw [hcs] at hv
    simp at hv
    rcases hv with rfl | rfl <;> rfl
  refine ⟨?_⟩
  unfold zyb.vc
  refine ⟨by decide, by omega, by omega, ?_⟩
  by_cases h0 : m = 0
  · have e0 : numLen m = 0 := by unfold numLen; rw [if_pos h0]
    rw [if_pos (by rw [beq_iff_eq, e0]; rfl)]
    refine ⟨?_⟩
    unfold znc.vc
    refine ⟨by decide, by omega, by omega, ?_⟩
    rw [if_neg (by decide), if_pos (by rw [beq_iff_eq, e0]; rfl)]
    refine rdRow_of hrow (by decide) rfl ?_
    rw [e0]
    refine app (fun p' c' H2 h2 hs2 => ⟨H2, Heap.Le.refl _, H2, Heap.Le.refl _, fin h2 hs2⟩) _ rfl
  · have e0 : numLen m = 1 := by unfold numLen; rw [if_neg h0]
    rw [if_neg (by rw [beq_iff_eq, e0]; decide), if_pos (by rw [beq_iff_eq])]
    refine ⟨by decide, by omega, rdRow_of hrow (by decide) rfl ?_⟩
    rw [slA0]
    refine app (fun p' c' H2 h2 hs2 => ⟨?_⟩) _ rfl
    unfold zyb.J1.vc
    rw [if_neg (by rw [e0]; decide)]
    exact ⟨H2, Heap.Le.refl _, fin h2 hs2⟩
theorem sort1_zero {f0 f1 : Addr} {K : Int → Heap → Prop} (h : K 0 H) : zie.c 0 f0 f1 K E H := by
  refine ⟨⟨?_⟩⟩
  refine Loop.of (I := fun st H' m => st = ((0 : Int), (0 : Int)) ∧ H' = H) ?_ (n := 0) ⟨rfl, rfl⟩
  rintro m st H' ⟨rfl, rfl⟩ RR hRR
  unfold zie.W1.vc
  rw [if_neg (by decide)]
  exact ⟨H', Heap.Le.refl _, h⟩
theorem sort2_zero {f0 f1 : Addr} {K : Int → Heap → Prop} (h : K 0 H) : zhe.c 0 f0 f1 K E H := by
  refine ⟨⟨?_⟩⟩
  refine Loop.of (I := fun st H' m => st = ((0 : Int), (0 : Int)) ∧ H' = H) ?_ (n := 0) ⟨rfl, rfl⟩
  rintro m st H' ⟨rfl, rfl⟩ RR hRR
  unfold zhe.W1.vc
  rw [if_neg (by decide)]
  exact ⟨H', Heap.Le.refl _, h⟩
theorem sort1_one {f0 f1 : Addr} (hf : ∀ {K : Bool → Heap → Prop} {E : Value → Heap → Prop}, K true H → zrf.c 0 f0 f1 K E H) {K : Int → Heap → Prop} (h : K 0 H) : zie.c 1 f0 f1 K E H := by
  refine ⟨⟨?_⟩⟩
  refine Loop.of (I := fun st H' m => (st = ((0 : Int), (m : Int)) ∧ (m = 0 ∨ m = 1)) ∧ H' = H) ?_ (n := 1) ⟨⟨rfl, .inr rfl⟩, rfl⟩
  rintro m st H' ⟨⟨rfl, hm⟩, rfl⟩ RR hRR
  unfold zie.W1.vc
  dsimp only
  rcases hm with rfl | rfl
  · rw [if_neg (by decide)]
    exact ⟨H', Heap.Le.refl _, h⟩
  · rw [if_pos (by decide)]
    refine ⟨by decide, ?_⟩
    have e : IntKind.i64.wrap (shrI .u64 (IntKind.u64.wrap (IntKind.i64.wrap (0 + ((1 : Nat) : Int)))) 1) = 0 := by decide
    rw [e]
    refine hf ?_
    rw [if_neg (by decide)]
    exact hRR (_, _) _ 0 (by decide) ⟨⟨rfl, .inl rfl⟩, rfl⟩
theorem sort2_one {f0 f1 : Addr} (hf : ∀ {K : Bool → Heap → Prop} {E : Value → Heap → Prop}, K false H → zpf.c 0 f0 f1 K E H) {K : Int → Heap → Prop} (h : K 1 H) : zhe.c 1 f0 f1 K E H := by
  refine ⟨⟨?_⟩⟩
  refine Loop.of (I := fun st H' m => (st = ((1 - m : Int), (1 : Int)) ∧ (m = 0 ∨ m = 1)) ∧ H' = H) ?_ (n := 1) ⟨⟨rfl, .inr rfl⟩, rfl⟩
  rintro m st H' ⟨⟨rfl, hm⟩, rfl⟩ RR hRR
  unfold zhe.W1.vc
  dsimp only
  rcases hm with rfl | rfl
  · rw [if_neg (by decide)]
    exact ⟨H', Heap.Le.refl _, h⟩
  · rw [if_pos (by decide)]
    refine ⟨by decide, ?_⟩
    have e : IntKind.i64.wrap (shrI .u64 (IntKind.u64.wrap (IntKind.i64.wrap ((1 - ((1 : Nat) : Int)) + 1))) 1) = 0 := by decide
    rw [e]
    refine hf ?_
    rw [if_pos (by decide)]
    exact hRR (_, _) _ 0 (by decide) ⟨⟨rfl, .inl rfl⟩, rfl⟩
theorem zbe.run {nb m : Nat} (hm : m ≤ 1000000) {L : List Nat} (hw : NumO nb m L H) {K : Int → Heap → Prop} (h : ∀ L' H', NumO nb (m + 1) L' H' → Step L H L' H' → K 0 H') : zbe.c (some ⟨nb, 0, none⟩) m m K E H := by
  have hw0 := hw
  obtain ⟨p, c, hnb, ho, hnp, rfl⟩ := hw
  have hlv := (NumO.good nb m).live hw0
  refine ⟨?_⟩
  unfold zbe.vc
  refine zna fun sb H1 hn1 hl1 hle1 => zna fun lb H2 hn2 hl2 hle2 => zna fun hb H3 hn3 hl3 hle3 => ?_
  have l3 := (hle1.trans hle2).trans hle3
  have hs3 := hle3 _ _ (hle2 _ _ hl1)
  have hl3' := hle3 _ _ hl2
  have hsp : sb ∉ nb :: bl p := fun hm => hlv sb hm hn1
  have hlp : lb ∉ nb :: bl p := fun hm => by
    cases e : H lb with
    | none => exact hlv lb hm e
    | some o => rw [hle1 _ _ e] at hn2; cases hn2
  have hhp : hb ∉ nb :: bl p := fun hm => by
    cases e : H hb with
    | none => exact hlv hb hm e
    | some o => rw [hle2 _ _ (hle1 _ _ e)] at hn3; cases hn3
  have nsl : sb ≠ lb := fun e => by rw [e] at hl1; rw [hl1] at hn2; cases hn2
  have nsh : sb ≠ hb := fun e => by rw [e] at hl1; rw [hle2 _ _ hl1] at hn3; cases hn3
  have nlh : lb ≠ hb := fun e => by rw [e] at hl2; rw [hl2] at hn3; cases hn3
  have hsH : H sb = none := hn1
  refine ⟨_, cellA hl3', _, cellA hl3, ⟨?_⟩⟩
  unfold acks_fine.vc
  rw [if_pos (by rw [decide_eq_true_eq]; omega), if_pos (by rw [decide_eq_true_eq]; exact Int.le_refl _), decide_eq_true (by omega)]
  refine ⟨H3, Heap.Le.refl _, ?_⟩
  rw [if_neg (by decide)]
  refine ⟨_, cellA hs3, _, rfl, _, _, _, loc (o := 0) (l3 _ _ hnb) rfl, ?_⟩
  have fin : ∀ {H' : Heap} {f u : Int}, H' nb = H3 nb → zlb H' 251 2 p (numLen m) c (numRows m) → H' sb = H3 sb → H' lb = some (.cells #[.int .i64 0] 2) → H' hb = some (.cells #[.int .i64 m] 2) → (∀ k o, H k = some o → H' k = some o) → f = 0 → u = (numLen m : Int) →
      zbe.J1 ⟨sb, 0, none⟩ ⟨lb, 0, none⟩ ⟨hb, 0, none⟩ f u (fun r H => ∃ H', Heap.Le H' H ∧ K r H') E H' := fun {H' f u} e1 e2 e3 e4 e5 e6 e7 e8 => by
    refine acks_tail hm (by rw [e1]; exact l3 _ _ hnb) e2 hnp (by rw [e3]; exact hs3) e4 e5 hsp e7 e8 fun L' H'' h1 h2 => ⟨H'', Heap.Le.refl _, h L' H'' h1 fun k o hk hn => h2 k o (e6 k o hk) hn⟩
  by_cases h0 : m = 0
  · have e0 : numLen m = 0 := by unfold numLen; rw [if_pos h0]
    rw [e0]
    refine sort1_zero ⟨_, cellA hs3, _, rfl, _, _, _, loc (o := 0) (l3 _ _ hnb) rfl, ?_⟩
    rw [e0]
    refine sort2_zero ?_
    rw [if_neg (by decide)]
    subst h0
    exact fin rfl (ho.le l3) rfl hl3' hl3 l3 rfl (by rw [e0]; rfl)
  · have e0 : numLen m = 1 := by unfold numLen; rw [if_neg h0]
    have er : numRows m = [[.int .i64 0, .int .i64 ((m - 1 : Nat) : Int)]] := by unfold numRows; rw [if_neg h0]
    rw [e0]
    have hrow := (ho.le l3).at
    rw [e0, er] at hrow
    obtain ⟨a, ha, hc⟩ := RowsAt.cell hrow (i := 0) (es := [.int .i64 0, .int .i64 ((m - 1 : Nat) : Int)]) rfl
    have hnb3 := l3 _ _ hnb
    have c0 := hc 0 _ rfl
    have c1 := hc 1 _ rfl
    refine sort1_one (fun {K E} hk => ⟨?_⟩) ⟨_, cellA hs3, _, rfl, _, _, _, loc (o := 0) hnb3 rfl, ?_⟩
    · unfold zrf.vc
      refine ⟨_, cellA hs3, _, rfl, _, _, _, loc (o := 0) hnb3 rfl, a, ha, by decide, by rw [e0]; decide, _, c0, _, cellA hl3, ?_⟩
      dsimp only
      rw [if_pos (by rw [decide_eq_true_eq]; omega)]
      exact ⟨H3, Heap.Le.refl _, hk⟩
    rw [e0]
    refine sort2_one (fun {K E} hk => ⟨?_⟩) ?_
    · unfold zpf.vc
      refine ⟨_, cellA hs3, _, rfl, _, _, _, loc (o := 0) hnb3 rfl, a, ha, by decide, by rw [e0]; decide, _, c1, _, cellA hl3', ?_⟩
      dsimp only
      rw [if_pos (by rw [decide_eq_true_eq]; omega)]
      refine ⟨_, cellA hl3', _, cellA hs3, _, rfl, _, _, _, loc (o := 0) hnb3 rfl, a, ha, by decide, by rw [e0]; decide, _, c1, ?_⟩
      dsimp only
      rw [w_i64 (by omega) (by omega), decide_eq_false (by omega)]
      exact ⟨H3, Heap.Le.refl _, hk⟩
    rw [if_pos (by decide)]
    refine ⟨_, cellA hl3', _, cellA hs3, _, rfl, _, _, _, loc (o := 0) hnb3 rfl, a, ha, by decide, by rw [e0]; decide, _, c0, _, cellA hl3, _, cellA hs3, _, rfl, _, _, _, loc (o := 0) hnb3 rfl, a, ha, by decide, by rw [e0]; decide, _, c1, ?_⟩
    dsimp only
    rw [if_pos (by omega : (0 : Int) < (m : Int)), if_neg (by omega : ¬ ((m - 1 : Nat) : Int) > (m : Int))]
    refine stc_one hl3' ?_
    obtain ⟨H4, hH4⟩ : ∃ H4, H4 = H3.set lb (.cells #[.int .i64 0] 2) := ⟨_, rfl⟩
    rw [← hH4]
    have hst : Step [lb] H3 [lb] H4 := by rw [hH4]; exact Step.set _ _ _
    have hlH : H lb = none := by
      cases e : H lb with
      | none => rfl
      | some o => rw [hle1 _ _ e] at hn2; cases hn2
    have nb4 : H4 nb = some _ := (hst nb _ hnb3 (by rw [List.mem_singleton]; exact fun e => hlp (by rw [← e]; simp))).1
    have sb4 : H4 sb = some _ := (hst sb _ hs3 (by simpa using nsl)).1
    have hb4 : H4 hb = some _ := (hst hb _ hl3 (by simpa using Ne.symm nlh)).1
    have ho4 : zlb H4 251 2 p (numLen m) c (numRows m) := (ho.le l3).step hst fun k hk hm => by
      rw [List.mem_singleton] at hm
      exact hlp (by rw [← hm]; simp [hk])
    have hrow4 := ho4.at
    rw [e0, er] at hrow4
    obtain ⟨a4, ha4, hc4⟩ := RowsAt.cell hrow4 (i := 0) (es := [.int .i64 0, .int .i64 ((m - 1 : Nat) : Int)]) rfl
    rw [ha] at ha4
    cases ha4
    refine ⟨⟨rfl, rfl⟩, ⟨_, hc4 1 _ rfl, rfl, rfl⟩, ⟨_, _, _, loc (o := 0) nb4 rfl, rfl, rfl⟩, ⟨_, cellA sb4, rfl, rfl⟩, ⟨_, cellA hb4, rfl, rfl⟩, ?_⟩
    refine stc_one hb4 ?_
    have hhH : H hb = none := by
      cases e : H hb with
      | none => rfl
      | some o => rw [hle2 _ _ (hle1 _ _ e)] at hn3; cases hn3
    have hst5 := Step.set H4 hb (.cells #[.int .i64 m] 2)
    refine fin ?_ (ho4.step hst5 fun k hk hm => ?_) ?_ ?_ (set_self _ _ _) (fun k o hk => ?_) rfl (by rw [e0]; rfl)
    · rw [set_ne _ _ (fun e => hhp (by rw [← e]; simp)), nb4, hnb3]
    · rw [List.mem_singleton] at hm
      exact hhp (by rw [← hm]; simp [hk])
    · rw [set_ne _ _ nsh, sb4, hs3]
    · rw [set_ne _ _ nlh, hH4]
      exact set_self _ _ _
    · have kl : k ≠ lb := fun e => by rw [e, hlH] at hk; cases hk
      have kh : k ≠ hb := fun e => by rw [e, hhH] at hk; cases hk
      rw [set_ne _ _ kh]
      exact (hst k o (l3 _ _ hk) (by simpa using kl)).1
end
end Go.Sh
namespace Go.Sh
def bget (s : ByteArray) (i : Int) : UInt8 := s.data.toList.getD i.toNat 0
structure Bx where
  f : Int → Option UInt8
  read : Int
  size : Int
  most : Int
  reset : Bool
def Bx.cells (s : Bx) (mb : Nat) : Array Value := #[.map (some mb), .int .i64 s.read, .int .i64 s.size, .int .i64 s.most, .bool s.reset]
structure BoxAt (H : Heap) (b mb : Nat) (s : Bx) : Prop where
  box : ∃ e, H b = some (.cells (s.cells mb) e)
  map : MapOf H mb .i64 (fun n => (s.f n).map byV)
  ne : b ≠ mb
def Keep2 (b mb : Nat) (H H' : Heap) : Prop := ∀ k o, H k = some o → k ≠ b → k ≠ mb → H' k = some o
theorem Keep2.refl (b mb : Nat) (H : Heap) : Keep2 b mb H H := fun _ _ h _ _ => h
theorem Keep2.trans {b mb : Nat} {H H1 H2 : Heap} (h : Keep2 b mb H H1) (k : Keep2 b mb H1 H2) : Keep2 b mb H H2 := fun i o hi h1 h2 => k i o (h i o hi h1 h2) h1 h2
theorem BoxAt.cell {H : Heap} {b mb : Nat} {s : Bx} (h : BoxAt H b mb s) {o : Nat} {v : Value} (hv : (s.cells mb)[o]? = some v) : H.cell? ((⟨b, 0, none⟩ : Addr).add o) = some v := by
  obtain ⟨e, he⟩ := h.box
  rw [add_mk, Nat.zero_add]
  unfold Heap.cell?
  rw [he]
  simpa using hv
theorem MapOf.keep {H H' : Heap} {r : Nat} {k : IntKind} {f : Int → Option Value} (h : MapOf H r k f) (he : H' r = H r) : MapOf H' r k f := by
  obtain ⟨es, clk, h1, h2⟩ := h
  exact ⟨es, clk, by rw [he]; exact h1, h2⟩
theorem stc_bx {H : Heap} {b o : Nat} {arr : Array Value} {e : TypeId} {v : Value} {K : Heap → Prop} (hb : H b = some (.cells arr e)) (ho : o < arr.size) (h : K (H.set b (.cells (arr.setIfInBounds o v) e))) : stc H ((⟨b, 0, none⟩ : Addr).add o) v K := by
  rw [add_mk, Nat.zero_add]
  refine ⟨by simp [Heap.cell?, hb, ho], by simp [Heap.frozen?, hb], ?_⟩
  have : H.setCell ⟨b, o, none⟩ v = H.set b (.cells (arr.setIfInBounds o v) e) := by
    funext i
    by_cases hi : i = b <;> simp [Heap.setCell, Heap.upd, Heap.set, Heap.setObj, hi, hb]
  rw [this]; exact h
theorem BoxAt.set {H : Heap} {b mb : Nat} {s s' : Bx} (h : BoxAt H b mb s) {o : Nat} {v : Value} {K : Heap → Prop} (hs : (s.cells mb).setIfInBounds o v = s'.cells mb) (hf : s'.f = s.f) (ho : o < 5) (hk : ∀ H', BoxAt H' b mb s' → Keep2 b mb H H' → K H') : stc H ((⟨b, 0, none⟩ : Addr).add o) v K := by
  obtain ⟨e, he⟩ := h.box
  refine stc_bx he (by simpa [Bx.cells] using ho) (hk _ ⟨⟨e, by rw [set_self, hs]⟩, ?_, h.ne⟩ fun k o' hk' h1 _ => by rw [set_ne _ _ h1]; exact hk')
  rw [hf]
  exact h.map.keep (set_ne _ _ (fun e => h.ne e.symm))
def bx0 : Bx := ⟨fun _ => none, 0, -1, 0, false⟩
theorem inbox_New.run {H : Heap} {K : Option Addr → Heap → Prop} {E : Value → Heap → Prop} (h : ∀ b mb H', BoxAt H' b mb bx0 → H b = none → H mb = none → Heap.Le H H' → K (some ⟨b, 0, none⟩) H') : inbox_New.c K E H := by
  refine ⟨?_⟩
  unfold inbox_New.vc
  intro mb hmb b hb
  have hne : b ≠ mb := fun e => by subst e; rw [set_self] at hb; cases hb
  have hHb : H b = none := by rw [set_ne _ _ hne] at hb; exact hb
  refine ⟨_, Heap.Le.refl _, h b mb _ ⟨⟨185, by rw [set_self]; rfl⟩, ?_, hne⟩ hHb hmb ((Le_set hmb _).trans (Le_set hb _))⟩
  refine ⟨#[], 0, by rw [set_ne _ _ (fun e => hne e.symm), set_self], (fun e he => by simp at he), by simp, fun n => rfl⟩
def placeOk (n : Int) : Bool := decide (0 ≤ n ∧ n ≤ 4611686018427387903)
theorem zof.run {n : Int} {K : Bool → Heap → Prop} {E : Value → Heap → Prop} {H : Heap} (h : K (placeOk n) H) : zof.c n K E H := by
  refine ⟨?_⟩
  unfold zof.vc
  by_cases h0 : n ≥ 0
  · rw [if_pos (by simpa using h0)]
    have h0' : 0 ≤ n := h0
    exact ⟨H, Heap.Le.refl H, by simpa [placeOk, h0'] using h⟩
  · rw [if_neg (by simpa using h0)]
    have h0' : ¬ 0 ≤ n := h0
    exact ⟨H, Heap.Le.refl H, by simpa [placeOk, h0'] using h⟩
def fitsE (s : Bx) (en : Int) (fin : Bool) : Int :=
  if en > IntKind.i64.wrap (s.read + 4096) then 12
  else if s.size ≠ -1 ∧ (en > s.size ∨ (fin = true ∧ en < s.size)) then 13
  else if fin = true ∧ s.most > en then 13 else 0
theorem ztb.J2.run {x : Bool} {H : Heap} {Kn : Heap → Prop} {Kr : Int → Heap → Prop} {E : Value → Heap → Prop} (h1 : x = true → Kr 13 H) (h2 : x = false → Kn H) : ztb.J2 x Kn Kr E H := by
  refine ⟨?_⟩
  unfold ztb.J2.vc
  cases x with
  | true => rw [if_pos rfl]; exact h1 rfl
  | false => rw [if_neg (by simp)]; exact h2 rfl
theorem ztb.J1.run {H : Heap} {b mb : Nat} {s : Bx} (hb : BoxAt H b mb s) {en : Int} {fin x : Bool} {Kn : Heap → Prop} {Kr : Int → Heap → Prop} {E : Value → Heap → Prop} (h1 : (x = true ∨ (fin = true ∧ s.most > en)) → Kr 13 H) (h2 : x = false → ¬ (fin = true ∧ s.most > en) → Kn H) : ztb.J1 (some ⟨b, 0, none⟩) en fin x Kn Kr E H := by
  refine ⟨?_⟩
  unfold ztb.J1.vc
  cases x with
  | true => rw [if_pos rfl]; exact h1 (.inl rfl)
  | false =>
    rw [if_neg (by simp)]
    cases fin with
    | true =>
      rw [if_pos rfl]
      refine ⟨_, rfl, s.most, hb.cell rfl, ztb.J2.run (fun e => h1 (.inr ⟨rfl, by simpa using e⟩)) (fun e => h2 rfl fun h => ?_)⟩
      have : ¬ s.most > en := by simpa using e
      exact this h.2
    | false =>
      rw [if_neg (by simp)]
      exact ztb.J2.run (fun e => by cases e) (fun _ => h2 rfl fun h => by cases h.1)
theorem ztb.run {H : Heap} {b mb : Nat} {s : Bx} (hb : BoxAt H b mb s) {en : Int} {fin : Bool} {K : Int → Heap → Prop} {E : Value → Heap → Prop} (h : K (fitsE s en fin) H) : ztb.c (some ⟨b, 0, none⟩) en fin K E H := by
  refine ⟨?_⟩
  unfold ztb.vc
  refine ⟨_, rfl, s.read, hb.cell rfl, ?_⟩
  by_cases h1 : en > IntKind.i64.wrap (s.read + 4096)
  · refine (if_pos (by simpa using h1)).mpr ⟨H, Heap.Le.refl H, ?_⟩
    rw [show (12 : Int) = fitsE s en fin by unfold fitsE; rw [if_pos h1]]
    exact h
  · refine (if_neg (by simpa using h1)).mpr ⟨_, rfl, s.size, hb.cell rfl, ?_⟩
    have j1 : ∀ {x : Bool}, (x = true ↔ s.size ≠ -1 ∧ (en > s.size ∨ (fin = true ∧ en < s.size))) →
        ztb.J1 (some ⟨b, 0, none⟩) en fin x (fun h1 => ∃ H', Heap.Le H' h1 ∧ K 0 H') (fun x3 h2 => ∃ H', Heap.Le H' h2 ∧ K x3 H') E H := by
      intro x hx
      refine ztb.J1.run hb (fun e => ⟨H, Heap.Le.refl H, ?_⟩) (fun e1 e2 => ⟨H, Heap.Le.refl H, ?_⟩)
      · rw [show (13 : Int) = fitsE s en fin by
          unfold fitsE
          rw [if_neg h1]
          by_cases hc : s.size ≠ -1 ∧ (en > s.size ∨ (fin = true ∧ en < s.size))
          · rw [if_pos hc]
          · rw [if_neg hc, if_pos (e.resolve_left fun e => hc (hx.1 e))]]
        exact h
      · rw [show (0 : Int) = fitsE s en fin by
          unfold fitsE
          rw [if_neg h1, if_neg (fun hc => by rw [hx.2 hc] at e1; cases e1), if_neg e2]]
        exact h
    by_cases h2 : s.size = -1
    · exact (if_neg (by simp [h2])).mpr (j1 (by simp [h2]))
    · refine (if_pos (by simpa using h2)).mpr ⟨_, rfl, s.size, hb.cell rfl, ?_⟩
      by_cases h3 : en > s.size
      · exact (if_pos (by simpa using h3)).mpr (j1 (by simp [h2, h3]))
      · refine (if_neg (by simpa using h3)).mpr ?_
        cases fin with
        | true =>
          rw [if_pos rfl]
          refine ⟨_, rfl, s.size, hb.cell rfl, j1 ?_⟩
          simp [h2, h3]
        | false =>
          rw [if_neg (by simp)]
          exact j1 (by simp [h3])
def putF (s : Bx) (off : Int) (data : ByteArray) (j : Int) : Int → Option UInt8 := fun n =>
  if off ≤ n ∧ n < off + j ∧ s.read ≤ n ∧ s.f n = none then some (bget data (n - off)) else s.f n
theorem putF_zero (s : Bx) (off : Int) (data : ByteArray) : putF s off data 0 = s.f := by
  funext n
  unfold putF
  rw [if_neg (by omega)]
theorem putF_keep {s : Bx} {off : Int} {data : ByteArray} {k : Int} (h : ¬ (s.read ≤ off + k ∧ s.f (off + k) = none)) : putF s off data (k + 1) = putF s off data k := by
  funext n
  unfold putF
  by_cases hn : n = off + k
  · subst hn
    rw [if_neg (fun c => h ⟨c.2.2.1, c.2.2.2⟩), if_neg (by omega)]
  · by_cases hc : off ≤ n ∧ n < off + k ∧ s.read ≤ n ∧ s.f n = none
    · rw [if_pos hc, if_pos ⟨hc.1, by omega, hc.2.2⟩]
    · rw [if_neg hc, if_neg (fun c => hc ⟨c.1, by omega, c.2.2⟩)]
theorem putF_add {s : Bx} {off : Int} {data : ByteArray} {k : Int} (h0 : 0 ≤ k) (h : s.read ≤ off + k ∧ s.f (off + k) = none) : putF s off data (k + 1) = fun n => if n = off + k then some (bget data k) else putF s off data k n := by
  funext n
  unfold putF
  by_cases hn : n = off + k
  · subst hn
    rw [if_pos ⟨by omega, by omega, h⟩, if_pos rfl, show off + k - off = k by omega]
  · rw [if_neg hn]
    by_cases hc : off ≤ n ∧ n < off + k ∧ s.read ≤ n ∧ s.f n = none
    · rw [if_pos hc, if_pos ⟨hc.1, by omega, hc.2.2⟩]
    · rw [if_neg hc, if_neg (fun c => hc ⟨c.1, by omega, c.2.2⟩)]
theorem map_fun {f : Int → Option UInt8} {a : Int} {x : UInt8} : (fun n => if n = a then some (byV x) else (f n).map byV) = fun n => ((if n = a then some x else f n).map byV) := by
  funext n
  split <;> rfl
theorem BoxAt.putMap {H : Heap} {b mb : Nat} {s : Bx} (h : BoxAt H b mb s) {a : Int} {x : UInt8} {K : Heap → Prop} (hk : ∀ H', BoxAt H' b mb { s with f := fun n => if n = a then some x else s.f n } → Keep2 b mb H H' → K H') : putW (.int .i64) (some mb) (.int .i64 a) (byV x) K H := by
  refine h.map.put fun o ho => hk _ ⟨?_, ?_, h.ne⟩ fun k o' hk' _ h2 => by rw [set_ne _ _ h2]; exact hk'
  · obtain ⟨e, he⟩ := h.box
    exact ⟨e, by rw [set_ne _ _ h.ne]; exact he⟩
  · rw [map_fun] at ho; exact ho
theorem zgb.loop {H0 : Heap} {b mb : Nat} {s : Bx} (hb : BoxAt H0 b mb s) {off en : Int} {data : ByteArray} {fin : Bool} (ho : 0 ≤ off ∧ off ≤ 4611686018427387903) (hd : data.size ≤ reachBytes) {Kx : Heap → Prop} {E : Value → Heap → Prop}
    (hx : ∀ H, BoxAt H b mb { s with f := putF s off data data.size } → Keep2 b mb H0 H → Kx H) : zgb.W3 (some ⟨b, 0, none⟩) off data fin en (data.size : Int) 0 Kx E H0 := by
  have hr : reachBytes = 140737488351232 := rfl
  refine ⟨Loop.of (I := fun st H m => ∃ k : Nat, st = (k : Int) ∧ k ≤ data.size ∧ m = data.size - k ∧ BoxAt H b mb { s with f := putF s off data k } ∧ Keep2 b mb H0 H) ?_ ⟨0, rfl, Nat.zero_le _, rfl, ?_, Keep2.refl _ _ _⟩⟩
  · rintro m st H ⟨k, rfl, hk, rfl, hbx, hkeep⟩ RR hRR
    unfold zgb.W3.vc
    by_cases hlt : k < data.size
    · rw [if_pos (by simp; omega)]
      have hw : IntKind.i64.wrap (off + (k : Int)) = off + k := w_i64 (by omega) (by omega)
      rw [hw]
      have next : ∀ H', BoxAt H' b mb { s with f := putF s off data ((k : Int) + 1) } → Keep2 b mb H0 H' → zgb.J6 (some ⟨b, 0, none⟩) off data fin en (data.size : Int) (k : Int) RR E H' := fun H' h1 h2 => ⟨by
        unfold zgb.J6.vc
        rw [w_i64 (by omega) (by omega)]
        exact hRR _ _ (data.size - (k + 1)) (by omega) ⟨k + 1, by simp, by omega, rfl, by simpa using h1, h2⟩⟩
      have hat : putF s off data k (off + k) = s.f (off + k) := by unfold putF; rw [if_neg (by omega)]
      refine ⟨_, rfl, some mb, hbx.cell rfl, ?_⟩
      refine hbx.map.look (fun x hx => ?_) (fun hx => ⟨?_⟩)
      · simp only [hat, Option.map_eq_some_iff] at hx
        obtain ⟨v, hv, rfl⟩ := hx
        refine ⟨_, rfl, ⟨?_⟩⟩
        unfold zgb.J4.vc
        rw [if_neg (by simp)]
        refine ⟨?_⟩
        unfold zgb.J5.vc
        rw [if_neg (by simp)]
        exact next H (by rw [putF_keep (by rw [hv]; simp)]; exact hbx) hkeep
      · simp only [hat, Option.map_eq_none_iff] at hx
        unfold zgb.J4.vc
        rw [if_pos (by simp)]
        refine ⟨_, rfl, s.read, hbx.cell rfl, ⟨?_⟩⟩
        unfold zgb.J5.vc
        by_cases hge : s.read ≤ off + k
        · rw [if_pos (by simpa using hge)]
          refine ⟨_, rfl, some mb, hbx.cell rfl, by omega, by omega, hbx.putMap (x := bget data k) fun H' h1 h2 => next H' ?_ (hkeep.trans h2)⟩
          rw [putF_add (by omega) ⟨hge, hx⟩]
          exact h1
        · rw [if_neg (by simpa using hge)]
          exact next H (by rw [putF_keep (fun h => hge h.1)]; exact hbx) hkeep
    · rw [if_neg (by simp; omega)]
      have : k = data.size := by omega
      subst this
      exact hx H hbx hkeep
  · rw [show ((0 : Nat) : Int) = 0 from rfl, putF_zero]; exact hb
def putEnd (off : Int) (data : ByteArray) : Int := off + data.size
def putBx (s : Bx) (off : Int) (data : ByteArray) (fin : Bool) : Bx :=
  { f := putF s off data data.size, read := s.read, size := if fin = true then putEnd off data else s.size, most := if data.size = 0 then s.most else if putEnd off data > s.most then putEnd off data else s.most, reset := s.reset }
def putE (s : Bx) (off : Int) (data : ByteArray) (fin : Bool) : Int := if placeOk off = true then fitsE s (putEnd off data) fin else 2
def putS (s : Bx) (off : Int) (data : ByteArray) (fin : Bool) : Bx := if placeOk off = true ∧ fitsE s (putEnd off data) fin = 0 ∧ s.reset = false then putBx s off data fin else s
theorem zgb.J7.run {H0 H : Heap} {b mb : Nat} {s : Bx} (hb : BoxAt H b mb s) (hk0 : Keep2 b mb H0 H) {en : Int} {fin : Bool} {Kr : Int → Heap → Prop} {E : Value → Heap → Prop} (h : ∀ H', BoxAt H' b mb { s with size := if fin = true then en else s.size } → Keep2 b mb H0 H' → Kr 0 H') : zgb.J7 (some ⟨b, 0, none⟩) fin en Kr E H := by
  refine ⟨?_⟩
  unfold zgb.J7.vc
  cases fin with
  | true =>
    rw [if_pos rfl]
    exact ⟨_, rfl, hb.set (s' := { s with size := en }) rfl rfl (by decide) fun H' h1 h2 => h H' h1 (hk0.trans h2)⟩
  | false =>
    rw [if_neg (by simp)]
    exact h H hb hk0
theorem zgb.run {H : Heap} {b mb : Nat} {s : Bx} (hb : BoxAt H b mb s) {off : Int} {data : ByteArray} {fin : Bool} (hoff : IntKind.i64.has off) (hd : data.size ≤ reachBytes) {K : Int → Heap → Prop} {E : Value → Heap → Prop}
    (h : ∀ H', BoxAt H' b mb (putS s off data fin) → Keep2 b mb H H' → K (putE s off data fin) H') : zgb.c (some ⟨b, 0, none⟩) off data fin K E H := by
  have hr : reachBytes = 140737488351232 := rfl
  refine ⟨?_⟩
  unfold zgb.vc
  refine zof.run ?_
  cases hp : placeOk off with
  | false =>
    rw [if_pos (by simp)]
    refine ⟨H, Heap.Le.refl H, ?_⟩
    have := h H (by simpa [putS, hp] using hb) (Keep2.refl _ _ _)
    simpa [putE, hp] using this
  | true =>
    rw [if_neg (by simp)]
    have ho : 0 ≤ off ∧ off ≤ 4611686018427387903 := by simpa [placeOk] using hp
    have hw : IntKind.i64.wrap (off + (data.size : Int)) = putEnd off data := w_i64 (by omega) (by omega)
    rw [hw]
    refine ztb.run hb ?_
    by_cases hf : fitsE s (putEnd off data) fin = 0
    · rw [if_neg (by simp [hf])]
      refine ⟨_, rfl, s.reset, hb.cell rfl, ⟨?_⟩⟩
      unfold zgb.J1.vc
      cases hres : s.reset with
      | true =>
        rw [if_pos rfl]
        refine ⟨H, Heap.Le.refl H, ?_⟩
        have := h H (by simpa [putS, hres] using hb) (Keep2.refl _ _ _)
        simpa [putE, hp] using this
      | false =>
        rw [if_neg (by simp)]
        refine ⟨?_⟩
        unfold zgb.J2.vc
        have fin2 : ∀ {H1 : Heap} {m : Int}, m = (if data.size = 0 then s.most else if putEnd off data > s.most then putEnd off data else s.most) → BoxAt H1 b mb { s with f := putF s off data data.size, most := m } → Keep2 b mb H H1 →
            zgb.J7 (some ⟨b, 0, none⟩) fin (putEnd off data) (fun x1 h3 => ∃ H', Heap.Le H' h3 ∧ K x1 H') E H1 := fun hm h1 h2 => by
          subst hm
          refine zgb.J7.run h1 h2 fun H' h3 h4 => ⟨H', Heap.Le.refl H', ?_⟩
          have := h H' (by simpa [putS, hp, hf, hres, putBx] using h3) h4
          simpa [putE, hp, hf] using this
        refine zgb.loop hb ho hd fun H1 hb1 hk1 => ?_
        by_cases hz : data.size = 0
        · have : data = ⟨#[]⟩ := ByteArray.ext (Array.eq_empty_of_size_eq_zero hz)
          rw [if_neg (by rw [this]; simp)]
          exact fin2 (by rw [if_pos hz]) hb1 hk1
        · have : (data.toList == (⟨#[]⟩ : ByteArray).toList) = false := by
            cases hc : (data.toList == (⟨#[]⟩ : ByteArray).toList) with
            | false => rfl
            | true => rw [str_eq] at hc; subst hc; exact absurd rfl hz
          rw [if_pos (by rw [this]; rfl)]
          refine ⟨_, rfl, s.most, hb1.cell rfl, _, rfl, ?_⟩
          exact hb1.set (s' := { s with f := putF s off data data.size, most := if putEnd off data > s.most then putEnd off data else s.most }) rfl rfl (by decide) fun H2 h1 h2 => fin2 (by rw [if_neg hz]) h1 (hk1.trans h2)
    · rw [if_pos (by simpa using hf)]
      refine ⟨?_⟩
      unfold zgb.J1.vc
      rw [if_pos rfl]
      refine ⟨H, Heap.Le.refl H, ?_⟩
      have := h H (by simpa [putS, hf] using hb) (Keep2.refl _ _ _)
      simpa [putE, hp] using this
end Go.Sh
namespace Go.Sh
def Bx.fine (s : Bx) : Prop := (∀ n x, s.f n = some x → n < s.read + 4096 ∧ n ≤ 4700000000000000000) ∧ 0 ≤ s.read ∧ s.read ≤ 4700000000000000001
def Bx.next (s : Bx) : Bx := { s with f := fun n => if n = s.read then none else s.f n, read := s.read + 1 }
def readL : Nat → Bx → List UInt8 × Bx
  | 0, s => ([], s)
  | m + 1, s => if s.reset = true then ([], s) else match s.f s.read with
    | none => ([], s)
    | some c => (c :: (readL m s.next).1, (readL m s.next).2)
theorem Bx.next_fine {s : Bx} (h : s.fine) {c : UInt8} (hc : s.f s.read = some c) : s.next.fine := by
  have h1 := h.1 _ _ hc
  refine ⟨fun n x hx => ?_, by show 0 ≤ s.read + 1; have := h.2.1; omega, by show s.read + 1 ≤ _; omega⟩
  have hx : (if n = s.read then none else s.f n) = some x := hx
  split at hx
  · cases hx
  · have := h.1 n x hx
    exact ⟨by show n < s.read + 1 + 4096; omega, this.2⟩
theorem BoxAt.delMap {H : Heap} {b mb : Nat} {s : Bx} (h : BoxAt H b mb s) {a : Int} {K : Heap → Prop} (hk : ∀ H', BoxAt H' b mb { s with f := fun n => if n = a then none else s.f n } → Keep2 b mb H H' → K H') : delW (.int .i64) (some mb) (.int .i64 a) K H := by
  refine h.map.del fun o ho => hk _ ⟨?_, ?_, h.ne⟩ fun k o' hk' _ h2 => by rw [set_ne _ _ h2]; exact hk'
  · obtain ⟨e, he⟩ := h.box
    exact ⟨e, by rw [set_ne _ _ h.ne]; exact he⟩
  · have e : (fun n => if n = a then none else (s.f n).map byV) = fun n => ((if n = a then none else s.f n).map byV) := by funext n; split <;> rfl
    rw [e] at ho; exact ho
theorem BoxAt.keep {H H' : Heap} {b mb : Nat} {s : Bx} (h : BoxAt H b mb s) (hb : ∀ o, H b = some o → H' b = some o) (hm : ∀ o, H mb = some o → H' mb = some o) : BoxAt H' b mb s := by
  obtain ⟨⟨e, he⟩, ⟨es, clk, h1, h2⟩, hne⟩ := h
  exact ⟨⟨e, hb _ he⟩, ⟨es, clk, hm _ h1, h2⟩, hne⟩
theorem BoxAt.some_b {H : Heap} {b mb : Nat} {s : Bx} (h : BoxAt H b mb s) : H b ≠ none := by
  obtain ⟨e, he⟩ := h.box
  rw [he]; simp
theorem BoxAt.some_mb {H : Heap} {b mb : Nat} {s : Bx} (h : BoxAt H b mb s) : H mb ≠ none := by
  obtain ⟨es, clk, h1, _⟩ := h.map
  rw [h1]; simp
theorem zfc.loop {H0 : Heap} {b mb : Nat} {s0 : Bx} (hb : BoxAt H0 b mb s0) (hf0 : s0.fine) {n0 : Int} {Kx : Option Addr → Nat → Nat → Heap → Prop} {E : Value → Heap → Prop}
    (hx : ∀ p c H, zlb H 5 1 p (readL n0.toNat s0).1.length c (vrow (readL n0.toNat s0).1) → BoxAt H b mb (readL n0.toNat s0).2 → Keep2 b mb H0 H → Kx p (readL n0.toNat s0).1.length c H) : zfc.W1 (some ⟨b, 0, none⟩) n0 none 0 0 Kx E H0 := by
  refine ⟨Loop.of (I := fun st H m => ∃ l s', st.2.1 = l.length ∧ zlb H 5 1 st.1 l.length st.2.2 (vrow l) ∧ (∀ ob, st.1 = some ⟨ob, 0, none⟩ → ob ≠ b ∧ ob ≠ mb ∧ H0 ob = none) ∧ BoxAt H b mb s' ∧ s'.fine ∧ Keep2 b mb H0 H ∧ m = n0.toNat - l.length ∧
    s'.read = s0.read + l.length ∧ (∀ n x, s'.f n = some x → s0.f n = some x) ∧ readL n0.toNat s0 = (l ++ (readL (n0.toNat - l.length) s').1, (readL (n0.toNat - l.length) s').2)) ?_
    ⟨[], s0, rfl, ⟨rfl, (fun es he => by cases he), Nat.le_refl _, .inl ⟨rfl, rfl⟩⟩, (fun ob h => by cases h), hb, hf0, Keep2.refl _ _ _, rfl, by simp, fun _ _ h => h, rfl⟩⟩
  rintro m ⟨p, n, c⟩ H ⟨l, s', hn, hown, hfr, hbx, hfine, hkeep, hm, hrd, hsub, heq⟩ RR hRR
  dsimp only at hn hown hfr
  subst hn
  subst hm
  unfold zfc.W1.vc
  dsimp only
  -- it ends here
  have stop : readL (n0.toNat - l.length) s' = ([], s') → Kx p l.length c H := fun e => by
    rw [e, List.append_nil] at heq
    have := hx p c H
    rw [heq] at this
    exact this hown hbx hkeep
  by_cases hlt : (l.length : Int) < n0
  · rw [if_pos (by simpa using hlt)]
    obtain ⟨fuel, hfu⟩ : ∃ fuel, n0.toNat - l.length = fuel + 1 := ⟨n0.toNat - l.length - 1, by omega⟩
    refine ⟨_, rfl, s'.reset, hbx.cell rfl, ?_⟩
    cases hres : s'.reset with
    | true =>
      refine (if_neg (by simp)).mpr (stop ?_)
      rw [hfu]; unfold readL; rw [if_pos hres]
    | false =>
      refine (if_pos (by simp)).mpr ⟨?_⟩
      unfold zfc.J2.vc
      refine ⟨_, rfl, some mb, hbx.cell rfl, _, rfl, s'.read, hbx.cell rfl, hbx.map.look (fun x hx => ?_) (fun hx => ⟨?_⟩)⟩
      · simp only [Option.map_eq_some_iff] at hx
        obtain ⟨ch, hch, rfl⟩ := hx
        refine ⟨_, rfl, ⟨?_⟩⟩
        unfold zfc.J3.vc
        rw [if_neg (by simp)]
        refine ⟨_, rfl, some mb, hbx.cell rfl, _, rfl, s'.read, hbx.cell rfl, hbx.delMap fun H1 hb1 hk1 => ?_⟩
        intro b1 hb1n
        have hH2 : ∀ k o, H1 k = some o → (H1.set b1 (.cells #[byV ch] 5)) k = some o := fun k o hk => Le_set hb1n _ k o hk
        have hown2 : zlb (H1.set b1 (.cells #[byV ch] 5)) 5 1 p l.length c (vrow l) := hown.keep fun ob o hp ho => hH2 ob o (hk1 ob o ho (hfr ob hp).1 (hfr ob hp).2.1)
        have hb2 : BoxAt (H1.set b1 (.cells #[byV ch] 5)) b mb { s' with f := fun n => if n = s'.read then none else s'.f n } := hb1.keep (fun o => hH2 b o) (fun o => hH2 mb o)
        have hlen : l.length < 4096 := by
          have := (hf0.1 _ _ (hsub _ _ hch)).1
          omega
        refine rdRow_of (n := 1) (sz := 1) (rows := [[byV ch]]) ⟨rfl, (fun h => by cases h), fun a ha i es hi => ?_⟩ (by decide) rfl ?_
        · cases ha
          cases i with
          | zero =>
            simp only [List.getElem?_cons_zero, Option.some.injEq] at hi
            subst hi
            refine ⟨rfl, fun j v hj => ?_⟩
            cases j with
            | zero =>
              simp only [List.getElem?_cons_zero, Option.some.injEq] at hj
              subst hj
              rw [add_add, add_mk, cell_set_same]; rfl
            | succ j => simp at hj
          | succ i => simp at hi
        · refine appT_own (xs := [[byV ch]]) hown2 (by decide) rfl rfl rfl (fun es he => by simp only [List.mem_singleton] at he; subst he; rfl) (fun v hv => by simp at hv; subst hv; rfl) (by omega) (by omega) fun p' c' H3 h1 h2 h3 => ⟨?_⟩
          have hob : ∀ ob, p' = some ⟨ob, 0, none⟩ → ob ≠ b ∧ ob ≠ mb ∧ H0 ob = none := by
            intro ob hp'
            rcases h3 ob hp' with e | e
            · exact hfr ob (e.trans hp')
            · have nb : ob ≠ b := fun e2 => hb2.some_b (e2 ▸ e)
              have nm : ob ≠ mb := fun e2 => hb2.some_mb (e2 ▸ e)
              refine ⟨nb, nm, ?_⟩
              cases h0 : H0 ob with
              | none => rfl
              | some o =>
                have := hH2 ob o (hk1 ob o (hkeep ob o h0 nb nm) nb nm)
                have e9 : H1.set b1 (.cells #[byV ch] 5) ob = none := e
                rw [this] at e9; cases e9
          have hb3 : BoxAt H3 b mb { s' with f := fun n => if n = s'.read then none else s'.f n } := hb2.keep (fun o ho => h2 b o ho fun ob hp => fun e => (hfr ob hp).1 e.symm) (fun o ho => h2 mb o ho fun ob hp => fun e => (hfr ob hp).2.1 e.symm)
          unfold zfc.J4.vc
          refine ⟨_, rfl, s'.read, hb3.cell rfl, _, rfl, ?_⟩
          have hrange := hfine.1 _ _ hch
          rw [w_i64 (by have := hfine.2.1; omega) (by omega)]
          refine hb3.set (s' := s'.next) rfl rfl (by decide) fun H4 hb4 hk4 => ?_
          refine hRR (p', l.length + 1, c') H4 (n0.toNat - (l.length + 1)) (by omega) ⟨l ++ [ch], s'.next, by simp, ?_, hob, hb4, Bx.next_fine hfine hch, ?_, by simp, ?_, ?_, ?_⟩
          · have := h1.keep (H' := H4) fun ob o hp ho => hk4 ob o ho (hob ob hp).1 (hob ob hp).2.1
            simpa [vrow] using this
          · intro k o hk hkb hkm
            refine hk4 k o (h2 k o (hH2 k o (hk1 k o (hkeep k o hk hkb hkm) hkb hkm)) fun ob hp e => ?_) hkb hkm
            have := (hfr ob hp).2.2
            rw [← e, hk] at this; cases this
          · show s'.read + 1 = _
            rw [hrd]; simp; omega
          · intro k x hx2
            have hx2 : (if k = s'.read then none else s'.f k) = some x := hx2
            split at hx2
            · cases hx2
            · exact hsub k x hx2
          · rw [heq, hfu]
            have e1 : n0.toNat - (l ++ [ch]).length = fuel := by simp; omega
            rw [e1]
            show (l ++ (readL (fuel + 1) s').1, (readL (fuel + 1) s').2) = _
            have e2 : readL (fuel + 1) s' = (ch :: (readL fuel s'.next).1, (readL fuel s'.next).2) := by
              rw [readL, if_neg (by simp [hres]), hch]
            rw [e2]
            simp
      · simp only [Option.map_eq_none_iff] at hx
        unfold zfc.J3.vc
        rw [if_pos (by simp)]
        refine stop ?_
        rw [hfu]; unfold readL; rw [if_neg (by simp [hres]), hx]
  · rw [if_neg (by simpa using hlt)]
    refine stop ?_
    rw [show n0.toNat - l.length = 0 by omega]
    rfl
theorem zfc.run {H : Heap} {b mb : Nat} {s : Bx} (hb : BoxAt H b mb s) (hf : s.fine) {n : Int} {K : ByteArray → Heap → Prop} {E : Value → Heap → Prop}
    (h : ∀ H', BoxAt H' b mb (readL n.toNat s).2 → Keep2 b mb H H' → K ⟨(readL n.toNat s).1.toArray⟩ H') : zfc.c (some ⟨b, 0, none⟩) n K E H := by
  refine ⟨?_⟩
  unfold zfc.vc
  exact zfc.loop hb hf fun p c H' h1 h2 h3 => own_rdBytes h1 ⟨H', Heap.Le.refl H', h H' h2 h3⟩
def howE (s : Bx) : Int := if s.reset = true then 2 else if s.size = s.read then 1 else 0
theorem zkc.run {H : Heap} {b mb : Nat} {s : Bx} (hb : BoxAt H b mb s) {K : Int → Int → Int → Heap → Prop} {E : Value → Heap → Prop} (h : K s.read (IntKind.i64.wrap (s.read + 4096)) (howE s) H) : zkc.c (some ⟨b, 0, none⟩) K E H := by
  refine ⟨?_⟩
  unfold zkc.vc
  have j : ∀ {e : Int}, howE s = e → zkc.J1 (some ⟨b, 0, none⟩) e (fun r0 r1 r2 H => ∃ H', Heap.Le H' H ∧ K r0 r1 r2 H') E H := fun he => ⟨by
    unfold zkc.J1.vc
    exact ⟨_, rfl, s.read, hb.cell rfl, _, rfl, s.read, hb.cell rfl, H, Heap.Le.refl H, he ▸ h⟩⟩
  refine ⟨_, rfl, s.reset, hb.cell rfl, ?_⟩
  cases hr : s.reset with
  | true => exact (if_pos rfl).mpr (j (by simp [howE, hr]))
  | false =>
    refine (if_neg (by simp)).mpr ⟨_, rfl, s.size, hb.cell rfl, _, rfl, s.read, hb.cell rfl, ?_⟩
    by_cases he : s.size = s.read
    · exact (if_pos (by simpa using he)).mpr (j (by simp [howE, hr, he]))
    · exact (if_neg (by simpa using he)).mpr (j (by simp [howE, hr, he]))
theorem readL_of : ∀ (l : List UInt8) (s : Bx) (m : Nat), s.reset = false → (∀ i : Nat, i < l.length → s.f (s.read + i) = l[i]?) → s.f (s.read + l.length) = none → l.length ≤ m → (readL m s).1 = l ∧ (readL m s).2.read = s.read + l.length ∧ (readL m s).2.reset = false ∧ (readL m s).2.size = s.size := by
  intro l
  induction l with
  | nil =>
    intro s m hr _ hn _
    cases m with
    | zero => simp [readL, hr]
    | succ m =>
      have hn : s.f s.read = none := by simpa using hn
      simp [readL, hr, hn]
  | cons x l ih =>
    intro s m hr hf hn hm
    cases m with
    | zero => simp at hm
    | succ m =>
      have h0 : s.f s.read = some x := by simpa using hf 0 (by simp)
      have hnext : s.next.reset = false := hr
      have hstep : ∀ k : Int, 0 < k → s.next.f (s.read + k) = s.f (s.read + k) := fun k hk => by
        show (if s.read + k = s.read then none else s.f (s.read + k)) = _
        rw [if_neg (by omega)]
      have := ih s.next m hnext (fun i hi => by
        show s.next.f (s.read + 1 + (i : Int)) = _
        rw [show s.read + 1 + (i : Int) = s.read + ((i : Int) + 1) by omega, hstep _ (by omega)]
        have := hf (i + 1) (by simp; omega)
        simpa using this) (by
        show s.next.f (s.read + 1 + (l.length : Int)) = none
        rw [show s.read + 1 + (l.length : Int) = s.read + ((l.length : Int) + 1) by omega, hstep _ (by omega)]
        simpa using hn) (by simpa using hm)
      obtain ⟨h1, h2, h3, h4⟩ := this
      have e : readL (m + 1) s = (x :: (readL m s.next).1, (readL m s.next).2) := by rw [readL, if_neg (by simp [hr]), h0]
      rw [e]
      refine ⟨by rw [h1], ?_, h3, h4⟩
      show (readL m s.next).2.read = _
      rw [h2]
      show s.read + 1 + (l.length : Int) = _
      simp; omega
end Go.Sh
namespace Go.Sh
structure OB where
  text : List UInt8
  how : List UInt8
  fin : UInt8
  limit : Int
  kept : Int
def OB.cells (s : OB) (tp : Option Addr) (tc : Nat) (hp : Option Addr) (hc : Nat) : Array Value := #[.slice tp s.text.length tc, .slice hp s.how.length hc, byV s.fin, .int .i64 s.limit, .int .i64 s.kept]
structure OAt (H : Heap) (b : Nat) (tp : Option Addr) (tc : Nat) (hp : Option Addr) (hc : Nat) (s : OB) : Prop where
  box : ∃ e, H b = some (.cells (s.cells tp tc hp hc) e)
  t : zlb H 5 1 tp s.text.length tc (vrow s.text)
  h : zlb H 179 1 hp s.how.length hc (vrow s.how)
  d1 : b ∉ bl tp
  d2 : b ∉ bl hp
  d3 : ∀ k ∈ bl tp, k ∉ bl hp
def fpO (b : Nat) (tp hp : Option Addr) : List Nat := b :: (bl tp ++ bl hp)
def OA (H : Heap) (b : Nat) (L : List Nat) (s : OB) : Prop := ∃ tp tc hp hc, OAt H b tp tc hp hc s ∧ L = fpO b tp hp
theorem OA.step {H H' : Heap} {b : Nat} {L M M' : List Nat} {s : OB} (h : OA H b L s) (hs : Step M H M' H') (hn : ∀ k ∈ L, k ∉ M) : OA H' b L s := by
  obtain ⟨tp, tc, hp, hc, h, rfl⟩ := h
  obtain ⟨⟨e, he⟩, ht, hh, d1, d2, d3⟩ := h
  exact ⟨tp, tc, hp, hc, ⟨⟨e, (hs b _ he (hn b (by simp [fpO]))).1⟩, ht.step hs fun k hk => hn k (by simp [fpO, hk]), hh.step hs fun k hk => hn k (by simp [fpO, hk]), d1, d2, d3⟩, rfl⟩
theorem OA.le {H H' : Heap} {b : Nat} {L : List Nat} {s : OB} (h : OA H b L s) (hl : Heap.Le H H') : OA H' b L s := h.step (Step.of_le (L := []) hl) (by simp)
theorem OA.live {H : Heap} {b : Nat} {L : List Nat} {s : OB} (h : OA H b L s) : ∀ k ∈ L, H k ≠ none := by
  obtain ⟨tp, tc, hp, hc, h, rfl⟩ := h
  intro k hk
  simp only [fpO, List.mem_cons, List.mem_append] at hk
  rcases hk with rfl | hk | hk
  · obtain ⟨e, he⟩ := h.box
    rw [he]; simp
  · exact h.t.live k hk
  · exact h.h.live k hk
theorem OAt.cell {H : Heap} {b : Nat} {tp hp : Option Addr} {tc hc : Nat} {s : OB} (h : OAt H b tp tc hp hc s) {o : Nat} {v : Value} (hv : (s.cells tp tc hp hc)[o]? = some v) : H.cell? ((⟨b, 0, none⟩ : Addr).add o) = some v := by
  obtain ⟨e, he⟩ := h.box
  exact loc he hv
theorem OAt.set {H : Heap} {b : Nat} {tp hp : Option Addr} {tc hc : Nat} {s s' : OB} (h : OAt H b tp tc hp hc s) {o : Nat} {v : Value} {K : Heap → Prop} (hs : (s.cells tp tc hp hc).setIfInBounds o v = s'.cells tp tc hp hc) (h1 : s'.text = s.text) (h2 : s'.how = s.how) (ho : o < 5)
    (hk : ∀ H', OAt H' b tp tc hp hc s' → Step (fpO b tp hp) H (fpO b tp hp) H' → K H') : stc H ((⟨b, 0, none⟩ : Addr).add o) v K := by
  obtain ⟨⟨e, he⟩, ht, hh, d1, d2, d3⟩ := h
  have hst : Step [b] H [b] (H.set b (.cells ((s.cells tp tc hp hc).setIfInBounds o v) e)) := Step.set _ _ _
  refine stc_loc he (by simpa [OB.cells] using ho) (hk _ ⟨⟨e, by rw [set_self, hs]⟩, ?_, ?_, d1, d2, d3⟩ (hst.frame (fun k hk => by simp only [fpO, List.mem_cons, not_or] at hk; simpa using hk.1) fun k hk _ => hk))
  · rw [h1]; exact ht.step hst fun k hk => not_one d1 hk
  · rw [h2]; exact hh.step hst fun k hk => not_one d2 hk
theorem OAt.setHow {H : Heap} {b : Nat} {tp hp : Option Addr} {tc hc : Nat} {s : OB} (h : OAt H b tp tc hp hc s) {i : Nat} (hi : i < s.how.length) {x : UInt8} {K : Heap → Prop} {a : Addr} (ha : hp = some a)
    (hk : ∀ H', OAt H' b tp tc hp hc { s with how := s.how.set i x } → Step (fpO b tp hp) H (fpO b tp hp) H' → K H') : stc H (a.add (i * 1)) (byV x) K := by
  obtain ⟨⟨e, he⟩, ht, hh, d1, d2, d3⟩ := h
  refine own_set hh hi ha fun H' h1 h2 => hk H' ⟨⟨e, ?_⟩, ht.step h2 d3, ?_, d1, d2, d3⟩ (h2.frame (fun k hk => by simp only [fpO, List.mem_cons, List.mem_append, not_or] at hk; exact hk.2.2) fun k hk _ => hk)
  · rw [(h2 b _ he d2).1]
    simp [OB.cells]
  · simpa using h1
def ob0 : OB := ⟨[], [], 3, 4096, 0⟩
theorem outbox_New.run {H : Heap} {K : Option Addr → Heap → Prop} {E : Value → Heap → Prop} (h : ∀ b H', OA H' b [b] ob0 → H b = none → Heap.Le H H' → K (some ⟨b, 0, none⟩) H') : outbox_New.c K E H := by
  refine ⟨?_⟩
  unfold outbox_New.vc
  intro b hb
  refine ⟨_, Heap.Le.refl _, h b _ ⟨none, 0, none, 0, ⟨⟨_, by rw [set_self]; rfl⟩, ⟨rfl, vrow_len _, Nat.le_refl _, .inl ⟨rfl, rfl⟩⟩, ⟨rfl, vrow_len _, Nat.le_refl _, .inl ⟨rfl, rfl⟩⟩, by simp [bl], by simp [bl], by simp [bl]⟩, rfl⟩ hb (Le_set hb _)⟩
def OB.writeE (s : OB) (d : ByteArray) : Int := if s.fin ≠ 3 then 7 else if (d.size : Int) > IntKind.i64.wrap (16384 - s.kept) then 4 else 0
def OB.writeS (s : OB) (d : ByteArray) (fin : Bool) : OB :=
  if s.writeE d = 0 then { text := s.text ++ d.data.toList, how := s.how ++ List.replicate d.size 0, fin := if fin = true then 0 else s.fin, limit := s.limit, kept := IntKind.i64.wrap (s.kept + d.size) } else s
theorem byteVals_flat (d : ByteArray) : zxb d = (vrow d.data.toList).flatten := by rw [zvd]; rfl
theorem zerosOf_flat (n : Nat) : zub (.int .u8 0) n = (vrow (List.replicate n 0)).flatten := by
  rw [zvd]
  unfold zub Builtin.zeroCells
  have hs : (Value.int IntKind.u8 0).cells.size = 1 := rfl
  rw [hs, Nat.mul_one, List.map_replicate]
  apply List.ext_getElem?
  intro i
  rw [Array.getElem?_toList, Array.getElem?_map, Array.getElem?_range, List.getElem?_replicate]
  split
  · simp only [Option.map_some, Nat.mod_one]; rfl
  · rfl
theorem plain_vrow {l : List UInt8} : ∀ v ∈ (vrow l).flatten, znd v = true := by
  intro v hv
  rw [zvd] at hv
  obtain ⟨x, _, rfl⟩ := List.mem_map.1 hv
  rfl
theorem byV_ne {x : UInt8} {n : Nat} (hn : n < 256) : (((x.toNat : Int) != (n : Int)) = true) ↔ x ≠ UInt8.ofNat n := by
  rw [bne_iff_ne]
  constructor
  · intro h e; subst e
    apply h
    rw [UInt8.toNat_ofNat_of_lt' hn]
  · intro h e
    apply h
    apply UInt8.toNat_inj.1
    rw [UInt8.toNat_ofNat_of_lt' hn]
    omega
theorem byV_eq {x : UInt8} {n : Nat} (hn : n < 256) : (((x.toNat : Int) == (n : Int)) = true) ↔ x = UInt8.ofNat n := by
  have := byV_ne (x := x) hn
  rw [beq_iff_eq]
  rw [bne_iff_ne] at this
  constructor
  · intro h
    by_cases he : x = UInt8.ofNat n
    · exact he
    · exact absurd h (this.2 he)
  · intro h
    by_cases he : ((x.toNat : Int)) = n
    · exact he
    · exact absurd h (this.1 he)
theorem zld.run {H : Heap} {b : Nat} {L : List Nat} {s : OB} (hb : OA H b L s) {d : ByteArray} {fin : Bool} (hl : s.text.length + d.size ≤ 1000000) (hh : s.how.length + d.size ≤ 1000000) {K : Int → Heap → Prop} {E : Value → Heap → Prop}
    (h : ∀ L' H', OA H' b L' (s.writeS d fin) → Step L H L' H' → K (s.writeE d) H') : zld.c (some ⟨b, 0, none⟩) d fin K E H := by
  have hb0 := hb
  obtain ⟨tp, tc, hp, hc, hb, rfl⟩ := hb
  refine ⟨?_⟩
  unfold zld.vc
  refine ⟨_, rfl, (s.fin.toNat : Int), hb.cell rfl, ?_⟩
  by_cases h1 : s.fin = 3
  · refine (if_neg (fun c => (byV_ne (n := 3) (by decide)).1 c h1)).mpr ⟨_, rfl, s.kept, hb.cell rfl, ?_⟩
    by_cases h2 : (d.size : Int) > IntKind.i64.wrap (16384 - s.kept)
    · refine (if_pos (by simpa using h2)).mpr ⟨H, Heap.Le.refl H, ?_⟩
      have he : s.writeE d = 4 := by unfold OB.writeE; rw [if_neg (by simp [h1]), if_pos h2]
      have := h _ H (by unfold OB.writeS; rw [if_neg (by rw [he]; decide)]; exact hb0) (Step.refl _ _)
      rwa [he] at this
    · refine (if_neg (by simpa using h2)).mpr ?_
      have he : s.writeE d = 0 := by unfold OB.writeE; rw [if_neg (by simp [h1]), if_neg h2]
      rw [he] at h
      unfold OB.writeS at h
      rw [if_pos he] at h
      have hdl : d.data.toList.length = d.size := by rw [Array.length_toList]; rfl
      refine ⟨_, rfl, tp, s.text.length, tc, hb.cell rfl, ?_⟩
      obtain ⟨⟨e, hbx⟩, ht, hho, d1, d2, d3⟩ := hb
      refine appT_step (xs := vrow d.data.toList) ht (by decide) rfl (byteVals_flat d) (by simp [vrow, hdl]) (vrow_len _) (by rw [byteVals_flat]; exact plain_vrow) (by omega) (by omega) fun tp' tc' H1 ht1 hs1 => ?_
      have hbx1 := hs1 b _ hbx d1
      have hho1 := hho.step hs1 fun k hk hk2 => d3 k hk2 hk
      have d31 : ∀ k ∈ bl tp', k ∉ bl hp := fun k hk hk2 => by
        have := hho.live k hk2
        cases ho : H k with
        | none => exact this ho
        | some o => exact (hs1 k o ho fun hk3 => d3 k hk3 hk2).2 hk
      refine ⟨_, rfl, stc_loc hbx1.1 (by simp [OB.cells]) ?_⟩
      have hst2 := Step.set H1 b (.cells ((s.cells tp tc hp hc).setIfInBounds 0 (.slice tp' (s.text.length + d.size) tc')) e)
      have hbx2 := set_self H1 b (.cells ((s.cells tp tc hp hc).setIfInBounds 0 (.slice tp' (s.text.length + d.size) tc')) e)
      generalize H1.set b (.cells ((s.cells tp tc hp hc).setIfInBounds 0 (.slice tp' (s.text.length + d.size) tc')) e) = H2 at hst2 hbx2 ⊢
      have ht2 := ht1.step hst2 fun k hk => not_one hbx1.2 hk
      have hho2 := hho1.step hst2 fun k hk => not_one d2 hk
      refine ⟨?_⟩
      unfold zld.J1.vc
      refine ⟨_, rfl, hp, s.how.length, hc, loc hbx2 rfl, by omega, by omega, by omega, ?_⟩
      rw [Int.toNat_natCast]
      refine appT_step (xs := vrow (List.replicate d.size 0)) hho2 (by decide) rfl (zerosOf_flat _) (by simp [vrow]) (vrow_len _) (by rw [zerosOf_flat]; exact plain_vrow) (by omega) (by omega) fun hp' hc' H3 hho3 hs3 => ?_
      have hbx3 := hs3 b _ hbx2 d2
      have ht3 := ht2.step hs3 d31
      have d33 : ∀ k ∈ bl tp', k ∉ bl hp' := fun k hk hk2 => by
        have := ht2.live k hk
        cases ho : H2 k with
        | none => exact this ho
        | some o => exact (hs3 k o ho fun hk3 => d31 k hk hk3).2 hk2
      refine ⟨_, rfl, stc_loc hbx3.1 (by simp [OB.cells]) ?_⟩
      generalize hC : ((s.cells tp tc hp hc).setIfInBounds 0 (.slice tp' (s.text.length + d.size) tc')).setIfInBounds 1 (.slice hp' (s.how.length + d.size) hc') = C
      have hst4 := Step.set H3 b (.cells C e)
      have hbx4 := set_self H3 b (.cells C e)
      generalize H3.set b (.cells C e) = H4 at hst4 hbx4 ⊢
      subst hC
      have ht4 := ht3.step hst4 fun k hk => not_one hbx1.2 hk
      have hho4 := hho3.step hst4 fun k hk => not_one hbx3.2 hk
      have hall : OAt H4 b tp' tc' hp' hc' { s with text := s.text ++ d.data.toList, how := s.how ++ List.replicate d.size 0 } := by
        refine ⟨⟨e, ?_⟩, ?_, ?_, hbx1.2, hbx3.2, d33⟩
        · rw [hbx4]
          simp [OB.cells, hdl]
        · simpa [vrow, hdl] using ht4
        · simpa [vrow, hdl] using hho4
      have hst : Step (fpO b tp hp) H (fpO b tp' hp') H4 := by
        intro k o hk hn
        simp only [fpO, List.mem_cons, List.mem_append, not_or] at hn ⊢
        have k1 := hs1 k o hk hn.2.1
        have k2 := hst2 k o k1.1 (by simpa using hn.1)
        have k3 := hs3 k o k2.1 hn.2.2
        have k4 := hst4 k o k3.1 (by simpa using hn.1)
        exact ⟨k4.1, hn.1, k1.2, k3.2⟩
      refine ⟨?_⟩
      unfold zld.J2.vc
      refine ⟨_, rfl, s.kept, hall.cell rfl, _, rfl, ?_⟩
      refine hall.set (s' := { s with text := s.text ++ d.data.toList, how := s.how ++ List.replicate d.size 0, kept := IntKind.i64.wrap (s.kept + d.size) }) rfl rfl rfl (by decide) fun H5 h5 hs5 => ?_
      cases fin with
      | true =>
        rw [if_pos rfl]
        refine ⟨_, rfl, ?_⟩
        refine h5.set (s' := { s with text := s.text ++ d.data.toList, how := s.how ++ List.replicate d.size 0, kept := IntKind.i64.wrap (s.kept + d.size), fin := 0 }) rfl rfl rfl (by decide) fun H6 h6 hs6 => ?_
        exact ⟨H6, Heap.Le.refl _, h _ H6 ⟨_, _, _, _, h6, rfl⟩ ((hst.trans hs5).trans hs6)⟩
      | false =>
        rw [if_neg (by simp)]
        exact ⟨H5, Heap.Le.refl _, h _ H5 ⟨_, _, _, _, h5, rfl⟩ (hst.trans hs5)⟩
  · refine (if_pos ((byV_ne (n := 3) (by decide)).2 h1)).mpr ⟨H, Heap.Le.refl H, ?_⟩
    have he : s.writeE d = 7 := by unfold OB.writeE; rw [if_pos h1]
    have := h _ H (by unfold OB.writeS; rw [if_neg (by rw [he]; decide)]; exact hb0) (Step.refl _ _)
    rwa [he] at this
end Go.Sh
namespace Go.Sh
def runL (p : UInt8 → Bool) : List UInt8 → Nat
  | [] => 0
  | x :: l => if p x = true then runL p l + 1 else 0
theorem runL_eq {p : UInt8 → Bool} : ∀ {l : List UInt8} {k : Nat}, k ≤ l.length → (∀ (i : Nat) (x : UInt8), i < k → l[i]? = some x → p x = true) → (k = l.length ∨ ∃ x, l[k]? = some x ∧ p x = false) → runL p l = k
  | [], k, h, _, _ => by
    have : k = 0 := by simpa using h
    subst this
    rfl
  | x :: l, 0, _, _, h3 => by
    rcases h3 with h3 | ⟨y, hy, hp⟩
    · simp at h3
    · have : x = y := by simpa using hy
      subst this
      simp [runL, hp]
  | x :: l, k + 1, h1, h2, h3 => by
    have hx : p x = true := h2 0 x (by omega) rfl
    unfold runL
    rw [if_pos hx, runL_eq (k := k) (by simpa using h1) (fun i y hi hy => h2 (i + 1) y (by omega) (by simpa using hy)) (by simpa using h3)]
theorem runL_le {p : UInt8 → Bool} : ∀ (l : List UInt8), runL p l ≤ l.length
  | [] => Nat.le_refl _
  | x :: l => by
    unfold runL
    split
    · have := runL_le (p := p) l
      simpa using this
    · omega
def OB.first (s : OB) : Nat := runL (· != 0) s.how
theorem zyd.run {H : Heap} {b : Nat} {L : List Nat} {s : OB} (hb : OA H b L s) (hs : s.how.length ≤ 1000000) {K : Int → Heap → Prop} {E : Value → Heap → Prop} (h : K s.first H) : zyd.c (some ⟨b, 0, none⟩) K E H := by
  obtain ⟨tp, tc, hp, hc, hb, rfl⟩ := hb
  refine ⟨?_⟩
  unfold zyd.vc
  refine ⟨_, rfl, hp, s.how.length, hc, hb.cell rfl, ⟨Loop.of (I := fun st H' m => ∃ k : Nat, st = (k : Int) ∧ k ≤ s.how.length ∧ m = s.how.length - k ∧ H' = H ∧ ∀ (i : Nat) (x : UInt8), i < k → s.how[i]? = some x → (x != 0) = true) ?_ ⟨0, rfl, Nat.zero_le _, rfl, rfl, fun i x hi => by omega⟩⟩⟩
  rintro m st H' ⟨k, rfl, hk, rfl, rfl, hall⟩ RR hRR
  unfold zyd.W1.vc
  by_cases hlt : k < s.how.length
  · rw [if_pos (by simp; omega)]
    obtain ⟨a, x, ha, hx, hc2⟩ := own_get hb.h hlt
    refine ⟨a, ha, by omega, by omega, (x.toNat : Int), by rw [Int.toNat_natCast]; exact hc2, ?_⟩
    dsimp only
    by_cases hz : x = 0
    · refine (if_pos ((byV_eq (n := 0) (by decide)).2 hz)).mpr ⟨H', Heap.Le.refl _, ?_⟩
      rw [show (k : Int) = ((s.first : Nat) : Int) by
        unfold OB.first
        rw [runL_eq hk hall (.inr ⟨x, hx, by simp [hz]⟩)]]
      exact h
    · refine (if_neg (fun c => hz ((byV_eq (n := 0) (by decide)).1 c))).mpr ?_
      rw [w_i64 (by omega) (by omega)]
      refine hRR _ _ (s.how.length - (k + 1)) (by omega) ⟨k + 1, by simp, by omega, rfl, rfl, fun i y hi hy => ?_⟩
      by_cases hik : i = k
      · subst hik
        rw [hx] at hy
        cases hy
        simpa using hz
      · exact hall i y (by omega) hy
  · rw [if_neg (by simp; omega)]
    have : k = s.how.length := by omega
    refine ⟨_, rfl, hp, s.how.length, hc, hb.cell rfl, H', Heap.Le.refl _, ?_⟩
    rw [show ((s.how.length : Nat) : Int) = ((s.first : Nat) : Int) by
      unfold OB.first
      rw [runL_eq (k := s.how.length) (Nat.le_refl _) (by rw [this] at hall; exact hall) (.inl rfl)]]
    exact h
def mark (l : List UInt8) (a e : Nat) (x : UInt8) : List UInt8 := l.mapIdx fun i y => if a ≤ i ∧ i < e then x else y
theorem mark_get {l : List UInt8} {a e : Nat} {x : UInt8} (i : Nat) : (mark l a e x)[i]? = (l[i]?).map fun y => if a ≤ i ∧ i < e then x else y := by
  unfold mark
  rw [List.getElem?_mapIdx]
theorem mark_len {l : List UInt8} {a e : Nat} {x : UInt8} : (mark l a e x).length = l.length := by simp [mark]
theorem mark_nil {l : List UInt8} {a : Nat} {x : UInt8} : mark l a a x = l := by
  apply List.ext_getElem?
  intro i
  rw [mark_get]
  cases l[i]? with
  | none => rfl
  | some y => rw [Option.map_some, if_neg (by omega)]
theorem mark_set {l : List UInt8} {a e : Nat} {x : UInt8} (h : a ≤ e) : (mark l a e x).set e x = mark l a (e + 1) x := by
  apply List.ext_getElem?
  intro i
  rw [List.getElem?_set, mark_get, mark_get, mark_len]
  by_cases hi : e = i
  · subst hi
    rw [if_pos rfl]
    split
    · rename_i hl
      rw [List.getElem?_eq_getElem hl, Option.map_some, if_pos ⟨h, by omega⟩]
    · rename_i hl
      rw [List.getElem?_eq_none (by omega)]
      rfl
  · rw [if_neg hi]
    cases l[i]? with
    | none => rfl
    | some y =>
      simp only [Option.map_some]
      by_cases hc : a ≤ i ∧ i < e
      · rw [if_pos hc, if_pos ⟨hc.1, by omega⟩]
      · rw [if_neg hc, if_neg (by omega)]
def OB.stop (s : OB) (most : Int) (a : Nat) : Nat → Nat → Nat
  | 0, e => e
  | f + 1, e => if e < s.text.length ∧ (e : Int) < s.limit ∧ (e : Int) - a < most ∧ s.how[e]? = some 0 then s.stop most a f (e + 1) else e
def OB.stopE (s : OB) (most : Int) : Nat := s.stop most s.first (s.text.length - s.first) s.first
theorem OB.stop_spec {s : OB} {most : Int} {a : Nat} : ∀ (f e : Nat), f = s.text.length - e → e ≤ s.text.length → e ≤ s.stop most a f e ∧ s.stop most a f e ≤ s.text.length ∧
    (∀ i, e ≤ i → i < s.stop most a f e → (i : Int) < s.limit ∧ (i : Int) - a < most ∧ s.how[i]? = some 0) ∧
    (s.stop most a f e = s.text.length ∨ s.limit ≤ (s.stop most a f e : Int) ∨ most ≤ (s.stop most a f e : Int) - a ∨ s.how[s.stop most a f e]? ≠ some 0)
  | 0, e, hf, he => ⟨Nat.le_refl _, he, fun i h1 h2 => by unfold OB.stop at h2; omega, .inl (by unfold OB.stop; omega)⟩
  | f + 1, e, hf, he => by
    unfold OB.stop
    by_cases hc : e < s.text.length ∧ (e : Int) < s.limit ∧ (e : Int) - a < most ∧ s.how[e]? = some 0
    · rw [if_pos hc]
      obtain ⟨h1, h2, h3, h4⟩ := OB.stop_spec (s := s) (most := most) (a := a) f (e + 1) (by omega) (by omega)
      refine ⟨by omega, h2, fun i hi1 hi2 => ?_, h4⟩
      by_cases hie : i = e
      · subst hie; exact hc.2
      · exact h3 i (by omega) hi2
    · rw [if_neg hc]
      refine ⟨Nat.le_refl _, he, fun i h1 h2 => by omega, ?_⟩
      by_cases h5 : e = s.text.length
      · exact .inl h5
      · right
        by_cases h6 : s.limit ≤ (e : Int)
        · exact .inl h6
        · right
          by_cases h7 : most ≤ (e : Int) - a
          · exact .inl h7
          · right
            intro h8
            exact hc ⟨by omega, by omega, by omega, h8⟩
structure Pc where
  off : Int
  data : ByteArray
  fin : Bool
  ok : Bool
def OB.next (s : OB) (most : Int) : Pc × OB :=
  if s.first = s.text.length then (if s.fin ≠ 0 ∨ s.limit < s.text.length then (⟨0, ⟨#[]⟩, false, false⟩, s) else (⟨s.text.length, ⟨#[]⟩, true, true⟩, { s with fin := 1 }))
  else if s.stopE most = s.first then (⟨0, ⟨#[]⟩, false, false⟩, s)
  else (⟨s.first, ⟨((s.text.drop s.first).take (s.stopE most - s.first)).toArray⟩, decide (s.stopE most = s.text.length ∧ s.fin ≠ 3), true⟩,
    { s with how := mark s.how s.first (s.stopE most) 1, fin := if (s.stopE most = s.text.length ∧ s.fin ≠ 3) ∧ s.fin = 0 then 1 else s.fin })
theorem zya.loop {H0 : Heap} {b b1 : Nat} {tp hp : Option Addr} {tc hc : Nat} {s : OB} (hb : OAt H0 b tp tc hp hc s) (hlen : s.how.length = s.text.length) (hs : s.text.length ≤ 1000000) {most : Int} {a : Nat} (ha : a ≤ s.text.length) {Kx : Int → Heap → Prop} {E : Value → Heap → Prop}
    (hx : ∀ H, OAt H b tp tc hp hc { s with how := mark s.how a (s.stop most a (s.text.length - a) a) 1 } → Step (fpO b tp hp) H0 (fpO b tp hp) H → Kx (s.stop most a (s.text.length - a) a : Nat) H) :
    zya.W3 (some ⟨b, 0, none⟩) most ⟨b1, 0, none⟩ a s.text.length a Kx E H0 := by
  refine ⟨Loop.of (I := fun st H m => ∃ e : Nat, st = (e : Int) ∧ a ≤ e ∧ e ≤ s.text.length ∧ m = s.text.length - e ∧ OAt H b tp tc hp hc { s with how := mark s.how a e 1 } ∧ Step (fpO b tp hp) H0 (fpO b tp hp) H ∧ s.stop most a (s.text.length - a) a = s.stop most a (s.text.length - e) e) ?_
    ⟨a, rfl, Nat.le_refl _, ha, rfl, by rw [mark_nil]; exact hb, Step.refl _ _, rfl⟩⟩
  rintro m st H ⟨e, rfl, hae, he, rfl, hbx, hst, heq⟩ RR hRR
  unfold zya.W3.vc
  have out : s.stop most a (s.text.length - e) e = e → Kx (e : Int) H := fun h1 => by
    have := hx H
    rw [heq, h1] at this
    exact this hbx hst
  have hmget : (mark s.how a e 1)[e]? = s.how[e]? := by
    rw [mark_get]
    cases s.how[e]? with
    | none => rfl
    | some y => rw [Option.map_some, if_neg (by omega)]
  by_cases h1 : e < s.text.length
  · rw [if_pos (by simp; omega)]
    obtain ⟨f, hf⟩ : ∃ f, s.text.length - e = f + 1 := ⟨s.text.length - e - 1, by omega⟩
    refine ⟨_, rfl, s.limit, hbx.cell rfl, ?_⟩
    dsimp only
    by_cases h2 : (e : Int) < s.limit
    · rw [if_pos (by simpa using h2), w_i64 (n := (e : Int) - a) (by omega) (by omega)]
      by_cases h3 : (e : Int) - a < most
      · rw [if_pos (by simpa using h3)]
        have hml : (mark s.how a e 1).length = s.text.length := by rw [mark_len, hlen]
        obtain ⟨ad, x, had, hx2, hc2⟩ := own_get hbx.h (i := e) (by show e < (mark s.how a e 1).length; rw [hml]; exact h1)
        have hx2 : s.how[e]? = some x := by rw [← hmget]; exact hx2
        refine ⟨_, rfl, hp, (mark s.how a e 1).length, hc, hbx.cell rfl, ad, had, by omega, by rw [hml]; omega, (x.toNat : Int), by rw [Int.toNat_natCast]; exact hc2, ?_⟩
        dsimp only
        by_cases h4 : x = 0
        · refine (if_pos ((byV_eq (n := 0) (by decide)).2 h4)).mpr ⟨?_⟩
          unfold zya.J4.vc
          refine ⟨_, rfl, hp, (mark s.how a e 1).length, hc, hbx.cell rfl, ad, had, by omega, by rw [hml]; omega, ?_⟩
          rw [Int.toNat_natCast]
          refine hbx.setHow (i := e) (x := 1) (by show e < (mark s.how a e 1).length; rw [hml]; exact h1) had fun H' h5 h6 => ?_
          rw [w_i64 (by omega) (by omega)]
          refine hRR _ _ (s.text.length - (e + 1)) (by omega) ⟨e + 1, by simp, by omega, by omega, rfl, ?_, hst.trans h6, ?_⟩
          · have : (mark s.how a e 1).set e 1 = mark s.how a (e + 1) 1 := mark_set hae
            rw [← this]; exact h5
          · rw [heq, hf, show s.text.length - (e + 1) = f by omega]
            conv => lhs; unfold OB.stop
            rw [if_pos ⟨h1, h2, h3, by rw [hx2, h4]⟩]
        · refine (if_neg (fun c => h4 ((byV_eq (n := 0) (by decide)).1 c))).mpr (out ?_)
          rw [hf]
          unfold OB.stop
          rw [if_neg (fun c => h4 (by have := c.2.2.2; rw [hx2] at this; exact Option.some.inj this))]
      · rw [if_neg (by simpa using h3)]
        refine out ?_
        rw [hf]
        unfold OB.stop
        rw [if_neg (fun c => h3 c.2.2.1)]
    · rw [if_neg (by simpa using h2)]
      refine out ?_
      rw [hf]
      unfold OB.stop
      rw [if_neg (fun c => h2 c.2.1)]
  · rw [if_neg (by simp; omega)]
    refine out ?_
    rw [show s.text.length - e = 0 by omega]
    rfl
def pz : Obj := .cells #[.int .i64 0, .string ⟨#[]⟩, .bool false] 152
theorem OB.next_len {s : OB} {most : Int} : (s.next most).2.text = s.text ∧ (s.next most).2.how.length = s.how.length := by
  unfold OB.next
  split
  · split
    · exact ⟨rfl, rfl⟩
    · exact ⟨rfl, rfl⟩
  · split
    · exact ⟨rfl, rfl⟩
    · exact ⟨rfl, mark_len⟩
theorem zya.run {H : Heap} {b : Nat} {L : List Nat} {s : OB} (hb : OA H b L s) (hlen : s.how.length = s.text.length) (hs : s.text.length ≤ 1000000) {most : Int} {K : Int → ByteArray → Bool → Bool → Heap → Prop} {E : Value → Heap → Prop}
    (h : ∀ H', OA H' b L (s.next most).2 → Step L H L H' → K (s.next most).1.off (s.next most).1.data (s.next most).1.fin (s.next most).1.ok H') : zya.c (some ⟨b, 0, none⟩) most K E H := by
  have hlv := hb.live
  refine ⟨?_⟩
  unfold zya.vc
  refine zna fun b1 H1 hb1 hloc hle => ?_
  have hnb1 : b1 ∉ L := fun hm => hlv b1 hm hb1
  have hb2 := hb.le hle
  have hst : Step L H L H1 := Step.of_le hle
  have hbb := hb2
  obtain ⟨tp, tc, hp, hc, hb2, rfl⟩ := hb2
  refine ⟨_, rfl, tp, s.text.length, tc, hb2.cell rfl, ?_⟩
  refine zyd.run hbb (by omega) ⟨⟨rfl, rfl⟩, ⟨tp, s.text.length, tc, hb2.cell rfl, rfl, rfl⟩, ?_⟩
  -- how it ends
  have fin : ∀ {H' : Heap} {s' : OB} {o : Int} {d : ByteArray} {f ok : Bool}, OAt H' b tp tc hp hc s' → Step (fpO b tp hp) H (fpO b tp hp) H' → H' b1 = some (.cells #[.int .i64 o, .string d, .bool f] 152) → s.next most = (⟨o, d, f, ok⟩, s') →
      ldI H' .i64 ((⟨b1, 0, none⟩ : Addr).add 0) fun r0 => ldS H' ((⟨b1, 0, none⟩ : Addr).add 1) fun r1 => ldB H' ((⟨b1, 0, none⟩ : Addr).add 2) fun r2 => ∃ H'', Heap.Le H'' H' ∧ K r0 r1 r2 ok H'' := by
    intro H' s' o d f ok h1 h2 h3 h4
    rw [h4] at h
    exact ⟨_, loc h3 rfl, _, loc h3 rfl, _, loc h3 rfl, H', Heap.Le.refl _, h H' ⟨tp, tc, hp, hc, h1, rfl⟩ h2⟩
  have put1 : ∀ {H' : Heap} {s' : OB}, OAt H' b tp tc hp hc s' → ∀ (o : Obj), OAt (H'.set b1 o) b tp tc hp hc s' := by
    intro H' s' h1 o
    obtain ⟨⟨e, he⟩, ht, hh, d1, d2, d3⟩ := h1
    have hs1 := Step.set H' b1 o
    have ne : ∀ k ∈ fpO b tp hp, k ∉ [b1] := fun k hk => not_one hnb1 hk
    exact ⟨⟨e, (hs1 b _ he (ne b (by simp [fpO]))).1⟩, ht.step hs1 fun k hk => ne k (by simp [fpO, hk]), hh.step hs1 fun k hk => ne k (by simp [fpO, hk]), d1, d2, d3⟩
  by_cases h1 : s.first = s.text.length
  · rw [h1, if_pos (by simp)]
    refine ⟨_, rfl, (s.fin.toNat : Int), hb2.cell rfl, ?_⟩
    have no : ∀ (h2 : s.fin ≠ 0 ∨ s.limit < s.text.length) {Kn : Heap → Prop}, zya.J1 (some ⟨b, 0, none⟩) ⟨b1, 0, none⟩ s.text.length true Kn (fun x9 h5 => ldI h5 .i64 ((⟨b1, 0, none⟩ : Addr).add 0) fun r3 => ldS h5 ((⟨b1, 0, none⟩ : Addr).add 1) fun r4 => ldB h5 ((⟨b1, 0, none⟩ : Addr).add 2) fun r5 => ∃ H'', Heap.Le H'' h5 ∧ K r3 r4 r5 x9 H'') E H1 := by
      intro h2 Kn
      refine ⟨?_⟩
      unfold zya.J1.vc
      rw [if_pos rfl]
      refine st3_loc hloc (fin (put1 hb2 _) (hst.put hb1 _) (set_self _ _ _) ?_)
      unfold OB.next
      rw [if_pos h1, if_pos h2]
    by_cases h2 : s.fin = 0
    · refine (if_neg (fun c => (byV_ne (n := 0) (by decide)).1 c h2)).mpr ⟨_, rfl, s.limit, hb2.cell rfl, ?_⟩
      dsimp only
      by_cases h3 : s.limit < s.text.length
      · rw [decide_eq_true h3]
        exact no (.inr h3)
      · rw [decide_eq_false h3]
        refine ⟨?_⟩
        unfold zya.J1.vc
        rw [if_neg (by simp)]
        refine ⟨?_⟩
        unfold zya.J2.vc
        refine ⟨_, rfl, hb2.set (s' := { s with fin := 1 }) rfl rfl rfl (by decide) fun H2 h5 h6 => ?_⟩
        have hloc2 := (h6 b1 _ hloc hnb1).1
        refine st3_loc hloc2 (fin (put1 h5 _) ((hst.trans h6).put hb1 _) (set_self _ _ _) ?_)
        unfold OB.next
        rw [if_pos h1, if_neg (by simp only [not_or]; exact ⟨fun c => c h2, h3⟩)]
    · exact (if_pos ((byV_ne (n := 0) (by decide)).2 h2)).mpr (no (.inl h2))
  · have hfl : s.first ≤ s.text.length := by rw [← hlen]; exact runL_le _
    rw [if_neg (by simp; omega)]
    refine zya.loop hb2 hlen hs hfl fun H2 h2 h3 => ?_
    have hloc2 := (h3 b1 _ hloc hnb1).1
    have hsp := OB.stop_spec (s := s) (most := most) (a := s.first) (s.text.length - s.first) s.first rfl hfl
    have hE : s.stop most s.first (s.text.length - s.first) s.first = s.stopE most := rfl
    rw [hE] at h2 hsp ⊢
    have hsp1 : s.first ≤ s.stopE most := hsp.1
    have hsp2 : s.stopE most ≤ s.text.length := hsp.2.1
    by_cases h4 : s.stopE most = s.first
    · rw [if_pos (by simp [h4])]
      refine st3_loc hloc2 (fin (s' := s) (put1 ?_ _) ((hst.trans h3).put hb1 _) (set_self _ _ _) ?_)
      · rw [h4, mark_nil] at h2; exact h2
      · unfold OB.next
        rw [if_neg h1, if_pos h4]
    · rw [if_neg (by simp; omega)]
      refine ⟨_, rfl, tp, s.text.length, tc, h2.cell rfl, by omega, by omega, by have := h2.t.2.2.1; show (s.stopE most : Int) ≤ tc; have h5 : s.text.length ≤ tc := this; omega, ?_⟩
      rw [Int.toNat_natCast, Int.toNat_natCast]
      refine own_rdSub h2.t hsp2 ?_
      have h2t : zlb H2 5 1 tp s.text.length tc (vrow s.text) := h2.t
      -- the last part, with the second block
      have last : ∀ (b2 : Nat), H2 b2 = none → ∀ (f : Bool), f = decide (s.stopE most = s.text.length ∧ s.fin ≠ 3) →
          zya.J5 (some ⟨b, 0, none⟩) ⟨b1, 0, none⟩ ⟨b2, 0, none⟩ (fun x23 h17 => ldI h17 .i64 ((⟨b1, 0, none⟩ : Addr).add 0) fun r15 => ldS h17 ((⟨b1, 0, none⟩ : Addr).add 1) fun r16 => ldB h17 ((⟨b1, 0, none⟩ : Addr).add 2) fun r17 => ∃ H'', Heap.Le H'' h17 ∧ K r15 r16 r17 x23 H'') E
            (H2.set b2 (.cells #[.int .i64 s.first, .string ⟨((s.text.drop s.first).take (s.stopE most - s.first)).toArray⟩, .bool f] 152)) := by
        intro b2 hb2n f hf
        have hloc3 := set_self H2 b2 (.cells #[.int .i64 s.first, .string ⟨((s.text.drop s.first).take (s.stopE most - s.first)).toArray⟩, .bool f] 152)
        have hle3 := Le_set hb2n (.cells #[.int .i64 s.first, .string ⟨((s.text.drop s.first).take (s.stopE most - s.first)).toArray⟩, .bool f] 152)
        generalize H2.set b2 (.cells #[.int .i64 s.first, .string ⟨((s.text.drop s.first).take (s.stopE most - s.first)).toArray⟩, .bool f] 152) = H3 at hloc3 hle3 ⊢
        have hOA : OA H2 b (fpO b tp hp) { s with how := mark s.how s.first (s.stopE most) 1 } := ⟨tp, tc, hp, hc, h2, rfl⟩
        have hnb2 : b2 ∉ fpO b tp hp := fun hm => hOA.live b2 hm hb2n
        have h23 : OAt H3 b tp tc hp hc { s with how := mark s.how s.first (s.stopE most) 1 } := by
          obtain ⟨⟨e, he⟩, ht, hh, d1, d2, d3⟩ := h2
          exact ⟨⟨e, hle3 _ _ he⟩, ht.le hle3, hh.le hle3, d1, d2, d3⟩
        have hst3 : Step (fpO b tp hp) H (fpO b tp hp) H3 := (hst.trans h3).trans (Step.of_le hle3)
        have j7 : ∀ {H4 : Heap} {s4 : OB}, OAt H4 b tp tc hp hc s4 → Step (fpO b tp hp) H3 (fpO b tp hp) H4 → s4 = { s with how := mark s.how s.first (s.stopE most) 1, fin := if (s.stopE most = s.text.length ∧ s.fin ≠ 3) ∧ s.fin = 0 then 1 else s.fin } →
            zya.J7 ⟨b1, 0, none⟩ ⟨b2, 0, none⟩ (fun x23 h17 => ldI h17 .i64 ((⟨b1, 0, none⟩ : Addr).add 0) fun r15 => ldS h17 ((⟨b1, 0, none⟩ : Addr).add 1) fun r16 => ldB h17 ((⟨b1, 0, none⟩ : Addr).add 2) fun r17 => ∃ H'', Heap.Le H'' h17 ∧ K r15 r16 r17 x23 H'') E H4 := by
          intro H4 s4 h4a hst4 hs4
          refine ⟨?_⟩
          unfold zya.J7.vc
          have hl4 := (hst4 b2 _ hloc3 hnb2).1
          have hl1 := (hst4 b1 _ (hle3 _ _ hloc2) hnb1).1
          refine ⟨_, loc hl4 rfl, _, loc hl4 rfl, _, loc hl4 rfl, ?_⟩
          refine st3_loc hl1 (fin (put1 h4a _) ((hst3.trans hst4).put hb1 _) (set_self _ _ _) ?_)
          subst hs4
          unfold OB.next
          rw [if_neg h1, if_neg h4, hf]
        refine ⟨?_⟩
        unfold zya.J5.vc
        refine ⟨f, loc hloc3 rfl, ?_⟩
        have j6 : ∀ {x : Bool}, (x = true ↔ ((s.stopE most = s.text.length ∧ s.fin ≠ 3) ∧ s.fin = 0)) → zya.J6 (some ⟨b, 0, none⟩) ⟨b1, 0, none⟩ ⟨b2, 0, none⟩ x (fun h1 => zya.J7 ⟨b1, 0, none⟩ ⟨b2, 0, none⟩ (fun x23 h17 => ldI h17 .i64 ((⟨b1, 0, none⟩ : Addr).add 0) fun r15 => ldS h17 ((⟨b1, 0, none⟩ : Addr).add 1) fun r16 => ldB h17 ((⟨b1, 0, none⟩ : Addr).add 2) fun r17 => ∃ H'', Heap.Le H'' h17 ∧ K r15 r16 r17 x23 H'') E h1) E H3 := by
          intro x hx
          refine ⟨?_⟩
          unfold zya.J6.vc
          cases x with
          | true =>
            rw [if_pos rfl]
            refine ⟨_, rfl, h23.set (s' := { s with how := mark s.how s.first (s.stopE most) 1, fin := 1 }) rfl rfl rfl (by decide) fun H4 h5 h6 => j7 h5 h6 ?_⟩
            rw [if_pos (hx.1 rfl)]
          | false =>
            rw [if_neg (by simp)]
            refine j7 h23 (Step.refl _ _) ?_
            rw [if_neg (fun c => by have := hx.2 c; cases this)]
        by_cases hff : f = true
        · refine (if_pos hff).mpr ⟨_, rfl, (s.fin.toNat : Int), h23.cell rfl, j6 ?_⟩
          have hd : s.stopE most = s.text.length ∧ s.fin ≠ 3 := by rw [hff] at hf; exact of_decide_eq_true hf.symm
          exact (byV_eq (n := 0) (by decide)).trans ⟨fun e => ⟨hd, e⟩, fun e => e.2⟩
        · refine (if_neg hff).mpr (j6 ⟨fun c => (by cases c), fun c => absurd ?_ hff⟩)
          rw [hf]; exact decide_eq_true c.1
      by_cases h6 : s.stopE most = s.text.length
      · rw [if_pos (by simp [h6])]
        refine ⟨_, rfl, (s.fin.toNat : Int), h2.cell rfl, ?_⟩
        intro b2 hb2n
        have hle3 := Le_set hb2n pz
        have h23 : OAt (H2.set b2 pz) b tp tc hp hc { s with how := mark s.how s.first (s.stopE most) 1 } := by
          obtain ⟨⟨e, he⟩, ht, hh, d1, d2, d3⟩ := h2
          exact ⟨⟨e, hle3 _ _ he⟩, ht.le hle3, hh.le hle3, d1, d2, d3⟩
        refine ⟨⟨_, h23.cell rfl, rfl, rfl⟩, own_rdSub h23.t hsp2 ⟨rfl, rfl⟩, ⟨_, _, _, h23.cell rfl, rfl, rfl⟩, ?_⟩
        refine st3_loc (set_self _ _ _) ?_
        rw [zdc]
        refine last b2 hb2n _ ?_
        by_cases h7 : s.fin = 3
        · have e3 : ((s.fin.toNat : Int) != 3) = false := by rw [h7]; rfl
          rw [e3, decide_eq_false (fun c => c.2 h7)]
        · have e3 : ((s.fin.toNat : Int) != 3) = true := (byV_ne (n := 3) (by decide)).2 h7
          rw [e3, decide_eq_true ⟨h6, h7⟩]
      · rw [if_neg (by simp; omega)]
        intro b2 hb2n
        have hle3 := Le_set hb2n pz
        have h23 : OAt (H2.set b2 pz) b tp tc hp hc { s with how := mark s.how s.first (s.stopE most) 1 } := by
          obtain ⟨⟨e, he⟩, ht, hh, d1, d2, d3⟩ := h2
          exact ⟨⟨e, hle3 _ _ he⟩, ht.le hle3, hh.le hle3, d1, d2, d3⟩
        refine ⟨trivial, own_rdSub h23.t hsp2 ⟨rfl, rfl⟩, ⟨_, _, _, h23.cell rfl, rfl, rfl⟩, ?_⟩
        refine st3_loc (set_self _ _ _) ?_
        rw [zdc]
        refine last b2 hb2n _ ?_
        rw [decide_eq_false (fun c => h6 c.1)]
end Go.Sh
namespace Go.Sh
open Go.Proofs
set_option maxRecDepth 8000
theorem MapOf.lookP {H : Heap} {r : Nat} {k : IntKind} {f : Int → Option Value} (h : MapOf H r k f) {a : Int} {K : Option Addr → Bool → Prop} (h1 : ∀ x, f a = some x → ∃ n, x = .pointer n ∧ K n true) (h0 : f a = none → K none false) : lookP (.int k) (some r) (.int k a) K H := by
  obtain ⟨es, clk, e1, e2, e3, e4⟩ := h
  refine ⟨es, clk, e1, fun e he => ?_, ?_⟩
  · obtain ⟨n, hn⟩ := e2 e (by simpa using he)
    rw [hn]; simp [keyOk]
  · have := e4 a
    show (match mfind (.int k a) es with
      | some v => ∃ n, v = Value.pointer n ∧ K n true
      | none => K none false)
    cases hm : mfind (.int k a) es with
    | none => rw [hm] at this; exact h0 this.symm
    | some v => rw [hm] at this; exact h1 v this.symm
theorem MapOf.stp {H H' : Heap} {r : Nat} {k : IntKind} {f : Int → Option Value} (h : MapOf H r k f) {M M' : List Nat} (hs : Step M H M' H') (hn : r ∉ M) : MapOf H' r k f := by
  obtain ⟨es, clk, e1, e2⟩ := h
  exact ⟨es, clk, (hs r _ e1 hn).1, e2⟩
theorem MapOf.live {H : Heap} {r : Nat} {k : IntKind} {f : Int → Option Value} (h : MapOf H r k f) : H r ≠ none := by
  obtain ⟨es, clk, e1, e2⟩ := h
  rw [e1]; simp
def MapO (r : Nat) (f : Int → Option Value) : Own := fun L H => MapOf H r .i64 f ∧ L = [r]
theorem MapO.good (r : Nat) (f : Int → Option Value) : (MapO r f).good := by
  refine ⟨?_, ?_⟩
  · rintro L M M' H H' ⟨h, rfl⟩ hs hn
    exact ⟨h.stp hs (hn r (by simp)), rfl⟩
  · rintro L H ⟨h, rfl⟩ k hk
    rw [List.mem_singleton] at hk
    rw [hk]
    exact h.live
def AnyMap (r : Nat) : Own := fun L H => (∃ f, MapOf H r .i64 f) ∧ L = [r]
theorem AnyMap.good (r : Nat) : (AnyMap r).good := by
  refine ⟨?_, ?_⟩
  · rintro L M M' H H' ⟨⟨f, h⟩, rfl⟩ hs hn
    exact ⟨⟨f, h.stp hs (hn r (by simp))⟩, rfl⟩
  · rintro L H ⟨⟨f, h⟩, rfl⟩ k hk
    rw [List.mem_singleton] at hk
    rw [hk]
    exact h.live
structure SM where
  inb : Bx
  out : OB
  came : Bool
  told : Int
  far : Int
def SM.arr (s : SM) (ib ob : Nat) : Array Value := #[.pointer (some ⟨ib, 0, none⟩), .pointer (some ⟨ob, 0, none⟩), .int .i64 0, .int .i64 0, .bool s.came, .int .i64 s.told, .bool false, .int .i64 s.far]
structure StrAt (H : Heap) (sb ib ob mb : Nat) (Lo : List Nat) (s : SM) : Prop where
  st : H sb = some (.cells (s.arr ib ob) 113)
  inb : BoxAt H ib mb s.inb
  out : OA H ob Lo s.out
  d1 : sb ≠ ib
  d2 : sb ≠ mb
  d3 : ∀ k ∈ Lo, k ≠ sb ∧ k ≠ ib ∧ k ≠ mb
def StrO (sb ib ob : Nat) (s : SM) : Own := fun L H => ∃ mb Lo, StrAt H sb ib ob mb Lo s ∧ L = sb :: ib :: mb :: Lo
theorem BoxAt.stp {H H' : Heap} {b mb : Nat} {s : Bx} (h : BoxAt H b mb s) {M M' : List Nat} (hs : Step M H M' H') (h1 : b ∉ M) (h2 : mb ∉ M) : BoxAt H' b mb s := by
  obtain ⟨⟨e, he⟩, hm, hn⟩ := h
  exact ⟨⟨e, (hs b _ he h1).1⟩, hm.stp hs h2, hn⟩
theorem BoxAt.live {H : Heap} {b mb : Nat} {s : Bx} (h : BoxAt H b mb s) : H b ≠ none ∧ H mb ≠ none := by
  obtain ⟨⟨e, he⟩, hm, hn⟩ := h
  exact ⟨by rw [he]; simp, hm.live⟩
theorem StrO.good (sb ib ob : Nat) (s : SM) : (StrO sb ib ob s).good := by
  refine ⟨?_, ?_⟩
  · rintro L M M' H H' ⟨mb, Lo, ⟨a, b, c, d1, d2, d3⟩, rfl⟩ hs hn
    exact ⟨mb, Lo, ⟨(hs sb _ a (hn sb (by simp))).1, b.stp hs (hn ib (by simp)) (hn mb (by simp)), c.step hs fun k hk => hn k (by simp [hk]), d1, d2, d3⟩, rfl⟩
  · rintro L H ⟨mb, Lo, ⟨a, b, c, d1, d2, d3⟩, rfl⟩ k hk
    simp only [List.mem_cons] at hk
    rcases hk with rfl | rfl | rfl | hk
    · rw [a]; simp
    · exact b.live.1
    · exact b.live.2
    · exact c.live k hk
structure KeyS where
  b : Nat
  s : ByteArray
  a : Int
  o : Int
def KeyO : Option KeyS → Own
  | none => fun L _ => L = []
  | some k => fun L H => (KeyAt H k.b k.s k.a k.o ∧ 0 ≤ k.a ∧ k.a ≤ 1000 ∧ 0 ≤ k.o ∧ k.o ≤ 1000 ∧ k.s.size ≤ 100000) ∧ L = [k.b]
theorem KeyAt.stp {H H' : Heap} {b : Nat} {s : ByteArray} {a o : Int} (h : KeyAt H b s a o) {M M' : List Nat} (hs : Step M H M' H') (hn : b ∉ M) : KeyAt H' b s a o := h.elim (fun h => .inl ⟨h.1, (hs _ _ h.2 hn).1⟩) (fun h => .inr ⟨h.1, (hs _ _ h.2 hn).1⟩)
theorem KeyAt.live {H : Heap} {b : Nat} {s : ByteArray} {a o : Int} (h : KeyAt H b s a o) : H b ≠ none := h.elim (fun h => by rw [h.2]; simp) (fun h => by rw [h.2]; simp)
theorem KeyO.good (k : Option KeyS) : (KeyO k).good := by
  cases k with
  | none => exact ⟨fun {L M M' H H'} h _ _ => h, fun {L H} h k hk => by rw [show L = [] from h] at hk; cases hk⟩
  | some k =>
    refine ⟨?_, ?_⟩
    · rintro L M M' H H' ⟨⟨h, r⟩, rfl⟩ hs hn
      exact ⟨⟨h.stp hs (hn k.b (by simp)), r⟩, rfl⟩
    · rintro L H ⟨⟨h, r⟩, rfl⟩ x hx
      rw [List.mem_singleton] at hx
      rw [hx]
      exact h.live
def TxtAt (H : Heap) (p : Option Addr) (c : Nat) (l : List ByteArray) (L : List Nat) : Prop :=
  (p = none ∧ c = 0 ∧ l = [] ∧ L = []) ∨ ∃ b o arr, p = some ⟨b, o, none⟩ ∧ H b = some (.cells arr 9) ∧ o + c ≤ arr.size ∧ l.length ≤ c ∧ (arr.toList.drop o).take l.length = l.map Value.string ∧ L = [b]
theorem TxtAt.stp {H H' : Heap} {p : Option Addr} {c : Nat} {l : List ByteArray} {L : List Nat} (h : TxtAt H p c l L) {M M' : List Nat} (hs : Step M H M' H') (hn : ∀ k ∈ L, k ∉ M) : TxtAt H' p c l L := by
  rcases h with h | ⟨b, o, arr, h1, h2, h3, h4, h5, rfl⟩
  · exact .inl h
  · exact .inr ⟨b, o, arr, h1, (hs b _ h2 (hn b (by simp))).1, h3, h4, h5, rfl⟩
theorem TxtAt.live {H : Heap} {p : Option Addr} {c : Nat} {l : List ByteArray} {L : List Nat} (h : TxtAt H p c l L) : ∀ k ∈ L, H k ≠ none := by
  rcases h with ⟨_, _, _, rfl⟩ | ⟨b, o, arr, h1, h2, h3, h4, h5, rfl⟩
  · intro k hk; cases hk
  · intro k hk
    rw [List.mem_singleton] at hk
    rw [hk, h2]; simp
theorem TxtAt.len {H : Heap} {p : Option Addr} {c : Nat} {l : List ByteArray} {L : List Nat} (h : TxtAt H p c l L) : l.length ≤ c := by
  rcases h with ⟨_, _, rfl, _⟩ | ⟨b, o, arr, h1, h2, h3, h4, h5, rfl⟩
  · exact Nat.zero_le _
  · exact h4
theorem TxtAt.get {H : Heap} {p : Option Addr} {c : Nat} {l : List ByteArray} {L : List Nat} (h : TxtAt H p c l L) {i : Nat} {s : ByteArray} (hi : l[i]? = some s) : ∃ a, p = some a ∧ H.cell? (a.add i) = some (.string s) := by
  rcases h with ⟨_, _, rfl, _⟩ | ⟨b, o, arr, h1, h2, h3, h4, h5, rfl⟩
  · simp at hi
  · have hil : i < l.length := (List.getElem?_eq_some_iff.1 hi).1
    refine ⟨_, h1, ?_⟩
    rw [add_mk]
    have h6 := congrArg (fun x => x[i]?) h5
    simp only [List.getElem?_take, List.getElem?_drop, List.getElem?_map, hi, if_pos hil, Option.map_some] at h6
    unfold Heap.cell?
    rw [h2]
    simpa using h6
theorem TxtAt.pop {H : Heap} {p : Option Addr} {c : Nat} {s : ByteArray} {l : List ByteArray} {L : List Nat} (h : TxtAt H p c (s :: l) L) : TxtAt H (slA p c 1 1) (c - 1) l L := by
  rcases h with ⟨_, _, h, _⟩ | ⟨b, o, arr, h1, h2, h3, h4, h5, rfl⟩
  · cases h
  · rw [List.length_cons] at h4 h5
    by_cases hc : c = 1
    · subst hc
      have hl : l = [] := List.length_eq_zero_iff.1 (by omega)
      subst hl
      refine .inr ⟨b, o, arr, ?_, h2, by omega, by simp, by simp, rfl⟩
      unfold slA
      rw [if_pos rfl, h1]
    · refine .inr ⟨b, o + 1, arr, ?_, h2, by omega, by omega, ?_, rfl⟩
      · unfold slA
        rw [if_neg hc, h1]
        rfl
      · have hd : o < arr.toList.length := by rw [Array.length_toList]; omega
        rw [List.drop_eq_getElem_cons hd, List.take_succ_cons, List.map_cons] at h5
        exact (List.cons.inj h5).2
theorem TxtAt.app {H : Heap} {p : Option Addr} {c : Nat} {s : ByteArray} {l : List ByteArray} {L : List Nat} (h : TxtAt H p c l L) (hl : l.length ≤ 1000) {new : List Value} (hnew : new = [.string s]) {K : Option Addr → Nat → Nat → Heap → Prop}
    (hk : ∀ p' c' L' H', TxtAt H' p' c' (l ++ [s]) L' → Step L H L' H' → K p' (l.length + 1) c' H') : appT 9 (.string ⟨#[]⟩) p l.length 1 c 1 16 new K H := by
  subst hnew
  refine ⟨by omega, by omega, fun hc => ?_, fun hc => ?_⟩
  · rcases h with ⟨rfl, rfl, rfl, rfl⟩ | ⟨b, o, arr, rfl, h2, h3, h4, h5, rfl⟩
    · omega
    · refine ⟨by simp [znd], ?_⟩
      rw [add_mk, Nat.mul_one]
      refine stcs_own [.string s] 0 (o + l.length) arr H h2 (by simp; omega) fun arr' k1 k2 k3 => ?_
      refine hk _ c [b] _ (.inr ⟨b, o, arr', rfl, by simp, by rw [k1]; exact h3, by simp; omega, ?_, rfl⟩) fun k ob hk hn => ?_
      · rw [Nat.add_zero] at k2 k3
        have k3' : List.take 1 (List.drop (o + l.length) arr'.toList) = [Value.string s] := k3
        have k4 := congrArg (List.drop o) k2
        rw [List.drop_take, List.drop_take, Nat.add_sub_cancel_left] at k4
        rw [List.length_append, List.length_singleton, List.take_add, List.map_append, List.drop_drop, k3', k4, h5]
        rfl
      · have hkb : k ≠ b := by simpa using hn
        exact ⟨by simp [hkb, hk], hn⟩
  · have hr : ∃ old : List Value, old = l.map Value.string ∧ ∀ {Kx : List Value → Prop}, Kx old → rdRow H p (l.length * 1) Kx := by
      refine ⟨_, rfl, fun {Kx} hx => ?_⟩
      have hrow : RowsAt H p l.length 1 (l.map fun s => [Value.string s]) := by
        refine ⟨by simp, fun hp => ?_, fun a ha i es hi => ?_⟩
        · rcases h with ⟨_, _, rfl, _⟩ | ⟨b, o, arr, h1, _⟩
          · rfl
          · rw [hp] at h1; cases h1
        · rw [List.getElem?_map] at hi
          cases hs : l[i]? with
          | none => rw [hs] at hi; cases hi
          | some s' =>
            rw [hs] at hi
            cases hi
            obtain ⟨a', ha', hc'⟩ := h.get hs
            rw [ha] at ha'
            cases ha'
            refine ⟨rfl, fun j v hj => ?_⟩
            match j with
            | 0 =>
              cases hj
              rw [add_add]
              simpa using hc'
            | j + 1 => simp at hj
      refine rdRow_of hrow (by decide) rfl ?_
      have e : (l.map fun s => [Value.string s]).flatten = l.map Value.string := by
        clear hx hrow hc hk h hl
        induction l with
        | nil => rfl
        | cons x l ih => simp [ih]
      rw [e]
      exact hx
    obtain ⟨old, ho, hr⟩ := hr
    refine hr fun cap hcap b hb => ?_
    refine hk _ cap [b] _ (.inr ⟨b, 0, (old ++ [Value.string s] ++ zub (Value.string ⟨#[]⟩) (cap - (l.length + 1))).toArray, rfl, set_self _ _ _, ?_, by simp; omega, ?_, rfl⟩) fun k ob hk hn => ⟨Le_set hb _ _ _ hk, fun hm => ?_⟩
    · have hzl : (zub (Value.string ⟨#[]⟩) (cap - (l.length + 1))).length = cap - (l.length + 1) := by
        simp [zub, Builtin.zeroCells]
        rw [show (Value.string ⟨#[]⟩).cells.size = 1 from rfl, Nat.mul_one]
      rw [List.size_toArray, List.length_append, List.length_append, hzl, ho, List.length_map]
      simp; omega
    · rw [ho, List.drop_zero]
      show List.take (l ++ [s]).length ((l.map Value.string ++ [Value.string s]) ++ _) = _
      rw [List.take_left' (by simp), List.map_append]
      rfl
    · rw [List.mem_singleton] at hm
      rw [hm, hb] at hk; cases hk
structure CA where
  wb : Nat
  nb : Nat
  lb : Nat
  sm : Nat
  am : Nat
  ss : Nat → Nat
  si : Nat → Nat
  so : Nat → Nat
structure CN where
  psk : ByteArray
  cid : ByteArray
  srv : Bool
  nonce : ByteArray
  ph : Int
  code : Int
  say : Bool
  hl : Bool
  ha : Int
  gr : Bool
  ans : Bool
  next : Nat
  rx : Option KeyS
  tx : Option KeyS
  ours : ByteArray
  wait : List ByteArray
  got : List ByteArray
def kptr (k : Option KeyS) : Option Addr := k.map fun k => ⟨k.b, 0, none⟩
def CN.arr (c : CN) (a : CA) (wp : Option Addr) (wc : Nat) (gp : Option Addr) (gc : Nat) : Array Value :=
  #[.string c.psk, .string c.cid, .bool c.srv, .string c.nonce, .int .i64 c.ph, .int .i64 c.code, .bool c.say, .bool c.hl, .int .i64 c.ha, .bool c.gr, .bool c.ans, .int .i64 c.next, .pointer (kptr c.rx), .pointer (kptr c.tx), .pointer (some ⟨a.wb, 0, none⟩), .pointer (some ⟨a.nb, 0, none⟩), .pointer (some ⟨a.lb, 0, none⟩), .map (some a.sm), .map (some a.am), .slice wp c.wait.length wc, .slice gp c.got.length gc, .string c.ours]
structure ConAt (H : Heap) (cb : Nat) (a : CA) (c : CN) (wp : Option Addr) (wc : Nat) (gp : Option Addr) (gc : Nat) (Lw Lg : List Nat) : Prop where
  cell : H cb = some (.cells (c.arr a wp wc gp gc) 70)
  w : TxtAt H wp wc c.wait Lw
  g : TxtAt H gp gc c.got Lg
  d1 : cb ∉ Lw
  d2 : cb ∉ Lg
  d3 : ∀ k ∈ Lw, k ∉ Lg
def ConO (cb : Nat) (a : CA) (c : CN) : Own := fun L H => ∃ wp wc gp gc Lw Lg, ConAt H cb a c wp wc gp gc Lw Lg ∧ L = cb :: (Lw ++ Lg)
theorem ConO.good (cb : Nat) (a : CA) (c : CN) : (ConO cb a c).good := by
  refine ⟨?_, ?_⟩
  · rintro L M M' H H' ⟨wp, wc, gp, gc, Lw, Lg, ⟨h1, h2, h3, d1, d2, d3⟩, rfl⟩ hs hn
    exact ⟨wp, wc, gp, gc, Lw, Lg, ⟨(hs cb _ h1 (hn cb (by simp))).1, h2.stp hs fun k hk => hn k (by simp [hk]), h3.stp hs fun k hk => hn k (by simp [hk]), d1, d2, d3⟩, rfl⟩
  · rintro L H ⟨wp, wc, gp, gc, Lw, Lg, ⟨h1, h2, h3, d1, d2, d3⟩, rfl⟩ k hk
    simp only [List.mem_cons, List.mem_append] at hk
    rcases hk with rfl | hk | hk
    · rw [h1]; simp
    · exact h2.live k hk
    · exact h3.live k hk
def idV : Nat → Int
  | 0 => 0 | 1 => 2 | 2 => 3 | 3 => 4 | 4 => 8 | 5 => 12 | 6 => 16 | 7 => 20 | 8 => 24 | _ => 28
def idN (n : Int) : Option Nat :=
  if n = 0 then some 0 else if n = 2 then some 1 else if n = 3 then some 2 else if n = 4 then some 3 else if n = 8 then some 4 else if n = 12 then some 5 else if n = 16 then some 6 else if n = 20 then some 7 else if n = 24 then some 8 else if n = 28 then some 9 else none
theorem idN_idV : ∀ i, i < 10 → idN (idV i) = some i := by decide
def smF (ss : Nat → Nat) : Int → Option Value := fun n => (idN n).map fun i => .pointer (some ⟨ss i, 0, none⟩)
structure CS where
  c : CN
  S : Nat → SM
  m : Nat
  F : List Pkt
  top : Int
def parts (cb : Nat) (a : CA) (x : CS) : List Own := (List.range 10).map (fun i => StrO (a.ss i) (a.si i) (a.so i) (x.S i)) ++ [WinO a.wb x.m, NumO a.nb x.m, LedO a.lb x.F x.top, AnyMap a.am, MapO a.sm (smF a.ss), KeyO x.c.rx, KeyO x.c.tx, ConO cb a x.c]
def CAt (cb : Nat) (a : CA) (x : CS) : Own := Star (parts cb a x)
theorem zff (cb : Nat) (a : CA) (x : CS) : ∀ P ∈ parts cb a x, P.good := by
  intro P hP
  unfold parts at hP
  rcases List.mem_append.1 hP with h | h
  · obtain ⟨i, _, rfl⟩ := List.mem_map.1 h
    exact StrO.good _ _ _ _
  · simp only [List.mem_cons, List.not_mem_nil, or_false] at h
    rcases h with rfl | rfl | rfl | rfl | rfl | rfl | rfl | rfl
    · exact WinO.good _ _
    · exact NumO.good _ _
    · exact LedO.good _ _ _
    · exact AnyMap.good _
    · exact MapO.good _ _
    · exact KeyO.good _
    · exact KeyO.good _
    · exact ConO.good _ _ _
theorem CAt.good (cb : Nat) (a : CA) (x : CS) : (CAt cb a x).good := Star.good (zff cb a x)
section
variable {cb : Nat} {a : CA} {x : CS} {L : List Nat} {H : Heap}
theorem parts_str {i : Nat} (hi : i < 10) : (parts cb a x)[i]? = some (StrO (a.ss i) (a.si i) (a.so i) (x.S i)) := by
  unfold parts
  rw [List.getElem?_append_left (by simpa using hi)]
  simp [List.getElem?_range hi]
def upS (S : Nat → SM) (i : Nat) (s : SM) : Nat → SM := fun j => if j = i then s else S j
theorem set_str {i : Nat} (hi : i < 10) {s : SM} : (parts cb a x).set i (StrO (a.ss i) (a.si i) (a.so i) s) = parts cb a { x with S := upS x.S i s } := by
  unfold parts
  rw [List.set_append_left _ _ (by simpa using hi)]
  congr 1
  apply List.ext_getElem?
  intro j
  rw [List.getElem?_set]
  by_cases hj : i = j
  · subst hj
    rw [if_pos rfl, if_pos (by simpa using hi)]
    simp [List.getElem?_range hi, upS]
  · rw [if_neg hj, List.getElem?_map, List.getElem?_map]
    cases hr : (List.range 10)[j]? with
    | none => rfl
    | some y =>
      have : y = j := by
        obtain ⟨h1, h2⟩ := List.getElem?_eq_some_iff.1 hr
        rw [List.getElem_range] at h2
        exact h2.symm
      subst this
      simp [upS, Ne.symm hj]
theorem CAt.str (h : CAt cb a x L H) {i : Nat} (hi : i < 10) : ∃ Li, StrO (a.ss i) (a.si i) (a.so i) (x.S i) Li H ∧ (∀ k ∈ Li, k ∈ L) ∧ ∀ {s : SM} {Li' : List Nat} {H' : Heap}, StrO (a.ss i) (a.si i) (a.so i) s Li' H' → Step Li H Li' H' → ∃ L', CAt cb a { x with S := upS x.S i s } L' H' ∧ Step L H L' H' := by
  obtain ⟨Li, h1, h2, h3⟩ := Star.part (zff cb a x) (parts_str hi) h
  exact ⟨Li, h1, h2, fun {s Li' H'} hs hst => by
    obtain ⟨L', h4, h5⟩ := h3 hs hst
    rw [set_str hi] at h4
    exact ⟨L', h4, h5⟩⟩
theorem CAt.win (h : CAt cb a x L H) : ∃ Li, WinO a.wb x.m Li H ∧ (∀ k ∈ Li, k ∈ L) ∧ ∀ {m' : Nat} {Li' : List Nat} {H' : Heap}, WinO a.wb m' Li' H' → Step Li H Li' H' → ∃ L', Star ((parts cb a x).set 10 (WinO a.wb m')) L' H' ∧ Step L H L' H' := by
  obtain ⟨Li, h1, h2, h3⟩ := Star.part (zff cb a x) (i := 10) rfl h
  exact ⟨Li, h1, h2, fun hs hst => h3 hs hst⟩
theorem CAt.led (h : CAt cb a x L H) : ∃ Li, LedO a.lb x.F x.top Li H ∧ (∀ k ∈ Li, k ∈ L) ∧ ∀ {F' : List Pkt} {t' : Int} {Li' : List Nat} {H' : Heap}, LedO a.lb F' t' Li' H' → Step Li H Li' H' → ∃ L', CAt cb a { x with F := F', top := t' } L' H' ∧ Step L H L' H' := by
  obtain ⟨Li, h1, h2, h3⟩ := Star.part (zff cb a x) (i := 12) rfl h
  exact ⟨Li, h1, h2, fun hs hst => h3 hs hst⟩
theorem CAt.away (h : CAt cb a x L H) : ∃ Li, AnyMap a.am Li H ∧ (∀ k ∈ Li, k ∈ L) ∧ ∀ {Li' : List Nat} {H' : Heap}, AnyMap a.am Li' H' → Step Li H Li' H' → ∃ L', CAt cb a x L' H' ∧ Step L H L' H' := by
  obtain ⟨Li, h1, h2, h3⟩ := Star.part (zff cb a x) (i := 13) rfl h
  exact ⟨Li, h1, h2, fun hs hst => h3 hs hst⟩
theorem CAt.smap (h : CAt cb a x L H) : MapOf H a.sm .i64 (smF a.ss) ∧ a.sm ∈ L := by
  obtain ⟨Li, ⟨h1, rfl⟩, h2, h3⟩ := Star.part (zff cb a x) (i := 14) rfl h
  exact ⟨h1, h2 _ (by simp)⟩
theorem CAt.con (h : CAt cb a x L H) : ∃ Li, ConO cb a x.c Li H ∧ (∀ k ∈ Li, k ∈ L) ∧ ∀ {c' : CN} {Li' : List Nat} {H' : Heap}, c'.rx = x.c.rx → c'.tx = x.c.tx → ConO cb a c' Li' H' → Step Li H Li' H' → ∃ L', CAt cb a { x with c := c' } L' H' ∧ Step L H L' H' := by
  obtain ⟨Li, h1, h2, h3⟩ := Star.part (zff cb a x) (i := 17) rfl h
  refine ⟨Li, h1, h2, fun {c' Li' H'} e1 e2 hs hst => ?_⟩
  obtain ⟨L', h4, h5⟩ := h3 hs hst
  refine ⟨L', ?_, h5⟩
  have e : (parts cb a x).set 17 (ConO cb a c') = parts cb a { x with c := c' } := by
    unfold parts
    dsimp only
    rw [e1, e2]
    rfl
  rw [e] at h4
  exact h4
theorem CAt.cells (h : CAt cb a x L H) : ∃ wp wc gp gc, H cb = some (.cells (x.c.arr a wp wc gp gc) 70) := by
  obtain ⟨Li, ⟨wp, wc, gp, gc, Lw, Lg, h1, _⟩, _⟩ := h.con
  exact ⟨wp, wc, gp, gc, h1.cell⟩
theorem CAt.setc (h : CAt cb a x L H) {o : Nat} {v : Value} {c' : CN} (ho : o < 22) (hv : ∀ wp wc gp gc, (x.c.arr a wp wc gp gc).setIfInBounds o v = c'.arr a wp wc gp gc) (e1 : c'.rx = x.c.rx) (e2 : c'.tx = x.c.tx) (e3 : c'.wait = x.c.wait) (e4 : c'.got = x.c.got) {K : Heap → Prop}
    (hk : ∀ L' H', CAt cb a { x with c := c' } L' H' → Step L H L' H' → K H') : stc H ((⟨cb, 0, none⟩ : Addr).add o) v K := by
  obtain ⟨Li, ⟨wp, wc, gp, gc, Lw, Lg, ⟨h1, h2, h3, d1, d2, d3⟩, rfl⟩, _, hput⟩ := h.con
  refine stc_at h1 (show o < 22 from ho) (hv wp wc gp gc) ?_
  have hs := Step.set H cb (.cells (c'.arr a wp wc gp gc) 70)
  obtain ⟨L', hc, hst⟩ := hput (c' := c') (Li' := cb :: (Lw ++ Lg)) e1 e2 ⟨wp, wc, gp, gc, Lw, Lg, ⟨set_self _ _ _, by rw [e3]; exact h2.stp hs fun k hk hm => d1 (by rw [List.mem_singleton] at hm; rw [← hm]; exact hk), by rw [e4]; exact h3.stp hs fun k hk hm => d2 (by rw [List.mem_singleton] at hm; rw [← hm]; exact hk), d1, d2, d3⟩, rfl⟩ (hs.frame (fun k hk => by rw [List.mem_singleton]; exact fun e => hk (by rw [e]; simp)) (fun k hk _ => hk))
  exact hk L' _ hc hst
end
section
variable {cb : Nat} {a : CA} {x : CS} {L : List Nat} {H : Heap} {E : Value → Heap → Prop}
def mayB (srv : Bool) (i : Nat) (read : Bool) : Bool := if i = 1 then srv == read else if i = 2 then !(srv == read) else true
theorem idV_2 : ∀ i, i < 10 → ((idV i == 2) = decide (i = 1)) ∧ ((idV i == 3) = decide (i = 2)) := by decide
theorem zpa.run (h : CAt cb a x L H) {i : Nat} (hi : i < 10) {read : Bool} {K : Option Addr → Bool → Heap → Prop} (hk : K (if mayB x.c.srv i read = true then some ⟨a.ss i, 0, none⟩ else none) (mayB x.c.srv i read) H) : zpa.c (some ⟨cb, 0, none⟩) (idV i) read K E H := by
  obtain ⟨wp, wc, gp, gc, hc⟩ := h.cells
  obtain ⟨hm, _⟩ := h.smap
  obtain ⟨e2, e3⟩ := idV_2 i hi
  refine ⟨?_⟩
  unfold zpa.vc
  refine ⟨_, rfl, _, loc (o := 17) hc rfl, ?_⟩
  refine hm.lookP (fun v hv => ?_) (fun hv => ?_)
  · unfold smF at hv
    rw [idN_idV i hi] at hv
    cases hv
    refine ⟨_, rfl, ⟨?_⟩⟩
    have j2 : ∀ {y : Bool}, y = !(mayB x.c.srv i read) → zpa.J2 (some ⟨a.ss i, 0, none⟩) true y (fun h1 => zpa.J3 (some ⟨a.ss i, 0, none⟩) true (fun r0 r1 H => ∃ H', Heap.Le H' H ∧ K r0 r1 H') E h1) (fun r0 r1 H => ∃ H', Heap.Le H' H ∧ K r0 r1 H') E H := fun {y} hy => by
      refine ⟨?_⟩
      unfold zpa.J2.vc
      cases hmb : mayB x.c.srv i read with
      | true =>
        rw [hmb] at hy hk
        subst hy
        rw [if_neg (by decide)]
        refine ⟨?_⟩
        unfold zpa.J3.vc
        rw [if_pos rfl] at hk
        exact ⟨H, Heap.Le.refl _, hk⟩
      | false =>
        rw [hmb] at hy hk
        subst hy
        rw [if_pos (by decide)]
        rw [if_neg (by decide)] at hk
        exact ⟨H, Heap.Le.refl _, hk⟩
    unfold zpa.J1.vc
    rw [e2, e3]
    by_cases i1 : i = 1
    · rw [if_pos (by rw [decide_eq_true_eq]; exact i1)]
      refine ⟨_, rfl, _, loc (o := 2) hc rfl, ?_⟩
      dsimp only
      have em : mayB x.c.srv i read = (x.c.srv == read) := by unfold mayB; rw [if_pos i1]
      cases hsr : (x.c.srv == read) with
      | true =>
        rw [if_neg (by decide), if_neg (by rw [decide_eq_true_eq]; omega)]
        exact j2 (by rw [em, hsr]; rfl)
      | false =>
        rw [if_pos (by decide)]
        exact j2 (by rw [em, hsr]; rfl)
    · rw [if_neg (by rw [decide_eq_true_eq]; exact i1)]
      by_cases i2 : i = 2
      · rw [if_pos (by rw [decide_eq_true_eq]; exact i2)]
        refine ⟨_, rfl, _, loc (o := 2) hc rfl, j2 ?_⟩
        unfold mayB
        rw [if_neg i1, if_pos i2]
        cases (x.c.srv == read) <;> rfl
      · rw [if_neg (by rw [decide_eq_true_eq]; exact i2)]
        refine j2 ?_
        unfold mayB
        rw [if_neg i1, if_neg i2]
        rfl
  · unfold smF at hv
    rw [idN_idV i hi] at hv
    cases hv
end
end Go.Sh
namespace Go.Sh
open Go.Proofs
set_option maxRecDepth 8000
theorem Star.append : ∀ {Ps Qs : List Own} {L M : List Nat} {H : Heap}, Star Ps L H → Star Qs M H → (∀ k ∈ L, k ∉ M) → Star (Ps ++ Qs) (L ++ M) H
  | [], Qs, L, M, H, h, g, _ => by rw [show L = [] from h]; exact g
  | P :: Ps, Qs, L, M, H, h, g, hd => by
    obtain ⟨L1, L2, rfl, a, b, c⟩ := h
    refine ⟨L1, L2 ++ M, by rw [List.append_assoc], a, Star.append b g fun k hk => hd k (by simp [hk]), fun k hk => ?_⟩
    rw [List.mem_append, not_or]
    exact ⟨c k hk, hd k (by simp [hk])⟩
theorem Star.one {P : Own} {L : List Nat} {H : Heap} (h : P L H) : Star [P] L H := ⟨L, [], by simp, h, rfl, by simp⟩
theorem idN_inv {n : Int} {i : Nat} (h : idN n = some i) : n = idV i ∧ i < 10 := by
  unfold idN at h
  repeat' split at h
  all_goals first
    | (cases h; rename_i e; exact ⟨e, by decide⟩)
    | cases h
def idsArr : Array Value := #[(.int .i64 0), (.int .i64 2), (.int .i64 3), (.int .i64 4), (.int .i64 8), (.int .i64 12), (.int .i64 16), (.int .i64 20), (.int .i64 24), (.int .i64 28)]
theorem idsArr_get : ∀ i, i < 10 → idsArr[i]? = some (.int .i64 (idV i)) := by
  intro i hi
  match i, hi with
  | 0, _ => rfl
  | 1, _ => rfl
  | 2, _ => rfl
  | 3, _ => rfl
  | 4, _ => rfl
  | 5, _ => rfl
  | 6, _ => rfl
  | 7, _ => rfl
  | 8, _ => rfl
  | 9, _ => rfl
def s0 : SM := ⟨bx0, ob0, false, 4096, 0⟩
def cn0 (psk cid nonce : ByteArray) : CN := ⟨psk, cid, false, nonce, 0, 0, false, false, 0, false, false, 0, none, none, ⟨#[]⟩, [], []⟩
section
variable {H : Heap} {E : Value → Heap → Prop}
theorem zoe.run {K : Option Addr → Nat → Nat → Heap → Prop} (h : ∀ b H', H b = none → H' b = some (.cells idsArr 2) → Heap.Le H H' → K (some ⟨b, 0, none⟩) 10 10 H') : zoe.c K E H := ⟨zna fun b H1 hn hl hle => ⟨H1, Heap.Le.refl _, h b H1 hn hl hle⟩⟩
def smI (ss : Nat → Nat) (i : Nat) : Int → Option Value := fun n => (idN n).bind fun j => if j < i then some (.pointer (some ⟨ss j, 0, none⟩)) else none
def up1 (f : Nat → Nat) (i v : Nat) : Nat → Nat := fun j => if j = i then v else f j
def strs (ss si so : Nat → Nat) (i : Nat) : List Own := (List.range i).map fun j => StrO (ss j) (si j) (so j) s0
theorem strs_up {ss si so : Nat → Nat} {i v w u : Nat} : strs (up1 ss i v) (up1 si i w) (up1 so i u) (i + 1) = strs ss si so i ++ [StrO v w u s0] := by
  unfold strs
  rw [List.range_succ, List.map_append]
  congr 1
  · apply List.map_congr_left
    intro j hj
    have : j < i := by simpa using hj
    simp [up1, Nat.ne_of_lt this]
  · simp [up1]
theorem zge.loop {cb sm ib : Nat} {arr : Array Value} (hcb : H cb = some (.cells arr 70)) (ha : arr[17]? = some (.map (some sm))) (hsm : H sm = some (.map #[] 0)) (hib : H ib = some (.cells idsArr 2)) {Kx : Heap → Prop}
    (h : ∀ H' ss si so Ls, Star (strs ss si so 10) Ls H' → MapOf H' sm .i64 (smI ss 10) → Step [sm] H [sm] H' → (∀ k ∈ Ls, H k = none) → Kx H') : zge.W1 ⟨cb, 0, none⟩ (some ⟨ib, 0, none⟩) 10 10 10 0 Kx E H := by
  have ncs : cb ≠ sm := fun e => by rw [e, hsm] at hcb; cases hcb
  have nis : ib ≠ sm := fun e => by rw [e, hsm] at hib; cases hib
  have hg : ∀ ss si so i, ∀ P ∈ strs ss si so i, P.good := fun ss si so i P hP => by
    obtain ⟨j, _, rfl⟩ := List.mem_map.1 hP
    exact StrO.good _ _ _ _
  refine ⟨Loop.of (I := fun st H' m => ∃ (i : Nat) (ss si so : Nat → Nat) (Ls : List Nat), st = (i : Int) ∧ i ≤ 10 ∧ m = 10 - i ∧ Star (strs ss si so i) Ls H' ∧ MapOf H' sm .i64 (smI ss i) ∧ Step [sm] H [sm] H' ∧ (∀ k ∈ Ls, H k = none)) ?_
    ⟨0, fun _ => 0, fun _ => 0, fun _ => 0, [], rfl, by decide, rfl, rfl, ⟨#[], 0, hsm, by simp, by simp, fun n => ?_⟩, Step.refl _ _, by simp⟩⟩
  rotate_left
  · show none = smI _ 0 n
    unfold smI
    cases idN n with
    | none => rfl
    | some j => simp
  rintro m st H' ⟨i, ss, si, so, Ls, rfl, hi, rfl, hst, hm, hs, hLn⟩ RR hRR
  unfold zge.W1.vc
  by_cases hc : i < 10
  · rw [if_pos (by rw [decide_eq_true_eq]; omega)]
    have hcb' := (hs cb _ hcb (by simpa using ncs)).1
    have hib' := (hs ib _ hib (by simpa using nis)).1
    refine ⟨_, rfl, by omega, by omega, idV i, by rw [Int.toNat_natCast, Nat.mul_one]; exact loc hib' (idsArr_get i hc), _, rfl, _, loc (o := 17) hcb' ha, ?_⟩
    refine inbox_New.run fun b1 mb H1 hb1 hn1 hnm hle1 => ⟨⟨_, loc (o := 17) (hle1 _ _ hcb') ha, rfl, rfl⟩, ?_⟩
    refine outbox_New.run fun b2 H2 hb2 hn2 hle2 => ⟨⟨_, loc (o := 17) (hle2 _ _ (hle1 _ _ hcb')) ha, rfl, rfl⟩, ?_⟩
    refine zna fun b3 H3 hn3 hl3 hle3 => ⟨⟨_, loc (o := 17) (hle3 _ _ (hle2 _ _ (hle1 _ _ hcb'))) ha, rfl, rfl⟩, ?_⟩
    have l3 := (hle1.trans hle2).trans hle3
    have hm3 : MapOf H3 sm .i64 (smI ss i) := hm.stp (Step.of_le (L := []) l3) (by simp)
    refine hm3.put fun o hm4 => ?_
    rw [w_i64 (by omega) (by omega)]
    -- what is new is nowhere else
    have old : ∀ {k : Nat}, H' k = none → k ≠ sm → H k = none := fun {k} hk hks => by
      cases e : H k with
      | none => rfl
      | some o' => rw [(hs k o' e (by simpa using hks)).1] at hk; cases hk
    have hsmH' : H' sm ≠ none := hm.live
    have n1 : b1 ≠ sm := fun e => hsmH' (by rw [← e]; exact hn1)
    have nm : mb ≠ sm := fun e => hsmH' (by rw [← e]; exact hnm)
    have up : ∀ {k : Nat} {Ha Hb : Heap}, Heap.Le Ha Hb → Hb k = none → Ha k = none := fun {k Ha Hb} hl hk => by
      cases e : Ha k with
      | none => rfl
      | some o' => rw [hl _ _ e] at hk; cases hk
    have hn2' : H' b2 = none := up hle1 hn2
    have hn3' : H' b3 = none := up hle1 (up hle2 hn3)
    have n2 : b2 ≠ sm := fun e => hsmH' (by rw [← e]; exact hn2')
    have n3 : b3 ≠ sm := fun e => hsmH' (by rw [← e]; exact hn3')
    have l1b := hb1.live
    have d31 : b3 ≠ b1 := fun e => l1b.1 (up hle2 (by rw [← e]; exact hn3))
    have d3m : b3 ≠ mb := fun e => l1b.2 (up hle2 (by rw [← e]; exact hn3))
    have d21 : b2 ≠ b1 := fun e => l1b.1 (by rw [← e]; exact hn2)
    have d2m : b2 ≠ mb := fun e => l1b.2 (by rw [← e]; exact hn2)
    have d23 : b2 ≠ b3 := fun e => hb2.live b2 (by simp) (by rw [e]; exact hn3)
    have hset := Step.set H3 sm o
    have hstr : StrO b3 b1 b2 s0 [b3, b1, mb, b2] (H3.set sm o) := by
      refine ⟨mb, [b2], ⟨?_, (hb1.stp (Step.of_le (L := []) (hle2.trans hle3)) (by simp) (by simp)).stp hset (by simpa using n1) (by simpa using nm), (hb2.le hle3).step hset (by simpa using n2), d31, d3m, ?_⟩, rfl⟩
      · rw [set_ne _ _ n3]; exact hl3
      · intro k hk
        rw [List.mem_singleton] at hk
        subst hk
        exact ⟨d23, d21, d2m⟩
    have hstar : Star (strs ss si so i) Ls (H3.set sm o) := (Star.good (hg ss si so i)).step ((Star.good (hg ss si so i)).step hst (Step.of_le (L := []) l3) (by simp)) hset fun k hk hm => by
      rw [List.mem_singleton] at hm
      have := hLn k hk
      rw [hm, hsm] at this
      cases this
    have hlive := (Star.good (hg ss si so i)).live hst
    have hdis : ∀ k ∈ Ls, k ∉ [b3, b1, mb, b2] := fun k hk hm => by
      simp only [List.mem_cons, List.not_mem_nil, or_false] at hm
      rcases hm with rfl | rfl | rfl | rfl
      · exact hlive _ hk hn3'
      · exact hlive _ hk hn1
      · exact hlive _ hk hnm
      · exact hlive _ hk hn2'
    refine hRR _ _ (10 - (i + 1)) (by omega) ⟨i + 1, up1 ss i b3, up1 si i b1, up1 so i b2, Ls ++ [b3, b1, mb, b2], by simp, by omega, rfl, ?_, ?_, ?_, ?_⟩
    · rw [strs_up]
      exact hstar.append (Star.one hstr) hdis
    · have e : smI (up1 ss i b3) (i + 1) = fun n => if n = idV i then some (.pointer (some ⟨b3, 0, none⟩)) else smI ss i n := by
        funext n
        unfold smI
        by_cases hn : n = idV i
        · rw [if_pos hn, hn, idN_idV i hc]
          simp [up1]
        · rw [if_neg hn]
          cases hid : idN n with
          | none => rfl
          | some j =>
            have hj := (idN_inv hid).1
            have hji : j ≠ i := fun e => hn (by rw [hj, e])
            simp only [Option.bind_some, up1, if_neg hji]
            by_cases hlt : j < i
            · rw [if_pos hlt, if_pos (by omega)]
            · rw [if_neg hlt, if_neg (by omega)]
      rw [e]
      exact hm4
    · exact (hs.trans (Step.of_le l3)).trans hset
    · intro k hk
      rcases List.mem_append.1 hk with hk | hk
      · exact hLn k hk
      · simp only [List.mem_cons, List.not_mem_nil, or_false] at hk
        rcases hk with rfl | rfl | rfl | rfl
        · exact old hn3' n3
        · exact old hn1 n1
        · exact old hnm nm
        · exact old hn2' n2
  · rw [if_neg (by rw [decide_eq_true_eq]; omega)]
    have : i = 10 := by omega
    subst this
    exact h H' ss si so Ls hst hm hs hLn
theorem zge.run {psk cid nonce : ByteArray} {K : Option Addr → Heap → Prop} (h : ∀ cb a L H', CAt cb a ⟨cn0 psk cid nonce, fun _ => s0, 0, [], -1⟩ L H' → Step [] H L H' → K (some ⟨cb, 0, none⟩) H') : zge.c psk cid nonce K E H := by
  refine ⟨?_⟩
  unfold zge.vc
  refine ⟨zna fun wb H1 hn1 hl1 hle1 => ⟨H1, Heap.Le.refl _, ⟨zna fun nb H2 hn2 hl2 hle2 => ⟨H2, Heap.Le.refl _, ⟨zna fun lb H3 hn3 hl3 hle3 => ⟨H3, Heap.Le.refl _, ?_⟩⟩⟩⟩⟩⟩
  refine zna fun sm H4 hn4 hl4 hle4 => zna fun am H5 hn5 hl5 hle5 => zna fun cb H6 hn6 hl6 hle6 => ?_
  refine zoe.run fun ib H7 hn7 hl7 hle7 => ?_
  have l37 := ((hle4.trans hle5).trans hle6).trans hle7
  have l27 := hle3.trans l37
  have l17 := hle2.trans l27
  have l07 := hle1.trans l17
  have w7 := l17 _ _ hl1
  have n7 := l27 _ _ hl2
  have b7 := l37 _ _ hl3
  have s7 := ((hle5.trans hle6).trans hle7) _ _ hl4
  have a7 := (hle6.trans hle7) _ _ hl5
  have c7 := hle7 _ _ hl6
  have ne : ∀ {x y : Nat} {Hx : Heap}, Hx x ≠ none → Hx y = none → x ≠ y := fun {x y Hx} h1 h2 e => h1 (by rw [e]; exact h2)
  have kn : ∀ {x : Nat} {o : Obj} {Hx : Heap}, Hx x = some o → Hx x ≠ none := fun {x o Hx} h => by rw [h]; simp
  have dwn : wb ≠ nb := ne (kn hl1) hn2
  have dwl : wb ≠ lb := ne (kn (hle2 _ _ hl1)) hn3
  have dws : wb ≠ sm := ne (kn (hle3 _ _ (hle2 _ _ hl1))) hn4
  have dwa : wb ≠ am := ne (kn (hle4 _ _ (hle3 _ _ (hle2 _ _ hl1)))) hn5
  have dwc : wb ≠ cb := ne (kn (hle5 _ _ (hle4 _ _ (hle3 _ _ (hle2 _ _ hl1))))) hn6
  have dnl : nb ≠ lb := ne (kn hl2) hn3
  have dns : nb ≠ sm := ne (kn (hle3 _ _ hl2)) hn4
  have dna : nb ≠ am := ne (kn (hle4 _ _ (hle3 _ _ hl2))) hn5
  have dnc : nb ≠ cb := ne (kn (hle5 _ _ (hle4 _ _ (hle3 _ _ hl2)))) hn6
  have dls : lb ≠ sm := ne (kn hl3) hn4
  have dla : lb ≠ am := ne (kn (hle4 _ _ hl3)) hn5
  have dlc : lb ≠ cb := ne (kn (hle5 _ _ (hle4 _ _ hl3))) hn6
  have dsa : sm ≠ am := ne (kn hl4) hn5
  have dsc : sm ≠ cb := ne (kn (hle5 _ _ hl4)) hn6
  have dac : am ≠ cb := ne (kn hl5) hn6
  refine zge.loop c7 rfl s7 hl7 fun H8 ss si so Ls hst hm hs hLn => ?_
  have keep : ∀ {k : Nat} {o : Obj}, H7 k = some o → k ≠ sm → H8 k = some o := fun {k o} hk hn => (hs k o hk (by simpa using hn)).1
  have w8 := keep w7 dws
  have n8 := keep n7 dns
  have b8 := keep b7 dls
  have a8 := keep a7 (Ne.symm dsa)
  have c8 := keep c7 (Ne.symm dsc)
  let A : CA := ⟨wb, nb, lb, sm, am, ss, si, so⟩
  have hm' : MapOf H8 sm .i64 (smF ss) := by
    have e : smF ss = smI ss 10 := by
      funext n
      unfold smF smI
      cases hid : idN n with
      | none => rfl
      | some j => simp [(idN_inv hid).2]
    rw [e]; exact hm
  have rest : Star [WinO A.wb 0, NumO A.nb 0, LedO A.lb [] (-1), AnyMap A.am, MapO A.sm (smF A.ss), KeyO none, KeyO none, ConO cb A (cn0 psk cid nonce)] ([wb] ++ ([nb] ++ ([lb] ++ ([am] ++ ([sm] ++ ([] ++ ([] ++ ([cb] ++ [])))))))) H8 := by
    refine ⟨[wb], _, rfl, ⟨⟨_, w8, rfl⟩, rfl⟩, ⟨[nb], _, rfl, ⟨none, 0, n8, ⟨rfl, by simp [numRows], Nat.le_refl _, .inl ⟨rfl, rfl⟩⟩, by simp [bl], rfl⟩, ⟨[lb], _, rfl, ⟨none, 0, b8, ⟨rfl, by simp, Nat.le_refl _, .inl ⟨rfl, rfl⟩⟩, by simp [bl], rfl⟩, ⟨[am], _, rfl, ⟨⟨fun _ => none, #[], 0, a8, by simp, by simp, fun _ => rfl⟩, rfl⟩, ⟨[sm], _, rfl, ⟨hm', rfl⟩, ⟨[], _, rfl, rfl, ⟨[], _, rfl, rfl, ⟨[cb], [], rfl, ?_, rfl, by simp⟩, by simp⟩, by simp⟩, by simpa using dsc⟩, by simp [Ne.symm dsa, dac]⟩, by simp [dla, dls, dlc]⟩, by simp [dnl, dna, dns, dnc]⟩, by simp [dwn, dwl, dwa, dws, dwc]⟩
    exact ⟨none, 0, none, 0, [], [], ⟨c8, .inl ⟨rfl, rfl, rfl, rfl⟩, .inl ⟨rfl, rfl, rfl, rfl⟩, by simp, by simp, by simp⟩, by simp⟩
  have dis : ∀ k ∈ Ls, k ∉ ([wb] ++ ([nb] ++ ([lb] ++ ([am] ++ ([sm] ++ ([] ++ ([] ++ ([cb] ++ [])))))))) := fun k hk hmem => by
    have hkn := hLn k hk
    simp at hmem
    rcases hmem with rfl | rfl | rfl | rfl | rfl | rfl
    · rw [w7] at hkn; cases hkn
    · rw [n7] at hkn; cases hkn
    · rw [b7] at hkn; cases hkn
    · rw [a7] at hkn; cases hkn
    · rw [s7] at hkn; cases hkn
    · rw [c7] at hkn; cases hkn
  have all := hst.append rest dis
  refine ⟨H8, Heap.Le.refl _, h cb A _ H8 all fun k o hk _ => ?_⟩
  have k7 := l07 _ _ hk
  have nn : ∀ {y : Nat} {Hx : Heap}, Hx y = none → Heap.Le H Hx → k ≠ y := fun {y Hx} h1 h2 e => by rw [← e, h2 _ _ hk] at h1; cases h1
  have k1 := nn hn1 (Heap.Le.refl _)
  have k2 := nn hn2 hle1
  have k3 := nn hn3 (hle1.trans hle2)
  have k4 := nn hn4 ((hle1.trans hle2).trans hle3)
  have k5 := nn hn5 (((hle1.trans hle2).trans hle3).trans hle4)
  have k6 := nn hn6 ((((hle1.trans hle2).trans hle3).trans hle4).trans hle5)
  refine ⟨keep k7 k4, ?_⟩
  rw [List.mem_append, not_or]
  refine ⟨fun hm => ?_, by simp [k1, k2, k3, k4, k5, k6]⟩
  have := hLn k hm
  rw [k7] at this
  cases this
end
end Go.Sh
namespace Go.Sh
open Go.Proofs
set_option maxRecDepth 8000
def upL : ByteArray := ⟨#[117, 112]⟩
def downL : ByteArray := ⟨#[100, 111, 119, 110]⟩
def welL : ByteArray := ⟨#[119, 101, 108, 99, 111, 109, 101]⟩
section
variable {cb : Nat} {a : CA} {x : CS} {L : List Nat} {H : Heap} {E : Value → Heap → Prop}
theorem Tabs.stp {L L' : List Nat} {H H' : Heap} (ht : Tabs H) (hs : Step L H L' H') (h0 : 0 ∉ L) (h1 : 1 ∉ L) : Tabs H' := ⟨fun i v hi => hs.cell (ht.k i v hi) h1, fun i v hi => hs.cell (ht.s i v hi) h0⟩
theorem tab_out {L L' : List Nat} {H H' : Heap} (ht : Tabs H) (hs : Step L H L' H') (h0 : 0 ∉ L) (h1 : 1 ∉ L) : 0 ∉ L' ∧ 1 ∉ L' := by
  have e0 := tab_block ht.s
  have e1 : H 1 ≠ none := cell_block (ht.k 0 _ rfl)
  constructor
  · cases e : H 0 with
    | none => exact absurd e e0
    | some o => exact (hs 0 o e h0).2
  · cases e : H 1 with
    | none => exact absurd e e1
    | some o => exact (hs 1 o e h1).2
structure Apart (L : List Nat) (H : Heap) : Prop where
  t : Tabs H
  h0 : 0 ∉ L
  h1 : 1 ∉ L
theorem Apart.stp {L' : List Nat} {H' : Heap} (h : Apart L H) (hs : Step L H L' H') : Apart L' H' := ⟨h.t.stp hs h.h0 h.h1, (tab_out h.t hs h.h0 h.h1).1, (tab_out h.t hs h.h0 h.h1).2⟩
theorem Apart.le {H' : Heap} (h : Apart L H) (hs : Heap.Le H H') : Apart L H' := ⟨h.t.up hs, h.h0, h.h1⟩
theorem CAt.le {H' : Heap} (h : CAt cb a x L H) (hl : Heap.Le H H') : CAt cb a x L H' := (CAt.good cb a x).step h (Step.of_le (L := []) hl) (by simp)
theorem good_set {Ps : List Own} (hg : ∀ P ∈ Ps, P.good) {i : Nat} {Q : Own} (hq : Q.good) : ∀ P ∈ Ps.set i Q, P.good := fun P hP => by
  rcases List.mem_or_eq_of_mem_set hP with h | rfl
  · exact hg P h
  · exact hq
theorem lay_key {Ps : List Own} (hg : ∀ P ∈ Ps, P.good) {i : Nat} (hi : Ps[i]? = some (KeyO none)) (h : Star Ps L H) {b : Nat} {s : ByteArray} {H' : Heap} (hk : KeyAt H' b s 0 0) (hs : s.size ≤ 100000) (hn : H b = none) (hl : Heap.Le H H') : ∃ L', Star (Ps.set i (KeyO (some ⟨b, s, 0, 0⟩))) L' H' ∧ Step L H L' H' := by
  obtain ⟨Li, h1, _, h3⟩ := Star.part hg hi h
  have e : Li = [] := h1
  subst e
  exact h3 (P' := KeyO (some ⟨b, s, 0, 0⟩)) (Li' := [b]) ⟨⟨hk, by show (0 : Int) ≤ 0; decide, by show (0 : Int) ≤ 1000; decide, by show (0 : Int) ≤ 0; decide, by show (0 : Int) ≤ 1000; decide, hs⟩, rfl⟩ fun k o hk _ => ⟨hl k o hk, fun hm => by rw [List.mem_singleton] at hm; rw [hm, hn] at hk; cases hk⟩
def agreed (c : CN) (ours : ByteArray) (b1 b2 : Nat) : CN :=
  { c with ours := ours, ph := 2, rx := some (if c.srv = true then ⟨b1, zic c.psk upL (c.nonce ++ ours), 0, 0⟩ else ⟨b2, zic c.psk downL (c.nonce ++ ours), 0, 0⟩), tx := some (if c.srv = true then ⟨b2, zic c.psk downL (c.nonce ++ ours), 0, 0⟩ else ⟨b1, zic c.psk upL (c.nonce ++ ours), 0, 0⟩) }
def arrX (c : CN) (ours : ByteArray) (r t : Option Addr) (a : CA) (wp : Option Addr) (wc : Nat) (gp : Option Addr) (gc : Nat) : Array Value := #[.string c.psk, .string c.cid, .bool c.srv, .string c.nonce, .int .i64 2, .int .i64 c.code, .bool c.say, .bool c.hl, .int .i64 c.ha, .bool c.gr, .bool c.ans, .int .i64 c.next, .pointer r, .pointer t, .pointer (some ⟨a.wb, 0, none⟩), .pointer (some ⟨a.nb, 0, none⟩), .pointer (some ⟨a.lb, 0, none⟩), .map (some a.sm), .map (some a.am), .slice wp c.wait.length wc, .slice gp c.got.length gc, .string ours]
theorem arrX_t {c : CN} {ours : ByteArray} {b1 b2 wc gc : Nat} {a : CA} {wp gp : Option Addr} (h : c.srv = true) : arrX c ours (some ⟨b1, 0, none⟩) (some ⟨b2, 0, none⟩) a wp wc gp gc = CN.arr (agreed c ours b1 b2) a wp wc gp gc := by
  obtain ⟨psk, cid, srv, nonce, ph, code, say, hl, ha, gr, ans, next, rx, tx, o, wait, got⟩ := c
  have h' : srv = true := h
  subst h'
  rfl
theorem arrX_f {c : CN} {ours : ByteArray} {b1 b2 wc gc : Nat} {a : CA} {wp gp : Option Addr} (h : c.srv = false) : arrX c ours (some ⟨b2, 0, none⟩) (some ⟨b1, 0, none⟩) a wp wc gp gc = CN.arr (agreed c ours b1 b2) a wp wc gp gc := by
  obtain ⟨psk, cid, srv, nonce, ph, code, say, hl, ha, gr, ans, next, rx, tx, o, wait, got⟩ := c
  have h' : srv = false := h
  subst h'
  rfl
theorem agreed_t {c : CN} {ours : ByteArray} {b1 b2 : Nat} (h : c.srv = true) : (agreed c ours b1 b2).rx = some ⟨b1, zic c.psk upL (c.nonce ++ ours), 0, 0⟩ ∧ (agreed c ours b1 b2).tx = some ⟨b2, zic c.psk downL (c.nonce ++ ours), 0, 0⟩ := by
  obtain ⟨psk, cid, srv, nonce, ph, code, say, hl, ha, gr, ans, next, rx, tx, o, wait, got⟩ := c
  have h' : srv = true := h
  subst h'
  exact ⟨rfl, rfl⟩
theorem agreed_f {c : CN} {ours : ByteArray} {b1 b2 : Nat} (h : c.srv = false) : (agreed c ours b1 b2).rx = some ⟨b2, zic c.psk downL (c.nonce ++ ours), 0, 0⟩ ∧ (agreed c ours b1 b2).tx = some ⟨b1, zic c.psk upL (c.nonce ++ ours), 0, 0⟩ := by
  obtain ⟨psk, cid, srv, nonce, ph, code, say, hl, ha, gr, ans, next, rx, tx, o, wait, got⟩ := c
  have h' : srv = false := h
  subst h'
  exact ⟨rfl, rfl⟩
theorem zcd.run (h : CAt cb a x L H) (hap : Apart L H) (hrx : x.c.rx = none) (htx : x.c.tx = none) {ours : ByteArray} (hp : x.c.psk.size ≤ 100000) (hz : x.c.nonce.size + ours.size ≤ 100000) {K : Heap → Prop}
    (hk : ∀ b1 b2 L' H', CAt cb a { x with c := agreed x.c ours b1 b2 } L' H' → Step L H L' H' → K H') : zcd.c (some ⟨cb, 0, none⟩) ours K E H := by
  refine ⟨?_⟩
  unfold zcd.vc
  refine ⟨_, rfl, h.setc (o := 21) (c' := { x.c with ours := ours }) (by decide) (fun _ _ _ _ => rfl) rfl rfl rfl rfl fun L1 H1 h1 s1 => ?_⟩
  refine ⟨_, rfl, h1.setc (o := 4) (c' := { x.c with ours := ours, ph := 2 }) (by decide) (fun _ _ _ _ => rfl) rfl rfl rfl rfl fun L2 H2 h2 s2 => ?_⟩
  have ap2 := (hap.stp s1).stp s2
  have s02 := s1.trans s2
  obtain ⟨wp, wc, gp, gc, hc2⟩ := h2.cells
  have sz : (x.c.nonce ++ ours).size ≤ 100000 := by rw [ByteArray.size_append]; exact hz
  refine ⟨_, rfl, _, loc (o := 0) hc2 rfl, _, rfl, _, loc (o := 3) hc2 rfl, by show x.c.nonce.size + ours.size ≤ _; omega, _, rfl, _, loc (o := 0) hc2 rfl, _, rfl, _, loc (o := 3) hc2 rfl, by show x.c.nonce.size + ours.size ≤ _; omega, ?_⟩
  refine znb.run hp (by decide) sz ap2.t fun H3 hle3 => ?_
  have hc3 := hle3 _ _ hc2
  refine ⟨⟨_, loc (o := 3) hc3 rfl, rfl, rfl⟩, ⟨_, loc (o := 0) hc3 rfl, rfl, rfl⟩, ?_⟩
  refine ztd.run (ap2.t.up hle3) fun b1 H4 k1 n1 hle4 => ?_
  have hc4 := hle4 _ _ hc3
  refine ⟨⟨_, loc (o := 3) hc4 rfl, rfl, rfl⟩, ⟨_, loc (o := 0) hc4 rfl, rfl, rfl⟩, ?_⟩
  refine znb.run hp (by decide) sz ((ap2.t.up hle3).up hle4) fun H5 hle5 => ?_
  refine ztd.run (((ap2.t.up hle3).up hle4).up hle5) fun b2 H6 k2 n2 hle6 => ?_
  have g2 := zff cb a { x with c := { x.c with ours := ours, ph := 2 } }
  have h3 := h2.le hle3
  have ds : ∀ l c, (zic x.c.psk l c).size ≤ 100000 := fun l c => derive_size _ _ _
  have k1' : KeyAt H4 b1 (zic x.c.psk upL (x.c.nonce ++ ours)) 0 0 := k1
  have k2' : KeyAt H6 b2 (zic x.c.psk downL (x.c.nonce ++ ours)) 0 0 := k2
  have pt : ∀ {Q1 Q2 : Own}, Q1 = KeyO (agreed x.c ours b1 b2).rx → Q2 = KeyO (agreed x.c ours b1 b2).tx → (((parts cb a { x with c := { x.c with ours := ours, ph := 2 } }).set 15 Q1).set 16 Q2).set 17 (ConO cb a (agreed x.c ours b1 b2)) = parts cb a { x with c := agreed x.c ours b1 b2 } := fun {Q1 Q2} e1 e2 => by subst e1 e2; rfl
  have fin : ∀ {Q1 Q2 : Own} {L6 : List Nat}, Q1 = KeyO (agreed x.c ours b1 b2).rx → Q2 = KeyO (agreed x.c ours b1 b2).tx → Q1.good → Q2.good → Star (((parts cb a { x with c := { x.c with ours := ours, ph := 2 } }).set 15 Q1).set 16 Q2) L6 H6 → Step L2 H2 L6 H6 →
      nilc (some ⟨cb, 0, none⟩) fun a6 => stc H6 (a6.add 12) (.pointer (some ⟨b2, 0, none⟩)) fun h7 => nilc (some ⟨cb, 0, none⟩) fun a7 => stc h7 (a7.add 13) (.pointer (some ⟨b1, 0, none⟩)) fun h8 => nilc (some ⟨cb, 0, none⟩) fun a8 => ldB h8 (a8.add 2) fun x12 =>
      (if x12 = true then
      nilc (some ⟨cb, 0, none⟩) fun a9 => stc h8 (a9.add 12) (.pointer (some ⟨b1, 0, none⟩)) fun h9 => nilc (some ⟨cb, 0, none⟩) fun a10 => stc h9 (a10.add 13) (.pointer (some ⟨b2, 0, none⟩)) fun h10 => ∃ H', Heap.Le H' h10 ∧ K H'
      else ∃ H', Heap.Le H' h8 ∧ K H') := fun {Q1 Q2 L6} e1 e2 q1 q2 h6 s6 => by
    obtain ⟨Lc, ⟨wp, wc, gp, gc, Lw, Lg, ⟨hc, hw, hg, d1, d2, d3⟩, rfl⟩, _, hput⟩ := Star.part (good_set (good_set g2 q1) q2) (i := 17) rfl h6
    let A : Option Addr → Option Addr → Array Value := fun r t => arrX x.c ours r t a wp wc gp gc
    have hA : H6 cb = some (.cells (A (kptr x.c.rx) (kptr x.c.tx)) 70) := hc
    have done : (H6.set cb (.cells (CN.arr (agreed x.c ours b1 b2) a wp wc gp gc) 70)) = (H6.set cb (.cells (CN.arr (agreed x.c ours b1 b2) a wp wc gp gc) 70)) → ∃ H', Heap.Le H' (H6.set cb (.cells (CN.arr (agreed x.c ours b1 b2) a wp wc gp gc) 70)) ∧ K H' := fun _ => by
      have hs := Step.set H6 cb (.cells (CN.arr (agreed x.c ours b1 b2) a wp wc gp gc) 70)
      obtain ⟨L', h7, s7⟩ := hput (P' := ConO cb a (agreed x.c ours b1 b2)) (Li' := cb :: (Lw ++ Lg)) ⟨wp, wc, gp, gc, Lw, Lg, ⟨set_self _ _ _, hw.stp hs fun k hk hm => d1 (by rw [List.mem_singleton] at hm; rw [← hm]; exact hk), hg.stp hs fun k hk hm => d2 (by rw [List.mem_singleton] at hm; rw [← hm]; exact hk), d1, d2, d3⟩, rfl⟩ (hs.frame (fun k hk => by rw [List.mem_singleton]; exact fun e => hk (by rw [e]; simp)) (fun k hk _ => hk))
      rw [pt e1 e2] at h7
      exact ⟨_, Heap.Le.refl _, hk b1 b2 L' _ h7 ((s02.trans s6).trans s7)⟩
    refine ⟨_, rfl, stc_at (o := 12) (arr' := A (some ⟨b2, 0, none⟩) (kptr x.c.tx)) hA (show 12 < 22 by decide) rfl ⟨_, rfl, stc_at (o := 13) (arr' := A (some ⟨b2, 0, none⟩) (some ⟨b1, 0, none⟩)) (set_self _ _ _) (show 13 < 22 by decide) rfl ⟨_, rfl, _, loc (o := 2) (set_self _ _ _) rfl, ?_⟩⟩⟩
    dsimp only
    cases hsv : x.c.srv with
    | true =>
      rw [if_pos rfl]
      refine ⟨_, rfl, stc_at (o := 12) (arr' := A (some ⟨b1, 0, none⟩) (some ⟨b1, 0, none⟩)) (set_self _ _ _) (show 12 < 22 by decide) rfl ⟨_, rfl, stc_at (o := 13) (arr' := A (some ⟨b1, 0, none⟩) (some ⟨b2, 0, none⟩)) (set_self _ _ _) (show 13 < 22 by decide) rfl ?_⟩⟩
      rw [zdc, zdc, zdc]
      have e : A (some ⟨b1, 0, none⟩) (some ⟨b2, 0, none⟩) = CN.arr (agreed x.c ours b1 b2) a wp wc gp gc := arrX_t hsv
      rw [e]
      exact done rfl
    | false =>
      rw [if_neg (by decide)]
      rw [zdc]
      have e : A (some ⟨b2, 0, none⟩) (some ⟨b1, 0, none⟩) = CN.arr (agreed x.c ours b1 b2) a wp wc gp gc := arrX_f hsv
      rw [e]
      exact done rfl
  have kg : ∀ (b : Nat) (s : ByteArray), (KeyO (some ⟨b, s, 0, 0⟩)).good := fun b s => KeyO.good _
  cases hsv : x.c.srv with
  | true =>
    obtain ⟨L4, h4, s4⟩ := lay_key g2 (i := 15) (by show some (KeyO x.c.rx) = _; rw [hrx]) h3 k1' (ds _ _) n1 hle4
    have g4 := good_set g2 (i := 15) (kg b1 (zic x.c.psk upL (x.c.nonce ++ ours)))
    obtain ⟨L6, h6, s6⟩ := lay_key g4 (i := 16) (by show some (KeyO x.c.tx) = _; rw [htx]) ((Star.good g4).step h4 (Step.of_le (L := []) hle5) (by simp)) k2' (ds _ _) n2 hle6
    exact fin (by rw [(agreed_t hsv).1]) (by rw [(agreed_t hsv).2]) (kg _ _) (kg _ _) h6 (((Step.of_le hle3).trans s4).trans ((Step.of_le hle5).trans s6))
  | false =>
    obtain ⟨L4, h4, s4⟩ := lay_key g2 (i := 16) (by show some (KeyO x.c.tx) = _; rw [htx]) h3 k1' (ds _ _) n1 hle4
    have g4 := good_set g2 (i := 16) (kg b1 (zic x.c.psk upL (x.c.nonce ++ ours)))
    obtain ⟨L6, h6, s6⟩ := lay_key g4 (i := 15) (by show some (KeyO x.c.rx) = _; rw [hrx]) ((Star.good g4).step h4 (Step.of_le (L := []) hle5) (by simp)) k2' (ds _ _) n2 hle6
    exact fin (Q1 := KeyO (some ⟨b2, zic x.c.psk downL (x.c.nonce ++ ours), 0, 0⟩)) (Q2 := KeyO (some ⟨b1, zic x.c.psk upL (x.c.nonce ++ ours), 0, 0⟩)) (by rw [(agreed_f hsv).1]) (by rw [(agreed_f hsv).2]) (kg _ _) (kg _ _) h6 (((Step.of_le hle3).trans s4).trans ((Step.of_le hle5).trans s6))
theorem conn_Dial.run {psk cid nonce : ByteArray} (hc : cid.size = 8) (hn : nonce.size = 16) {K : Option Addr → Int → Heap → Prop} (h : ∀ cb a L H', CAt cb a ⟨{ cn0 psk cid nonce with ph := 1 }, fun _ => s0, 0, [], -1⟩ L H' → Step [] H L H' → K (some ⟨cb, 0, none⟩) 0 H') : conn_Dial.c psk cid nonce K E H := by
  refine ⟨?_⟩
  unfold conn_Dial.vc
  rw [if_neg (by simp [hc])]
  refine ⟨?_⟩
  unfold conn_Dial.J1.vc
  rw [if_neg (by simp [hn])]
  refine ⟨zge.run fun cb a L H1 h1 s1 => ⟨_, rfl, ?_⟩⟩
  exact h1.setc (o := 4) (c' := { cn0 psk cid nonce with ph := 1 }) (by decide) (fun _ _ _ _ => rfl) rfl rfl rfl rfl fun L2 H2 h2 s2 => ⟨H2, Heap.Le.refl _, h cb a L2 H2 h2 (s1.trans s2)⟩
def cnS (psk cid theirs : ByteArray) : CN := { cn0 psk cid theirs with srv := true, gr := true }
theorem zlf.run (ht : Tabs H) {psk cid theirs nonce : ByteArray} (hp : psk.size ≤ 100000) (hc : cid.size = 8) (hth : theirs.size = 16) (hn : nonce.size = 16) {K : Option Addr → Int → Heap → Prop} (h : ∀ cb a b1 b2 L H', CAt cb a ⟨agreed (cnS psk cid theirs) nonce b1 b2, fun _ => s0, 0, [], -1⟩ L H' → Step [] H L H' → K (some ⟨cb, 0, none⟩) 0 H') : zlf.c psk cid theirs nonce K E H := by
  refine ⟨?_⟩
  unfold zlf.vc
  rw [if_neg (by simp [hc]), if_neg (by simp [hth])]
  refine ⟨?_⟩
  unfold zlf.J1.vc
  rw [if_neg (by simp [hn])]
  refine ⟨zge.run fun cb a L H1 h1 s1 => ⟨_, rfl, ?_⟩⟩
  refine h1.setc (o := 2) (c' := { cn0 psk cid theirs with srv := true }) (by decide) (fun _ _ _ _ => rfl) rfl rfl rfl rfl fun L2 H2 h2 s2 => ⟨_, rfl, ?_⟩
  refine h2.setc (o := 9) (c' := cnS psk cid theirs) (by decide) (fun _ _ _ _ => rfl) rfl rfl rfl rfl fun L3 H3 h3 s3 => ?_
  have ap : Apart [] H := ⟨ht, by simp, by simp⟩
  have s13 := (s1.trans s2).trans s3
  refine zcd.run h3 (ap.stp s13) rfl rfl hp (by show theirs.size + nonce.size ≤ _; omega) fun b1 b2 L4 H4 h4 s4 => ⟨H4, Heap.Le.refl _, h cb a b1 b2 L4 H4 h4 (s13.trans s4)⟩
theorem greet_j1 {c : Option Addr} {now : Int} {Kn : Heap → Prop} {Kr : ByteArray → Bool → Heap → Prop} (h0 : Kn H) : zdd.J1 c now false Kn Kr E H := by
  refine ⟨?_⟩
  unfold zdd.J1.vc
  rw [if_neg (by simp)]
  exact h0
theorem send_j1 {c : Option Addr} {now size : Int} {Kn : Heap → Prop} {Kr : ByteArray → Bool → Heap → Prop} (h : zva.J1 c now size false Kn Kr E H) (h1 : 128 ≤ size) (h2 : size ≤ 1200) : (if (decide (size < 128)) = true then zva.J1 c now size true Kn Kr E H else zva.J1 c now size (decide (size > 1200)) Kn Kr E H) := by
  rw [if_neg (by rw [decide_eq_true_eq]; omega), decide_eq_false (by omega)]
  exact h
theorem conn_Send.hello (h : CAt cb a x L H) (hap : Apart L H) (hp : x.c.psk.size ≤ 100000) (hc : x.c.cid.size ≤ 1000) (hn : x.c.nonce.size ≤ 1000) (h1 : x.c.ph = 1) (h2 : x.c.hl = false) {now size : Int} (z1 : 128 ≤ size) (z2 : size ≤ 1200) {K : ByteArray → Bool → Heap → Prop}
    (hk : ∀ L' H', CAt cb a { x with c := { x.c with hl := true, ha := now } } L' H' → Step L H L' H' → K (pktN (zic x.c.psk helloB ⟨#[]⟩).data.toList 1 x.c.cid 0 x.c.nonce) true H') : zva.c (some ⟨cb, 0, none⟩) now size K E H := by
  obtain ⟨wp, wc, gp, gc, hcl⟩ := h.cells
  refine ⟨send_j1 ⟨?_⟩ z1 z2⟩
  unfold zva.J1.vc
  rw [if_neg (by decide)]
  refine ⟨_, rfl, _, loc (o := 4) hcl rfl, ?_⟩
  dsimp only
  rw [if_pos (by rw [h1]; decide), h1]
  refine ⟨?_⟩
  unfold zva.J2.vc
  rw [if_pos (by decide)]
  refine ⟨?_⟩
  unfold zdd.vc
  refine ⟨_, rfl, _, loc (o := 4) hcl rfl, ?_⟩
  dsimp only
  rw [if_pos (by rw [h1]; decide)]
  refine ⟨_, rfl, _, loc (o := 7) hcl rfl, ?_⟩
  dsimp only
  rw [if_neg (by rw [h2]; decide)]
  refine greet_j1 ⟨?_⟩
  unfold zdd.J2.vc
  refine ⟨_, rfl, h.setc (o := 7) (c' := { x.c with hl := true }) (by decide) (fun _ _ _ _ => rfl) rfl rfl rfl rfl fun L1 H1 k1 s1 => ⟨_, rfl, ?_⟩⟩
  refine k1.setc (o := 8) (c' := { x.c with hl := true, ha := now }) (by decide) (fun _ _ _ _ => rfl) rfl rfl rfl rfl fun L2 H2 k2 s2 => ?_
  obtain ⟨wp, wc, gp, gc, hc2⟩ := k2.cells
  have s02 := s1.trans s2
  have ap2 := hap.stp s02
  refine ⟨_, rfl, _, loc (o := 0) hc2 rfl, _, rfl, _, loc (o := 1) hc2 rfl, _, rfl, _, loc (o := 3) hc2 rfl, ?_⟩
  refine znb.run hp (by decide) (by decide) ap2.t fun H3 hle3 => ?_
  have hc3 := hle3 _ _ hc2
  refine ⟨⟨_, loc (o := 3) hc3 rfl, rfl, rfl⟩, ⟨_, loc (o := 1) hc3 rfl, rfl, rfl⟩, ?_⟩
  refine ztd.run (ap2.t.up hle3) fun kb H4 hk4 hn4 hle4 => ?_
  have hc4 := hle4 _ _ hc3
  refine ⟨⟨_, loc (o := 3) hc4 rfl, rfl, rfl⟩, ⟨_, loc (o := 1) hc4 rfl, rfl, rfl⟩, ?_⟩
  refine zaf.wrun (kind := 1) (n := 0) ((ap2.t.up hle3).up hle4) (derive_size _ _ _) hc (by show x.c.nonce.size ≤ _; omega) (by decide) hk4 (by decide) (by decide) fun H5 hk5 ho5 => ?_
  have hle : Heap.Le H2 H5 := ho5.le (hle3.trans hle4) (by
    cases e : H2 kb with
    | none => rfl
    | some o => rw [hle3 _ _ e] at hn4; cases hn4)
  exact ⟨H5, Heap.Le.refl _, H5, Heap.Le.refl _, hk L2 H5 (k2.le hle) (s02.trans (Step.of_le hle))⟩
theorem conn_Send.welcome (h : CAt cb a x L H) (hap : Apart L H) (hp : x.c.psk.size ≤ 100000) (hc : x.c.cid.size ≤ 1000) (hn : x.c.nonce.size ≤ 1000) (ho : x.c.ours.size ≤ 1000) (h1 : x.c.ph = 2) (h2 : x.c.gr = true) {now size : Int} (z1 : 128 ≤ size) (z2 : size ≤ 1200) {K : ByteArray → Bool → Heap → Prop}
    (hk : ∀ L' H', CAt cb a { x with c := { x.c with gr := false } } L' H' → Step L H L' H' → K (pktN (zic x.c.psk welL x.c.nonce).data.toList 2 x.c.cid 0 x.c.ours) true H') : zva.c (some ⟨cb, 0, none⟩) now size K E H := by
  obtain ⟨wp, wc, gp, gc, hcl⟩ := h.cells
  refine ⟨send_j1 ⟨?_⟩ z1 z2⟩
  unfold zva.J1.vc
  rw [if_neg (by decide)]
  refine ⟨_, rfl, _, loc (o := 4) hcl rfl, ?_⟩
  dsimp only
  rw [if_neg (by rw [h1]; decide)]
  refine ⟨_, rfl, _, loc (o := 4) hcl rfl, ?_⟩
  dsimp only
  rw [if_pos (by rw [h1]; decide)]
  refine ⟨_, rfl, _, loc (o := 9) hcl rfl, ?_⟩
  rw [h2]
  refine ⟨?_⟩
  unfold zva.J2.vc
  rw [if_pos (by decide)]
  refine ⟨?_⟩
  unfold zdd.vc
  refine ⟨_, rfl, _, loc (o := 4) hcl rfl, ?_⟩
  dsimp only
  rw [if_neg (by rw [h1]; decide)]
  refine ⟨_, rfl, h.setc (o := 9) (c' := { x.c with gr := false }) (by decide) (fun _ _ _ _ => rfl) rfl rfl rfl rfl fun L2 H2 k2 s2 => ?_⟩
  obtain ⟨wp, wc, gp, gc, hc2⟩ := k2.cells
  have ap2 := hap.stp s2
  refine ⟨_, rfl, _, loc (o := 0) hc2 rfl, _, rfl, _, loc (o := 3) hc2 rfl, _, rfl, _, loc (o := 1) hc2 rfl, _, rfl, _, loc (o := 21) hc2 rfl, ?_⟩
  refine znb.run hp (by decide) (by show x.c.nonce.size ≤ _; omega) ap2.t fun H3 hle3 => ?_
  have hc3 := hle3 _ _ hc2
  refine ⟨⟨_, loc (o := 21) hc3 rfl, rfl, rfl⟩, ⟨_, loc (o := 1) hc3 rfl, rfl, rfl⟩, ?_⟩
  refine ztd.run (ap2.t.up hle3) fun kb H4 hk4 hn4 hle4 => ?_
  have hc4 := hle4 _ _ hc3
  refine ⟨⟨_, loc (o := 21) hc4 rfl, rfl, rfl⟩, ⟨_, loc (o := 1) hc4 rfl, rfl, rfl⟩, ?_⟩
  refine zaf.wrun (kind := 2) (n := 0) ((ap2.t.up hle3).up hle4) (derive_size _ _ _) hc (by show x.c.ours.size ≤ _; omega) (by decide) hk4 (by decide) (by decide) fun H5 hk5 ho5 => ?_
  have hle : Heap.Le H2 H5 := ho5.le (hle3.trans hle4) (by
    cases e : H2 kb with
    | none => rfl
    | some o => rw [hle3 _ _ e] at hn4; cases hn4)
  exact ⟨H5, Heap.Le.refl _, H5, Heap.Le.refl _, hk L2 H5 (k2.le hle) (s2.trans (Step.of_le hle))⟩
end
end Go.Sh
namespace Go.Sh
open Go.Proofs
set_option maxRecDepth 8000
def BuO (bb : Nat) (l : List Fm) (room : Int) (asks : Bool) : Own := fun L H => ∃ p c, H bb = some (.cells #[.slice p l.length c, .int .i64 room, .bool asks] 90) ∧ zlb H 83 7 p l.length c (l.map Fm.row) ∧ bb ∉ bl p ∧ L = bb :: bl p
theorem BuO.good (bb : Nat) (l : List Fm) (room : Int) (asks : Bool) : (BuO bb l room asks).good := by
  refine ⟨?_, ?_⟩
  · rintro L M M' H H' ⟨p, c, hb, ho, hn, rfl⟩ hs hd
    exact ⟨p, c, (hs bb _ hb (hd bb (by simp))).1, ho.step hs fun k hk => hd k (by simp [hk]), hn, rfl⟩
  · rintro L H ⟨p, c, hb, ho, hn, rfl⟩ k hk
    rcases List.mem_cons.1 hk with rfl | hk
    · rw [hb]; simp
    · exact ho.live k hk
def elic (k : Int) : Bool := k == 1 || k == 4 || k == 8 || k == 17 || k == 48
theorem eli_j1 {H : Heap} {E : Value → Heap → Prop} {x : Bool} {Kn : Heap → Prop} {Kr : Bool → Heap → Prop} (h1 : x = true → Kr true H) (h0 : x = false → Kn H) : zrc.J1 x Kn Kr E H := by
  refine ⟨?_⟩
  unfold zrc.J1.vc
  cases x with
  | true => rw [if_pos rfl]; exact h1 rfl
  | false => rw [if_neg (by decide)]; exact h0 rfl
section
variable {H : Heap} {E : Value → Heap → Prop}
theorem zrc.run {k id off code : Int} {fin : Bool} {data : ByteArray} {p : Option Addr} {n c : Nat} {K : Bool → Heap → Prop} (h : K (elic k) H) : zrc.c k id off fin code data p n c K E H := by
  refine ⟨?_⟩
  unfold zrc.vc
  refine zna fun b0 H1 hn1 hl1 hle1 => ⟨_, loc (o := 0) hl1 rfl, ?_⟩
  dsimp only
  have yes : elic k = true → ∃ H', Heap.Le H' H1 ∧ K true H' := fun e => ⟨H, hle1, by rw [e] at h; exact h⟩
  have no : elic k = false → ∃ H', Heap.Le H' H1 ∧ K false H' := fun e => ⟨H, hle1, by rw [e] at h; exact h⟩
  by_cases h1 : (k == 1) = true
  · rw [if_pos h1]
    exact eli_j1 (fun _ => yes (by unfold elic; rw [h1]; rfl)) fun e => absurd h1 (by rw [e]; decide)
  rw [if_neg h1]
  by_cases h4 : (k == 4) = true
  · rw [if_pos h4]
    exact eli_j1 (fun _ => yes (by unfold elic; rw [h4]; cases (k == 1) <;> rfl)) fun e => absurd h4 (by rw [e]; decide)
  rw [if_neg h4]
  by_cases h8 : (k == 8) = true
  · rw [if_pos h8]
    exact eli_j1 (fun _ => yes (by unfold elic; rw [h8]; simp)) fun e => absurd h8 (by rw [e]; decide)
  rw [if_neg h8]
  by_cases h17 : (k == 17) = true
  · rw [if_pos h17]
    exact eli_j1 (fun _ => yes (by unfold elic; rw [h17]; simp)) fun e => absurd h17 (by rw [e]; decide)
  rw [if_neg h17]
  refine eli_j1 (fun e => yes (by unfold elic; rw [e]; simp)) fun e => no ?_
  unfold elic
  rw [e]
  simp only [Bool.not_eq_true] at h1 h4 h8 h17
  rw [h1, h4, h8, h17]
  rfl
theorem bu_j1 {bb b1 : Nat} {l : List Fm} {room : Int} {asks : Bool} {f : Fm} {L : List Nat} (hb : BuO bb l room asks L H) (h1 : H b1 = some (.cells f.arr 83)) {Kr : Bool → Heap → Prop} (h : ∀ H', BuO bb l room (asks || elic f.k) L H' → Step L H L H' → Kr true H') : zkb.J1 (some ⟨bb, 0, none⟩) ⟨b1, 0, none⟩ Kr E H := by
  obtain ⟨p, c, hbb, ho, hnp, rfl⟩ := hb
  refine ⟨?_⟩
  unfold zkb.J1.vc
  refine ⟨_, rfl, _, loc (o := 2) hbb rfl, ?_⟩
  dsimp only
  have put : ∀ {y : Bool}, y = (asks || elic f.k) → stc H ((⟨bb, 0, none⟩ : Addr).add 2) (.bool y) fun h3 => Kr true h3 := fun {y} hy => by
    refine stc_at (o := 2) (arr' := #[.slice p l.length c, .int .i64 room, .bool y]) hbb (show 2 < 3 by decide) rfl ?_
    have hs := Step.set H bb (.cells #[.slice p l.length c, .int .i64 room, .bool y] 90)
    refine h _ ⟨p, c, by rw [← hy]; exact set_self _ _ _, ho.step hs fun k hk hm => ?_, hnp, rfl⟩ (hs.frame (fun k hk hm => hk ?_) fun k hk _ => hk)
    · rw [List.mem_singleton] at hm
      exact hnp (by rw [← hm]; exact hk)
    · rw [List.mem_singleton] at hm
      rw [hm]; simp
  cases asks with
  | true =>
    rw [if_pos rfl]
    exact ⟨_, rfl, put rfl⟩
  | false =>
    rw [if_neg (by decide)]
    refine ⟨_, loc (o := 0) h1 rfl, _, loc (o := 1) h1 rfl, _, loc (o := 2) h1 rfl, _, loc (o := 3) h1 rfl, _, loc (o := 4) h1 rfl, _, loc (o := 5) h1 rfl, _, _, _, loc (o := 6) h1 rfl, ?_⟩
    exact zrc.run ⟨_, rfl, put rfl⟩
theorem zkb.run {bb : Nat} {l : List Fm} {room : Int} {asks : Bool} {L : List Nat} (hb : BuO bb l room asks L H) {f : Fm} (hf : f.ok) (ht : IntsIn H 0 .i64 szTab) (h0 : 0 ∉ L) (hl : l.length ≤ 3000) (hr : room ≤ 3000) {K : Bool → Heap → Prop}
    (no : room < (wr f).length → ∀ H', Heap.Le H H' → K false H')
    (yes : ((wr f).length : Int) ≤ room → ∀ L' H', BuO bb (l ++ [f]) (room - (wr f).length) (asks || elic f.k) L' H' → Step L H L' H' → K true H') : zkb.c (some ⟨bb, 0, none⟩) f.k f.id f.off f.fin f.code f.data none 0 0 K E H := by
  have hlv := (BuO.good bb l room asks).live hb
  obtain ⟨p, c, hbb, ho, hnp, rfl⟩ := hb
  refine ⟨?_⟩
  unfold zkb.vc
  refine zna fun b1 H1 hn1 hl1 hle1 => ?_
  have hl1' : H1 b1 = some (.cells f.arr 83) := hl1
  have n1 : b1 ∉ bb :: bl p := fun hm => hlv b1 hm hn1
  refine ⟨_, loc (o := 0) hl1' rfl, _, loc (o := 1) hl1' rfl, _, loc (o := 2) hl1' rfl, _, loc (o := 3) hl1' rfl, _, loc (o := 4) hl1' rfl, _, loc (o := 5) hl1' rfl, _, _, _, loc (o := 6) hl1' rfl, ?_⟩
  have t1 : IntsIn H1 0 .i64 szTab := fun i v hi => zcc hle1 (ht i v hi)
  have hwl := wr_len hf
  have hb1 := hle1 _ _ hbb
  refine znf.run hf t1 ⟨_, rfl, _, loc (o := 1) hb1 rfl, ?_⟩
  dsimp only
  by_cases hc : room < (wr f).length
  · rw [if_pos (by rw [decide_eq_true_eq]; omega)]
    exact ⟨H1, Heap.Le.refl _, no hc H1 hle1⟩
  rw [if_neg (by rw [decide_eq_true_eq]; omega)]
  refine ⟨_, rfl, _, loc (o := 1) hb1 rfl, _, rfl, ?_⟩
  dsimp only
  rw [w_i64 (by omega) (by omega)]
  refine stc_at (o := 1) (arr' := #[.slice p l.length c, .int .i64 (room - (wr f).length), .bool asks]) hb1 (show 1 < 3 by decide) rfl ?_
  obtain ⟨H2, hH2⟩ : ∃ H2, H2 = H1.set bb (.cells #[.slice p l.length c, .int .i64 (room - (wr f).length), .bool asks] 90) := ⟨_, rfl⟩
  rw [← hH2]
  have s2 : Step [bb] H1 [bb] H2 := by rw [hH2]; exact Step.set _ _ _
  have hb2 : H2 bb = some (.cells #[.slice p l.length c, .int .i64 (room - (wr f).length), .bool asks] 90) := by rw [hH2]; exact set_self _ _ _
  have ho2 : zlb H2 83 7 p l.length c (l.map Fm.row) := (ho.le hle1).step s2 fun k hk hm => by
    rw [List.mem_singleton] at hm
    exact hnp (by rw [← hm]; exact hk)
  have hl2 : H2 b1 = some (.cells f.arr 83) := (s2 b1 _ hl1' (fun hm => n1 (by rw [List.mem_singleton] at hm; rw [hm]; simp))).1
  refine ⟨_, rfl, _, _, _, loc (o := 0) hb2 rfl, ?_⟩
  refine ⟨_, loc (o := 0) hl2 rfl, _, loc (o := 1) hl2 rfl, _, loc (o := 2) hl2 rfl, _, loc (o := 3) hl2 rfl, _, loc (o := 4) hl2 rfl, _, loc (o := 5) hl2 rfl, _, _, _, loc (o := 6) hl2 rfl, ?_⟩
  refine zna fun b2 H3 hn3 hl3 hle3 => ?_
  refine ⟨⟨_, _, _, loc (o := 0) (hle3 _ _ hb2) rfl, rfl, rfl⟩, ?_⟩
  have hrow : RowsAt H3 (some ⟨b2, 0, none⟩) 1 7 [f.row] := by
    refine ⟨rfl, (fun e => by cases e), fun a ha j es hj => ?_⟩
    cases ha
    match j with
    | 0 =>
      simp at hj; subst hj
      refine ⟨rfl, fun q v hq => ?_⟩
      rw [Nat.zero_mul]
      exact loc (o := q) hl3 (by rw [← Array.getElem?_toList]; exact hq)
    | j + 1 => simp at hj
  refine rdRow_of hrow (by decide) rfl ?_
  refine appT_step (xs := [f.row]) (ho2.le hle3) (by decide) rfl rfl rfl (by simp [Fm.row, Fm.arr]) ?_ (by omega) (by omega) fun p' c' H4 h4 s4 => ?_
  · intro v hv
    simp [Fm.row, Fm.arr] at hv
    rcases hv with rfl | rfl | rfl | rfl | rfl | rfl | rfl <;> rfl
  obtain ⟨hb4, hnp4⟩ := s4 bb _ (hle3 _ _ hb2) hnp
  have n1p : b1 ∉ bl p := fun hm => n1 (by simp [hm])
  have n1b : b1 ≠ bb := fun e => n1 (by rw [e]; simp)
  have hl4 := (s4 b1 _ (hle3 _ _ hl2) n1p).1
  refine ⟨_, rfl, stc_at (o := 0) (arr' := #[.slice p' (l.length + 1) c', .int .i64 (room - (wr f).length), .bool asks]) hb4 (show 0 < 3 by decide) rfl ?_⟩
  obtain ⟨H5, hH5⟩ : ∃ H5, H5 = H4.set bb (.cells #[.slice p' (l.length + 1) c', .int .i64 (room - (wr f).length), .bool asks] 90) := ⟨_, rfl⟩
  rw [← hH5]
  have s5 : Step [bb] H4 [bb] H5 := by rw [hH5]; exact Step.set _ _ _
  have hbu : BuO bb (l ++ [f]) (room - (wr f).length) asks (bb :: bl p') H5 := by
    refine ⟨p', c', ?_, ?_, hnp4, rfl⟩
    · rw [List.length_append, hH5]; exact set_self _ _ _
    · rw [List.length_append, List.map_append]
      refine h4.step s5 fun k hk hm => ?_
      rw [List.mem_singleton] at hm
      exact hnp4 (by rw [← hm]; exact hk)
  refine bu_j1 hbu ((s5 b1 _ hl4 (by rw [List.mem_singleton]; exact n1b)).1) fun H6 h6 s6 => ⟨H6, Heap.Le.refl _, yes (by omega) _ H6 h6 ?_⟩
  refine Step.trans (L1 := bb :: bl p') ?_ s6
  intro k o hk hn
  have kb : k ≠ bb := fun e => hn (by rw [e]; simp)
  have kp : k ∉ bl p := fun hm => hn (by simp [hm])
  obtain ⟨k2, _⟩ := s2 k o (hle1 _ _ hk) (by rw [List.mem_singleton]; exact kb)
  obtain ⟨k4, k4'⟩ := s4 k o (hle3 _ _ k2) kp
  exact ⟨(s5 k o k4 (by rw [List.mem_singleton]; exact kb)).1, by simp [kb, k4']⟩
end
end Go.Sh
namespace Go.Sh
open Go.Proofs
set_option maxRecDepth 8000
section
variable {sb ib ob : Nat} {s : SM} {L : List Nat} {H : Heap}
theorem StrO.cell (h : StrO sb ib ob s L H) : H sb = some (.cells (s.arr ib ob) 113) := by
  obtain ⟨mb, Lo, h, rfl⟩ := h
  exact h.st
theorem StrO.outp (h : StrO sb ib ob s L H) : ∃ Lo, OA H ob Lo s.out ∧ (∀ k ∈ Lo, k ∈ L) ∧ sb ∉ Lo ∧ ∀ {o' : OB} {Lo' : List Nat} {H' : Heap}, OA H' ob Lo' o' → Step Lo H Lo' H' → ∃ L', StrO sb ib ob { s with out := o' } L' H' ∧ Step L H L' H' := by
  obtain ⟨mb, Lo, ⟨h1, h2, h3, d1, d2, d3⟩, rfl⟩ := h
  refine ⟨Lo, h3, fun k hk => by simp [hk], fun hm => (d3 sb hm).1 rfl, fun {o' Lo' H'} ho hs => ?_⟩
  have nsb : sb ∉ Lo := fun hm => (d3 sb hm).1 rfl
  have nib : ib ∉ Lo := fun hm => (d3 ib hm).2.1 rfl
  have nmb : mb ∉ Lo := fun hm => (d3 mb hm).2.2 rfl
  obtain ⟨a1, a2⟩ := hs sb _ h1 nsb
  have lv := h2.live
  have a3 : ib ∉ Lo' := by
    cases e : H ib with
    | none => exact absurd e lv.1
    | some o => exact (hs ib o e nib).2
  have a4 : mb ∉ Lo' := by
    cases e : H mb with
    | none => exact absurd e lv.2
    | some o => exact (hs mb o e nmb).2
  refine ⟨sb :: ib :: mb :: Lo', ⟨mb, Lo', ⟨a1, h2.stp hs nib nmb, ho, d1, d2, fun k hk => ⟨fun e => a2 (e ▸ hk), fun e => a3 (e ▸ hk), fun e => a4 (e ▸ hk)⟩⟩, rfl⟩, fun k o hk hn => ?_⟩
  simp only [List.mem_cons, not_or] at hn
  obtain ⟨k1, k2⟩ := hs k o hk hn.2.2.2
  exact ⟨k1, by simp only [List.mem_cons, not_or]; exact ⟨hn.1, hn.2.1, hn.2.2.1, k2⟩⟩
theorem StrO.inp (h : StrO sb ib ob s L H) : ∃ mb, BoxAt H ib mb s.inb ∧ sb ≠ ib ∧ sb ≠ mb ∧ ∀ {i' : Bx} {H' : Heap}, BoxAt H' ib mb i' → Keep2 ib mb H H' → ∃ L', StrO sb ib ob { s with inb := i' } L' H' ∧ Step L H L' H' := by
  obtain ⟨mb, Lo, ⟨h1, h2, h3, d1, d2, d3⟩, rfl⟩ := h
  refine ⟨mb, h2, d1, d2, fun {i' H'} hi hk => ?_⟩
  have hs : Step [ib, mb] H [ib, mb] H' := fun k o hk' hn => by
    simp only [List.mem_cons, List.not_mem_nil, or_false, not_or] at hn
    exact ⟨hk k o hk' hn.1 hn.2, by simp [hn.1, hn.2]⟩
  refine ⟨sb :: ib :: mb :: Lo, ⟨mb, Lo, ⟨hk sb _ h1 d1 d2, hi, h3.step hs fun k hk' hm => ?_, d1, d2, d3⟩, rfl⟩, hs.frame (fun k hk' hm => hk' ?_) fun k hk' _ => hk'⟩
  · simp only [List.mem_cons, List.not_mem_nil, or_false] at hm
    rcases hm with e | e
    · exact (d3 k hk').2.1 e
    · exact (d3 k hk').2.2 e
  · simp only [List.mem_cons, List.not_mem_nil, or_false] at hm
    rcases hm with rfl | rfl <;> simp
theorem StrO.setc (h : StrO sb ib ob s L H) {o : Nat} {v : Value} {s' : SM} (ho : o < 8) (hv : (s.arr ib ob).setIfInBounds o v = s'.arr ib ob) (e1 : s'.inb = s.inb) (e2 : s'.out = s.out) {K : Heap → Prop} (hk : ∀ L' H', StrO sb ib ob s' L' H' → Step L H L' H' → K H') : stc H ((⟨sb, 0, none⟩ : Addr).add o) v K := by
  obtain ⟨mb, Lo, ⟨h1, h2, h3, d1, d2, d3⟩, rfl⟩ := h
  refine stc_at h1 (show o < 8 from ho) hv ?_
  have hs := Step.set H sb (.cells (s'.arr ib ob) 113)
  refine hk (sb :: ib :: mb :: Lo) _ ⟨mb, Lo, ⟨set_self _ _ _, by rw [e1]; exact h2.stp hs (by simpa using Ne.symm d1) (by simpa using Ne.symm d2), by rw [e2]; exact h3.step hs fun k hk' hm => (d3 k hk').1 (by simpa using hm), d1, d2, d3⟩, rfl⟩ (hs.frame (fun k hk' hm => hk' ?_) fun k hk' _ => hk')
  rw [List.mem_singleton] at hm
  rw [hm]; simp
end
section
variable {cb : Nat} {a : CA} {x : CS} {L : List Nat} {H : Heap} {E : Value → Heap → Prop}
def quiet (s : SM) : Prop := IntKind.i64.wrap (IntKind.i64.wrap (s.inb.read + 4096) - s.told) < 2048
theorem ids_cell {H' : Heap} {ib : Nat} (h : H' ib = some (.cells idsArr 2)) {i : Nat} (hi : i < 10) : H'.cell? ((⟨ib, 0, none⟩ : Addr).add ((i : Int).toNat * 1)) = some (.int .i64 (idV i)) := by
  rw [Int.toNat_natCast, Nat.mul_one]
  exact loc h (idsArr_get i hi)
theorem ctl_w3 (h : CAt cb a x L H) (hq : ∀ i, i < 10 → quiet (x.S i)) {ib : Nat} (hib : H ib = some (.cells idsArr 2)) {bp : Option Addr} {Kx : Heap → Prop} (hk : ∀ H', Heap.Le H H' → Kx H') : zcb.W3 (some ⟨cb, 0, none⟩) bp (some ⟨ib, 0, none⟩) 10 10 10 0 Kx E H := by
  refine ⟨Loop.of (I := fun st H' m => ∃ i : Nat, st = (i : Int) ∧ i ≤ 10 ∧ m = 10 - i ∧ Heap.Le H H') ?_ ⟨0, rfl, by decide, rfl, Heap.Le.refl _⟩⟩
  rintro m st H' ⟨i, rfl, hi, rfl, hle⟩ RR hRR
  unfold zcb.W3.vc
  have nxt : ∀ {H2 : Heap} {x1 : Nat}, i < 10 → Heap.Le H H2 → zcb.J4 (some ⟨cb, 0, none⟩) bp (some ⟨ib, 0, none⟩) 10 x1 10 i RR E H2 := fun {H2 x1} hi2 hl2 => by
    refine ⟨?_⟩
    unfold zcb.J4.vc
    rw [w_i64 (by omega) (by omega)]
    exact hRR _ _ (10 - (i + 1)) (by omega) ⟨i + 1, by simp, by omega, rfl, hl2⟩
  by_cases hc : i < 10
  · rw [if_pos (by rw [decide_eq_true_eq]; omega)]
    refine ⟨_, rfl, by omega, by omega, _, ids_cell (hle _ _ hib) hc, ?_⟩
    have hH := h.le hle
    refine zpa.run hH hc ?_
    cases hm : mayB x.c.srv i true with
    | false =>
      rw [if_pos (by decide)]
      exact nxt hc hle
    | true =>
      rw [if_neg (by decide), if_pos rfl]
      obtain ⟨Li, hs, _⟩ := hH.str hc
      have hst := hs.cell
      obtain ⟨mb, hbx, _⟩ := hs.inp
      refine ⟨_, rfl, _, loc (o := 0) hst rfl, ?_⟩
      refine zkc.run hbx ⟨_, rfl, _, loc (o := 6) hst rfl, ?_⟩
      dsimp only
      rw [if_neg (by decide)]
      refine ⟨_, rfl, _, loc (o := 5) hst rfl, ?_⟩
      dsimp only
      have := hq i hc
      unfold quiet at this
      rw [if_neg (by rw [decide_eq_true_eq]; omega)]
      refine ⟨?_⟩
      unfold zcb.J5.vc
      rw [if_neg (by decide)]
      exact nxt hc hle
  · rw [if_neg (by rw [decide_eq_true_eq]; omega)]
    exact hk H' hle
theorem ctl_w6 (h : CAt cb a x L H) {ib : Nat} (hib : H ib = some (.cells idsArr 2)) {bp : Option Addr} {Kx : Heap → Prop} (hk : ∀ H', Heap.Le H H' → Kx H') : zcb.W6 (some ⟨cb, 0, none⟩) bp (some ⟨ib, 0, none⟩) 10 10 10 0 Kx E H := by
  refine ⟨Loop.of (I := fun st H' m => ∃ i : Nat, st = (i : Int) ∧ i ≤ 10 ∧ m = 10 - i ∧ Heap.Le H H') ?_ ⟨0, rfl, by decide, rfl, Heap.Le.refl _⟩⟩
  rintro m st H' ⟨i, rfl, hi, rfl, hle⟩ RR hRR
  unfold zcb.W6.vc
  have nxt : ∀ {H2 : Heap}, i < 10 → Heap.Le H H2 → zcb.J7 (some ⟨cb, 0, none⟩) bp (some ⟨ib, 0, none⟩) 10 10 10 i false (fun h3 => zcb.J8 (some ⟨cb, 0, none⟩) bp (some ⟨ib, 0, none⟩) 10 10 10 i RR E h3) E H2 := fun {H2} hi2 hl2 => by
    refine ⟨?_⟩
    unfold zcb.J7.vc
    rw [if_neg (by decide)]
    refine ⟨?_⟩
    unfold zcb.J8.vc
    rw [w_i64 (by omega) (by omega)]
    exact hRR _ _ (10 - (i + 1)) (by omega) ⟨i + 1, by simp, by omega, rfl, hl2⟩
  by_cases hc : i < 10
  · rw [if_pos (by rw [decide_eq_true_eq]; omega)]
    refine ⟨_, rfl, by omega, by omega, _, ids_cell (hle _ _ hib) hc, ?_⟩
    have hH := h.le hle
    refine zpa.run hH hc ?_
    cases hm : mayB x.c.srv i false with
    | false =>
      rw [if_neg (by decide)]
      exact nxt hc hle
    | true =>
      rw [if_pos rfl, if_pos rfl]
      obtain ⟨Li, hs, _⟩ := hH.str hc
      refine ⟨_, rfl, _, loc (o := 2) hs.cell rfl, ?_⟩
      dsimp only
      rw [if_neg (by decide)]
      exact nxt hc hle
  · rw [if_neg (by rw [decide_eq_true_eq]; omega)]
    exact hk H' hle
theorem zcb.run (h : CAt cb a x L H) (ha : x.c.ans = false) (hq : ∀ i, i < 10 → quiet (x.S i)) {bp : Option Addr} {K : Heap → Prop} (hk : ∀ H', Heap.Le H H' → K H') : zcb.c (some ⟨cb, 0, none⟩) bp K E H := by
  obtain ⟨wp, wc, gp, gc, hc⟩ := h.cells
  refine ⟨?_⟩
  unfold zcb.vc
  refine ⟨_, rfl, _, loc (o := 10) hc rfl, ?_⟩
  dsimp only
  rw [if_neg (by rw [ha]; decide)]
  refine ⟨?_⟩
  unfold zcb.J1.vc
  rw [if_neg (by decide)]
  refine ⟨?_⟩
  unfold zcb.J2.vc
  refine zoe.run fun ib H1 hn1 hl1 hle1 => ?_
  refine ctl_w3 (h.le hle1) hq hl1 fun H2 hle2 => ?_
  refine zoe.run fun ib2 H3 hn3 hl3 hle3 => ?_
  exact ctl_w6 (((h.le hle1).le hle2).le hle3) hl3 fun H4 hle4 => ⟨H4, Heap.Le.refl _, hk H4 (((hle1.trans hle2).trans hle3).trans hle4)⟩
end
end Go.Sh
namespace Go.Sh
open Go.Proofs
set_option maxRecDepth 8000
def anyE (l : List Fm) : Bool := l.any fun f => elic f.k
def BC (bb cb : Nat) (a : CA) (l : List Fm) (r : Int) (x : CS) : Own := Star [BuO bb l r (anyE l), CAt cb a x]
theorem bc_good (bb cb : Nat) (a : CA) (l : List Fm) (r : Int) (x : CS) : ∀ P ∈ [BuO bb l r (anyE l), CAt cb a x], P.good := by
  intro P hP
  simp only [List.mem_cons, List.not_mem_nil, or_false] at hP
  rcases hP with rfl | rfl
  · exact BuO.good _ _ _ _
  · exact CAt.good _ _ _
theorem BC.good (bb cb : Nat) (a : CA) (l : List Fm) (r : Int) (x : CS) : (BC bb cb a l r x).good := Star.good (bc_good bb cb a l r x)
section
variable {bb cb : Nat} {a : CA} {l : List Fm} {r : Int} {x : CS} {L : List Nat} {H : Heap} {E : Value → Heap → Prop}
theorem BC.bu (h : BC bb cb a l r x L H) : ∃ Li, BuO bb l r (anyE l) Li H ∧ (∀ k ∈ Li, k ∈ L) ∧ ∀ {l' : List Fm} {r' : Int} {Li' : List Nat} {H' : Heap}, BuO bb l' r' (anyE l') Li' H' → Step Li H Li' H' → ∃ L', BC bb cb a l' r' x L' H' ∧ Step L H L' H' := by
  obtain ⟨Li, h1, h2, h3⟩ := Star.part (bc_good bb cb a l r x) (i := 0) rfl h
  exact ⟨Li, h1, h2, fun hs hst => h3 hs hst⟩
theorem BC.cat (h : BC bb cb a l r x L H) : ∃ Li, CAt cb a x Li H ∧ (∀ k ∈ Li, k ∈ L) ∧ ∀ {x' : CS} {Li' : List Nat} {H' : Heap}, CAt cb a x' Li' H' → Step Li H Li' H' → ∃ L', BC bb cb a l r x' L' H' ∧ Step L H L' H' := by
  obtain ⟨Li, h1, h2, h3⟩ := Star.part (bc_good bb cb a l r x) (i := 1) rfl h
  exact ⟨Li, h1, h2, fun hs hst => h3 hs hst⟩
theorem BC.le (h : BC bb cb a l r x L H) {H' : Heap} (hl : Heap.Le H H') : BC bb cb a l r x L H' := (BC.good bb cb a l r x).step h (Step.of_le (L := []) hl) (by simp)
theorem BC.cell (h : BC bb cb a l r x L H) : ∃ p c, H bb = some (.cells #[.slice p l.length c, .int .i64 r, .bool (anyE l)] 90) := by
  obtain ⟨Li, ⟨p, c, hb, _⟩, _⟩ := h.bu
  exact ⟨p, c, hb⟩
theorem BC.add (h : BC bb cb a l r x L H) (hap : Apart L H) {f : Fm} (hf : f.ok) (hl : l.length ≤ 3000) (hr : r ≤ 3000) {K : Bool → Heap → Prop}
    (no : r < (wr f).length → ∀ H', Heap.Le H H' → K false H')
    (yes : ((wr f).length : Int) ≤ r → ∀ L' H', BC bb cb a (l ++ [f]) (r - (wr f).length) x L' H' → Step L H L' H' → K true H') : zkb.c (some ⟨bb, 0, none⟩) f.k f.id f.off f.fin f.code f.data none 0 0 K E H := by
  obtain ⟨Li, h1, h2, h3⟩ := h.bu
  refine zkb.run h1 hf hap.t.s (fun hm => hap.h0 (h2 _ hm)) hl hr no fun hy L' H' h4 s4 => ?_
  have e : (anyE l || elic f.k) = anyE (l ++ [f]) := by unfold anyE; rw [List.any_append]; simp
  rw [e] at h4
  obtain ⟨L2, h5, s5⟩ := h3 h4 s4
  exact yes hy L2 H' h5 s5
end
def fmS (i : Nat) (p : Pc) : Fm := ⟨8, (idV i).toNat, p.off.toNat, p.fin, 0, p.data⟩
def farS (s : SM) (p : Pc) : Int := if p.off + p.data.size > s.far then p.off + p.data.size else s.far
def pay1 : Nat → Nat → SM → List Fm → Int → SM × List Fm × Int
  | 0, _, s, l, r => (s, l, r)
  | n + 1, i, s, l, r => if r > 20 then (if (s.out.next (r - 20)).1.ok = true then pay1 n i { s with out := (s.out.next (r - 20)).2, far := farS s (s.out.next (r - 20)).1 } (l ++ [fmS i (s.out.next (r - 20)).1]) (r - (wr (fmS i (s.out.next (r - 20)).1)).length) else ({ s with out := (s.out.next (r - 20)).2 }, l, r)) else (s, l, r)
structure OBok (s : OB) : Prop where
  e : s.how.length = s.text.length
  n : s.text.length ≤ 1000000
theorem OBok.next {s : OB} (h : OBok s) {most : Int} : OBok (s.next most).2 := by
  obtain ⟨h1, h2⟩ := OB.next_len (s := s) (most := most)
  exact ⟨by rw [h1, h2, h.e], by rw [h1]; exact h.n⟩
theorem OB.first_le {s : OB} (h : OBok s) : s.first ≤ s.text.length := by
  unfold OB.first
  rw [← h.e]
  exact runL_le _
theorem OB.next_ok {s : OB} (h : OBok s) {most : Int} (hm : 0 ≤ most) (ho : (s.next most).1.ok = true) : ∃ o : Nat, (s.next most).1.off = o ∧ o + (s.next most).1.data.size ≤ s.text.length ∧ ((s.next most).1.data.size : Int) ≤ most := by
  have hf := OB.first_le h
  unfold OB.next at ho ⊢
  split at ho
  · rename_i h1
    rw [if_pos h1]
    split at ho
    · cases ho
    · rename_i h2
      rw [if_neg h2]
      exact ⟨s.text.length, rfl, by simp [ByteArray.size], by simpa [ByteArray.size] using hm⟩
  · rename_i h1
    rw [if_neg h1]
    split at ho
    · cases ho
    · rename_i h2
      rw [if_neg h2]
      obtain ⟨a1, a2, a3, _⟩ := OB.stop_spec (s := s) (most := most) (a := s.first) (s.text.length - s.first) s.first rfl hf
      have e1 : s.stopE most = s.stop most s.first (s.text.length - s.first) s.first := rfl
      rw [← e1] at a1 a2 a3
      have hz : ((⟨((s.text.drop s.first).take (s.stopE most - s.first)).toArray⟩ : ByteArray)).size = s.stopE most - s.first := by
        rw [zxa, List.length_take, List.length_drop]
        omega
      refine ⟨s.first, rfl, ?_, ?_⟩
      · show s.first + (⟨((s.text.drop s.first).take (s.stopE most - s.first)).toArray⟩ : ByteArray).size ≤ _
        rw [hz]; omega
      · show (((⟨((s.text.drop s.first).take (s.stopE most - s.first)).toArray⟩ : ByteArray).size : Nat) : Int) ≤ _
        rw [hz]
        have := a3 (s.stopE most - 1) (by omega) (by omega)
        omega
theorem idV_nat : ∀ i, i < 10 → ((idV i).toNat : Int) = idV i ∧ (idV i).toNat ≤ 28 := by decide
theorem wrS_len {i : Nat} (hi : i < 10) {p : Pc} {o : Nat} (ho : p.off = o) (hz : o + p.data.size ≤ 1000000) (hd : p.data.size ≤ 1200) : (wr (fmS i p)).length ≤ 20 + p.data.size ∧ 1 ≤ (wr (fmS i p)).length ∧ (fmS i p).ok := by
  have hid := (idV_nat i hi).2
  have e : wr (fmS i p) = wput 8 ++ (wput (idV i).toNat ++ (wput p.off.toNat ++ ([if p.fin then 1 else 0] ++ (wtext p.data.data.toList ++ [])))) := rfl
  have l1 := wi_cases (idV i).toNat
  have l2 := wi_cases p.off.toNat
  have l3 := wi_cases p.data.data.toList.length
  have l4 : (wput 8).length = 1 := by decide
  have hs := zte p.data
  have on : p.off.toNat = o := by omega
  refine ⟨?_, ?_, ⟨.inr (.inl rfl), fun _ => rfl, fun _ => rfl, fun _ => rfl, fun h => absurd rfl h, fun _ => .inl rfl, ?_, ?_, by show (0 : Nat) < _; decide, hd⟩⟩
  · rw [e]
    unfold wtext
    simp only [List.length_append, zfd, List.length_cons, List.length_nil]
    rw [zfd] at l4
    omega
  · rw [e, List.length_append, l4]; omega
  · show (idV i).toNat < _; omega
  · show p.off.toNat + p.data.size < _; omega
theorem upS_self (S : Nat → SM) (i : Nat) : upS S i (S i) = S := by
  funext j
  unfold upS
  split
  · rename_i e; rw [e]
  · rfl
theorem upS_at (S : Nat → SM) (i : Nat) (s : SM) : upS S i s i = s := by simp [upS]
theorem upS_upS (S : Nat → SM) (i : Nat) (s t : SM) : upS (upS S i s) i t = upS S i t := by
  funext j
  unfold upS
  split <;> rfl
section
variable {bb cb : Nat} {a : CA} {l : List Fm} {r : Int} {x : CS} {L : List Nat} {H : Heap} {E : Value → Heap → Prop}
theorem pay_j5 (h : BC bb cb a l r x L H) (hap : Apart L H) {i : Nat} (hi : i < 10) {p : Pc} {b1 : Nat} (hp : H b1 = some (.cells #[.int .i64 p.off, .string p.data, .bool p.fin] 152)) (hn : b1 ∉ L) (hl : l.length ≤ 3000) (hr : r ≤ 3000) {x0 : Option Addr} {x1 x2 : Nat} {x3 x4 : Int} {Kx Kn : Heap → Prop}
    (no : p.ok = false → Kx H)
    (yes : p.ok = true → ∃ o : Nat, p.off = o ∧ o + p.data.size ≤ 1000000 ∧ p.data.size ≤ 1200 ∧ ((wr (fmS i p)).length : Int) ≤ r ∧ ∀ L' H', BC bb cb a (l ++ [fmS i p]) (r - (wr (fmS i p)).length) { x with S := upS x.S i { x.S i with far := farS (x.S i) p } } L' H' → Step L H L' H' → Kn H') :
    zdb.J5 (some ⟨cb, 0, none⟩) (some ⟨bb, 0, none⟩) (idV i) (some ⟨a.ss i, 0, none⟩) ⟨b1, 0, none⟩ p.ok x0 x1 x2 x3 x4 Kx Kn E H := by
  refine ⟨?_⟩
  unfold zdb.J5.vc
  cases hok : p.ok with
  | false =>
    rw [if_pos (by decide)]
    exact no hok
  | true =>
    rw [if_neg (by decide)]
    obtain ⟨o, ho, hz, hd, hfit, hk⟩ := yes hok
    obtain ⟨Lc, hc, hcin, hcput⟩ := h.cat
    obtain ⟨Li, hs, hsin, hsput⟩ := hc.str hi
    have hsc := hs.cell
    refine ⟨_, rfl, _, loc (o := 7) hsc rfl, _, loc (o := 0) hp rfl, _, loc (o := 1) hp rfl, _, rfl, ?_⟩
    dsimp only
    rw [w_i64 (by omega) (by omega)]
    refine hs.setc (o := 7) (s' := { x.S i with far := farS (x.S i) p }) (by decide) rfl rfl rfl fun L1 H1 h1 s1 => ?_
    obtain ⟨L2, h2, s2⟩ := hsput h1 s1
    obtain ⟨L3, h3, s3⟩ := hcput h2 s2
    obtain ⟨hp3, hn3⟩ := s3 b1 _ hp hn
    refine ⟨_, loc (o := 0) hp3 rfl, _, loc (o := 2) hp3 rfl, _, loc (o := 1) hp3 rfl, ?_⟩
    obtain ⟨_, _, hfok⟩ := wrS_len hi ho hz hd
    have e1 : idV i = ((fmS i p).id : Int) := (idV_nat i hi).1.symm
    have e2 : p.off = ((fmS i p).off : Int) := by show p.off = (p.off.toNat : Int); omega
    show zkb.c _ 8 (idV i) p.off p.fin 0 p.data none 0 0 _ E H1
    rw [e1, e2]
    refine BC.add (f := fmS i p) h3 (hap.stp s3) hfok hl hr (fun hc => absurd hc (by omega)) fun _ L4 H4 h4 s4 => ?_
    exact hk L4 H4 h4 (s3.trans s4)
theorem pay_w4 (h : BC bb cb a l r x L H) (hap : Apart L H) {i : Nat} (hi : i < 10) (hob : OBok (x.S i).out) (h0 : 0 ≤ r) (hr : r ≤ 1171) (hl : l.length + r ≤ 1200) {x0 : Option Addr} {x1 x2 : Nat} {x3 x4 : Int} {Kx : Heap → Prop}
    (hk : ∀ z L' H', z = pay1 r.toNat i (x.S i) l r → OBok z.1.out → 0 ≤ z.2.2 → z.2.2 ≤ 1171 → z.2.1.length + z.2.2 ≤ 1200 → BC bb cb a z.2.1 z.2.2 { x with S := upS x.S i z.1 } L' H' → Step L H L' H' → Kx H') :
    zdb.W4 (some ⟨cb, 0, none⟩) (some ⟨bb, 0, none⟩) (idV i) (some ⟨a.ss i, 0, none⟩) x0 x1 x2 x3 x4 Kx E H := by
  refine ⟨Loop.of (I := fun _ H' m => ∃ s l' r' L', OBok s.out ∧ pay1 m i s l' r' = pay1 r.toNat i (x.S i) l r ∧ r'.toNat ≤ m ∧ 0 ≤ r' ∧ r' ≤ 1171 ∧ l'.length + r' ≤ 1200 ∧ BC bb cb a l' r' { x with S := upS x.S i s } L' H' ∧ Step L H L' H') ?_
    ⟨x.S i, l, r, L, hob, rfl, Nat.le_refl _, h0, hr, hl, by rw [upS_self]; exact h, Step.refl _ _⟩⟩
  rintro m st H' ⟨s, l', r', L', hs, hp, hm, h0', hr', hl', hb, hst⟩ RR hRR
  unfold zdb.W4.vc
  obtain ⟨bp, bc, hbb⟩ := hb.cell
  have hap' := hap.stp hst
  refine ⟨_, rfl, _, loc (o := 1) hbb rfl, ?_⟩
  dsimp only
  by_cases hc : r' > 20
  · rw [if_pos (by rw [decide_eq_true_eq]; omega)]
    obtain ⟨m', rfl⟩ : ∃ m', m = m' + 1 := ⟨m - 1, by omega⟩
    obtain ⟨Lc, hcat, hcin, hcput⟩ := hb.cat
    obtain ⟨Li, hstr, hsin, hsput⟩ := hcat.str hi
    have hstr' : StrO (a.ss i) (a.si i) (a.so i) s Li H' := by
      have := hstr
      dsimp only at this
      rw [upS_at] at this
      exact this
    have hsc := hstr'.cell
    obtain ⟨Lo, hoa, hoin, hson, hoput⟩ := hstr'.outp
    have w20 : IntKind.i64.wrap (r' - 20) = r' - 20 := w_i64 (by omega) (by omega)
    -- what the piece is
    obtain ⟨p, hpe⟩ : ∃ p, p = (s.out.next (r' - 20)).1 := ⟨_, rfl⟩
    have hpok : p.ok = true → ∃ o : Nat, p.off = o ∧ o + p.data.size ≤ 1000000 ∧ p.data.size ≤ 1200 ∧ ((wr (fmS i p)).length : Int) ≤ r' ∧ 1 ≤ (wr (fmS i p)).length := fun ho => by
      rw [hpe] at ho
      obtain ⟨o, o1, o2, o3⟩ := OB.next_ok hs (by omega) ho
      rw [← hpe] at o1 o2 o3
      have := hs.n
      obtain ⟨q1, q2, _⟩ := wrS_len hi o1 (by omega) (by omega)
      exact ⟨o, o1, by omega, by omega, by omega, q2⟩
    -- behind the call, whichever came first
    have tail : ∀ {H2 : Heap} {L2 : List Nat} {b1 : Nat}, BC bb cb a l' r' { x with S := upS x.S i { s with out := (s.out.next (r' - 20)).2 } } L2 H2 → Step L' H' L2 H2 → H2 b1 = some (.cells #[.int .i64 p.off, .string p.data, .bool p.fin] 152) → b1 ∉ L2 →
        zdb.J5 (some ⟨cb, 0, none⟩) (some ⟨bb, 0, none⟩) (idV i) (some ⟨a.ss i, 0, none⟩) ⟨b1, 0, none⟩ p.ok x0 x1 x2 x3 x4 Kx (fun h => RR () h) E H2 := fun {H2 L2 b1} h2 s2 hb1 hn1 => by
      refine pay_j5 h2 (hap'.stp s2) hi hb1 hn1 (by omega) (by omega) (fun ho => ?_) fun ho => ?_
      · have e : pay1 (m' + 1) i s l' r' = ({ s with out := (s.out.next (r' - 20)).2 }, l', r') := by
          unfold pay1
          rw [if_pos hc, ← hpe, if_neg (by rw [ho]; decide)]
        rw [e] at hp
        exact hk _ L2 H2 hp hs.next h0' hr' hl' h2 (hst.trans s2)
      · obtain ⟨o, o1, o2, o3, o4, o5⟩ := hpok ho
        refine ⟨o, o1, o2, o3, o4, fun L3 H3 h3 s3 => ?_⟩
        have e : upS (upS x.S i { s with out := (s.out.next (r' - 20)).2 }) i { upS x.S i { s with out := (s.out.next (r' - 20)).2 } i with far := farS (upS x.S i { s with out := (s.out.next (r' - 20)).2 } i) p } = upS x.S i { s with out := (s.out.next (r' - 20)).2, far := farS s p } := by
          rw [upS_upS, upS_at]
          rfl
        have h3' := h3
        dsimp only at h3'
        rw [e] at h3'
        refine hRR _ _ m' (by omega) ⟨{ s with out := (s.out.next (r' - 20)).2, far := farS s p }, l' ++ [fmS i p], r' - (wr (fmS i p)).length, L3, hs.next, ?_, by omega, by omega, by omega, by rw [List.length_append, List.length_singleton]; omega, h3', (hst.trans s2).trans s3⟩
        rw [← hp]
        conv => rhs; unfold pay1
        rw [if_pos hc, ← hpe, if_pos ho]
    have cellr : ∀ {H2 : Heap} {L2 : List Nat}, BC bb cb a l' r' { x with S := upS x.S i { s with out := (s.out.next (r' - 20)).2 } } L2 H2 → (∃ v, H2.cell? ((⟨bb, 0, none⟩ : Addr).add 1) = some v ∧ v = .int .i64 r') ∧ H2.cell? ((⟨a.ss i, 0, none⟩ : Addr).add 1) = some (.pointer (some ⟨a.so i, 0, none⟩)) := fun {H2 L2} h2 => by
      obtain ⟨bp, bc, hbb⟩ := h2.cell
      obtain ⟨Lc, hcat, _⟩ := h2.cat
      obtain ⟨Li, hstr, _⟩ := hcat.str hi
      exact ⟨⟨_, loc (o := 1) hbb rfl, rfl⟩, loc (o := 1) hstr.cell rfl⟩
    refine ⟨_, rfl, _, loc (o := 1) hsc rfl, _, rfl, _, loc (o := 1) hbb rfl, ?_⟩
    dsimp only
    rw [w20]
    refine ⟨?_, ?_⟩
    · refine zya.run hoa hs.e hs.n fun H1 h1 s1 => ?_
      obtain ⟨L1a, h1a, s1a⟩ := hoput h1 s1
      have h1a' : StrO (a.ss i) (a.si i) (a.so i) { s with out := (s.out.next (r' - 20)).2 } L1a H1 := h1a
      obtain ⟨L1b, h1b, s1b⟩ := hsput h1a' s1a
      obtain ⟨L1, h1c, s1c⟩ := hcput h1b s1b
      have h1d : BC bb cb a l' r' { x with S := upS x.S i { s with out := (s.out.next (r' - 20)).2 } } L1 H1 := by
        have := h1c
        dsimp only at this
        rw [upS_upS] at this
        exact this
      refine zna fun b1 H2 hn2 hl2 hle2 => ?_
      have h2 := h1d.le hle2
      obtain ⟨⟨v, c1, rfl⟩, c2⟩ := cellr h2
      have n2 : b1 ∉ L1 := fun hm => (BC.good bb cb a l' r' _).live h1d _ hm hn2
      refine ⟨⟨_, c1, rfl, rfl⟩, ⟨_, c2, rfl, rfl⟩, ?_⟩
      refine stc_at (o := 0) (arr' := #[.int .i64 p.off, .string ⟨#[]⟩, .bool false]) hl2 (show 0 < 3 by decide) (by rw [hpe]; rfl) ?_
      refine stc_at (o := 1) (arr' := #[.int .i64 p.off, .string p.data, .bool false]) (set_self _ _ _) (show 1 < 3 by decide) (by rw [hpe]; rfl) ?_
      refine stc_at (o := 2) (arr' := #[.int .i64 p.off, .string p.data, .bool p.fin]) (set_self _ _ _) (show 2 < 3 by decide) (by rw [hpe]; rfl) ?_
      rw [zdc, zdc, ← hpe]
      have ss := Step.set H2 b1 (.cells #[.int .i64 p.off, .string p.data, .bool p.fin] 152)
      exact tail ((BC.good bb cb a l' r' _).step h2 ss fun k hk hm => n2 (by rw [List.mem_singleton] at hm; rw [← hm]; exact hk)) (s1c.trans ((Step.of_le hle2).put hn2 _)) (set_self _ _ _) n2
    · refine zna fun b1 H1 hn1 hl1 hle1 => ?_
      have n0 : b1 ∉ L' := fun hm => (BC.good bb cb a l' r' _).live hb _ hm hn1
      refine ⟨⟨_, loc (o := 1) (hle1 _ _ hbb) rfl, rfl, rfl⟩, ⟨_, loc (o := 1) (hle1 _ _ hsc) rfl, rfl, rfl⟩, ?_⟩
      have hb1 := hb.le hle1
      obtain ⟨Lc, hcat, hcin, hcput⟩ := hb1.cat
      obtain ⟨Li, hstr, hsin, hsput⟩ := hcat.str hi
      have hstr' : StrO (a.ss i) (a.si i) (a.so i) s Li H1 := by
        have := hstr
        dsimp only at this
        rw [upS_at] at this
        exact this
      obtain ⟨Lo, hoa, hoin, hson, hoput⟩ := hstr'.outp
      refine zya.run hoa hs.e hs.n fun H2 h1 s1 => ?_
      obtain ⟨L1a, h1a, s1a⟩ := hoput h1 s1
      have h1a' : StrO (a.ss i) (a.si i) (a.so i) { s with out := (s.out.next (r' - 20)).2 } L1a H2 := h1a
      obtain ⟨L1b, h1b, s1b⟩ := hsput h1a' s1a
      obtain ⟨L1, h1c, s1c⟩ := hcput h1b s1b
      have h1d : BC bb cb a l' r' { x with S := upS x.S i { s with out := (s.out.next (r' - 20)).2 } } L1 H2 := by
        have := h1c
        dsimp only at this
        rw [upS_upS] at this
        exact this
      obtain ⟨hl2, n2⟩ := s1c b1 _ hl1 n0
      refine stc_at (o := 0) (arr' := #[.int .i64 p.off, .string ⟨#[]⟩, .bool false]) hl2 (show 0 < 3 by decide) (by rw [hpe]; rfl) ?_
      refine stc_at (o := 1) (arr' := #[.int .i64 p.off, .string p.data, .bool false]) (set_self _ _ _) (show 1 < 3 by decide) (by rw [hpe]; rfl) ?_
      refine stc_at (o := 2) (arr' := #[.int .i64 p.off, .string p.data, .bool p.fin]) (set_self _ _ _) (show 2 < 3 by decide) (by rw [hpe]; rfl) ?_
      rw [zdc, zdc, ← hpe]
      have ss := Step.set H2 b1 (.cells #[.int .i64 p.off, .string p.data, .bool p.fin] 152)
      exact tail ((BC.good bb cb a l' r' _).step h1d ss fun k hk hm => n2 (by rw [List.mem_singleton] at hm; rw [← hm]; exact hk)) (((Step.of_le hle1).trans s1c).put hn1 _) (set_self _ _ _) n2
  · rw [if_neg (by rw [decide_eq_true_eq]; omega)]
    have e : pay1 m i s l' r' = (s, l', r') := by
      cases m with
      | zero => rfl
      | succ m => unfold pay1; rw [if_neg hc]
    rw [e] at hp
    exact hk _ L' H' hp hs h0' hr' hl' hb hst
structure PR where
  S : Nat → SM
  l : List Fm
  r : Int
def payOne (srv : Bool) (i : Nat) (q : PR) : PR := if mayB srv i false = true then ⟨upS q.S i (pay1 q.r.toNat i (q.S i) q.l q.r).1, (pay1 q.r.toNat i (q.S i) q.l q.r).2.1, (pay1 q.r.toNat i (q.S i) q.l q.r).2.2⟩ else q
def payTo (srv : Bool) (q : PR) : Nat → PR
  | 0 => q
  | i + 1 => payOne srv i (payTo srv q i)
structure PR.ok (q : PR) : Prop where
  o : ∀ i, OBok (q.S i).out
  h0 : 0 ≤ q.r
  hr : q.r ≤ 1171
  hl : q.l.length + q.r ≤ 1200
theorem pay_w1 (h : BC bb cb a l r x L H) (hap : Apart L H) (hok : PR.ok ⟨x.S, l, r⟩) {ib : Nat} (hib : H ib = some (.cells idsArr 2)) (hibL : ib ∉ L) {Kx : Heap → Prop}
    (hk : ∀ q L' H', q = payTo x.c.srv ⟨x.S, l, r⟩ 10 → q.ok → BC bb cb a q.l q.r { x with S := q.S } L' H' → Step L H L' H' → Kx H') :
    zdb.W1 (some ⟨cb, 0, none⟩) (some ⟨bb, 0, none⟩) (some ⟨ib, 0, none⟩) 10 10 10 0 Kx E H := by
  refine ⟨Loop.of (I := fun st H' m => ∃ (i : Nat) (q : PR) (L' : List Nat), st = (i : Int) ∧ i ≤ 10 ∧ m = 10 - i ∧ q = payTo x.c.srv ⟨x.S, l, r⟩ i ∧ q.ok ∧ BC bb cb a q.l q.r { x with S := q.S } L' H' ∧ Step L H L' H') ?_
    ⟨0, _, L, rfl, by decide, rfl, rfl, hok, h, Step.refl _ _⟩⟩
  rintro m st H' ⟨i, q, L', rfl, hi, rfl, hq, hqok, hb, hst⟩ RR hRR
  unfold zdb.W1.vc
  have nxt : ∀ {H2 : Heap} {L2 : List Nat} {q2 : PR} {x1 x2 : Nat}, i < 10 → q2 = payTo x.c.srv ⟨x.S, l, r⟩ (i + 1) → q2.ok → BC bb cb a q2.l q2.r { x with S := q2.S } L2 H2 → Step L H L2 H2 → zdb.J2 (some ⟨cb, 0, none⟩) (some ⟨bb, 0, none⟩) (some ⟨ib, 0, none⟩) x1 x2 10 i RR E H2 := fun {H2 L2 q2 x1 x2} hi2 e2 ok2 b2 s2 => by
    refine ⟨?_⟩
    unfold zdb.J2.vc
    rw [w_i64 (by omega) (by omega)]
    exact hRR _ _ (10 - (i + 1)) (by omega) ⟨i + 1, q2, L2, by simp, by omega, rfl, e2, ok2, b2, s2⟩
  by_cases hc : i < 10
  · rw [if_pos (by rw [decide_eq_true_eq]; omega)]
    obtain ⟨hib', _⟩ := hst ib _ hib hibL
    refine ⟨_, rfl, by omega, by omega, _, ids_cell hib' hc, ?_⟩
    obtain ⟨Lc, hcat, _⟩ := hb.cat
    refine zpa.run hcat hc ?_
    have esrv : ({ x with S := q.S } : CS).c.srv = x.c.srv := rfl
    rw [esrv]
    have eq1 : payTo x.c.srv ⟨x.S, l, r⟩ (i + 1) = payOne x.c.srv i q := by rw [hq]; rfl
    cases hm : mayB x.c.srv i false with
    | false =>
      rw [if_pos (by decide)]
      refine nxt hc ?_ hqok hb hst
      rw [eq1]
      unfold payOne
      rw [if_neg (by rw [hm]; decide)]
    | true =>
      rw [if_neg (by decide), if_pos rfl]
      obtain ⟨Li, hstr, _⟩ := hcat.str hc
      refine ⟨_, rfl, _, loc (o := 2) hstr.cell rfl, ?_⟩
      dsimp only
      rw [if_neg (by decide)]
      refine ⟨?_⟩
      unfold zdb.J3.vc
      refine pay_w4 hb (hap.stp hst) hc (hqok.o i) hqok.h0 hqok.hr hqok.hl fun z L2 H2 ez z1 z2 z3 z4 b2 s2 => ?_
      have ez' : z = pay1 q.r.toNat i (q.S i) q.l q.r := ez
      refine nxt (q2 := ⟨upS q.S i z.1, z.2.1, z.2.2⟩) hc ?_ ⟨fun j => ?_, z2, z3, z4⟩ b2 (hst.trans s2)
      · rw [eq1]
        unfold payOne
        rw [if_pos hm, ← ez']
      · show OBok (upS q.S i z.1 j).out
        unfold upS
        split
        · exact z1
        · exact hqok.o j
  · rw [if_neg (by rw [decide_eq_true_eq]; omega)]
    have : i = 10 := by omega
    subst this
    exact hk q L' H' hq hqok hb hst
def fmG (d : ByteArray) : Fm := ⟨48, 0, 0, false, 0, d⟩
theorem fmG_ok {d : ByteArray} (h : d.size ≤ 1200) : (fmG d).ok := ⟨.inr (.inr (.inr rfl)), fun h => absurd rfl h, fun h => absurd rfl h, (fun h => by cases h), fun h => absurd rfl h, fun _ => .inr rfl, by show (0 : Nat) < _; decide, by show 0 + d.size < _; omega, by show (0 : Nat) < _; decide, h⟩
def payG : List ByteArray → List Fm → Int → List ByteArray × List Fm × Int
  | [], l, r => ([], l, r)
  | d :: w, l, r => if ((wr (fmG d)).length : Int) ≤ r then payG w (l ++ [fmG d]) (r - (wr (fmG d)).length) else (d :: w, l, r)
theorem CAt.setw (h : CAt cb a x L H) : ∃ wp wc Lw, TxtAt H wp wc x.c.wait Lw ∧ H.cell? ((⟨cb, 0, none⟩ : Addr).add 19) = some (.slice wp x.c.wait.length wc) ∧ (∀ k ∈ Lw, k ∈ L) ∧ cb ∉ Lw ∧ ∀ {p : Option Addr} {n c : Nat} {w' : List ByteArray} {Lw' : List Nat} {H1 : Heap} {K : Heap → Prop}, TxtAt H1 p c w' Lw' → n = w'.length → Step Lw H Lw' H1 → (∀ L' H', CAt cb a { x with c := { x.c with wait := w' } } L' H' → Step L H L' H' → K H') → stc H1 ((⟨cb, 0, none⟩ : Addr).add 19) (.slice p n c) K := by
  obtain ⟨Li, ⟨wp, wc, gp, gc, Lw, Lg, ⟨h1, h2, h3, d1, d2, d3⟩, rfl⟩, hin, hput⟩ := h.con
  refine ⟨wp, wc, Lw, h2, loc (o := 19) h1 rfl, fun k hk => hin k (by simp [hk]), d1, fun {p n c w' Lw' H1 K} ht hn hs1 hk => ?_⟩
  subst hn
  obtain ⟨h1', d1'⟩ := hs1 cb _ h1 d1
  refine stc_at (o := 19) (arr' := ({ x.c with wait := w' } : CN).arr a p c gp gc) h1' (show 19 < 22 by decide) rfl ?_
  have hs := Step.set H1 cb (.cells (({ x.c with wait := w' } : CN).arr a p c gp gc) 70)
  have hg1 : ∀ k ∈ Lg, k ∉ Lw := fun k hk hm => d3 k hm hk
  have hg2 : ∀ k ∈ Lg, k ∉ Lw' := out_of hs1 h3.live hg1
  have hst : Step (cb :: (Lw ++ Lg)) H (cb :: (Lw' ++ Lg)) (H1.set cb (.cells (({ x.c with wait := w' } : CN).arr a p c gp gc) 70)) := fun k o hk hn => by
    simp only [List.mem_cons, List.mem_append, not_or] at hn ⊢
    obtain ⟨k1, k2⟩ := hs1 k o hk hn.2.1
    exact ⟨by rw [set_ne _ _ hn.1]; exact k1, hn.1, k2, hn.2.2⟩
  obtain ⟨L', h4, h5⟩ := hput (c' := { x.c with wait := w' }) (Li' := cb :: (Lw' ++ Lg)) rfl rfl ⟨p, c, gp, gc, Lw', Lg, ⟨set_self _ _ _, ht.stp hs fun k hk hm => d1' (by rw [List.mem_singleton] at hm; rw [← hm]; exact hk), (h3.stp hs1 hg1).stp hs fun k hk hm => d2 (by rw [List.mem_singleton] at hm; rw [← hm]; exact hk), d1', d2, fun k hk hm => hg2 k hm hk⟩, rfl⟩ hst
  exact hk L' _ h4 h5
theorem CAt.setg (h : CAt cb a x L H) : ∃ gp gc Lg, TxtAt H gp gc x.c.got Lg ∧ H.cell? ((⟨cb, 0, none⟩ : Addr).add 20) = some (.slice gp x.c.got.length gc) ∧ (∀ k ∈ Lg, k ∈ L) ∧ cb ∉ Lg ∧ ∀ {p : Option Addr} {n c : Nat} {g' : List ByteArray} {Lg' : List Nat} {H1 : Heap} {K : Heap → Prop}, TxtAt H1 p c g' Lg' → n = g'.length → Step Lg H Lg' H1 → (∀ L' H', CAt cb a { x with c := { x.c with got := g' } } L' H' → Step L H L' H' → K H') → stc H1 ((⟨cb, 0, none⟩ : Addr).add 20) (.slice p n c) K := by
  obtain ⟨Li, ⟨wp, wc, gp, gc, Lw, Lg, ⟨h1, h2, h3, d1, d2, d3⟩, rfl⟩, hin, hput⟩ := h.con
  refine ⟨gp, gc, Lg, h3, loc (o := 20) h1 rfl, fun k hk => hin k (by simp [hk]), d2, fun {p n c g' Lg' H1 K} ht hn hs1 hk => ?_⟩
  subst hn
  obtain ⟨h1', d2'⟩ := hs1 cb _ h1 d2
  refine stc_at (o := 20) (arr' := ({ x.c with got := g' } : CN).arr a wp wc p c) h1' (show 20 < 22 by decide) rfl ?_
  have hs := Step.set H1 cb (.cells (({ x.c with got := g' } : CN).arr a wp wc p c) 70)
  have hg2 : ∀ k ∈ Lw, k ∉ Lg' := out_of hs1 h2.live d3
  have hst : Step (cb :: (Lw ++ Lg)) H (cb :: (Lw ++ Lg')) (H1.set cb (.cells (({ x.c with got := g' } : CN).arr a wp wc p c) 70)) := fun k o hk hn => by
    simp only [List.mem_cons, List.mem_append, not_or] at hn ⊢
    obtain ⟨k1, k2⟩ := hs1 k o hk hn.2.2
    exact ⟨by rw [set_ne _ _ hn.1]; exact k1, hn.1, hn.2.1, k2⟩
  obtain ⟨L', h4, h5⟩ := hput (c' := { x.c with got := g' }) (Li' := cb :: (Lw ++ Lg')) rfl rfl ⟨wp, wc, p, c, Lw, Lg', ⟨set_self _ _ _, (h2.stp hs1 d3).stp hs fun k hk hm => d1 (by rw [List.mem_singleton] at hm; rw [← hm]; exact hk), ht.stp hs fun k hk hm => d2' (by rw [List.mem_singleton] at hm; rw [← hm]; exact hk), d1, d2', hg2⟩, rfl⟩ hst
  exact hk L' _ h4 h5
theorem eta_w (x : CS) (w : List ByteArray) (h : x.c.wait = w) : ({ x with c := { x.c with wait := w } } : CS) = x := by subst h; rfl
theorem pay_w6 (h : BC bb cb a l r x L H) (hap : Apart L H) (hw : x.c.wait.length ≤ 1000) (hd : ∀ d ∈ x.c.wait, d.size ≤ 1200) (hr : r ≤ 1171) (hl : l.length ≤ 1200) {Kx : Heap → Prop}
    (hk : ∀ z L' H', z = payG x.c.wait l r → BC bb cb a z.2.1 z.2.2 { x with c := { x.c with wait := z.1 } } L' H' → Step L H L' H' → Kx H') :
    zdb.W6 (some ⟨cb, 0, none⟩) (some ⟨bb, 0, none⟩) Kx E H := by
  refine ⟨Loop.of (I := fun _ H' m => ∃ (w : List ByteArray) (l' : List Fm) (r' : Int) (L' : List Nat), w.length = m ∧ (∀ d ∈ w, d.size ≤ 1200) ∧ payG w l' r' = payG x.c.wait l r ∧ r' ≤ 1171 ∧ w.length + l'.length ≤ 2500 ∧ BC bb cb a l' r' { x with c := { x.c with wait := w } } L' H' ∧ Step L H L' H') ?_
    ⟨x.c.wait, l, r, L, rfl, hd, rfl, hr, by omega, by rw [eta_w x _ rfl]; exact h, Step.refl _ _⟩⟩
  rintro m st H' ⟨w, l', r', L', rfl, hwd, hg, hr', hl', hb, hst⟩ RR hRR
  unfold zdb.W6.vc
  obtain ⟨Lc, hcat, hcin, hcput⟩ := hb.cat
  rcases w with _ | ⟨d, w⟩
  · obtain ⟨wp, wc, Lw, htx, hcl, _⟩ := hcat.setw
    refine ⟨_, rfl, _, _, _, hcl, ?_⟩
    dsimp only
    rw [if_neg (by simp)]
    exact hk _ L' H' hg hb hst
  · obtain ⟨wp, wc, Lw, htx, hcl, _⟩ := hcat.setw
    obtain ⟨b, hb1, hb2⟩ := htx.get (i := 0) (s := d) rfl
    refine ⟨_, rfl, _, _, _, hcl, ?_⟩
    dsimp only
    rw [List.length_cons] at hl' ⊢
    rw [if_pos (by rw [decide_eq_true_eq]; omega)]
    refine ⟨_, rfl, _, _, _, hcl, b, hb1, by decide, by show (0 : Int) < (((d :: w).length : Nat) : Int); rw [List.length_cons]; omega, _, by simpa using hb2, ?_⟩
    refine BC.add (f := fmG d) hb (hap.stp hst) (fmG_ok (hwd d (by simp))) (by omega) (by omega) (fun hn H2 hle => ?_) fun hy L2 H2 h2 s2 => ?_
    · rw [if_neg (by decide)]
      have e : payG (d :: w) l' r' = (d :: w, l', r') := by unfold payG; rw [if_neg (by omega)]
      rw [e] at hg
      exact hk _ L' H2 hg (hb.le hle) (hst.trans (Step.of_le hle))
    · rw [if_pos rfl]
      obtain ⟨Lc2, hcat2, hcin2, hcput2⟩ := h2.cat
      obtain ⟨wp, wc, Lw, htx, hcl, _, _, hset⟩ := hcat2.setw
      have hlen := htx.len
      refine ⟨?_⟩
      unfold zdb.J7.vc
      refine ⟨_, rfl, _, _, _, hcl, by decide, by show (1 : Int) ≤ (((d :: w).length : Nat) : Int); rw [List.length_cons]; omega, hlen, _, rfl, ?_⟩
      refine hset (TxtAt.pop (s := d) (l := w) htx) (by show (d :: w).length - 1 = _; rw [List.length_cons]; omega) (Step.refl _ _) fun L3 H3 h3 s3 => ?_
      obtain ⟨L4, h4, s4⟩ := hcput2 h3 s3
      refine hRR _ _ w.length (by simp) ⟨w, _, _, L4, rfl, fun d' hd' => hwd d' (by simp [hd']), ?_, by omega, by rw [List.length_append, List.length_singleton]; omega, h4, (hst.trans s2).trans s4⟩
      rw [← hg]
      conv => rhs; unfold payG
      rw [if_pos hy]
theorem zdb.run (h : BC bb cb a l r x L H) (hap : Apart L H) (hok : PR.ok ⟨x.S, l, r⟩) (hw : x.c.wait.length ≤ 1000) (hd : ∀ d ∈ x.c.wait, d.size ≤ 1200) {K : Heap → Prop}
    (hk : ∀ q z L' H', q = payTo x.c.srv ⟨x.S, l, r⟩ 10 → z = payG x.c.wait q.l q.r → BC bb cb a z.2.1 z.2.2 { x with S := q.S, c := { x.c with wait := z.1 } } L' H' → Step L H L' H' → K H') : zdb.c (some ⟨cb, 0, none⟩) (some ⟨bb, 0, none⟩) K E H := by
  have hlv := (BC.good bb cb a l r x).live h
  refine ⟨?_⟩
  unfold zdb.vc
  refine zoe.run fun ib H1 hn1 hl1 hle1 => ?_
  refine pay_w1 (h.le hle1) (hap.le hle1) hok hl1 (fun hm => hlv ib hm hn1) fun q L2 H2 eq ok2 b2 s2 => ?_
  have l2 := ok2.hl
  have l3 := ok2.h0
  refine pay_w6 b2 ((hap.le hle1).stp s2) hw hd ok2.hr (by omega) fun z L3 H3 ez b3 s3 => ⟨H3, Heap.Le.refl _, hk q z L3 H3 eq ez b3 (((Step.of_le hle1).trans s2).trans s3)⟩
end
end Go.Sh
namespace Go.Sh
open Go.Proofs
set_option maxRecDepth 8000
def padB (l : List Fm) (size : Nat) : ByteArray := ⟨(wrs l ++ List.replicate (size - 29 - (wrs l).length) 0).toArray⟩
def CN.sent (c : CN) (k : KeyS) : CN := { c with next := c.next + 1, tx := some { k with a := k.a + 1 } }
theorem rep0 (z : Nat) : Lib.repeatL (⟨#[0]⟩ : ByteArray).data.toList z = List.replicate z 0 := by
  have := Lib.repeatL_replicate (0 : UInt8) 1 z
  simpa using this
section
variable {cb : Nat} {a : CA} {x : CS} {L : List Nat} {H : Heap} {E : Value → Heap → Prop}
theorem only_step {b : Nat} {H H' : Heap} (h : Only b H H') : Step [b] H [b] H' := fun k o hk hn => ⟨h k o hk (by simpa using hn), hn⟩
theorem zae.run (h : CAt cb a x L H) (hap : Apart L H) {k : KeyS} (htx : x.c.tx = some k) (hc : x.c.cid.size ≤ 1000) (hn : x.c.next < 4294967295) (hka : k.a < 1000) {l : List Fm} (hl : ∀ f ∈ l, f.ok) (hl2 : l.length ≤ 100) (hne : l ≠ []) {p : Option Addr} {c : Nat} (hr : FrAt H p l) {size : Nat} (hz : 29 + (wrs l).length ≤ size) (hz2 : size ≤ 1200) {K : ByteArray → Heap → Prop}
    (hk : ∀ L' H', CAt cb a { x with c := x.c.sent k } L' H' → Step L H L' H' → K (pktN k.s.data.toList 3 x.c.cid x.c.next (padB l size)) H') : zae.c (some ⟨cb, 0, none⟩) p l.length c size K E H := by
  have g := zff cb a x
  refine ⟨?_⟩
  unfold zae.vc
  refine zhf.run hl hl2 hne hr hap.t.s ?_
  have ez : (⟨(wrs l).toArray⟩ : ByteArray).size = (wrs l).length := zxa _
  rw [ez, w_i64 (n := (size : Int) - 29) (by omega) (by omega), w_i64 (by omega) (by omega)]
  have e1 : (⟨#[0]⟩ : ByteArray).size = 1 := rfl
  have e2 : ((size : Int) - 29 - ((wrs l).length : Int)).toNat = size - 29 - (wrs l).length := by omega
  refine ⟨⟨by omega, by omega, by rw [e1, e2]; omega, ?_⟩⟩
  rw [e2, rep0]
  have e3 : (⟨(wrs l).toArray⟩ : ByteArray) ++ (⟨(List.replicate (size - 29 - (wrs l).length) (0 : UInt8)).toArray⟩ : ByteArray) = padB l size := by
    apply ba_eq
    rw [ba_app3]
  have e4 : (⟨(List.replicate (size - 29 - (wrs l).length) (0 : UInt8)).toArray⟩ : ByteArray).size = size - 29 - (wrs l).length := by rw [zxa, List.length_replicate]
  have e5 : (padB l size).size = size - 29 := by
    unfold padB
    rw [zxa, List.length_append, List.length_replicate]
    omega
  rw [e3, e4]
  refine ⟨by omega, ?_⟩
  obtain ⟨wp, wc, gp, gc, hcl⟩ := h.cells
  obtain ⟨Lk, hkk, hkin, hkput⟩ := Star.part g (i := 16) (P := KeyO x.c.tx) rfl h
  rw [htx] at hkk
  obtain ⟨⟨k1, k2, k3, k4, k5, k6⟩, rfl⟩ := hkk
  refine ⟨_, rfl, _, loc (o := 13) hcl rfl, _, rfl, _, loc (o := 1) hcl rfl, _, rfl, _, loc (o := 11) hcl rfl, ?_⟩
  rw [htx]
  refine zaf.wrun (kind := 3) (n := x.c.next) hap.t k6 hc (by rw [e5]; omega) (by omega) k1 k2 (by omega) fun H1 h1 o1 => ?_
  have q : (KeyO (some { k with a := k.a + 1 })).good := KeyO.good _
  obtain ⟨L1, hs1, st1⟩ := hkput (P' := KeyO (some { k with a := k.a + 1 })) (Li' := [k.b]) ⟨⟨h1, by show (0 : Int) ≤ k.a + 1; omega, by show k.a + 1 ≤ 1000; omega, k4, k5, k6⟩, rfl⟩ (only_step o1)
  obtain ⟨Lc, ⟨wp, wc, gp, gc, Lw, Lg, ⟨hc1, hw, hg, d1, d2, d3⟩, rfl⟩, _, hput⟩ := Star.part (good_set g q) (i := 17) (P := ConO cb a x.c) rfl hs1
  refine ⟨_, rfl, _, loc (o := 11) hc1 rfl, _, rfl, ?_⟩
  dsimp only
  rw [w_i64 (by omega) (by omega)]
  have ea : (x.c.arr a wp wc gp gc).setIfInBounds 11 (.int .i64 ((x.c.next : Int) + 1)) = (x.c.sent k).arr a wp wc gp gc := by
    unfold CN.arr CN.sent
    rw [htx]
    rfl
  refine stc_at (o := 11) hc1 (show 11 < 22 by decide) ea ?_
  have hs := Step.set H1 cb (.cells ((x.c.sent k).arr a wp wc gp gc) 70)
  obtain ⟨L2, h2, s2⟩ := hput (P' := ConO cb a (x.c.sent k)) (Li' := cb :: (Lw ++ Lg)) ⟨wp, wc, gp, gc, Lw, Lg, ⟨set_self _ _ _, hw.stp hs fun k hk hm => d1 (by rw [List.mem_singleton] at hm; rw [← hm]; exact hk), hg.stp hs fun k hk hm => d2 (by rw [List.mem_singleton] at hm; rw [← hm]; exact hk), d1, d2, d3⟩, rfl⟩ (hs.frame (fun k hk => by rw [List.mem_singleton]; exact fun e => hk (by rw [e]; simp)) (fun k hk _ => hk))
  have pt : ((parts cb a x).set 16 (KeyO (some { k with a := k.a + 1 }))).set 17 (ConO cb a (x.c.sent k)) = parts cb a { x with c := x.c.sent k } := rfl
  rw [pt] at h2
  exact ⟨_, Heap.Le.refl _, hk L2 _ h2 (st1.trans s2)⟩
theorem send_j2 {now size : Int} {Kn : Heap → Prop} {Kr : ByteArray → Bool → Heap → Prop} (h : CAt cb a x L H) (h1 : x.c.ph ≠ 1) (h2 : x.c.ph = 2 → x.c.gr = false) (hk : zva.J2 (some ⟨cb, 0, none⟩) now size false Kn Kr E H) : zva.J1 (some ⟨cb, 0, none⟩) now size false Kn Kr E H := by
  obtain ⟨wp, wc, gp, gc, hcl⟩ := h.cells
  refine ⟨?_⟩
  unfold zva.J1.vc
  rw [if_neg (by decide)]
  refine ⟨_, rfl, _, loc (o := 4) hcl rfl, ?_⟩
  dsimp only
  rw [if_neg (by rw [beq_iff_eq]; exact h1)]
  refine ⟨_, rfl, _, loc (o := 4) hcl rfl, ?_⟩
  dsimp only
  by_cases h3 : x.c.ph = 2
  · rw [if_pos (by rw [beq_iff_eq]; exact h3)]
    refine ⟨_, rfl, _, loc (o := 9) hcl rfl, ?_⟩
    rw [h2 h3]
    exact hk
  · rw [if_neg (by rw [beq_iff_eq]; exact h3)]
    exact hk
structure SendIn (x : CS) (now : Int) (size : Nat) : Prop where
  ph : x.c.ph = 2
  gr : x.c.gr = false
  say : x.c.say = false
  ans : x.c.ans = false
  cid : x.c.cid.size ≤ 1000
  next : x.c.next < 4294967295
  top : x.top < x.c.next
  fl : x.F.length ≤ 999
  fs : ∀ p ∈ x.F, p.size ≤ 1200
  fa : ∀ p ∈ x.F, 0 ≤ p.at' ∧ p.at' ≤ now ∧ now - p.at' < 8
  now : now ≤ 1000000
  z1 : 128 ≤ size
  z2 : size ≤ 1200
  win : flightN x.F + size ≤ 12000
  q : ∀ i, i < 10 → quiet (x.S i)
  o : ∀ i, OBok (x.S i).out
  w1 : x.c.wait.length ≤ 1000
  w2 : ∀ d ∈ x.c.wait, d.size ≤ 1200
def sendQ (x : CS) (size : Nat) : PR := payTo x.c.srv ⟨x.S, [], (size : Int) - 29⟩ 10
def sendG (x : CS) (size : Nat) : List ByteArray × List Fm × Int := payG x.c.wait (sendQ x size).l (sendQ x size).r
theorem Step.sub {L L' M : List Nat} {H H' : Heap} (h : Step L H L' H') (hs : ∀ k ∈ M, k ∈ L') : Step L H M H' := fun k o hk hn => ⟨(h k o hk hn).1, fun hm => (h k o hk hn).2 (hs k hm)⟩
theorem lose_none {K : Heap → Prop} {c : Option Addr} {p : Option Addr} {n : Nat} (hk : K H) : zkf.c c p 0 n K E H := by
  refine ⟨?_⟩
  unfold zkf.vc
  refine ⟨Loop.of (I := fun st H' m => st = (0 : Int) ∧ H' = H) ?_ (n := 0) ⟨rfl, rfl⟩⟩
  rintro m st H' ⟨rfl, rfl⟩ RR hRR
  unfold zkf.W1.vc
  rw [if_neg (by decide)]
  exact ⟨H', Heap.Le.refl _, hk⟩
theorem conn_Send.data (h : CAt cb a x L H) (hap : Apart L H) {k : KeyS} (htx : x.c.tx = some k) (hka : k.a < 1000) {now : Int} {size : Nat} (hi : SendIn x now size) {K : ByteArray → Bool → Heap → Prop}
    (none' : (sendG x size).2.1 = [] → ∀ L' H', CAt cb a { x with S := (sendQ x size).S, c := { x.c with wait := (sendG x size).1 } } L' H' → Step L H L' H' → K ⟨#[]⟩ false H')
    (some' : (sendG x size).2.1 ≠ [] → (∀ f ∈ (sendG x size).2.1, f.ok) ∧ (sendG x size).2.1.length ≤ 100 ∧ anyE (sendG x size).2.1 = true ∧ 29 + (wrs (sendG x size).2.1).length ≤ size ∧
      ∀ L' H', CAt cb a { x with S := (sendQ x size).S, c := ({ x.c with wait := (sendG x size).1 } : CN).sent k, F := x.F ++ [⟨x.c.next, now, size⟩], top := x.c.next } L' H' → Step L H L' H' → K (pktN k.s.data.toList 3 x.c.cid x.c.next (padB (sendG x size).2.1 size)) true H') :
    zva.c (some ⟨cb, 0, none⟩) now size K E H := by
  obtain ⟨wp, wc, gp, gc, hcl⟩ := h.cells
  have z1 := hi.z1
  have z2 := hi.z2
  have hph := hi.ph
  refine ⟨send_j1 (send_j2 h (by omega) (fun _ => hi.gr) ⟨?_⟩) (by omega) (by omega)⟩
  unfold zva.J2.vc
  rw [if_neg (by decide)]
  refine ⟨_, rfl, _, loc (o := 6) hcl rfl, ?_⟩
  dsimp only
  rw [if_neg (by rw [hi.say]; decide)]
  refine ⟨_, rfl, _, loc (o := 4) hcl rfl, ?_⟩
  dsimp only
  rw [if_neg (by rw [hi.ph]; decide)]
  refine ⟨?_⟩
  unfold zva.J3.vc
  refine ⟨_, rfl, _, loc (o := 16) hcl rfl, ?_⟩
  obtain ⟨Ll, hled, _⟩ := h.led
  refine zjd.run hled (by have := hi.fl; omega) hi.now hi.fa fun H1 hle1 => ?_
  refine lose_none (zna fun bb H2 hn2 hl2 hle2 => ?_)
  have h2 := (h.le hle1).le hle2
  rw [w_i64 (by omega) (by omega)] at hl2
  refine zcb.run h2 hi.ans hi.q fun H3 hle3 => ?_
  have h3 := h2.le hle3
  have hb3 : BuO bb [] ((size : Int) - 29) (anyE []) [bb] H3 := ⟨none, 0, hle3 _ _ hl2, ⟨rfl, by simp, Nat.le_refl _, .inl ⟨rfl, rfl⟩⟩, by simp [bl], rfl⟩
  have hbn : bb ∉ L := fun hm => (CAt.good cb a x).live (h.le hle1) _ hm hn2
  have bc3 : BC bb cb a [] ((size : Int) - 29) x ([bb] ++ L) H3 := ⟨[bb], L, rfl, hb3, Star.one h3, fun k hk hm => hbn (by rw [List.mem_singleton] at hk; rw [← hk]; exact hm)⟩
  have st3 : Step L H ([bb] ++ L) H3 := fun k o hk hn => ⟨hle3 _ _ (hle2 _ _ (hle1 _ _ hk)), fun hm => by
    rw [List.mem_append, List.mem_singleton] at hm
    rcases hm with e | hm
    · rw [e] at hk
      rw [hle1 _ _ hk] at hn2
      cases hn2
    · exact hn hm⟩
  have hc3 := hle3 _ _ (hle2 _ _ (hle1 _ _ hcl))
  refine ⟨_, rfl, _, loc (o := 16) hc3 rfl, ?_⟩
  obtain ⟨Ll3, hled3, _⟩ := h3.led
  refine zwc.run hled3 (by have := hi.fl; omega) hi.fs fun H4 hle4 => ?_
  have hc4 := hle4 _ _ hc3
  refine ⟨_, rfl, _, loc (o := 16) hc4 rfl, ?_⟩
  obtain ⟨Ll4, hled4, _⟩ := (h3.le hle4).led
  refine zxd.run hled4 ?_
  have hwin := hi.win
  rw [if_pos (by rw [decide_eq_true_eq, w_i64 (by omega) (by omega)]; omega)]
  have st4 := st3.trans (Step.of_le (L := [bb] ++ L) hle4)
  have hpok : PR.ok ⟨x.S, [], (size : Int) - 29⟩ := ⟨hi.o, by show (0 : Int) ≤ size - 29; omega, by show (size : Int) - 29 ≤ 1171; omega, by show ((([] : List Fm).length : Nat) : Int) + ((size : Int) - 29) ≤ 1200; simp; omega⟩
  refine zdb.run (bc3.le hle4) (hap.stp st4) hpok hi.w1 hi.w2 fun q z L5 H5 eq ez b5 s5 => ?_
  have eq' : q = sendQ x size := eq
  have ez' : z = sendG x size := by rw [ez, eq']; rfl
  subst eq'
  rw [ez'] at b5
  have st5 := st4.trans s5
  refine ⟨?_⟩
  unfold zva.J4.vc
  obtain ⟨bp, bcp, hbb⟩ := b5.cell
  refine ⟨_, rfl, _, _, _, loc (o := 0) hbb rfl, ?_⟩
  dsimp only
  by_cases hl0 : (sendG x size).2.1 = []
  · rw [if_pos (by rw [hl0]; decide)]
    obtain ⟨Lc, hcat, hcin, _⟩ := b5.cat
    exact ⟨H5, Heap.Le.refl _, none' hl0 Lc H5 hcat (st5.sub hcin)⟩
  obtain ⟨f1, f2, f3, f4, hk⟩ := some' hl0
  have hlen : (sendG x size).2.1.length ≠ 0 := fun e => hl0 (List.length_eq_zero_iff.1 e)
  rw [if_neg (by rw [beq_iff_eq]; omega)]
  refine ⟨_, rfl, _, loc (o := 2) hbb rfl, ?_⟩
  dsimp only
  rw [if_pos f3]
  obtain ⟨Lc, hcat, hcin, hcput⟩ := b5.cat
  obtain ⟨wp5, wc5, gp5, gc5, hc5⟩ := hcat.cells
  refine ⟨_, rfl, _, loc (o := 16) hc5 rfl, _, rfl, _, loc (o := 11) hc5 rfl, ?_⟩
  obtain ⟨Ll5, hled5, hlin, hlput⟩ := hcat.led
  refine zoc.run hled5 (by have := hi.fl; show x.F.length ≤ 1000; omega) hi.top (by have := hi.next; omega) (by omega) z2 fun Ll6 H6 hled6 s6 => ?_
  obtain ⟨Lc6, hcat6, s6c⟩ := hlput hled6 s6
  obtain ⟨L6, b6, s6b⟩ := hcput hcat6 s6c
  obtain ⟨bp6, bcp6, hbb6⟩ := b6.cell
  obtain ⟨wp6, wc6, gp6, gc6, hc6⟩ := hcat6.cells
  refine ⟨_, rfl, _, loc (o := 18) hc6 rfl, _, rfl, _, loc (o := 11) hc6 rfl, _, rfl, _, _, _, loc (o := 0) hbb6 rfl, ?_⟩
  obtain ⟨Lx, hcatx, hcxin, hcxput⟩ := b6.cat
  obtain ⟨La, ⟨⟨fm, hmap⟩, rfl⟩, hain, haput⟩ := hcatx.away
  refine hmap.put fun o hmap7 => ?_
  obtain ⟨Lc7, hcat7, s7c⟩ := haput (Li' := [a.am]) ⟨⟨_, hmap7⟩, rfl⟩ (Step.set _ _ _)
  obtain ⟨L7, b7, s7b⟩ := hcxput hcat7 s7c
  refine ⟨?_⟩
  unfold zva.J5.vc
  obtain ⟨Lb, ⟨bp7, bcp7, hbb7, hown7, _, _⟩, _⟩ := b7.bu
  refine ⟨_, rfl, _, _, _, loc (o := 0) hbb7 rfl, ?_⟩
  obtain ⟨Lc8, hcat8, hc8in, _⟩ := b7.cat
  have st7 := ((st5.trans s6b).trans s7b).sub hc8in
  refine zae.run hcat8 (hap.stp st7) htx hi.cid (by have := hi.next; exact this) hka f1 f2 hl0 hown7.at f4 z2 fun L9 H9 h9 s9 => ?_
  exact ⟨H9, Heap.Le.refl _, hk L9 H9 h9 (st7.trans s9)⟩
end
end Go.Sh
namespace Go.Sh
open Go.Proofs
set_option maxRecDepth 8000
section
variable {cb : Nat} {a : CA} {x : CS} {L : List Nat} {H : Heap} {E : Value → Heap → Prop}
theorem CAt.rxk (h : CAt cb a x L H) {k : KeyS} (hrx : x.c.rx = some k) : (KeyAt H k.b k.s k.a k.o ∧ 0 ≤ k.a ∧ k.a ≤ 1000 ∧ 0 ≤ k.o ∧ k.o ≤ 1000 ∧ k.s.size ≤ 100000) ∧ ∀ {o' : Int} {H' : Heap}, KeyAt H' k.b k.s k.a o' → 0 ≤ o' → o' ≤ 1000 → Only k.b H H' → ∃ L', CAt cb a { x with c := { x.c with rx := some { k with o := o' } } } L' H' ∧ Step L H L' H' := by
  have g := zff cb a x
  obtain ⟨Lk, hkk, hkin, hkput⟩ := Star.part g (i := 15) (P := KeyO x.c.rx) rfl h
  rw [hrx] at hkk
  obtain ⟨hk, rfl⟩ := hkk
  refine ⟨hk, fun {o' H'} h1 h2 h3 ho => ?_⟩
  obtain ⟨L1, hs1, st1⟩ := hkput (P' := KeyO (some { k with o := o' })) (Li' := [k.b]) ⟨⟨h1, hk.2.1, hk.2.2.1, h2, h3, hk.2.2.2.2.2⟩, rfl⟩ (only_step ho)
  obtain ⟨Lc, ⟨wp, wc, gp, gc, Lw, Lg, ⟨hc1, hw, hg, d1, d2, d3⟩, rfl⟩, _, hput⟩ := Star.part (good_set g (KeyO.good _)) (i := 17) (P := ConO cb a x.c) rfl hs1
  have ea : x.c.arr a wp wc gp gc = ({ x.c with rx := some { k with o := o' } } : CN).arr a wp wc gp gc := by
    unfold CN.arr
    rw [hrx]
    rfl
  rw [ea] at hc1
  obtain ⟨L2, h4, s2⟩ := hput (P' := ConO cb a { x.c with rx := some { k with o := o' } }) (Li' := cb :: (Lw ++ Lg)) ⟨wp, wc, gp, gc, Lw, Lg, ⟨hc1, hw, hg, d1, d2, d3⟩, rfl⟩ (Step.refl _ _)
  exact ⟨L2, h4, st1.trans s2⟩
theorem CAt.see (h : CAt cb a x L H) (hm : x.m ≤ 7) {Kw : Int → Heap → Prop}
    (hk : ∀ H1 wp wc gp gc, H1 cb = some (.cells (x.c.arr a wp wc gp gc) 70) → (∀ {K : Int → Heap → Prop}, (∀ L' H', CAt cb a { x with m := x.m + 1 } L' H' → Step L H L' H' → K 0 H') → zbe.c (some ⟨a.nb, 0, none⟩) x.m x.m K E H1) → Kw 0 H1) : zed.c (some ⟨a.wb, 0, none⟩) x.m Kw E H := by
  have g := zff cb a x
  obtain ⟨Li, hwin, hin, hput⟩ := h.win
  have hwin' := hwin
  obtain ⟨hwc, rfl⟩ := hwin'.get
  refine zed.run hm hwin fun H1 h1 s1 => ?_
  obtain ⟨L1, hs1, st1⟩ := hput h1 s1
  have g1 := good_set g (i := 10) (WinO.good a.wb (x.m + 1))
  obtain ⟨Lc, ⟨wp, wc, gp, gc, Lw, Lg, hc, _⟩, _⟩ := Star.part g1 (i := 17) (P := ConO cb a x.c) rfl hs1
  refine hk H1 wp wc gp gc hc.cell fun {K} hK => ?_
  obtain ⟨Ln, hn, hnin, hnput⟩ := Star.part g1 (i := 11) (P := NumO a.nb x.m) rfl hs1
  refine zbe.run (by omega) hn fun Ln' H2 h2 s2 => ?_
  obtain ⟨L2, hs2, st2⟩ := hnput (P' := NumO a.nb (x.m + 1)) h2 s2
  exact hK L2 H2 hs2 (st1.trans st2)
def took (x : CS) (f : Fm) : CS :=
  if f.k = 8 then (match idN f.id with
    | some i => { x with S := upS x.S i { x.S i with inb := putS (x.S i).inb f.off f.data f.fin, came := true } }
    | none => x)
  else if f.k = 28 then { x with c := { x.c with ph := 3, code := f.code } }
  else if f.k = 48 then (if x.c.got.length < 32 then { x with c := { x.c with got := x.c.got ++ [f.data] } } else x)
  else x
structure TakeOk (x : CS) (f : Fm) : Prop where
  ok : f.ok
  k0 : f.k ≠ 0
  k8 : f.k = 8 → ∃ i, i < 10 ∧ (f.id : Int) = idV i ∧ mayB x.c.srv i true = true ∧ putE (x.S i).inb f.off f.data f.fin = 0
theorem zsd.run (h : CAt cb a x L H) {f : Fm} (hf : TakeOk x f) {K : Int → Heap → Prop} (hk : ∀ L' H', CAt cb a (took x f) L' H' → Step L H L' H' → K 0 H') : zsd.c (some ⟨cb, 0, none⟩) f.k f.id f.off f.fin f.code f.data none 0 0 K E H := by
  refine ⟨?_⟩
  unfold zsd.vc
  refine zna fun b0 H1 hn1 hl1 hle1 => ?_
  have h1 := h.le hle1
  have hnL : b0 ∉ L := fun hm => (CAt.good cb a x).live h _ hm hn1
  have st1 : Step L H L H1 := Step.of_le hle1
  have fin : ∀ {H2 : Heap} {L2 : List Nat}, CAt cb a (took x f) L2 H2 → Step L H L2 H2 → zsd.J1 0 (fun r H => ∃ H', Heap.Le H' H ∧ K r H') E H2 := fun {H2 L2} h2 s2 => by
    refine ⟨?_⟩
    unfold zsd.J1.vc
    exact ⟨H2, Heap.Le.refl _, hk L2 H2 h2 s2⟩
  refine ⟨_, loc (o := 0) hl1 rfl, ?_⟩
  dsimp only
  have hkk := hf.ok.k
  have hk0 := hf.k0
  rw [if_neg (by rw [beq_iff_eq]; omega), if_neg (by rw [beq_iff_eq]; omega)]
  by_cases k8 : f.k = 8
  · rw [if_pos (by rw [beq_iff_eq]; exact k8)]
    obtain ⟨i, hi, hid, hmay, hput0⟩ := hf.k8 k8
    refine ⟨_, loc (o := 1) hl1 rfl, ?_⟩
    rw [hid]
    refine zpa.run h1 hi ?_
    rw [hmay]
    rw [if_neg (by decide), if_pos rfl]
    refine ⟨_, loc (o := 0) hl1 rfl, ?_⟩
    dsimp only
    rw [if_neg (by rw [beq_iff_eq]; omega)]
    obtain ⟨Li, hstr, hsin, hsput⟩ := h1.str hi
    have hsc := hstr.cell
    obtain ⟨mb, hbx, hd1, hd2, hiput⟩ := hstr.inp
    refine ⟨_, rfl, _, loc (o := 0) hsc rfl, _, loc (o := 2) hl1 rfl, _, loc (o := 5) hl1 rfl, _, loc (o := 3) hl1 rfl, ?_⟩
    have bo := hf.ok.bo
    have bd := hf.ok.bd
    refine zgb.run hbx ⟨by show (-9223372036854775808 : Int) ≤ _; omega, by show _ ≤ (9223372036854775807 : Int); omega⟩ (by unfold reachBytes; omega) fun H2 h2 k2 => ?_
    rw [hput0]
    obtain ⟨Ls2, hs2, ss2⟩ := hiput h2 k2
    have hsc2 := hs2.cell
    refine ⟨_, rfl, _, loc (o := 4) hsc2 rfl, ?_⟩
    have put : ∀ {y : Bool}, y = true → stc H2 ((⟨a.ss i, 0, none⟩ : Addr).add 4) (.bool y) fun h4 => zsd.J1 0 (fun r H => ∃ H', Heap.Le H' H ∧ K r H') E h4 := fun {y} hy => by
      subst hy
      refine hs2.setc (o := 4) (s' := { x.S i with inb := putS (x.S i).inb f.off f.data f.fin, came := true }) (by decide) rfl rfl rfl fun L3 H3 h3 s3 => ?_
      obtain ⟨L4, h4, s4⟩ := hsput h3 (ss2.trans s3)
      refine fin (L2 := L4) ?_ (st1.trans s4)
      unfold took
      rw [if_pos k8, hid, idN_idV i hi]
      exact h4
    dsimp only
    by_cases hcm : (x.S i).came = true
    · rw [if_pos hcm]
      exact ⟨_, rfl, put rfl⟩
    · rw [if_neg hcm]
      exact ⟨_, rfl, put (by decide)⟩
  rw [if_neg (by rw [beq_iff_eq]; exact k8), if_neg (by rw [beq_iff_eq]; omega)]
  by_cases k48 : f.k = 48
  · rw [if_pos (by rw [beq_iff_eq]; exact k48)]
    obtain ⟨gp, gc, Lg, htx, hcl, hgin, hgn, hset⟩ := h1.setg
    refine ⟨_, rfl, _, _, _, hcl, ?_⟩
    dsimp only
    by_cases hg : x.c.got.length < 32
    · rw [if_pos (by rw [decide_eq_true_eq]; omega)]
      refine ⟨_, rfl, _, _, _, hcl, _, loc (o := 5) hl1 rfl, zna fun b1 H2 hn2 hl2 hle2 => ?_⟩
      have hcl2 := zcc hle2 hcl
      refine ⟨⟨_, _, _, hcl2, rfl, rfl⟩, ?_⟩
      refine rdOne hl2 ?_
      refine TxtAt.app (s := f.data) (htx.stp (Step.of_le (L := []) hle2) (by simp)) (by omega) rfl fun p' c' Lg' H3 h3 s3 => ?_
      refine ⟨_, rfl, ?_⟩
      refine hset (g' := x.c.got ++ [f.data]) h3 (by rw [List.length_append, List.length_singleton]) ((Step.of_le hle2).trans s3) fun L4 H4 h4 s4 => ?_
      refine fin (L2 := L4) ?_ (st1.trans s4)
      unfold took
      rw [if_neg k8, if_neg (by omega), if_pos k48, if_pos hg]
      exact h4
    · rw [if_neg (by rw [decide_eq_true_eq]; omega)]
      refine fin (L2 := L) ?_ st1
      unfold took
      rw [if_neg k8, if_neg (by omega), if_pos k48, if_neg hg]
      exact h1
  rw [if_neg (by rw [beq_iff_eq]; exact k48)]
  have k28 : f.k = 28 := by omega
  rw [if_pos (by rw [beq_iff_eq]; exact k28)]
  refine ⟨_, loc (o := 4) hl1 rfl, _, rfl, ?_⟩
  refine h1.setc (o := 4) (c' := { x.c with ph := 3 }) (by decide) (fun _ _ _ _ => rfl) rfl rfl rfl rfl fun L2 H2 h2 s2 => ?_
  obtain ⟨hl2, _⟩ := s2 b0 _ hl1 hnL
  refine ⟨⟨_, loc (o := 4) hl2 rfl, rfl, rfl⟩, _, rfl, ?_⟩
  refine h2.setc (o := 5) (c' := { x.c with ph := 3, code := f.code }) (by decide) (fun _ _ _ _ => rfl) rfl rfl rfl rfl fun L3 H3 h3 s3 => ?_
  refine fin (L2 := L3) ?_ ((st1.trans s2).trans s3)
  unfold took
  rw [if_neg k8, if_pos k28]
  exact h3
theorem add_blk (ad : Addr) (n : Nat) : (ad.add n).block = ad.block := by
  unfold Addr.add
  split <;> rfl
def zwd : CS → Bool → List Fm → CS × Bool
  | y, ac, [] => (y, ac)
  | y, ac, f :: l => if (took y f).c.ph = 3 then (took y f, ac || elic f.k) else zwd (took y f) (ac || elic f.k) l
def TakesOk : CS → List Fm → Prop
  | _, [] => True
  | y, f :: l => TakeOk y f ∧ ((took y f).c.ph ≠ 3 → TakesOk (took y f) l)
theorem opn_w1 {y0 : CS} (h : CAt cb a y0 L H) {l : List Fm} {p : Option Addr} (hr : FrAt H p l) (hp : ∀ k ∈ bl p, k ∉ L) (hT : TakesOk y0 l) (hlen : l.length ≤ 1000) {c : Nat} {Kx : Bool → Heap → Prop}
    (hk : ∀ L' H', CAt cb a (zwd y0 false l).1 L' H' → Step L H L' H' → Kx (zwd y0 false l).2 H') : zpb.W1 (some ⟨cb, 0, none⟩) false p l.length c l.length 0 Kx E H := by
  refine ⟨Loop.of (I := fun st H' m => ∃ (i : Nat) (y : CS) (ac : Bool) (L' : List Nat), st = (ac, (i : Int)) ∧ i ≤ l.length ∧ m = l.length - i ∧ CAt cb a y L' H' ∧ TakesOk y (l.drop i) ∧ zwd y ac (l.drop i) = zwd y0 false l ∧ Step L H L' H' ∧ FrAt H' p l ∧ ∀ k ∈ bl p, k ∉ L') ?_
    ⟨0, y0, false, L, rfl, Nat.zero_le _, rfl, h, hT, rfl, Step.refl _ _, hr, hp⟩⟩
  rintro m st H' ⟨i, y, ac, L', rfl, hi, rfl, hy, hT', hta, hst, hr', hp'⟩ RR hRR
  unfold zpb.W1.vc
  dsimp only
  by_cases hc : i < l.length
  · rw [if_pos (by rw [decide_eq_true_eq]; omega)]
    obtain ⟨f, hfi⟩ : ∃ f, l[i]? = some f := ⟨_, List.getElem?_eq_getElem hc⟩
    obtain ⟨ad, had, c0, c1, c2, c3, c4, c5, c6⟩ := FrAt.cells hr' hfi
    have hdrop : l.drop i = f :: l.drop (i + 1) := by
      rw [List.drop_eq_getElem_cons hc]
      congr 1
      exact (List.getElem?_eq_some_iff.1 hfi).2
    rw [hdrop] at hT' hta
    obtain ⟨hT1, hT2⟩ := hT'
    refine ⟨ad, had, by omega, by omega, ?_⟩
    rw [Int.toNat_natCast]
    refine ⟨_, c0, _, c1, _, c2, _, c3, _, c4, _, c5, _, _, _, c6, ?_⟩
    refine new7_le fun b0 H2 hn2 hl2 hle2 => ?_
    have hnb : b0 ∉ L' := fun hm => (CAt.good cb a y).live hy _ hm hn2
    refine ⟨_, loc (o := 0) hl2 rfl, _, loc (o := 1) hl2 rfl, _, loc (o := 2) hl2 rfl, _, loc (o := 3) hl2 rfl, _, loc (o := 4) hl2 rfl, _, loc (o := 5) hl2 rfl, _, _, _, loc (o := 6) hl2 rfl, ?_⟩
    refine zsd.run (hy.le hle2) hT1 fun L3 H3 h3 s3 => ?_
    rw [if_neg (by decide)]
    have st3 : Step L' H' L3 H3 := (Step.of_le hle2).trans s3
    obtain ⟨hl3, _⟩ := s3 b0 _ hl2 hnb
    have hr3 : FrAt H3 p l := Step.rows st3 hr' fun a ha => hp' a.block (by rw [ha]; simp [bl])
    have hp3 : ∀ k ∈ bl p, k ∉ L3 := fun k hk => by
      obtain ⟨a', ha'⟩ : ∃ a', p = some a' := ⟨_, had⟩
      have e : k = ad.block := by rw [had] at hk; simpa [bl] using hk
      cases hb : H' k with
      | none =>
        have := cell_block c0
        rw [e] at hb
        have e2 : ((ad.add (i * 7)).add 0).block = ad.block := by rw [add_blk, add_blk]
        rw [e2] at this
        exact absurd hb this
      | some o => exact (st3 k o hb (hp' k hk)).2
    obtain ⟨wp, wc, gp, gc, hcl⟩ := h3.cells
    -- behind the frame
    have tail : ∀ {ac' : Bool}, ac' = (ac || elic f.k) → zpb.J2 (some ⟨cb, 0, none⟩) ac' p l.length c l.length i (fun h14 => Kx ac' h14) (fun h15 => zpb.J3 (some ⟨cb, 0, none⟩) ac' p l.length c l.length i (fun x h => RR (ac', x) h) E h15) E H3 := fun {ac'} e => by
      refine ⟨?_⟩
      unfold zpb.J2.vc
      refine ⟨_, rfl, _, loc (o := 4) hcl rfl, ?_⟩
      dsimp only
      by_cases hph : (took y f).c.ph = 3
      · rw [if_pos (by rw [beq_iff_eq]; exact hph)]
        have e2 : zwd y ac (f :: l.drop (i + 1)) = (took y f, ac || elic f.k) := by
          conv => lhs; unfold zwd
          rw [if_pos hph]
        rw [e2] at hta
        rw [← hta] at hk
        rw [e]
        exact hk L3 H3 h3 (hst.trans st3)
      · rw [if_neg (by rw [beq_iff_eq]; exact hph)]
        refine ⟨?_⟩
        unfold zpb.J3.vc
        rw [w_i64 (by omega) (by omega)]
        have e2 : zwd y ac (f :: l.drop (i + 1)) = zwd (took y f) (ac || elic f.k) (l.drop (i + 1)) := by
          conv => lhs; unfold zwd
          rw [if_neg hph]
        rw [e2] at hta
        exact hRR (_, _) _ (l.length - (i + 1)) (by omega) ⟨i + 1, took y f, ac', L3, by simp, by omega, rfl, h3, hT2 hph, by rw [e]; exact hta, hst.trans st3, hr3, hp3⟩
    cases ac with
    | true =>
      rw [if_pos rfl]
      exact tail (by simp)
    | false =>
      rw [if_neg (by decide)]
      refine ⟨_, loc (o := 0) hl3 rfl, _, loc (o := 1) hl3 rfl, _, loc (o := 2) hl3 rfl, _, loc (o := 3) hl3 rfl, _, loc (o := 4) hl3 rfl, _, loc (o := 5) hl3 rfl, _, _, _, loc (o := 6) hl3 rfl, ?_⟩
      exact zrc.run (tail (by simp))
  · rw [if_neg (by rw [decide_eq_true_eq]; omega)]
    have : i = l.length := by omega
    subst this
    rw [List.drop_length] at hta
    have e2 : zwd y ac [] = (y, ac) := rfl
    rw [e2] at hta
    rw [← hta] at hk
    exact hk L' H' hy hst
def CS.rxo (x : CS) (k : KeyS) (o' : Int) : CS := { x with c := { x.c with rx := some { k with o := o' } } }
def CS.mm (x : CS) : CS := { x with m := x.m + 1 }
def CS.setAns (x : CS) (b : Bool) : CS := { x with c := { x.c with ans := b } }
def opnd (x : CS) (k : KeyS) (o' : Int) (l : List Fm) : CS := (zwd (x.rxo k o').mm false l).1.setAns ((zwd (x.rxo k o').mm false l).1.c.ans || (zwd (x.rxo k o').mm false l).2)
theorem num_eq (p : ByteArray) : numL (p.extract 9 13).data.toList = numP p := rfl
theorem zpb.old (h : CAt cb a x L H) (hph : x.c.ph ≠ 1) {s : List UInt8} {cid d : ByteArray} {n : Nat} (hc : cid.size = 8) (hn : n < x.m) (hm : x.m ≤ 8) {K : Int → Heap → Prop} (hk : ∀ H', Heap.Le H H' → K 11 H') : zpb.c (some ⟨cb, 0, none⟩) (pktN s 3 cid n d) K E H := by
  obtain ⟨wp, wc, gp, gc, hcl⟩ := h.cells
  refine ⟨?_⟩
  unfold zpb.vc
  refine ⟨_, rfl, _, loc (o := 4) hcl rfl, ?_⟩
  dsimp only
  rw [if_neg (by rw [beq_iff_eq]; exact hph)]
  refine zsc.run (by rw [pktN_size]; omega) fun H1 hle1 => ?_
  rw [num_eq, pktN_num hc (by omega)]
  refine ⟨_, rfl, _, loc (o := 14) (hle1 _ _ hcl) rfl, ?_⟩
  obtain ⟨Li, hwin, _⟩ := (h.le hle1).win
  refine zza.run hm (by omega) hwin ?_
  rw [if_pos hn, if_pos (by decide)]
  exact ⟨H1, Heap.Le.refl _, hk H1 hle1⟩
theorem zpb.new (h : CAt cb a x L H) (hap : Apart L H) (hph : x.c.ph ≠ 1) {k : KeyS} (hrx : x.c.rx = some k) (hko : k.o < 1000) {cid d : ByteArray} (hc : cid.size = 8) (hm : x.m ≤ 7) {l : List Fm} {z : Nat} (hd : FrIn d l z) (hT : ∀ o', TakesOk (x.rxo k o').mm l) {K : Int → Heap → Prop}
    (hk : ∀ o' L' H', 0 ≤ o' → o' ≤ k.o + 1 → CAt cb a (opnd x k o' l) L' H' → Step L H L' H' → K 0 H') : zpb.c (some ⟨cb, 0, none⟩) (pktN k.s.data.toList 3 cid x.m d) K E H := by
  obtain ⟨wp, wc, gp, gc, hcl⟩ := h.cells
  have hdz := hd.z
  refine ⟨?_⟩
  unfold zpb.vc
  refine ⟨_, rfl, _, loc (o := 4) hcl rfl, ?_⟩
  dsimp only
  rw [if_neg (by rw [beq_iff_eq]; exact hph)]
  refine zsc.run (by rw [pktN_size]; omega) fun H1 hle1 => ?_
  rw [num_eq, pktN_num hc (by omega)]
  have hcl1 := hle1 _ _ hcl
  have h1 := h.le hle1
  refine ⟨_, rfl, _, loc (o := 14) hcl1 rfl, ?_⟩
  obtain ⟨Li, hwin, _⟩ := h1.win
  refine zza.run (by omega) (by omega) hwin ?_
  rw [if_neg (show ¬ x.m < x.m by omega), if_neg (by decide)]
  refine ⟨_, rfl, _, loc (o := 12) hcl1 rfl, ?_⟩
  rw [hrx]
  obtain ⟨⟨k1, k2, k3, k4, k5, k6⟩, hrput⟩ := h1.rxk hrx
  refine zfe.wrun (hap.le hle1).t k6 (by rw [pktN_size]; omega) (by rw [pktN_size]; omega) k1 k4 (by omega) fun H2 o' h2 q1 q2 only => ?_
  rw [pktN_open hc (by omega)]
  dsimp only
  rw [if_neg (by decide)]
  obtain ⟨L2, c2, s2⟩ := hrput h2 q1 (by omega) only
  have c2' : CAt cb a (x.rxo k o') L2 H2 := c2
  have st2 : Step L H L2 H2 := (Step.of_le hle1).trans s2
  obtain ⟨wp2, wc2, gp2, gc2, hcl2⟩ := c2'.cells
  refine ⟨_, rfl, _, loc (o := 14) hcl2 rfl, ?_⟩
  refine CAt.see c2' hm fun H3 wp3 wc3 gp3 gc3 hcl3 hadd => ?_
  refine ⟨_, rfl, _, loc (o := 15) hcl3 rfl, hadd fun L4 H4 h4 s4 => ?_⟩
  have st4 : Step L H L4 H4 := st2.trans s4
  have ap4 := hap.stp st4
  have ed : (⟨d.data.toList.toArray⟩ : ByteArray) = d := ba_mk d
  rw [ed]
  refine ⟨l, z, hd, ap4.t.s, fun p c H5 hr5 s5 => ?_⟩
  rw [if_neg (by decide)]
  have h4' : CAt cb a (x.rxo k o').mm L4 H4 := h4
  have hpl : ∀ q ∈ bl p, q ∉ L4 := fun q hq hm => by
    cases e : H4 q with
    | none => exact (CAt.good cb a _).live h4' q hm e
    | some o => exact (s5 q o e (by simp)).2 hq
  refine opn_w1 (h4'.le s5.le) hr5 hpl (hT o') (by have := hd.n; omega) fun L6 H6 h6 s6 => ?_
  have st6 : Step L H L6 H6 := (st4.trans (Step.of_le s5.le)).trans s6
  obtain ⟨wp6, wc6, gp6, gc6, hcl6⟩ := h6.cells
  refine ⟨_, rfl, _, loc (o := 10) hcl6 rfl, ?_⟩
  dsimp only
  have put : ∀ {y : Bool}, y = ((zwd (x.rxo k o').mm false l).1.c.ans || (zwd (x.rxo k o').mm false l).2) → stc H6 ((⟨cb, 0, none⟩ : Addr).add 10) (.bool y) fun h8 => ∃ H', Heap.Le H' h8 ∧ K 0 H' := fun {y} hy => by
    refine h6.setc (o := 10) (c' := { (zwd (x.rxo k o').mm false l).1.c with ans := y }) (by decide) (fun _ _ _ _ => rfl) rfl rfl rfl rfl fun L7 H7 h7 s7 => ⟨H7, Heap.Le.refl _, hk o' L7 H7 q1 q2 ?_ (st6.trans s7)⟩
    unfold opnd CS.setAns
    rw [← hy]
    exact h7
  by_cases ha : (zwd (x.rxo k o').mm false l).1.c.ans = true
  · rw [if_pos ha]
    exact ⟨_, rfl, put (by rw [ha]; rfl)⟩
  · rw [if_neg ha]
    exact ⟨_, rfl, put (by rw [Bool.not_eq_true] at ha; rw [ha]; rfl)⟩
end
end Go.Sh
namespace Go.Sh
open Go.Proofs
set_option maxRecDepth 8000
section
variable {cb : Nat} {a : CA} {x : CS} {L : List Nat} {H : Heap} {E : Value → Heap → Prop}
theorem recv_at (h : CAt cb a x L H) (hph : x.c.ph ≠ 3) (hc : x.c.cid.size = 8) {now : Int} {s : List UInt8} {kind : UInt8} {n : Nat} {d : ByteArray} {K : Int → Heap → Prop}
    (h2 : kind = 2 → zne.c (some ⟨cb, 0, none⟩) (pktN s kind x.c.cid n d) (fun r H => ∃ H', Heap.Le H' H ∧ K r H') E H) (h3 : kind = 3 → zpb.c (some ⟨cb, 0, none⟩) (pktN s kind x.c.cid n d) (fun r H => ∃ H', Heap.Le H' H ∧ K r H') E H) (hkind : kind = 2 ∨ kind = 3) : zbb.c (some ⟨cb, 0, none⟩) now (pktN s kind x.c.cid n d) K E H := by
  obtain ⟨wp, wc, gp, gc, hcl⟩ := h.cells
  have hz : (pktN s kind x.c.cid n d).size = 29 + d.size := by rw [pktN_size, hc]
  refine ⟨?_⟩
  unfold zbb.vc
  refine ⟨_, rfl, _, loc (o := 4) hcl rfl, ?_⟩
  dsimp only
  rw [if_neg (by rw [beq_iff_eq]; exact hph), if_neg (by rw [decide_eq_true_eq, hz]; omega)]
  refine ⟨by decide, by decide, by rw [hz]; omega, _, rfl, _, loc (o := 1) hcl rfl, ?_⟩
  dsimp only
  rw [pktN_cid hc, if_neg (by simp)]
  refine ⟨by decide, by rw [hz]; omega, ?_⟩
  rw [pktN_kind]
  rcases hkind with rfl | rfl
  · rw [if_neg (by decide), if_pos (by decide)]
    exact h2 rfl
  · rw [if_neg (by decide), if_neg (by decide), if_pos (by decide)]
    exact h3 rfl
theorem zbb.welcome (h : CAt cb a x L H) (hap : Apart L H) (hsv : x.c.srv = false) (hph : x.c.ph = 1) (hrx : x.c.rx = none) (htx : x.c.tx = none) (hc : x.c.cid.size = 8) (hp : x.c.psk.size ≤ 100000) (hz : x.c.nonce.size ≤ 1000) {ours : ByteArray} (ho : ours.size = 16) {now : Int} {K : Int → Heap → Prop}
    (hk : ∀ b1 b2 L' H', CAt cb a { x with c := agreed x.c ours b1 b2 } L' H' → Step L H L' H' → K 0 H') : zbb.c (some ⟨cb, 0, none⟩) now (pktN (zic x.c.psk welL x.c.nonce).data.toList 2 x.c.cid 0 ours) K E H := by
  obtain ⟨wp, wc, gp, gc, hcl⟩ := h.cells
  refine recv_at h (by omega) hc (fun _ => ⟨?_⟩) (fun e => absurd e (by decide)) (.inl rfl)
  unfold zne.vc
  refine ⟨_, rfl, _, loc (o := 2) hcl rfl, ?_⟩
  dsimp only
  rw [if_neg (by rw [hsv]; decide)]
  refine ⟨_, rfl, _, loc (o := 4) hcl rfl, ?_⟩
  dsimp only
  rw [if_neg (by rw [hph]; decide)]
  refine ⟨_, rfl, _, loc (o := 0) hcl rfl, _, rfl, _, loc (o := 3) hcl rfl, ?_⟩
  refine znb.run hp (by decide) (by show x.c.nonce.size ≤ _; omega) hap.t fun H1 hle1 => ?_
  have hgz := pktN_size (zic x.c.psk welL x.c.nonce).data.toList 2 x.c.cid 0 ours
  show zbc.c (zic x.c.psk welL x.c.nonce) (pktN (zic x.c.psk welL x.c.nonce).data.toList 2 x.c.cid 0 ours) _ E H1
  refine zbc.run (hap.le hle1).t (derive_size _ _ _) (by rw [hgz]; omega) (by rw [hgz]; omega) fun H2 hle2 => ?_
  rw [greet_pkt hc ho]
  dsimp only
  rw [if_pos (by decide)]
  have hle := hle1.trans hle2
  refine zcd.run (h.le hle) (hap.le hle) hrx htx hp (by omega) fun b1 b2 L3 H3 h3 s3 => ?_
  refine ⟨?_⟩
  unfold zne.J1.vc
  exact ⟨H3, Heap.Le.refl _, H3, Heap.Le.refl _, hk b1 b2 L3 H3 h3 ((Step.of_le hle).trans s3)⟩
theorem zbb.data (h : CAt cb a x L H) (hap : Apart L H) (hph : x.c.ph = 2) {k : KeyS} (hrx : x.c.rx = some k) (hko : k.o < 1000) (hc : x.c.cid.size = 8) {n : Nat} (hn : n = x.m) (hm : x.m ≤ 7) {d : ByteArray} {l : List Fm} {z : Nat} (hd : FrIn d l z) (hT : ∀ o', TakesOk (x.rxo k o').mm l) {s : List UInt8} (hs : s = k.s.data.toList) {now : Int} {K : Int → Heap → Prop}
    (hk : ∀ o' L' H', 0 ≤ o' → o' ≤ k.o + 1 → CAt cb a (opnd x k o' l) L' H' → Step L H L' H' → K 0 H') : zbb.c (some ⟨cb, 0, none⟩) now (pktN s 3 x.c.cid n d) K E H := by
  subst hs hn
  refine recv_at h (by omega) hc (fun e => absurd e (by decide)) (fun _ => ?_) (.inr rfl)
  exact zpb.new h hap (by omega) hrx hko hc hm hd hT fun o' L' H' h1 h2 h3 h4 => ⟨H', Heap.Le.refl _, hk o' L' H' h1 h2 h3 h4⟩
theorem zbb.old (h : CAt cb a x L H) (hph : x.c.ph = 2) (hc : x.c.cid.size = 8) {n : Nat} (hn : n < x.m) (hm : x.m ≤ 8) {d : ByteArray} {s : List UInt8} {now : Int} {K : Int → Heap → Prop}
    (hk : ∀ H', Heap.Le H H' → K 11 H') : zbb.c (some ⟨cb, 0, none⟩) now (pktN s 3 x.c.cid n d) K E H :=
  recv_at h (by omega) hc (fun e => absurd e (by decide)) (fun _ => zpb.old h (by omega) hc hn hm fun H' h1 => ⟨H', Heap.Le.refl _, hk H' h1⟩) (.inr rfl)
theorem zbd.run (h : CAt cb a x L H) (hph : x.c.ph ≠ 3) {i : Nat} (hi : i < 10) (hm : mayB x.c.srv i false = true) {s : ByteArray} {fin : Bool} (hl : (x.S i).out.text.length + s.size ≤ 1000000) (hh : (x.S i).out.how.length + s.size ≤ 1000000) {K : Int → Heap → Prop}
    (hk : ∀ L' H', CAt cb a { x with S := upS x.S i { x.S i with out := (x.S i).out.writeS s fin } } L' H' → Step L H L' H' → K ((x.S i).out.writeE s) H') : zbd.c (some ⟨cb, 0, none⟩) (idV i) s fin K E H := by
  obtain ⟨wp, wc, gp, gc, hcl⟩ := h.cells
  refine ⟨?_⟩
  unfold zbd.vc
  refine zpa.run h hi ⟨_, rfl, _, loc (o := 4) hcl rfl, ?_⟩
  dsimp only
  rw [if_neg (by rw [beq_iff_eq]; exact hph)]
  rw [hm, if_neg (by decide), if_pos rfl]
  obtain ⟨Li, hstr, _, hsput⟩ := h.str hi
  have hsc := hstr.cell
  obtain ⟨Lo, hoa, _, _, hoput⟩ := hstr.outp
  refine ⟨_, rfl, _, loc (o := 2) hsc rfl, ?_⟩
  dsimp only
  rw [if_neg (by decide)]
  refine ⟨_, rfl, _, loc (o := 1) hsc rfl, ?_⟩
  refine zld.run hoa hl hh fun Lo' H1 h1 s1 => ?_
  obtain ⟨L2, h2, s2⟩ := hoput h1 s1
  obtain ⟨L3, h3, s3⟩ := hsput h2 s2
  exact ⟨H1, Heap.Le.refl _, hk L3 H1 h3 s3⟩
theorem zgd.run (h : CAt cb a x L H) {i : Nat} (hi : i < 10) (hm : mayB x.c.srv i true = true) (hf : (x.S i).inb.fine) {n : Int} {K : ByteArray → Heap → Prop}
    (hk : ∀ L' H', CAt cb a { x with S := upS x.S i { x.S i with inb := (readL n.toNat (x.S i).inb).2 } } L' H' → Step L H L' H' → K ⟨(readL n.toNat (x.S i).inb).1.toArray⟩ H') : zgd.c (some ⟨cb, 0, none⟩) (idV i) n K E H := by
  refine ⟨?_⟩
  unfold zgd.vc
  refine zpa.run h hi ?_
  rw [hm, if_neg (by decide), if_pos rfl]
  obtain ⟨Li, hstr, _, hsput⟩ := h.str hi
  have hsc := hstr.cell
  obtain ⟨mb, hbx, _, _, hiput⟩ := hstr.inp
  refine ⟨_, rfl, _, loc (o := 0) hsc rfl, ?_⟩
  refine zfc.run hbx hf fun H1 h1 k1 => ?_
  obtain ⟨L2, h2, s2⟩ := hiput h1 k1
  obtain ⟨L3, h3, s3⟩ := hsput h2 s2
  exact ⟨H1, Heap.Le.refl _, hk L3 H1 h3 s3⟩
theorem zif.run (h : CAt cb a x L H) {i : Nat} (hi : i < 10) (hm : mayB x.c.srv i true = true) {K : Int → Int → Heap → Prop} (hk : K (howE (x.S i).inb) (x.S i).inb.read H) : zif.c (some ⟨cb, 0, none⟩) (idV i) K E H := by
  refine ⟨?_⟩
  unfold zif.vc
  refine zpa.run h hi ?_
  rw [hm, if_neg (by decide), if_pos rfl]
  obtain ⟨Li, hstr, _, _⟩ := h.str hi
  have hsc := hstr.cell
  obtain ⟨mb, hbx, _⟩ := hstr.inp
  exact ⟨_, rfl, _, loc (o := 0) hsc rfl, zkc.run hbx ⟨H, Heap.Le.refl _, hk⟩⟩
theorem zdf.run (h : CAt cb a x L H) (hph : x.c.ph ≠ 3) {s : ByteArray} (hs : s.size ≤ 1000) (hw : x.c.wait.length < 32) {K : Int → Heap → Prop}
    (hk : ∀ L' H', CAt cb a { x with c := { x.c with wait := x.c.wait ++ [s] } } L' H' → Step L H L' H' → K 0 H') : zdf.c (some ⟨cb, 0, none⟩) s K E H := by
  obtain ⟨wp, wc, gp, gc, hcl⟩ := h.cells
  refine ⟨?_⟩
  unfold zdf.vc
  refine ⟨_, rfl, _, loc (o := 4) hcl rfl, ?_⟩
  dsimp only
  rw [if_neg (by rw [beq_iff_eq]; exact hph), if_neg (by rw [decide_eq_true_eq]; omega)]
  obtain ⟨wp, wc, Lw, htx, hc19, _, _, hset⟩ := h.setw
  refine ⟨_, rfl, _, _, _, hc19, ?_⟩
  dsimp only
  rw [if_neg (by rw [beq_iff_eq]; omega)]
  refine ⟨_, rfl, _, _, _, hc19, zna fun b0 H1 hn1 hl1 hle1 => rdOne hl1 ?_⟩
  refine TxtAt.app (s := s) (htx.stp (Step.of_le (L := []) hle1) (by simp)) (by omega) rfl fun p' c' Lw' H2 h2 s2 => ⟨_, rfl, ?_⟩
  exact hset (w' := x.c.wait ++ [s]) h2 (by rw [List.length_append, List.length_singleton]) ((Step.of_le hle1).trans s2) fun L3 H3 h3 s3 => ⟨H3, Heap.Le.refl _, hk L3 H3 h3 s3⟩
end
def Duo (ca : Nat) (aa : CA) (xa : CS) (cb : Nat) (ab : CA) (xb : CS) : Own := Star [CAt ca aa xa, CAt cb ab xb]
theorem duo_good (ca : Nat) (aa : CA) (xa : CS) (cb : Nat) (ab : CA) (xb : CS) : ∀ P ∈ [CAt ca aa xa, CAt cb ab xb], P.good := by
  intro P hP
  simp only [List.mem_cons, List.not_mem_nil, or_false] at hP
  rcases hP with rfl | rfl <;> exact CAt.good _ _ _
theorem Star.one' {P : Own} {L : List Nat} {H : Heap} (h : P L H) : Star [P] (L ++ []) H := ⟨L, [], rfl, h, rfl, by simp⟩
section
variable {ca cb : Nat} {aa ab : CA} {xa xb : CS} {L : List Nat} {H : Heap} {E : Value → Heap → Prop}
theorem Duo.fst (h : Duo ca aa xa cb ab xb L H) : ∃ Li, CAt ca aa xa Li H ∧ (∀ k ∈ Li, k ∈ L) ∧ ∀ {x' : CS} {Li' : List Nat} {H' : Heap}, CAt ca aa x' Li' H' → Step Li H Li' H' → ∃ L', Duo ca aa x' cb ab xb L' H' ∧ Step L H L' H' := by
  obtain ⟨Li, h1, h2, h3⟩ := Star.part (duo_good ca aa xa cb ab xb) (i := 0) rfl h
  exact ⟨Li, h1, h2, fun hs hst => h3 hs hst⟩
theorem Duo.snd (h : Duo ca aa xa cb ab xb L H) : ∃ Li, CAt cb ab xb Li H ∧ (∀ k ∈ Li, k ∈ L) ∧ ∀ {x' : CS} {Li' : List Nat} {H' : Heap}, CAt cb ab x' Li' H' → Step Li H Li' H' → ∃ L', Duo ca aa xa cb ab x' L' H' ∧ Step L H L' H' := by
  obtain ⟨Li, h1, h2, h3⟩ := Star.part (duo_good ca aa xa cb ab xb) (i := 1) rfl h
  exact ⟨Li, h1, h2, fun hs hst => h3 hs hst⟩
theorem Apart.sub {L M : List Nat} {H : Heap} (h : Apart L H) (hs : ∀ k ∈ M, k ∈ L) : Apart M H := ⟨h.t, fun hm => h.h0 (hs _ hm), fun hm => h.h1 (hs _ hm)⟩
def pskB : ByteArray := ⟨#[116, 104, 101, 32, 107, 101, 121, 32, 116, 104, 97, 116, 32, 98, 111, 116, 104, 32, 107, 110, 111, 119]⟩
def cidB : ByteArray := ⟨#[99, 111, 110, 110, 101, 99, 116, 48]⟩
def mineB : ByteArray := ⟨#[115, 105, 120, 116, 101, 101, 110, 32, 98, 121, 116, 101, 115, 44, 32, 99]⟩
def yoursB : ByteArray := ⟨#[115, 105, 120, 116, 101, 101, 110, 32, 98, 121, 116, 101, 115, 44, 32, 115]⟩
def metA (b1 b2 : Nat) : CS := ⟨agreed { cn0 pskB cidB mineB with ph := 1, hl := true, ha := 0 } yoursB b1 b2, fun _ => s0, 0, [], -1⟩
def metB (b1 b2 : Nat) : CS := ⟨{ agreed (cnS pskB cidB mineB) yoursB b1 b2 with gr := false }, fun _ => s0, 0, [], -1⟩
theorem vizardlaw13_met.run (ht : Tabs H) {K : Option Addr → Option Addr → Bool → Heap → Prop}
    (hk : ∀ ca aa cb ab b1 b2 b3 b4 L H', Duo ca aa (metA b1 b2) cb ab (metB b3 b4) L H' → Step [] H L H' → K (some ⟨ca, 0, none⟩) (some ⟨cb, 0, none⟩) true H') : vizardlaw13_met.c K E H := by
  have ap0 : Apart [] H := ⟨ht, by simp, by simp⟩
  refine ⟨?_⟩
  unfold vizardlaw13_met.vc
  refine conn_Dial.run (psk := pskB) (cid := cidB) (nonce := mineB) (by decide) (by decide) fun ca aa L1 H1 h1 s1 => ?_
  rw [if_neg (by decide)]
  refine ⟨?_⟩
  unfold vizardlaw13_met.J1.vc
  rw [if_neg (by simp)]
  refine ⟨?_⟩
  unfold vizardlaw13_met.J2.vc
  refine conn_Send.hello h1 (ap0.stp s1) (by decide) (by decide) (by decide) rfl rfl (by decide) (by decide) fun L2 H2 h2 s2 => ?_
  have st2 := s1.trans s2
  have ap2 := ap0.stp st2
  refine zgf.run (psk := pskB) ap2.t (by decide) ?_ fun H3 hle3 => ?_
  · rw [pktN_size]; decide
  have eh := hello_pkt (psk := pskB) (cid := cidB) (nonce := mineB) (by decide) (by decide)
  rw [show helloL pskB (pktN (zic (cn0 pskB cidB mineB).psk helloB ⟨#[]⟩).data.toList 1 (cn0 pskB cidB mineB).cid 0 (cn0 pskB cidB mineB).nonce) = (cidB, mineB, 0) from eh]
  dsimp only
  refine zlf.run (ap2.le hle3).t (psk := pskB) (cid := cidB) (theirs := mineB) (nonce := yoursB) (by decide) (by decide) (by decide) (by decide) fun cb ab b3 b4 L4 H4 h4 s4 => ?_
  have h2' := h2.le hle3
  have h2'' := (CAt.good ca aa _).step h2' s4 (by simp)
  have hdis := out_of s4 ((CAt.good ca aa _).live h2') (by simp)
  have duo : Duo ca aa _ cb ab _ (L2 ++ (L4 ++ [])) H4 := ⟨L2, L4 ++ [], rfl, h2'', Star.one' h4, by simpa using hdis⟩
  have st4 : Step [] H (L2 ++ (L4 ++ [])) H4 := fun k o hk hn => by
    obtain ⟨k1, k2⟩ := st2 k o hk hn
    obtain ⟨k3, k4⟩ := s4 k o (hle3 _ _ k1) (by simp)
    refine ⟨k3, ?_⟩
    simp only [List.append_nil, List.mem_append, not_or]
    exact ⟨k2, k4⟩
  rw [if_neg (by decide), if_neg (by decide), if_neg (by decide)]
  refine ⟨?_⟩
  unfold vizardlaw13_met.J3.vc
  rw [if_neg (by simp)]
  refine ⟨?_⟩
  unfold vizardlaw13_met.J4.vc
  obtain ⟨Lb, hb, hbin, hbput⟩ := duo.snd
  have ap4 := ap0.stp st4
  refine conn_Send.welcome hb (ap4.sub hbin) (show pskB.size ≤ 100000 by decide) (show cidB.size ≤ 1000 by decide) (show mineB.size ≤ 1000 by decide) (show yoursB.size ≤ 1000 by decide) rfl rfl (by decide) (by decide) fun L5 H5 h5 s5 => ?_
  obtain ⟨L6, duo6, s6⟩ := hbput h5 s5
  rw [if_pos rfl]
  obtain ⟨La, ha, hain, haput⟩ := duo6.fst
  have ap6 := ap4.stp s6
  refine zbb.welcome ha (ap6.sub hain) rfl rfl rfl rfl (show cidB.size = 8 by decide) (show pskB.size ≤ 100000 by decide) (show mineB.size ≤ 1000 by decide) (ours := yoursB) (by decide) fun b1 b2 L7 H7 h7 s7 => ?_
  obtain ⟨L8, duo8, s8⟩ := haput h7 s7
  exact ⟨H7, Heap.Le.refl _, hk ca aa cb ab b1 b2 b3 b4 L8 H7 duo8 ((st4.trans s6).trans s8)⟩
end
end Go.Sh
namespace Go.Sh
open Go.Proofs
set_option maxRecDepth 8000
def inOrd (l : List UInt8) (sz : Int) : Bx := ⟨fun n => if 0 ≤ n then l[n.toNat]? else none, 0, sz, l.length, false⟩
theorem inOrd_nil : inOrd [] (-1) = bx0 := by
  unfold inOrd bx0
  congr 1
  funext n
  split <;> simp
theorem fits_ord {l : List UInt8} {en : Int} {fin : Bool} (h1 : en ≤ 4096) (h2 : (l.length : Int) ≤ en) : fitsE (inOrd l (-1)) en fin = 0 := by
  unfold fitsE inOrd
  dsimp only
  have e : IntKind.i64.wrap (0 + 4096) = 4096 := by decide
  rw [e, if_neg (by omega), if_neg (by omega), if_neg (by omega)]
theorem put_ord {l : List UInt8} {d : ByteArray} {fin : Bool} (h : l.length + d.size ≤ 4096) : putE (inOrd l (-1)) l.length d fin = 0 ∧ putS (inOrd l (-1)) l.length d fin = inOrd (l ++ d.data.toList) (if fin = true then ((l.length + d.size : Nat) : Int) else -1) := by
  have hp : placeOk (l.length : Int) = true := by unfold placeOk; rw [decide_eq_true_eq]; omega
  have hf : fitsE (inOrd l (-1)) (putEnd l.length d) fin = 0 := fits_ord (by unfold putEnd; omega) (by unfold putEnd; omega)
  refine ⟨by unfold putE; rw [if_pos hp, hf], ?_⟩
  unfold putS
  rw [if_pos ⟨hp, hf, rfl⟩]
  have hz := zte d
  unfold putBx inOrd
  dsimp only
  congr 1
  · funext n
    unfold putF
    dsimp only
    by_cases hn : 0 ≤ n
    · simp only [if_pos hn]
      split
      · rename_i hc
        rw [List.getElem?_append_right (by omega)]
        unfold bget
        rw [show (n - (l.length : Int)).toNat = n.toNat - l.length by omega]
        rw [List.getD_eq_getElem?_getD]
        have : n.toNat - l.length < d.data.toList.length := by omega
        rw [List.getElem?_eq_getElem this]
        rfl
      · rename_i hc
        by_cases h1 : n.toNat < l.length
        · rw [List.getElem?_append_left h1]
        · have h2 : l[n.toNat]? = none := List.getElem?_eq_none (by omega)
          rw [List.getElem?_append_right (by omega), h2]
          by_cases h3 : n < (l.length : Int) + d.size
          · exact absurd ⟨by omega, h3, hn, h2⟩ hc
          · rw [List.getElem?_eq_none (by omega)]
    · simp only [if_neg hn]
      rw [if_neg (by omega)]
  · rw [List.length_append, hz]
    unfold putEnd
    split <;> (try split) <;> omega
theorem fine_ord {l : List UInt8} {sz : Int} (h : l.length ≤ 4096) : (inOrd l sz).fine := by
  refine ⟨fun n x hx => ?_, by show (0 : Int) ≤ 0; decide, by show (0 : Int) ≤ 4700000000000000001; decide⟩
  unfold inOrd at hx ⊢
  dsimp only at hx ⊢
  split at hx
  · have := (List.getElem?_eq_some_iff.1 hx).1
    omega
  · cases hx
theorem read_ord {l : List UInt8} {sz : Int} {m : Nat} (h : l.length ≤ m) : (readL m (inOrd l sz)).1 = l ∧ (readL m (inOrd l sz)).2.read = l.length ∧ (readL m (inOrd l sz)).2.reset = false ∧ (readL m (inOrd l sz)).2.size = sz := by
  have := readL_of l (inOrd l sz) m rfl (fun i hi => by
    unfold inOrd
    dsimp only
    rw [if_pos (by omega)]
    congr 1
    omega) (by
    unfold inOrd
    dsimp only
    rw [if_pos (by omega), List.getElem?_eq_none (by omega)]) h
  obtain ⟨h1, h2, h3, h4⟩ := this
  refine ⟨h1, ?_, h3, h4⟩
  rw [h2]
  show (0 : Int) + l.length = l.length
  omega
theorem pay_idle {n i : Nat} {s : SM} {l : List Fm} {r : Int} (h : s.out = ob0) : pay1 n i s l r = (s, l, r) := by
  cases n with
  | zero => rfl
  | succ n =>
    unfold pay1
    rw [h]
    have e : ∀ m, ob0.next m = (⟨0, ⟨#[]⟩, false, false⟩, ob0) := fun m => rfl
    rw [e]
    dsimp only
    by_cases hr : r > 20
    · rw [if_pos hr, if_neg (by decide), ← h]
    · rw [if_neg hr]
theorem payOne_idle {srv : Bool} {i : Nat} {q : PR} (h : (q.S i).out = ob0) : payOne srv i q = q := by
  unfold payOne
  rw [pay_idle h]
  dsimp only
  rw [upS_self]
  split <;> rfl
theorem payTo_zero {srv : Bool} {q : PR} (h : ∀ j, j ≠ 0 → (q.S j).out = ob0) : ∀ n, payTo srv q (n + 1) = payOne srv 0 q
  | 0 => rfl
  | n + 1 => by
    show payOne srv (n + 1) (payTo srv q (n + 1)) = _
    rw [payTo_zero h n]
    refine payOne_idle ?_
    unfold payOne
    split
    · have e : ∀ s, upS q.S 0 s (n + 1) = q.S (n + 1) := fun s => by unfold upS; rw [if_neg (by omega)]
      dsimp only
      rw [e]
      exact h _ (by omega)
    · exact h _ (by omega)
theorem FrIn.pad {l : List Fm} (hl : ∀ f ∈ l, f.ok ∧ f.k ≠ 0) (hn : l.length ≤ 64) {size : Nat} (hz : 29 + (wrs l).length ≤ size) (hz2 : size ≤ 1200) : FrIn (padB l size) l (size - 29 - (wrs l).length) := by
  refine ⟨rfl, hl, hn, ?_⟩
  unfold padB
  rw [zxa, List.length_append, List.length_replicate]
  omega
def hiB : ByteArray := ⟨#[104, 105]⟩
def hiF : Fm := ⟨8, 0, 0, true, 0, hiB⟩
theorem hiF_ok : hiF.ok := ⟨.inr (.inl rfl), fun _ => rfl, fun _ => rfl, fun _ => rfl, fun h => absurd rfl h, fun _ => .inl rfl, by decide, by decide, by decide, by decide⟩
def hiS : SM := { s0 with out := ob0.writeS hiB true }
theorem hi_pay : (pay1 99 0 hiS [] 99).2 = ([hiF], 92) := by rfl
end Go.Sh
namespace Go.Sh
open Go.Proofs
set_option maxRecDepth 8000
def upK : ByteArray := zic pskB upL (mineB ++ yoursB)
theorem takeAll_one {y : CS} {ac : Bool} {f : Fm} : zwd y ac [f] = (took y f, ac || elic f.k) := by
  unfold zwd
  split <;> rfl
theorem sendQ_zero {x : CS} {size : Nat} (h : ∀ j, j ≠ 0 → (x.S j).out = ob0) : sendQ x size = ⟨upS x.S 0 (pay1 ((size : Int) - 29).toNat 0 (x.S 0) [] ((size : Int) - 29)).1, (pay1 ((size : Int) - 29).toNat 0 (x.S 0) [] ((size : Int) - 29)).2.1, (pay1 ((size : Int) - 29).toNat 0 (x.S 0) [] ((size : Int) - 29)).2.2⟩ := by
  unfold sendQ
  have e := payTo_zero (srv := x.c.srv) (q := ⟨x.S, [], (size : Int) - 29⟩) h 9
  rw [e]
  unfold payOne
  rw [if_pos (by unfold mayB; rw [if_neg (by decide), if_neg (by decide)])]
theorem quiet_of {s : SM} (h1 : s.inb.read = 0) (h2 : s.told = 4096) : quiet s := by
  unfold quiet
  rw [h1, h2]
  decide
theorem ob0_ok : OBok ob0 := ⟨rfl, by decide⟩
theorem padB_size {l : List Fm} {size : Nat} (h : 29 + (wrs l).length ≤ size) : (padB l size).size = size - 29 := by
  unfold padB
  rw [zxa, List.length_append, List.length_replicate]
  omega
def S1 (s : SM) : Nat → SM := upS (fun _ => s0) 0 s
theorem S1_0 (s : SM) : S1 s 0 = s := upS_at _ _ _
theorem S1_n (s : SM) {j : Nat} (h : j ≠ 0) : S1 s j = s0 := by unfold S1 upS; rw [if_neg h]
theorem S1_all {P : SM → Prop} {s : SM} (h0 : P s) (h1 : P s0) (j : Nat) : P (S1 s j) := by
  by_cases h : j = 0
  · subst h; rw [S1_0]; exact h0
  · rw [S1_n s h]; exact h1
theorem put_first {d : ByteArray} {fin : Bool} (h : d.size ≤ 4096) : putE bx0 0 d fin = 0 ∧ putS bx0 0 d fin = inOrd d.data.toList (if fin = true then (d.size : Int) else -1) := by
  have := put_ord (l := []) (d := d) (fin := fin) (by simpa using h)
  rw [inOrd_nil] at this
  have e : (([] : List UInt8).length : Int) = 0 := rfl
  rw [e] at this
  refine ⟨this.1, this.2.trans ?_⟩
  congr 1
  split <;> simp
section
variable {H : Heap} {E : Value → Heap → Prop}
theorem vizardlaw13_works.run (ht : Tabs H) {K : Bool → Heap → Prop} (hk : ∀ H', Heap.Le H H' → K true H') : vizardlaw13_works.c K E H := by
  have ap0 : Apart [] H := ⟨ht, by simp, by simp⟩
  refine ⟨?_⟩
  unfold vizardlaw13_works.vc
  refine vizardlaw13_met.run ht fun ca aa cb ab b1 b2 b3 b4 L1 H1 duo1 st1 => ?_
  rw [if_neg (by decide)]
  have ap1 := ap0.stp st1
  obtain ⟨La, ha, hain, haput⟩ := duo1.fst
  refine zbd.run (i := 0) ha (show (2 : Int) ≠ 3 by decide) (by decide) (show mayB false 0 false = true by decide) (show ([] : List UInt8).length + hiB.size ≤ 1000000 by decide) (show ([] : List UInt8).length + hiB.size ≤ 1000000 by decide) fun L2 H2 h2 s2 => ?_
  have h2' : CAt ca aa { metA b1 b2 with S := S1 hiS } L2 H2 := h2
  obtain ⟨L2d, duo2, s2d⟩ := haput h2' s2
  have st2 := st1.trans s2d
  have ap2 := ap0.stp st2
  obtain ⟨La2, ha2, hain2, haput2⟩ := duo2.fst
  have eQ : sendQ ({ metA b1 b2 with S := S1 hiS } : CS) 128 = ⟨upS (S1 hiS) 0 (pay1 99 0 hiS [] 99).1, [hiF], 92⟩ := by
    rw [sendQ_zero (fun j hj => by show (S1 hiS j).out = ob0; rw [S1_n hiS hj]; rfl)]
    have e1 : (((128 : Nat) : Int) - 29) = 99 := by decide
    have e2 : (99 : Int).toNat = 99 := rfl
    have e3 : ({ metA b1 b2 with S := S1 hiS } : CS).S 0 = hiS := S1_0 hiS
    rw [e1, e2, e3, hi_pay]
  have eG : sendG ({ metA b1 b2 with S := S1 hiS } : CS) 128 = ([], [hiF], 92) := by
    unfold sendG
    rw [eQ]
    rfl
  refine conn_Send.data (k := ⟨b1, upK, 0, 0⟩) (size := 128) ha2 (ap2.sub hain2) rfl (by show (0 : Int) < 1000; decide) ⟨rfl, rfl, rfl, rfl, show cidB.size ≤ 1000 by decide, show (0 : Nat) < 4294967295 by decide, show (-1 : Int) < ((0 : Nat) : Int) by decide, show ([] : List Pkt).length ≤ 999 by decide, (fun p hp => by cases hp), (fun p hp => by cases hp), by decide, by decide, by decide, show flightN [] + 128 ≤ 12000 by decide, fun i _ => S1_all (quiet_of rfl rfl) (quiet_of rfl rfl) i, fun i => S1_all (P := fun s => OBok s.out) ⟨rfl, by decide⟩ ob0_ok i, show ([] : List ByteArray).length ≤ 1000 by decide, (fun d hd => by cases hd)⟩ (fun e => ?_) (fun _ => ?_)
  · rw [eG] at e; cases e
  rw [eG]
  dsimp only
  refine ⟨fun f hf => by rw [List.mem_singleton] at hf; rw [hf]; exact hiF_ok, by decide, by decide, by decide, fun L3 H3 h3 s3 => ?_⟩
  obtain ⟨L3d, duo3, s3d⟩ := haput2 h3 s3
  have st3 := st2.trans s3d
  have ap3 := ap0.stp st3
  obtain ⟨Lb, hb, hbin, hbput⟩ := duo3.snd
  have hwr : (wrs [hiF]).length = 7 := by decide
  have hfr : FrIn (padB [hiF] 128) [hiF] (128 - 29 - (wrs [hiF]).length) := FrIn.pad (fun f hf => by rw [List.mem_singleton] at hf; rw [hf]; exact ⟨hiF_ok, by decide⟩) (by decide) (by decide) (by decide)
  have hpf := put_first (d := hiB) (fin := true) (by decide)
  refine zbb.data (x := metB b3 b4) (k := ⟨b3, upK, 0, 0⟩) (n := 0) hb (ap3.sub hbin) rfl rfl (by show (0 : Int) < 1000; decide) (show cidB.size = 8 by decide) rfl (show (0 : Nat) ≤ 7 by decide) hfr (fun o' => ⟨⟨hiF_ok, by decide, fun _ => ⟨0, by decide, rfl, rfl, hpf.1⟩⟩, fun _ => trivial⟩) rfl fun o' L4 H4 q1 q2 h4 s4 => ?_
  obtain ⟨L4d, duo4, s4d⟩ := hbput h4 s4
  have st4 := st3.trans s4d
  obtain ⟨y, hy⟩ : ∃ y, y = opnd (metB b3 b4) ⟨b3, upK, 0, 0⟩ o' [hiF] := ⟨_, rfl⟩
  have ey : y.S = S1 { s0 with inb := inOrd [104, 105] 2, came := true } ∧ y.m = 1 ∧ y.c.srv = true ∧ y.c.ph = 2 ∧ y.c.cid = cidB := by
    rw [hy]
    unfold opnd
    rw [takeAll_one]
    refine ⟨?_, rfl, rfl, rfl, rfl⟩
    show upS (fun _ => s0) 0 { s0 with inb := putS bx0 0 hiB true, came := true } = _
    rw [hpf.2]
    rfl
  obtain ⟨y1, y2, y3, y4, y5⟩ := ey
  rw [← hy] at duo4
  obtain ⟨Lb4, hb4, hbin4, hbput4⟩ := duo4.snd
  have yS : y.S 0 = { s0 with inb := inOrd [104, 105] 2, came := true } := by rw [y1, S1_0]
  refine zgd.run (i := 0) (n := 9) hb4 (by decide) (by rw [y3]; decide) (by rw [yS]; exact fine_ord (by decide)) fun L5 H5 h5 s5 => ?_
  obtain ⟨L5d, duo5, s5d⟩ := hbput4 h5 s5
  have st5 := st4.trans s5d
  obtain ⟨r1, r2, r3, r4⟩ := read_ord (l := [104, 105]) (sz := 2) (m := 9) (by decide)
  have e9 : (9 : Int).toNat = 9 := rfl
  rw [yS, e9, r1]
  obtain ⟨Lb5, hb5, hbin5, hbput5⟩ := duo5.snd
  refine zif.run (i := 0) hb5 (by decide) (by show mayB y.c.srv 0 true = true; rw [y3]; decide) ?_
  dsimp only
  rw [upS_at, yS]
  dsimp only
  rw [e9]
  have eh : howE (readL 9 (inOrd [104, 105] 2)).2 = 1 := by
    unfold howE
    rw [r2, r3, r4]
    decide
  rw [eh, r2]
  have epz : (pktN upK.data.toList 3 cidB 0 (padB [hiF] 128)).size = 128 := by
    rw [pktN_size, padB_size (by rw [hwr]; decide)]
    decide
  rw [if_pos (by rfl), if_pos rfl, if_pos (by rw [beq_iff_eq]; show ((pktN upK.data.toList 3 cidB 0 (padB [hiF] 128)).size : Int) = 128; rw [epz]; rfl), if_pos (by decide), if_pos (beq_iff_eq.2 rfl), if_pos (by decide), if_pos (by decide)]
  have hold := zbb.old (E := E) (n := 0) (now := 0) (s := upK.data.toList) (d := padB [hiF] 128) (K := fun x10 h7 => ∃ H', Heap.Le H' h7 ∧ K (x10 == 11) H') hb5 (by show y.c.ph = 2; exact y4) (by show y.c.cid.size = 8; rw [y5]; decide) (by show 0 < y.m; rw [y2]; decide) (by show y.m ≤ 8; rw [y2]; decide) fun H6 hle6 => ⟨H6, Heap.Le.refl _, hk H6 (st5.le.trans hle6)⟩
  have ec : ({ y with S := upS y.S 0 { y.S 0 with inb := (readL (Int.toNat 9) (y.S 0).inb).2 } } : CS).c.cid = cidB := y5
  rw [ec] at hold
  exact hold
end
end Go.Sh
namespace Go.Sh
open Go.Proofs
set_option maxRecDepth 8000
section
variable {H0 H : Heap} {E : Value → Heap → Prop}
theorem vizardlaw13_ConnCloses.laid {W : World} (h : laidMetH Go.Proofs.Tryz.prog [("vizard/varint.sizes", (.agg (szTab.map fun x => .lit (.int .i64 x)) : DataW Unit)), ("vizard/sha.constants", (.agg (kTab.map fun x => .lit (.int .u32 x)) : DataW Unit))] W) : Tabs (heapOf W) := by
  obtain ⟨ps, h⟩ := laid_plain rfl h
  obtain ⟨h1, q, h2⟩ := laid_ints (t := 268) (e := 3) (n := 4) (by kernel_rfl) (by kernel_rfl) (by kernel_rfl) (by kernel_rfl) (by kernel_rfl) h
  exact ⟨(laid_ints (t := 312) (e := 197) (n := 64) (by kernel_rfl) (by kernel_rfl) (by kernel_rfl) (by kernel_rfl) (by kernel_rfl) h2).1, h1⟩
end
end Go.Sh
namespace Go.Sh
open Go.Proofs
set_option linter.unusedVariables false
set_option maxRecDepth 8000
namespace zad
noncomputable def body : Code := Tryz.f25.body.getD .skip
def vc (c0 : Option Addr) (K : ByteArray → Bool → HP) (E : VH) (h0 : Heap) : Prop :=
 nilc c0 fun a0 =>
 ldSl h0 (a0.add 20) fun x0 x1 x2 =>
 (if ((x1 : Int) == 0) = true then
 K (⟨#[]⟩ : ByteArray) false h0
 else
 nilc c0 fun a1 =>
 ldSl h0 (a1.add 20) fun x3 x4 x5 =>
 nilc x3 fun a2 => (0 : Int) ≤ 0 ∧ 0 < (x4 : Int) ∧
 ldS h0 (a2.add (0 * 1)) fun x6 =>
 nilc c0 fun a3 =>
 ldSl h0 (a3.add 20) fun x7 x8 x9 =>
 (0 : Int) ≤ 1 ∧ 1 ≤ (x8 : Int) ∧ x8 ≤ x9 ∧
 nilc c0 fun a4 =>
 stc h0 (a4.add 20) (.slice (slA x7 x9 1 1) (x8 - 1) (x9 - 1)) fun h1 =>
 K x6 true h1)
structure c (c0 : Option Addr) (K : ByteArray → Bool → HP) (E : VH) (H : Heap) : Prop where
  h : vc c0 (fun r0_0 r1_0 H => ∃ H', Heap.Le H' H ∧ K r0_0 r1_0 H') E H
def F : FT := fun args K E H => match args with
  | [(.pointer c0)] => c c0 (fun r0_0 r1_0 H => K (.tuple #[(.string r0_0), (.bool r1_0)]) H) E H
  | _ => False
noncomputable def Γ : FuncId → Option FT := Γof []
theorem hΓ : ∀ f F, Γ f = some F → zca Tryz.prog f F := Γof_ok (nilQ)
theorem ok : zca Tryz.prog 25 F := by
  refine zia hΓ (fn := Tryz.f25) (c := body) (by kernel_rfl) (by kernel_rfl) (by kernel_rfl) (zba hΓ Tryz.hm (.go) _ (of_eq_true (by kernel_rfl))) fun _ K E H h => ?_
  unfold F at h
  split at h
  · exact cast (by kernel_rfl) h.h
  · exact h.elim
end zad
namespace vizardlaw13_ConnTwice
noncomputable def body : Code := Tryz.f6.body.getD .skip
def J1.vc (text0 : ByteArray) (n0 : Int) (a0 : Option Addr) (b0 : Option Addr) (x0 : Bool) (Kn : HP) (Kr : Bool → HP) (E : VH) (h0 : Heap) : Prop :=
 (if x0 = true then
 Kr false h0
 else
 Kn h0)
structure J1 (text0 : ByteArray) (n0 : Int) (a0 : Option Addr) (b0 : Option Addr) (x0 : Bool) (Kn : HP) (Kr : Bool → HP) (E : VH) (H : Heap) : Prop where
  h : J1.vc text0 n0 a0 b0 x0 Kn Kr E H
def J4.vc (text0 : ByteArray) (n0 : Int) (a0 : Option Addr) (b0 : Option Addr) (l0 : Option Addr) (l1 : Nat) (l2 : Nat) (now0 : Int) (p0 : ByteArray) (Kn : HP) (Kr : Bool → HP) (E : VH) (h0 : Heap) : Prop :=
 zbb.c b0 now0 p0 (fun x0 h1 =>
 (if (x0 != 0) = true then
 Kr false h1
 else
 Kn h1)) E h0
structure J4 (text0 : ByteArray) (n0 : Int) (a0 : Option Addr) (b0 : Option Addr) (l0 : Option Addr) (l1 : Nat) (l2 : Nat) (now0 : Int) (p0 : ByteArray) (Kn : HP) (Kr : Bool → HP) (E : VH) (H : Heap) : Prop where
  h : J4.vc text0 n0 a0 b0 l0 l1 l2 now0 p0 Kn Kr E H
def J5.vc (text0 : ByteArray) (n0 : Int) (a0 : Option Addr) (b0 : Option Addr) (l0 : Option Addr) (l1 : Nat) (l2 : Nat) (now0 : Int) (Kn : Int → HP) (E : VH) (h0 : Heap) : Prop :=
 Kn (IntKind.i64.wrap (now0 + 1)) h0
structure J5 (text0 : ByteArray) (n0 : Int) (a0 : Option Addr) (b0 : Option Addr) (l0 : Option Addr) (l1 : Nat) (l2 : Nat) (now0 : Int) (Kn : Int → HP) (E : VH) (H : Heap) : Prop where
  h : J5.vc text0 n0 a0 b0 l0 l1 l2 now0 Kn E H
def W3.vc (text0 : ByteArray) (n0 : Int) (a0 : Option Addr) (b0 : Option Addr) (l0 : Option Addr) (l1 : Nat) (l2 : Nat) (now0 : Int) (Kx0 : Option Addr → Nat → Nat → HP) (Kr : Bool → HP) (RR : Option Addr → Nat → Nat → Int → HP) (E : VH) (h0 : Heap) : Prop :=
 (if (decide (now0 < 6)) = true then
 zva.c a0 now0 1000 (fun x0 x1 h1 =>
 (if x1 = true then
 newB (.cells #[(.string x0)] 9) (fun b1 h2 =>
 rdRow h2 (some (⟨b1, 0, none⟩ : Addr)) (1 * 1) fun cs0 =>
 appT 9 (.string (⟨#[]⟩ : ByteArray)) l0 l1 1 l2 1 16 cs0 (fun p0 n1 c0 h3 =>
 J4 text0 n0 a0 b0 p0 n1 c0 now0 x0 (fun h4 =>
 J5 text0 n0 a0 b0 p0 n1 c0 now0 (fun now1 h5 =>
 RR p0 n1 c0 now1 h5) E h4) Kr E h3) h2) h1
 else
 J5 text0 n0 a0 b0 l0 l1 l2 now0 (fun now2 h7 =>
 RR l0 l1 l2 now2 h7) E h1)) E h0
 else
 Kx0 l0 l1 l2 h0)
structure W3 (text0 : ByteArray) (n0 : Int) (a0 : Option Addr) (b0 : Option Addr) (l0 : Option Addr) (l1 : Nat) (l2 : Nat) (now0 : Int) (Kx0 : Option Addr → Nat → Nat → HP) (Kr : Bool → HP) (E : VH) (H : Heap) : Prop where
  h : Loop (fun (RR : Option Addr × Nat × Nat × Int → HP) (s : Option Addr × Nat × Nat × Int) (H : Heap) => W3.vc text0 n0 a0 b0 s.1 s.2.1 s.2.2.1 s.2.2.2 Kx0 Kr (fun l0 l1 l2 now0 H => RR (l0, l1, l2, now0) H) E H) (l0, l1, l2, now0) H
def J7.vc (text0 : ByteArray) (n0 : Int) (b0 : Option Addr) (l0 : Option Addr) (l1 : Nat) (l2 : Nat) (i0 : Int) (Kn : Int → HP) (Kr : Bool → HP) (E : VH) (h0 : Heap) : Prop :=
 (l1 : Int) ≠ (0 : Int) ∧
 nilc l0 fun a0 => (0 : Int) ≤ (Int.tmod i0 (l1 : Int)) ∧ (Int.tmod i0 (l1 : Int)) < (l1 : Int) ∧
 ldS h0 (a0.add ((Int.tmod i0 (l1 : Int)).toNat * 1)) fun x0 =>
 zbb.c b0 9 x0 (fun x1 h1 =>
 (if (x1 != 11) = true then
 Kr false h1
 else
 Kn (IntKind.i64.wrap (i0 + 1)) h1)) E h0
structure J7 (text0 : ByteArray) (n0 : Int) (b0 : Option Addr) (l0 : Option Addr) (l1 : Nat) (l2 : Nat) (i0 : Int) (Kn : Int → HP) (Kr : Bool → HP) (E : VH) (H : Heap) : Prop where
  h : J7.vc text0 n0 b0 l0 l1 l2 i0 Kn Kr E H
def W6.vc (text0 : ByteArray) (n0 : Int) (b0 : Option Addr) (l0 : Option Addr) (l1 : Nat) (l2 : Nat) (i0 : Int) (Kx2 : HP) (Kr : Bool → HP) (RR : Int → HP) (E : VH) (h0 : Heap) : Prop :=
 5 ≠ (0 : Int) ∧
 (if (decide (i0 < (IntKind.i64.wrap (1 + (IntKind.i64.wrap (Int.tmod (IntKind.u64.wrap n0) 5)))))) = true then
 (if (decide ((l1 : Int) > 0)) = true then
 J7 text0 n0 b0 l0 l1 l2 i0 RR Kr E h0
 else
 Kx2 h0)
 else
 Kx2 h0)
structure W6 (text0 : ByteArray) (n0 : Int) (b0 : Option Addr) (l0 : Option Addr) (l1 : Nat) (l2 : Nat) (i0 : Int) (Kx2 : HP) (Kr : Bool → HP) (E : VH) (H : Heap) : Prop where
  h : Loop (fun (RR : Int → HP) (s : Int) (H : Heap) => W6.vc text0 n0 b0 l0 l1 l2 s Kx2 Kr (fun i0 H => RR (i0) H) E H) (i0) H
def J2.vc (text0 : ByteArray) (n0 : Int) (a0 : Option Addr) (b0 : Option Addr) (Kr : Bool → HP) (E : VH) (h0 : Heap) : Prop :=
 W3 text0 n0 a0 b0 none 0 0 1 (fun l0 l1 l2 h1 =>
 W6 text0 n0 b0 l0 l1 l2 0 (fun h2 =>
 zad.c b0 (fun x0 x1 h3 =>
 zad.c b0 (fun x2 x3 h4 =>
 zgd.c b0 0 2000 (fun x4 h5 =>
 (if (x4.toList == text0.toList) = true then
 (if (x0.toList == (⟨#[103, 114, 97, 109]⟩ : ByteArray).toList) = true then
 (if x1 = true then
 Kr (!x3) h5
 else
 Kr false h5)
 else
 Kr false h5)
 else
 Kr false h5)) E h4) E h3) E h2) Kr E h1) Kr E h0
structure J2 (text0 : ByteArray) (n0 : Int) (a0 : Option Addr) (b0 : Option Addr) (Kr : Bool → HP) (E : VH) (H : Heap) : Prop where
  h : J2.vc text0 n0 a0 b0 Kr E H
def vc (text0 : ByteArray) (n0 : Int) (K : Bool → HP) (E : VH) (h0 : Heap) : Prop :=
 vizardlaw13_works.c (fun x0 h1 =>
 (if (!x0) = true then
 K false h1
 else
 (if (decide ((text0.size : Int) > 1000)) = true then
 K true h1
 else
 vizardlaw13_met.c (fun x1 x2 x3 h2 =>
 (if (!x3) = true then
 J1 text0 n0 x1 x2 true (fun h3 =>
 J2 text0 n0 x1 x2 K E h3) K E h2
 else
 zbd.c x1 0 text0 false (fun x6 h6 =>
 (if (x6 != 0) = true then
 J1 text0 n0 x1 x2 true (fun h7 =>
 J2 text0 n0 x1 x2 K E h7) K E h6
 else
 zdf.c x1 (⟨#[103, 114, 97, 109]⟩ : ByteArray) (fun x9 h10 =>
 J1 text0 n0 x1 x2 (x9 != 0) (fun h11 =>
 J2 text0 n0 x1 x2 K E h11) K E h10) E h6)) E h2)) E h1))) E h0
structure c (text0 : ByteArray) (n0 : Int) (K : Bool → HP) (E : VH) (H : Heap) : Prop where
  h : vc text0 n0 (fun r0_0 H => ∃ H', Heap.Le H' H ∧ K r0_0 H') E H
def F : FT := fun args K E H => match args with
  | [(.string text0), (.int .i64 n0)] => c text0 n0 (fun r0_0 H => K (.bool r0_0) H) E H
  | _ => False
noncomputable def Γ : FuncId → Option FT := Γof [(14, zva.F), (16, vizardlaw13_works.F), (17, vizardlaw13_met.F), (18, zbd.F), (20, zgd.F), (23, zdf.F), (24, zbb.F), (25, zad.F)]
theorem hΓ : ∀ f F, Γ f = some F → zca Tryz.prog f F := Γof_ok (consQ zva.ok (consQ vizardlaw13_works.ok (consQ vizardlaw13_met.ok (consQ zbd.ok (consQ zgd.ok (consQ zdf.ok (consQ zbb.ok (consQ zad.ok (nilQ)))))))))
def J1.t : CT := fun Q E fr H => lenIs 109 fr (slS fr 0 fun text0 => slI fr 1 .i64 fun n0 => slP fr 5 fun a0 => slP fr 6 fun b0 => slB fr 39 fun x0 => J1 text0 n0 a0 b0 x0 (fun  H => Q .normal (mkF 109 [(0, (.string text0)), (1, (.int .i64 n0)), (5, (.pointer a0)), (6, (.pointer b0))]) H) (fun y4_0 H => Q .ret (mkF 109 [(4, (.bool y4_0))]) H) E H)
theorem J1.ok : zaa Tryz.prog (sub [1, 1, 1, 1, 0, 1] body) J1.t := by
  refine zda (zea [0, 1, 5, 6] [4] (fun i => []) (zba hΓ Tryz.hm (.go) _ (of_eq_true (by kernel_rfl)))) fun Q E fr H h => ?_
  obtain ⟨hl, h⟩ := zga h
  obtain ⟨text0, q0, h⟩ := zfb h
  obtain ⟨n0, q1, h⟩ := zfa h
  obtain ⟨a0, q5, h⟩ := zja h
  obtain ⟨b0, q6, h⟩ := zja h
  obtain ⟨x0, q39, h⟩ := zwa h
  exact ⟨(mkF 109 [(0, (.string text0)), (1, (.int .i64 n0)), (5, (.pointer a0)), (6, (.pointer b0)), (39, (.bool x0))]), fun a ha => ha.mk (Nat.le_of_eq hl.symm) (consQ q0 (consQ q1 (consQ q5 (consQ q6 (consQ q39 nilQ))))), cast (by kernel_rfl) h.h⟩
def J4.t : CT := fun Q E fr H => lenIs 109 fr (slS fr 0 fun text0 => slI fr 1 .i64 fun n0 => slP fr 5 fun a0 => slP fr 6 fun b0 => slSl fr 8 fun l0 l1 l2 => slI fr 9 .i64 fun now0 => slS fr 10 fun p0 => J4 text0 n0 a0 b0 l0 l1 l2 now0 p0 (fun  H => Q .normal (mkF 109 [(0, (.string text0)), (1, (.int .i64 n0)), (5, (.pointer a0)), (6, (.pointer b0)), (8, (.slice l0 l1 l2)), (9, (.int .i64 now0))]) H) (fun y4_0 H => Q .ret (mkF 109 [(4, (.bool y4_0))]) H) E H)
theorem J4.ok : zaa Tryz.prog (sub [1, 1, 1, 1, 1, 1, 0, 1, 0, 0, 1, 0, 0, 1, 1, 0, 1] body) J4.t := by
  refine zda (zea [0, 1, 5, 6, 8, 9] [4] (fun i => []) (zba hΓ Tryz.hm (.go) _ (of_eq_true (by kernel_rfl)))) fun Q E fr H h => ?_
  obtain ⟨hl, h⟩ := zga h
  obtain ⟨text0, q0, h⟩ := zfb h
  obtain ⟨n0, q1, h⟩ := zfa h
  obtain ⟨a0, q5, h⟩ := zja h
  obtain ⟨b0, q6, h⟩ := zja h
  obtain ⟨l0, l1, l2, q8, h⟩ := zta h
  obtain ⟨now0, q9, h⟩ := zfa h
  obtain ⟨p0, q10, h⟩ := zfb h
  exact ⟨(mkF 109 [(0, (.string text0)), (1, (.int .i64 n0)), (5, (.pointer a0)), (6, (.pointer b0)), (8, (.slice l0 l1 l2)), (9, (.int .i64 now0)), (10, (.string p0))]), fun a ha => ha.mk (Nat.le_of_eq hl.symm) (consQ q0 (consQ q1 (consQ q5 (consQ q6 (consQ q8 (consQ q9 (consQ q10 nilQ))))))), cast (by kernel_rfl) h.h⟩
def J5.t : CT := fun Q E fr H => lenIs 109 fr (slS fr 0 fun text0 => slI fr 1 .i64 fun n0 => slP fr 5 fun a0 => slP fr 6 fun b0 => slSl fr 8 fun l0 l1 l2 => slI fr 9 .i64 fun now0 => J5 text0 n0 a0 b0 l0 l1 l2 now0 (fun y9_0 H => Q .normal (mkF 109 [(0, (.string text0)), (1, (.int .i64 n0)), (5, (.pointer a0)), (6, (.pointer b0)), (8, (.slice l0 l1 l2)), (9, (.int .i64 y9_0))]) H) E H)
theorem J5.ok : zaa Tryz.prog (sub [1, 1, 1, 1, 1, 1, 0, 1, 0, 0, 1, 1] body) J5.t := by
  refine zda (zea [0, 1, 5, 6, 8, 9] [] (fun i => []) (zba hΓ Tryz.hm (.go) _ (of_eq_true (by kernel_rfl)))) fun Q E fr H h => ?_
  obtain ⟨hl, h⟩ := zga h
  obtain ⟨text0, q0, h⟩ := zfb h
  obtain ⟨n0, q1, h⟩ := zfa h
  obtain ⟨a0, q5, h⟩ := zja h
  obtain ⟨b0, q6, h⟩ := zja h
  obtain ⟨l0, l1, l2, q8, h⟩ := zta h
  obtain ⟨now0, q9, h⟩ := zfa h
  exact ⟨(mkF 109 [(0, (.string text0)), (1, (.int .i64 n0)), (5, (.pointer a0)), (6, (.pointer b0)), (8, (.slice l0 l1 l2)), (9, (.int .i64 now0))]), fun a ha => ha.mk (Nat.le_of_eq hl.symm) (consQ q0 (consQ q1 (consQ q5 (consQ q6 (consQ q8 (consQ q9 nilQ)))))), cast (by kernel_rfl) h.h⟩
def W3.t : CT := fun Q E fr H => lenIs 109 fr (slS fr 0 fun text0 => slI fr 1 .i64 fun n0 => slP fr 5 fun a0 => slP fr 6 fun b0 => slSl fr 8 fun l0 l1 l2 => slI fr 9 .i64 fun now0 => W3 text0 n0 a0 b0 l0 l1 l2 now0 (fun y8_0 y8_1 y8_2 H => Q (.exit 0) (mkF 109 [(0, (.string text0)), (1, (.int .i64 n0)), (6, (.pointer b0)), (8, (.slice y8_0 y8_1 y8_2))]) H) (fun y4_0 H => Q .ret (mkF 109 [(4, (.bool y4_0))]) H) E H)
theorem W3.ok : zaa Tryz.prog (sub [1, 1, 1, 1, 1, 1, 0, 1, 0] body) W3.t := by
  have e : (sub [1, 1, 1, 1, 1, 1, 0, 1, 0] body) = .loop (sub [1, 1, 1, 1, 1, 1, 0, 1, 0, 0] body) := by kernel_rfl
  rw [e]
  refine zda (zqa (zea [0, 1, 5, 6, 8, 9] [4] (fun i => if i = 0 then [0, 1, 6, 8] else []) (zba hΓ Tryz.hm (.seq (.go) (.seq (.block (.seq (.go) (.seq (.go) (.cond (.seq (.go) (.use J4.t)) (.go))))) (.use J5.t))) _ (of_eq (show _ = (True ∧ ((True ∧ (True ∧ ((True ∧ (zaa Tryz.prog (sub [1, 1, 1, 1, 1, 1, 0, 1, 0, 0, 1, 0, 0, 1, 1, 0, 1] body) J4.t)) ∧ True))) ∧ (zaa Tryz.prog (sub [1, 1, 1, 1, 1, 1, 0, 1, 0, 0, 1, 1] body) J5.t))) by kernel_rfl) ⟨trivial, ⟨⟨trivial, ⟨trivial, ⟨⟨trivial, J4.ok⟩, trivial⟩⟩⟩, J5.ok⟩⟩)))) fun Q E fr H h => ?_
  obtain ⟨hl, h⟩ := zga h
  obtain ⟨text0, q0, h⟩ := zfb h
  obtain ⟨n0, q1, h⟩ := zfa h
  obtain ⟨a0, q5, h⟩ := zja h
  obtain ⟨b0, q6, h⟩ := zja h
  obtain ⟨l0, l1, l2, q8, h⟩ := zta h
  obtain ⟨now0, q9, h⟩ := zfa h
  obtain ⟨m, h⟩ := h.h
  exact ⟨(mkF 109 [(0, (.string text0)), (1, (.int .i64 n0)), (5, (.pointer a0)), (6, (.pointer b0)), (8, (.slice l0 l1 l2)), (9, (.int .i64 now0))]), fun a ha => ha.mk (Nat.le_of_eq hl.symm) (consQ q0 (consQ q1 (consQ q5 (consQ q6 (consQ q8 (consQ q9 nilQ)))))), m, cast (zib (B := (fun (RR : Option Addr × Nat × Nat × Int → HP) (s : Option Addr × Nat × Nat × Int) (H : Heap) => W3.vc text0 n0 a0 b0 s.1 s.2.1 s.2.2.1 s.2.2.2 (fun y8_0 y8_1 y8_2 H => Q (.exit 0) (mkF 109 [(0, (.string text0)), (1, (.int .i64 n0)), (6, (.pointer b0)), (8, (.slice y8_0 y8_1 y8_2))]) H) (fun y4_0 H => Q .ret (mkF 109 [(4, (.bool y4_0))]) H) (fun l0 l1 l2 now0 H => RR (l0, l1, l2, now0) H) E H)) (m := (fun (s : Option Addr × Nat × Nat × Int) => (mkF 109 [(0, (.string text0)), (1, (.int .i64 n0)), (5, (.pointer a0)), (6, (.pointer b0)), (8, (.slice s.1 s.2.1 s.2.2.1)), (9, (.int .i64 s.2.2.2))]))) (Q := Q) (E := E) (fun RR s H => by kernel_rfl) m (l0, l1, l2, now0) H) h⟩
def J7.t : CT := fun Q E fr H => lenIs 109 fr (slS fr 0 fun text0 => slI fr 1 .i64 fun n0 => slP fr 6 fun b0 => slSl fr 8 fun l0 l1 l2 => slI fr 12 .i64 fun i0 => J7 text0 n0 b0 l0 l1 l2 i0 (fun y12_0 H => Q .normal (mkF 109 [(0, (.string text0)), (1, (.int .i64 n0)), (6, (.pointer b0)), (8, (.slice l0 l1 l2)), (12, (.int .i64 y12_0))]) H) (fun y4_0 H => Q .ret (mkF 109 [(4, (.bool y4_0))]) H) E H)
theorem J7.ok : zaa Tryz.prog (sub [1, 1, 1, 1, 1, 1, 1, 0, 1, 0, 0, 1] body) J7.t := by
  refine zda (zea [0, 1, 6, 8, 12] [4] (fun i => []) (zba hΓ Tryz.hm (.go) _ (of_eq_true (by kernel_rfl)))) fun Q E fr H h => ?_
  obtain ⟨hl, h⟩ := zga h
  obtain ⟨text0, q0, h⟩ := zfb h
  obtain ⟨n0, q1, h⟩ := zfa h
  obtain ⟨b0, q6, h⟩ := zja h
  obtain ⟨l0, l1, l2, q8, h⟩ := zta h
  obtain ⟨i0, q12, h⟩ := zfa h
  exact ⟨(mkF 109 [(0, (.string text0)), (1, (.int .i64 n0)), (6, (.pointer b0)), (8, (.slice l0 l1 l2)), (12, (.int .i64 i0))]), fun a ha => ha.mk (Nat.le_of_eq hl.symm) (consQ q0 (consQ q1 (consQ q6 (consQ q8 (consQ q12 nilQ))))), cast (by kernel_rfl) h.h⟩
def W6.t : CT := fun Q E fr H => lenIs 109 fr (slS fr 0 fun text0 => slI fr 1 .i64 fun n0 => slP fr 6 fun b0 => slSl fr 8 fun l0 l1 l2 => slI fr 12 .i64 fun i0 => W6 text0 n0 b0 l0 l1 l2 i0 (fun  H => Q (.exit 2) (mkF 109 [(0, (.string text0)), (6, (.pointer b0))]) H) (fun y4_0 H => Q .ret (mkF 109 [(4, (.bool y4_0))]) H) E H)
theorem W6.ok : zaa Tryz.prog (sub [1, 1, 1, 1, 1, 1, 1, 0, 1, 0] body) W6.t := by
  have e : (sub [1, 1, 1, 1, 1, 1, 1, 0, 1, 0] body) = .loop (sub [1, 1, 1, 1, 1, 1, 1, 0, 1, 0, 0] body) := by kernel_rfl
  rw [e]
  refine zda (zqa (zea [0, 1, 6, 8, 12] [4] (fun i => if i = 2 then [0, 6] else []) (zba hΓ Tryz.hm (.seq (.go) (.use J7.t)) _ (of_eq (show _ = (True ∧ (zaa Tryz.prog (sub [1, 1, 1, 1, 1, 1, 1, 0, 1, 0, 0, 1] body) J7.t)) by kernel_rfl) ⟨trivial, J7.ok⟩)))) fun Q E fr H h => ?_
  obtain ⟨hl, h⟩ := zga h
  obtain ⟨text0, q0, h⟩ := zfb h
  obtain ⟨n0, q1, h⟩ := zfa h
  obtain ⟨b0, q6, h⟩ := zja h
  obtain ⟨l0, l1, l2, q8, h⟩ := zta h
  obtain ⟨i0, q12, h⟩ := zfa h
  obtain ⟨m, h⟩ := h.h
  exact ⟨(mkF 109 [(0, (.string text0)), (1, (.int .i64 n0)), (6, (.pointer b0)), (8, (.slice l0 l1 l2)), (12, (.int .i64 i0))]), fun a ha => ha.mk (Nat.le_of_eq hl.symm) (consQ q0 (consQ q1 (consQ q6 (consQ q8 (consQ q12 nilQ))))), m, cast (zib (B := (fun (RR : Int → HP) (s : Int) (H : Heap) => W6.vc text0 n0 b0 l0 l1 l2 s (fun  H => Q (.exit 2) (mkF 109 [(0, (.string text0)), (6, (.pointer b0))]) H) (fun y4_0 H => Q .ret (mkF 109 [(4, (.bool y4_0))]) H) (fun i0 H => RR (i0) H) E H)) (m := (fun (s : Int) => (mkF 109 [(0, (.string text0)), (1, (.int .i64 n0)), (6, (.pointer b0)), (8, (.slice l0 l1 l2)), (12, (.int .i64 s))]))) (Q := Q) (E := E) (fun RR s H => by kernel_rfl) m (i0) H) h⟩
def J2.t : CT := fun Q E fr H => lenIs 109 fr (slS fr 0 fun text0 => slI fr 1 .i64 fun n0 => slP fr 5 fun a0 => slP fr 6 fun b0 => J2 text0 n0 a0 b0 (fun y4_0 H => Q .ret (mkF 109 [(4, (.bool y4_0))]) H) E H)
theorem J2.ok : zaa Tryz.prog (sub [1, 1, 1, 1, 1] body) J2.t := by
  refine zda (zea [] [4] (fun i => []) (zba hΓ Tryz.hm (.seq (.go) (.seq (.seq (.go) (.block (.use W3.t))) (.seq (.seq (.go) (.block (.use W6.t))) (.go)))) _ (of_eq (show _ = (True ∧ ((True ∧ (zaa Tryz.prog (sub [1, 1, 1, 1, 1, 1, 0, 1, 0] body) W3.t)) ∧ ((True ∧ (zaa Tryz.prog (sub [1, 1, 1, 1, 1, 1, 1, 0, 1, 0] body) W6.t)) ∧ True))) by kernel_rfl) ⟨trivial, ⟨⟨trivial, W3.ok⟩, ⟨⟨trivial, W6.ok⟩, trivial⟩⟩⟩))) fun Q E fr H h => ?_
  obtain ⟨hl, h⟩ := zga h
  obtain ⟨text0, q0, h⟩ := zfb h
  obtain ⟨n0, q1, h⟩ := zfa h
  obtain ⟨a0, q5, h⟩ := zja h
  obtain ⟨b0, q6, h⟩ := zja h
  exact ⟨(mkF 109 [(0, (.string text0)), (1, (.int .i64 n0)), (5, (.pointer a0)), (6, (.pointer b0))]), fun a ha => ha.mk (Nat.le_of_eq hl.symm) (consQ q0 (consQ q1 (consQ q5 (consQ q6 nilQ)))), cast (by kernel_rfl) h.h⟩
theorem ok : zca Tryz.prog 6 F := by
  refine zia hΓ (fn := Tryz.f6) (c := body) (by kernel_rfl) (by kernel_rfl) (by kernel_rfl) (zba hΓ Tryz.hm (.seq (.go) (.seq (.go) (.seq (.go) (.seq (.go) (.seq (.seq (.go) (.use J1.t)) (.use J2.t)))))) _ (of_eq (show _ = (True ∧ (True ∧ (True ∧ (True ∧ ((True ∧ (zaa Tryz.prog (sub [1, 1, 1, 1, 0, 1] body) J1.t)) ∧ (zaa Tryz.prog (sub [1, 1, 1, 1, 1] body) J2.t)))))) by kernel_rfl) ⟨trivial, ⟨trivial, ⟨trivial, ⟨trivial, ⟨⟨trivial, J1.ok⟩, J2.ok⟩⟩⟩⟩⟩)) fun _ K E H h => ?_
  unfold F at h
  split at h
  · exact cast (by kernel_rfl) h.h
  · exact h.elim
end vizardlaw13_ConnTwice
end Go.Sh
namespace Go.Sh
open Go.Proofs
set_option maxRecDepth 8000
def howT (n k : Nat) : List UInt8 := List.replicate k 1 ++ List.replicate (n - k) 0
theorem howT_len {n k : Nat} (h : k ≤ n) : (howT n k).length = n := by
  unfold howT
  rw [List.length_append, List.length_replicate, List.length_replicate]
  omega
theorem howT_get {n k i : Nat} (h : k ≤ n) (hi : i < n) : (howT n k)[i]? = some (if i < k then 1 else 0) := by
  unfold howT
  by_cases hk : i < k
  · rw [List.getElem?_append_left (by rw [List.length_replicate]; exact hk), List.getElem?_replicate, if_pos hk, if_pos hk]
  · rw [List.getElem?_append_right (by rw [List.length_replicate]; omega), List.length_replicate, List.getElem?_replicate, if_pos (by omega), if_neg hk]
def obT (l : List UInt8) (k : Nat) (q : Int) : OB := ⟨l, howT l.length k, 3, 4096, q⟩
theorem obT_ok {l : List UInt8} {k : Nat} {q : Int} (h : k ≤ l.length) (hl : l.length ≤ 1000000) : OBok (obT l k q) := ⟨howT_len h, hl⟩
theorem obT_first {l : List UInt8} {k : Nat} {q : Int} (h : k ≤ l.length) : (obT l k q).first = k := by
  unfold OB.first obT
  dsimp only
  refine runL_eq (by rw [howT_len h]; exact h) (fun i x hi hx => ?_) ?_
  · rw [howT_get h (by omega), if_pos hi] at hx
    cases hx
    rfl
  · rw [howT_len h]
    by_cases hk : k = l.length
    · exact .inl hk
    · exact .inr ⟨0, by rw [howT_get h (by omega), if_neg (by omega)], rfl⟩
theorem mark_T {n k e : Nat} (hk : k ≤ e) (he : e ≤ n) : mark (howT n k) k e 1 = howT n e := by
  apply List.ext_getElem?
  intro i
  rw [mark_get]
  by_cases hi : i < n
  · rw [howT_get (by omega) hi, howT_get he hi]
    show some _ = some _
    congr 1
    show (if k ≤ i ∧ i < e then (1 : UInt8) else if i < k then 1 else 0) = if i < e then 1 else 0
    by_cases h1 : i < k
    · rw [if_neg (show ¬ (k ≤ i ∧ i < e) by omega), if_pos h1, if_pos (show i < e by omega)]
    · by_cases h2 : i < e
      · rw [if_pos (show k ≤ i ∧ i < e by omega), if_pos h2]
      · rw [if_neg (show ¬ (k ≤ i ∧ i < e) by omega), if_neg h1, if_neg h2]
  · rw [List.getElem?_eq_none (by rw [howT_len (by omega)]; omega), List.getElem?_eq_none (by rw [howT_len he]; omega)]
    rfl
theorem stop_T {l : List UInt8} {k : Nat} {q most : Int} (hl : l.length ≤ 4096) (h0 : 0 ≤ most) (h : k ≤ l.length) : (obT l k q).stopE most = min l.length (k + most.toNat) := by
  obtain ⟨a1, a2, a3, a4⟩ := OB.stop_spec (s := obT l k q) (most := most) (a := k) (l.length - k) k rfl h
  have e : (obT l k q).stopE most = (obT l k q).stop most k (l.length - k) k := by
    unfold OB.stopE
    rw [obT_first h]
    rfl
  rw [e]
  have t1 : (obT l k q).text.length = l.length := rfl
  rw [t1] at a2 a4
  obtain ⟨E, hE⟩ : ∃ E, E = (obT l k q).stop most k (l.length - k) k := ⟨_, rfl⟩
  rw [← hE] at a1 a2 a3 a4 ⊢
  have b1 : E ≤ k + most.toNat := by
    by_cases hk : E = k
    · omega
    · have := (a3 (E - 1) (by omega) (by omega)).2.1
      omega
  rcases a4 with a4 | a4 | a4 | a4
  · omega
  · have : (obT l k q).limit = 4096 := rfl
    rw [this] at a4
    omega
  · omega
  · by_cases hE2 : E < l.length
    · refine absurd ?_ a4
      show (howT l.length k)[E]? = some 0
      rw [howT_get h hE2, if_neg (by omega)]
    · omega
def pieceB (l : List UInt8) (k m : Nat) : ByteArray := ⟨((l.drop k).take m).toArray⟩
theorem pieceB_size {l : List UInt8} {k m : Nat} (h : k + m ≤ l.length) : (pieceB l k m).size = m := by
  unfold pieceB
  rw [zxa, List.length_take, List.length_drop]
  omega
theorem next_T {l : List UInt8} {k : Nat} {q most : Int} (hl : l.length ≤ 4096) (h0 : 0 < most) (h : k < l.length) : (obT l k q).next most = (⟨k, pieceB l k (min l.length (k + most.toNat) - k), false, true⟩, obT l (min l.length (k + most.toNat)) q) := by
  unfold OB.next
  rw [obT_first (by omega), stop_T hl (by omega) (by omega)]
  have t1 : (obT l k q).text.length = l.length := rfl
  rw [t1, if_neg (by omega), if_neg (by omega)]
  have f3 : ¬ (min l.length (k + most.toNat) = l.length ∧ (obT l k q).fin ≠ 3) := fun c => c.2 rfl
  have e1 : decide (min l.length (k + most.toNat) = l.length ∧ (obT l k q).fin ≠ 3) = false := decide_eq_false f3
  rw [e1, if_neg (fun c => f3 c.1)]
  have e2 : mark (obT l k q).how k (min l.length (k + most.toNat)) 1 = howT l.length (min l.length (k + most.toNat)) := mark_T (by omega) (by omega)
  rw [e2]
  rfl
theorem next_end {l : List UInt8} {q most : Int} (hl : l.length ≤ 4096) : (obT l l.length q).next most = (⟨0, ⟨#[]⟩, false, false⟩, obT l l.length q) := by
  unfold OB.next
  rw [obT_first (Nat.le_refl _)]
  have t1 : (obT l l.length q).text.length = l.length := rfl
  rw [t1, if_pos rfl, if_pos (.inl (by show (3 : UInt8) ≠ 0; decide))]
def pcF (l : List UInt8) (k m : Nat) : Fm := ⟨8, 0, k, false, 0, pieceB l k m⟩
theorem pcF_len {l : List UInt8} {k m : Nat} (h : k + m ≤ l.length) (hl : l.length ≤ 1000) : (wr (pcF l k m)).length = 3 + wk k + wk m + m := by
  have e : wr (pcF l k m) = wput 8 ++ (wput 0 ++ (wput k ++ ([0] ++ (wtext (pieceB l k m).data.toList ++ [])))) := rfl
  have l4 : wk 8 = 1 := by decide
  have l5 : wk 0 = 1 := by decide
  have hs := zte (pieceB l k m)
  rw [pieceB_size h] at hs
  rw [e]
  unfold wtext
  rw [hs]
  simp only [List.length_append, List.length_cons, List.length_nil, zfd, l4, l5, hs]
  omega
theorem pcF_ok {l : List UInt8} {k m : Nat} (h : k + m ≤ l.length) (hl : l.length ≤ 1000) : (pcF l k m).ok := by
  have hs := pieceB_size h
  refine ⟨.inr (.inl rfl), fun _ => rfl, fun _ => rfl, fun _ => rfl, fun h => absurd rfl h, fun _ => .inl rfl, by show (0 : Nat) < _; decide, ?_, by show (0 : Nat) < _; decide, ?_⟩
  · show k + (pieceB l k m).size < _; omega
  · show (pieceB l k m).size ≤ _; omega
theorem pay_T {l : List UInt8} {k : Nat} {q : Int} {s : SM} (hs : s.out = obT l k q) (hl : l.length ≤ 1000) (hk : k ≤ l.length) :
    ∃ s' : SM, s'.out = obT l (min l.length (k + 951)) q ∧ s'.inb = s.inb ∧ s'.told = s.told ∧ s'.came = s.came ∧ pay1 971 0 s [] 971 = (s', if k < l.length then [pcF l k (min l.length (k + 951) - k)] else [], 971 - (if k < l.length then ((wr (pcF l k (min l.length (k + 951) - k))).length : Int) else 0)) := by
  by_cases hlt : k < l.length
  · rw [if_pos hlt, if_pos hlt]
    have e951 : (971 - 20 : Int) = 951 := by decide
    have en : s.out.next (971 - 20) = (⟨k, pieceB l k (min l.length (k + 951) - k), false, true⟩, obT l (min l.length (k + 951)) q) := by
      rw [hs, e951]
      exact next_T (by omega) (by decide) hlt
    obtain ⟨m, hm⟩ : ∃ m, m = min l.length (k + 951) - k := ⟨_, rfl⟩
    have hkm : k + m ≤ l.length := by omega
    have hlen := pcF_len hkm hl
    have hwk := zmd k
    have hwm := wi_cases m
    have e1 : pay1 971 0 s [] 971 = pay1 970 0 { s with out := obT l (min l.length (k + 951)) q, far := farS s ⟨k, pieceB l k m, false, true⟩ } [pcF l k m] (971 - (wr (pcF l k m)).length) := by
      conv => lhs; unfold pay1
      rw [if_pos (by decide), en]
      dsimp only
      rw [if_pos rfl, ← hm]
      rfl
    rw [e1, ← hm]
    obtain ⟨r, hr⟩ : ∃ r : Int, r = 971 - (wr (pcF l k m)).length := ⟨_, rfl⟩
    refine ⟨{ s with out := obT l (min l.length (k + 951)) q, far := farS s ⟨k, pieceB l k m, false, true⟩ }, rfl, rfl, rfl, rfl, ?_⟩
    rw [← hr]
    unfold pay1
    by_cases hrr : r > 20
    · rw [if_pos hrr]
      have hend : min l.length (k + 951) = l.length := by omega
      dsimp only
      rw [hend, next_end (by omega)]
      dsimp only
      rw [if_neg (by decide)]
    · rw [if_neg hrr]
  · have hke : k = l.length := by omega
    subst hke
    rw [if_neg hlt, if_neg hlt]
    have hmin : min l.length (l.length + 951) = l.length := by omega
    rw [hmin]
    refine ⟨s, hs, rfl, rfl, rfl, ?_⟩
    unfold pay1
    rw [if_pos (by decide), hs, next_end (by omega)]
    dsimp only
    rw [if_neg (by decide), ← hs]
    simp
end Go.Sh
namespace Go.Sh
open Go.Proofs
set_option maxRecDepth 8000
section
variable {cb : Nat} {a : CA} {x : CS} {L : List Nat} {H : Heap} {E : Value → Heap → Prop}
theorem zad.nothing (h : CAt cb a x L H) (hg : x.c.got = []) {K : ByteArray → Bool → Heap → Prop} (hk : K ⟨#[]⟩ false H) : zad.c (some ⟨cb, 0, none⟩) K E H := by
  obtain ⟨gp, gc, Lg, htx, hcl, _⟩ := h.setg
  refine ⟨?_⟩
  unfold zad.vc
  refine ⟨_, rfl, _, _, _, hcl, ?_⟩
  rw [hg]
  dsimp only
  rw [if_pos (by decide)]
  exact ⟨H, Heap.Le.refl _, hk⟩
theorem zad.first (h : CAt cb a x L H) {s : ByteArray} {g : List ByteArray} (hg : x.c.got = s :: g) {K : ByteArray → Bool → Heap → Prop} (hk : ∀ L' H', CAt cb a { x with c := { x.c with got := g } } L' H' → Step L H L' H' → K s true H') : zad.c (some ⟨cb, 0, none⟩) K E H := by
  obtain ⟨gp, gc, Lg, htx, hcl, _, _, hset⟩ := h.setg
  rw [hg] at htx hcl
  have hlen := htx.len
  obtain ⟨b, hb1, hb2⟩ := htx.get (i := 0) (s := s) rfl
  refine ⟨?_⟩
  unfold zad.vc
  refine ⟨_, rfl, _, _, _, hcl, ?_⟩
  rw [List.length_cons] at hcl hlen ⊢
  dsimp only
  rw [if_neg (by rw [beq_iff_eq]; omega)]
  refine ⟨_, rfl, _, _, _, hcl, b, hb1, by decide, by omega, _, by simpa using hb2, _, rfl, _, _, _, hcl, by decide, by omega, by omega, _, rfl, ?_⟩
  exact hset (g' := g) htx.pop (by omega) (Step.refl _ _) fun L' H' h' s' => ⟨H', Heap.Le.refl _, hk L' H' h' s'⟩
end
def gramB : ByteArray := ⟨#[103, 114, 97, 109]⟩
theorem gram_wr : (wr (fmG gramB)).length = 6 := by decide
structure ASt (x : CS) (t : List UInt8) (q : Int) (k j : Nat) (w : List ByteArray) (now : Int) : Prop where
  S : ∃ s, x.S = S1 s ∧ s.out = obT t k q ∧ s.inb = bx0 ∧ s.told = 4096
  fl : x.F.length ≤ j
  fs : ∀ p ∈ x.F, p.size ≤ 1200 ∧ 0 ≤ p.at' ∧ p.at' < now
  win : flightN x.F ≤ 1000 * j
  top : x.top < j
  next : x.c.next = j
  tx : ∃ b, x.c.tx = some ⟨b, upK, j, 0⟩
  srv : x.c.srv = false
  cid : x.c.cid = cidB
  ph : x.c.ph = 2
  gr : x.c.gr = false
  say : x.c.say = false
  ans : x.c.ans = false
  wait : x.c.wait = w
structure BSt (x : CS) (t : List UInt8) (k j : Nat) (g : List ByteArray) : Prop where
  S : ∃ cm, x.S = S1 { s0 with inb := inOrd (t.take k) (-1), came := cm }
  m : x.m = j
  rx : ∃ b o, x.c.rx = some ⟨b, upK, 0, o⟩ ∧ 0 ≤ o ∧ o ≤ j
  srv : x.c.srv = true
  cid : x.c.cid = cidB
  ph : x.c.ph = 2
  got : x.c.got = g
def kT (t : List UInt8) (k : Nat) : Nat := min t.length (k + 951)
def fsT (t : List UInt8) (k : Nat) (w : List ByteArray) : List Fm := (if k < t.length then [pcF t k (kT t k - k)] else []) ++ w.map fmG
theorem wrs_app (l m : List Fm) : wrs (l ++ m) = wrs l ++ wrs m := by unfold wrs; rw [List.flatMap_append]
theorem wrs_one (f : Fm) : wrs [f] = wr f := by unfold wrs; rw [List.flatMap_cons, List.flatMap_nil, List.append_nil]
theorem fsT_len {t : List UInt8} {k : Nat} {w : List ByteArray} (hl : t.length ≤ 1000) (hk : k ≤ t.length) (hw : w = [] ∨ w = [gramB]) : (wrs (fsT t k w)).length ≤ 964 ∧ (if k < t.length then ((wr (pcF t k (kT t k - k))).length : Int) else 0) ≤ 958 ∧ ((wrs (fsT t k w)).length : Int) = (if k < t.length then ((wr (pcF t k (kT t k - k))).length : Int) else 0) + (if w = [] then 0 else 6) := by
  have hg : (wrs (w.map fmG)).length = if w = [] then 0 else 6 := by
    rcases hw with rfl | rfl
    · rfl
    · rw [if_neg (by simp), List.map_cons, List.map_nil, wrs_one, gram_wr]
  have hp : k < t.length → (wr (pcF t k (kT t k - k))).length ≤ 958 := fun hlt => by
    unfold kT
    rw [pcF_len (by omega) hl]
    have h1 := wi_cases k
    have h2 := wi_cases (min t.length (k + 951) - k)
    omega
  unfold fsT
  rw [wrs_app, List.length_append, hg]
  by_cases hlt : k < t.length
  · have := hp hlt
    rw [if_pos hlt, if_pos hlt, wrs_one]
    split <;> omega
  · rw [if_neg hlt, if_neg hlt]
    have e : (wrs []).length = 0 := rfl
    rw [e]
    split <;> omega
theorem fsT_ok {t : List UInt8} {k : Nat} {w : List ByteArray} (hl : t.length ≤ 1000) (hw : w = [] ∨ w = [gramB]) : (∀ f ∈ fsT t k w, f.ok ∧ f.k ≠ 0 ∧ elic f.k = true) ∧ (fsT t k w).length ≤ 2 := by
  have hg : ∀ f ∈ w.map fmG, f.ok ∧ f.k ≠ 0 ∧ elic f.k = true := fun f hf => by
    rcases hw with rfl | rfl
    · cases hf
    · simp only [List.map_cons, List.map_nil, List.mem_singleton] at hf
      rw [hf]
      exact ⟨fmG_ok (by decide), by show (48 : Int) ≠ 0; decide, by show elic 48 = true; decide⟩
  have hgl : (w.map fmG).length ≤ 1 := by rcases hw with rfl | rfl <;> simp
  unfold fsT
  refine ⟨fun f hf => ?_, ?_⟩
  · rcases List.mem_append.1 hf with hf | hf
    · split at hf
      · rename_i hlt
        rw [List.mem_singleton] at hf
        rw [hf]
        exact ⟨pcF_ok (by unfold kT; omega) hl, by show (8 : Int) ≠ 0; decide, by show elic 8 = true; decide⟩
      · cases hf
    · exact hg f hf
  · rw [List.length_append]
    split <;> simp <;> (try rw [List.length_map] at hgl) <;> omega
theorem send_T {x : CS} {t : List UInt8} {q : Int} {k j : Nat} {w : List ByteArray} {now : Int} (hx : ASt x t q k j w now) (hw : w = [] ∨ w = [gramB]) (hl : t.length ≤ 1000) (hk : k ≤ t.length) :
    sendG x 1000 = ([], fsT t k w, 971 - ((wrs (fsT t k w)).length : Int)) ∧ ∃ s', (sendQ x 1000).S = S1 s' ∧ s'.out = obT t (kT t k) q ∧ s'.inb = bx0 ∧ s'.told = 4096 := by
  obtain ⟨s, hS, ho, hin, hto⟩ := hx.S
  obtain ⟨s', p1, p2, p3, p4, p5⟩ := pay_T ho hl hk
  obtain ⟨f1, f2, f3⟩ := fsT_len (w := w) hl hk hw
  have e1 : (((1000 : Nat) : Int) - 29) = 971 := by decide
  have e2 : (971 : Int).toNat = 971 := rfl
  have eQ : sendQ x 1000 = ⟨S1 s', if k < t.length then [pcF t k (kT t k - k)] else [], 971 - (if k < t.length then ((wr (pcF t k (kT t k - k))).length : Int) else 0)⟩ := by
    rw [sendQ_zero (fun j hj => by rw [hS, S1_n s hj]; rfl), e1, e2, hS, S1_0, p5]
    dsimp only
    have e3 : upS (S1 s) 0 s' = S1 s' := upS_upS _ _ _ _
    rw [e3]
    rfl
  refine ⟨?_, s', by rw [eQ], p1, p2.trans hin, p3.trans hto⟩
  unfold sendG
  rw [eQ, hx.wait]
  dsimp only
  rcases hw with rfl | rfl
  · rw [if_pos rfl, Int.add_zero] at f3
    rw [f3]
    unfold fsT payG
    simp
  · have e6 : (if [gramB] = ([] : List ByteArray) then (0 : Int) else 6) = 6 := if_neg (by simp)
    have hg6 := gram_wr
    rw [e6] at f3
    rw [f3]
    have hfit : ((wr (fmG gramB)).length : Int) ≤ 971 - (if k < t.length then ((wr (pcF t k (kT t k - k))).length : Int) else 0) := by rw [gram_wr]; omega
    unfold payG
    rw [if_pos hfit, gram_wr]
    unfold payG fsT
    simp
    omega
end Go.Sh
