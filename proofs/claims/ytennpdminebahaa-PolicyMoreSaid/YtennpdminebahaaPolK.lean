/- PolicyFirst and PolicyMore: rules behind others. -/
import Derived.Test.YtennpdminebahaaPolJ
namespace Go.Sh
theorem vizardlaw18_own.runO {H : Heap} {p : Option Addr} {n c : Nat} {l : List Rul} (hat : RulesAt H p n l) (hn : n * 48 ≤ 140737488351232) {K : Option Addr → Nat → Nat → Heap → Prop} {E : Value → Heap → Prop}
    (h : ∀ p' c' H', Heap.Le H H' → OwnRows H' 40 6 p' n c' (l.map Rul.cells) → Step [] H (bl p') H' → K p' n c' H') : vizardlaw18_own.c p n c K E H := by
  refine ⟨?_⟩
  unfold vizardlaw18_own.vc
  intro b hb
  refine rdRow_of (RulesAt.mono hat (Le_set hb _)) (by decide) rfl ?_
  refine appT_step (rows := []) (xs := l.map Rul.cells) ⟨rfl, (fun es he => by cases he), Nat.le_refl _, .inr ⟨b, #[], rfl, set_self _ _ _, rfl, rfl⟩⟩ (by decide) rfl rfl (by simpa using hat.len) (rul_len l) (rul_plain l) (by omega) (by omega) ?_
  intro p' c' H' h1 h2
  refine ⟨H', Heap.Le.refl H', ?_⟩
  rw [Nat.zero_add] at h1 ⊢
  have hst : Step [] H (bl p') H' := (Step.new hb _ []).trans h2
  exact h p' c' H' hst.le (by simpa using h1) hst
theorem OwnRows.rules {H : Heap} {p : Option Addr} {n c : Nat} {l : List Rul} (h : OwnRows H 40 6 p n c (l.map Rul.cells)) : RulesAt H p n l := h.at
/-- Rules are put behind others. -/
theorem push_rules {H : Heap} {p q : Option Addr} {n m c : Nat} {l l2 : List Rul} {K : Option Addr → Nat → Nat → Heap → Prop} (h : OwnRows H 40 6 p n c (l.map Rul.cells)) (hat : RulesAt H q m l2) (hn : n + m ≤ 1000000)
    (hk : ∀ p' c' H', OwnRows H' 40 6 p' (n + m) c' ((l ++ l2).map Rul.cells) → Step (bl p) H (bl p') H' → K p' (n + m) c' H') :
    rdRow H q (m * 6) fun cs0 => appT 40 (.agg #[(.bool false), (.int .i64 0), (.int .u32 0), (.int .i64 0), (.int .i64 0), (.int .i64 0)]) p n m c 6 48 cs0 K H := by
  refine rdRow_of hat (by decide) rfl ?_
  refine appT_step (xs := l2.map Rul.cells) h (by decide) rfl rfl (by simpa using hat.len) (rul_len l2) (rul_plain l2) (by omega) (by omega) fun p' c' H' h1 h2 => hk p' c' H' ?_ h2
  rw [List.map_append]
  exact h1
theorem allow_append {l l2 : List Rul} {p a s : Int} : allowL p a s (l ++ l2) = if (l.find? (Rul.fits p a s)).isSome then allowL p a s l else allowL p a s l2 := by
  unfold allowL
  rw [List.find?_append]
  cases h : l.find? (Rul.fits p a s) with
  | none => simp
  | some r => simp
theorem check_append {l l2 : List Rul} (h1 : checkL l = 0) (h2 : checkL l2 = 0) (h : l.length + l2.length ≤ 32) : checkL (l ++ l2) = 0 := by
  unfold checkL
  rw [if_neg (by rw [List.length_append]; omega), if_pos (by rw [List.all_append, right_all h1, right_all h2]; rfl)]
theorem may_append {l l2 : List Rul} {p a s : Int} (h1 : checkL l = 0) (h2 : checkL l2 = 0) (h : l.length + l2.length ≤ 32) : mayGo (l ++ l2) p a s = if (l.find? (Rul.fits p a s)).isSome then mayGo l p a s else mayGo l2 p a s := by
  unfold mayGo
  rw [check_append h1 h2 h, h1, h2, allow_append]
  split <;> rfl
theorem may_none {l : List Rul} {p a s : Int} (h : (l.find? (Rul.fits p a s)).isSome = false) : mayGo l p a s = false := by
  unfold mayGo allowL
  cases h2 : l.find? (Rul.fits p a s) with
  | none => simp
  | some r => rw [h2] at h; cases h
def noRule : Rul := ⟨false, 0, 0, 0, 0, 65535⟩
theorem no_fine : noRule.fine := ⟨by decide, by decide⟩
theorem no_check : checkL [noRule] = 0 := by decide
theorem no_fits {p a s : Int} (ha : 0 ≤ a ∧ a < 4294967296) (h0 : 0 ≤ s) (h1 : s ≤ 65535) : noRule.fits p a s = true := by
  have hc : chk 0 0 = true := by decide
  have hp : pw 0 = 4294967296 := by decide
  unfold Rul.fits hasB noRule
  rw [hc, hp]
  simp only [beq_self_eq_true, Bool.true_or, Bool.true_and]
  rw [decide_eq_true (show (0 : Int) ≤ a ∧ a < 0 + ((4294967296 : Nat) : Int) by omega), decide_eq_true (show s ≥ (0 : Int) from h0), decide_eq_true h1]
  rfl
theorem no_lets {l : List Rul} {p a s : Int} (ha : 0 ≤ a ∧ a < 4294967296) (h0 : 0 ≤ s) (h1 : s ≤ 65535) : mayGo (noRule :: l) p a s = false := by
  unfold mayGo allowL
  rw [List.find?_cons, no_fits ha h0 h1]
  simp [noRule]
theorem vizardlaw18_PolicyFirst.go {H0 : Heap} {p q : Option Addr} {n c m cm : Nat} {l l2 : List Rul} {proto dst port : Int} (hat : RulesAt H0 p n l) (hatm : RulesAt H0 q m l2) (hn : n * 48 ≤ 140737488351232) (hm : m * 48 ≤ 140737488351232) (hf : ∀ r ∈ l, r.fine) (hfm : ∀ r ∈ l2, r.fine) (hd : 0 ≤ dst ∧ dst < 4294967296) {K : Bool → Heap → Prop} {E : Value → Heap → Prop} (h : K true H0) :
    vizardlaw18_PolicyFirst.c p n c q m cm proto dst port K E H0 := by
  have hlen := hat.len
  have hlenm := hatm.len
  have hend : ∀ {H}, Heap.Le H0 H → ∃ H', Heap.Le H' H ∧ K true H' := fun hle => ⟨H0, hle, h⟩
  have yes : ∀ {H} {Kn : Heap → Prop}, Heap.Le H0 H → vizardlaw18_PolicyFirst.J1 p n c q m cm proto dst port true Kn (fun r H => ∃ H', Heap.Le H' H ∧ K r H') E H := fun {H Kn} hle => by
    refine ⟨?_⟩
    unfold vizardlaw18_PolicyFirst.J1.vc
    rw [if_pos rfl]
    exact hend hle
  refine ⟨?_⟩
  unfold vizardlaw18_PolicyFirst.vc
  refine vizardlaw18_works.run ?_
  rw [if_neg (by simp)]
  by_cases g1 : (n : Int) > 30
  · rw [if_pos (by simpa using g1)]
    exact yes (Heap.Le.refl _)
  · rw [if_neg (by simpa using g1)]
    have es : IntKind.i64.wrap ((n : Int) + (m : Int)) = (n : Int) + m := w_i64 (by omega) (by omega)
    by_cases g2 : (n : Int) + m > 31
    · rw [if_pos (by rw [es]; simpa using g2)]
      exact yes (Heap.Le.refl _)
    · rw [if_neg (by rw [es]; simpa using g2)]
      refine vizardlaw18_own.run hat hn fun p1 c1 H1 hle1 hat1 => policy_Check.run hat1 hf ?_
      by_cases hc : checkL l = 0
      · rw [if_neg (by simpa using hc)]
        refine vizardlaw18_own.run (hatm.mono hle1) hm fun p2 c2 H2 hle2 hat2 => policy_Check.run hat2 hfm ?_
        have hle12 := hle1.trans hle2
        by_cases hcm : checkL l2 = 0
        · rw [hcm]
          refine ⟨?_⟩
          unfold vizardlaw18_PolicyFirst.J1.vc
          rw [if_neg (by simp)]
          refine ⟨?_⟩
          unfold vizardlaw18_PolicyFirst.J2.vc
          refine vizardlaw18_own.runO (hat.mono hle12) hn fun p3 c3 H3 hle3 ho3 hs3 => ?_
          refine push_rules ho3 (hatm.mono (hle12.trans hle3)) (by omega) fun p4 c4 H4 ho4 hs4 => ⟨?_⟩
          have hs34 : Step [] H2 (bl p4) H4 := hs3.trans hs4
          have hle4 : Heap.Le H0 H4 := hle12.trans hs34.le
          unfold vizardlaw18_PolicyFirst.J3.vc
          intro b hb
          have hone : OwnRows (H4.set b (.cells #[(.bool false), (.int .i64 0), (.int .u32 0), (.int .i64 0), (.int .i64 0), (.int .i64 65535)] 40)) 40 6 (some ⟨b, 0, none⟩) 1 1 ([noRule].map Rul.cells) := ⟨rfl, rul_len _, Nat.le_refl _, .inr ⟨b, _, rfl, set_self _ _ _, rfl, rfl⟩⟩
          refine push_rules hone (hat.mono (hle4.trans (Le_set hb _))) (by omega) fun p5 c5 H5 ho5 hs5 => ⟨?_⟩
          have hs45 : Step [] H4 (bl p5) H5 := (Step.new hb _ []).trans hs5
          have hle5 : Heap.Le H0 H5 := hle4.trans hs45.le
          have hat4 : RulesAt H5 p4 (n + m) (l ++ l2) := (ho4.le hs45.le).rules
          have hat5 : RulesAt H5 p5 (1 + n) (noRule :: l) := ho5.rules
          unfold vizardlaw18_PolicyFirst.J4.vc
          refine vizardlaw18_own.run (hat.mono hle5) hn fun p6 c6 H6 hle6 hat6 => policy_Allow.run hat6 hf hd ?_
          refine policy_Allow.run (hat4.mono hle6) (fun r hr => (List.mem_append.1 hr).elim (hf r) (hfm r)) hd ?_
          refine vizardlaw18_own.run (hatm.mono (hle5.trans hle6)) hm fun p7 c7 H7 hle7 hat7 => policy_Allow.run hat7 hfm hd ?_
          refine policy_Allow.run (hat5.mono (hle6.trans hle7)) (fun r hr => by rcases List.mem_cons.1 hr with rfl | hr; exact no_fine; exact hf r hr) hd ?_
          have hfin := hend ((hle5.trans hle6).trans hle7)
          have j6 : vizardlaw18_PolicyFirst.J6 (mayGo l proto dst port) (mayGo (l ++ l2) proto dst port) (mayGo l2 proto dst port) (fun r H => ∃ H', Heap.Le H' H ∧ K r H') E H7 := by
            refine ⟨?_⟩
            unfold vizardlaw18_PolicyFirst.J6.vc
            have e := may_append (p := proto) (a := dst) (s := port) hc hcm (by omega)
            cases hs : (l.find? (Rul.fits proto dst port)).isSome with
            | true =>
              rw [hs] at e
              rw [e.trans (if_pos rfl), if_pos (by simp)]
              exact hfin
            | false =>
              rw [hs] at e
              rw [e.trans (if_neg (by simp)), may_none hs]
              by_cases hb2 : mayGo l2 proto dst port = false
              · rw [hb2, if_pos (by simp)]
                exact hfin
              · rw [if_neg (by simpa using hb2), if_pos (by simp)]
                simpa using hfin
          have j5 : vizardlaw18_PolicyFirst.J5 (mayGo l proto dst port) (mayGo (l ++ l2) proto dst port) (mayGo l2 proto dst port) false (fun h7 => vizardlaw18_PolicyFirst.J6 (mayGo l proto dst port) (mayGo (l ++ l2) proto dst port) (mayGo l2 proto dst port) (fun r H => ∃ H', Heap.Le H' H ∧ K r H') E h7) (fun r H => ∃ H', Heap.Le H' H ∧ K r H') E H7 := by
            refine ⟨?_⟩
            unfold vizardlaw18_PolicyFirst.J5.vc
            rw [if_neg (by simp)]
            exact j6
          cases hno : mayGo (noRule :: l) proto dst port with
          | false =>
            rw [if_neg (by simp)]
            exact j5
          | true =>
            rw [if_pos rfl]
            by_cases h0 : port ≥ 0
            · rw [if_pos (by simpa using h0)]
              by_cases h1 : port ≤ 65535
              · rw [no_lets hd h0 h1] at hno; cases hno
              · rw [decide_eq_false h1]
                exact j5
            · rw [if_neg (by simpa using h0)]
              exact j5
        · rw [show (checkL l2 != 0) = true by simpa using hcm]
          exact yes hle12
      · rw [if_pos (by simpa using hc)]
        exact yes hle1
theorem vizardlaw18_PolicyFirst.run {H : Heap} {p q : Option Addr} {n c m cm : Nat} {proto dst port : Int} {K : Bool → Heap → Prop} {E : Value → Heap → Prop} (hnc : n ≤ c) (hw : c * 48 ≤ reachBytes)
    (hrows : ∃ rows, RowsAt H p n 6 rows ∧ ∀ es ∈ rows, ∃ y0 y1 y2 y3 y4 y5, es = [(.bool y0), (.int .i64 y1), (.int .u32 y2), (.int .i64 y3), (.int .i64 y4), (.int .i64 y5)] ∧ IntKind.i64.has y1 ∧ IntKind.u32.has y2 ∧ IntKind.i64.has y3 ∧ IntKind.i64.has y4 ∧ IntKind.i64.has y5)
    (hnc2 : m ≤ cm) (hw2 : cm * 48 ≤ reachBytes)
    (hrows2 : ∃ rows, RowsAt H q m 6 rows ∧ ∀ es ∈ rows, ∃ y0 y1 y2 y3 y4 y5, es = [(.bool y0), (.int .i64 y1), (.int .u32 y2), (.int .i64 y3), (.int .i64 y4), (.int .i64 y5)] ∧ IntKind.i64.has y1 ∧ IntKind.u32.has y2 ∧ IntKind.i64.has y3 ∧ IntKind.i64.has y4 ∧ IntKind.i64.has y5)
    (_ : IntKind.i64.has proto) (hd : IntKind.u32.has dst) (_ : IntKind.i64.has port) (h : K true H) : vizardlaw18_PolicyFirst.c p n c q m cm proto dst port K E H := by
  obtain ⟨l, hat, hl⟩ := rules_of hrows
  obtain ⟨l2, hat2, hl2⟩ := rules_of hrows2
  have hd := has_u32 hd
  have hr : reachBytes = 140737488351232 := rfl
  exact vizardlaw18_PolicyFirst.go hat hat2 (by omega) (by omega) hl hl2 ⟨hd.1, by omega⟩ h
/-! ### PolicyMore -/
theorem rule_at {H : Heap} {b : Nat} {r : Rul} (h : H b = some (.cells #[.bool r.allow, .int .i64 r.proto, .int .u32 r.addr, .int .i64 r.bits, .int .i64 r.lo, .int .i64 r.hi] 40)) : RulesAt H (some ⟨b, 0, none⟩) 1 [r] :=
  OwnRows.at (e := 40) (c := 1) ⟨rfl, rul_len [r], Nat.le_refl _, .inr ⟨b, _, rfl, h, rfl, rfl⟩⟩
theorem vizardlaw18_PolicyMore.go {H0 : Heap} {p : Option Addr} {n c : Nat} {l : List Rul} {x : Rul} {proto dst port : Int} (hat : RulesAt H0 p n l) (hn : n * 48 ≤ 140737488351232) (hf : ∀ r ∈ l, r.fine) (hfx : x.fine) (hd : 0 ≤ dst ∧ dst < 4294967296) {K : Bool → Heap → Prop} {E : Value → Heap → Prop} (h : K true H0) :
    vizardlaw18_PolicyMore.c p n c x.allow x.proto x.addr x.bits x.lo x.hi proto dst port K E H0 := by
  have hlen := hat.len
  have hend : ∀ {H}, Heap.Le H0 H → ∃ H', Heap.Le H' H ∧ K true H' := fun hle => ⟨H0, hle, h⟩
  refine ⟨?_⟩
  unfold vizardlaw18_PolicyMore.vc
  refine newB_le fun b HB hb hb1 hleB => ?_
  have yes : ∀ {H} {Kn : Heap → Prop}, Heap.Le H0 H → vizardlaw18_PolicyMore.J1 p n c proto dst port (⟨b, 0, none⟩ : Addr) true Kn (fun r H => ∃ H', Heap.Le H' H ∧ K r H') E H := fun {H Kn} hle => by
    refine ⟨?_⟩
    unfold vizardlaw18_PolicyMore.J1.vc
    rw [if_pos rfl]
    exact hend hle
  refine vizardlaw18_works.run ?_
  rw [if_neg (by simp)]
  by_cases g1 : (n : Int) > 31
  · rw [if_pos (by simpa using g1)]
    exact yes hleB
  · rw [if_neg (by simpa using g1)]
    have hatB := hat.mono hleB
    refine vizardlaw18_own.run hatB hn fun p1 c1 H1 hle1 hat1 => policy_Check.run hat1 hf ?_
    by_cases hc : checkL l = 0
    · rw [if_neg (by simpa using hc)]
      have hb1' := hle1 b _ hb1
      refine ⟨_, loc hb1' rfl, _, loc hb1' rfl, _, loc hb1' rfl, _, loc hb1' rfl, _, loc hb1' rfl, _, loc hb1' rfl, ?_⟩
      refine newB_le fun b2 H2 hb2 hb3 hle2 => ?_
      refine policy_Check.run (rule_at hb3) (fun r hr => by rw [List.mem_singleton] at hr; subst hr; exact hfx) ?_
      have hle02 : Heap.Le H0 H2 := (hleB.trans hle1).trans hle2
      by_cases hcx : checkL [x] = 0
      · rw [hcx]
        refine ⟨?_⟩
        unfold vizardlaw18_PolicyMore.J1.vc
        rw [if_neg (by simp)]
        refine ⟨?_⟩
        unfold vizardlaw18_PolicyMore.J2.vc
        refine vizardlaw18_own.run (hat.mono hle02) hn fun p3 c3 H3 hle3 hat3 => policy_Allow.run hat3 hf hd ?_
        have hle03 := hle02.trans hle3
        have hbb : H3 b = some (.cells #[.bool x.allow, .int .i64 x.proto, .int .u32 x.addr, .int .i64 x.bits, .int .i64 x.lo, .int .i64 x.hi] 40) := hle3 b _ (hle2 b _ hb1')
        refine ⟨_, loc hbb rfl, _, loc hbb rfl, _, loc hbb rfl, _, loc hbb rfl, _, loc hbb rfl, _, loc hbb rfl, ?_⟩
        have hall : ∀ r ∈ l ++ [x], r.fine := fun r hr => (List.mem_append.1 hr).elim (hf r) (fun h => by rw [List.mem_singleton] at h; subst h; exact hfx)
        have j3 : ∀ {H}, Heap.Le H3 H → vizardlaw18_PolicyMore.J3 (⟨b, 0, none⟩ : Addr) (mayGo l proto dst port) (mayGo (l ++ [x]) proto dst port) (fun r H => ∃ H', Heap.Le H' H ∧ K r H') E H := fun {H} hle => by
          refine ⟨?_⟩
          unfold vizardlaw18_PolicyMore.J3.vc
          have hfin := hend (hle03.trans hle)
          have e := may_append (p := proto) (a := dst) (s := port) hc hcx (by simp; omega)
          cases hs : (l.find? (Rul.fits proto dst port)).isSome with
          | true =>
            rw [hs] at e
            rw [e.trans (if_pos rfl), if_pos (by simp)]
            exact hfin
          | false =>
            rw [hs] at e
            rw [e.trans (if_neg (by simp)), may_none hs]
            cases hb2 : mayGo [x] proto dst port with
            | false =>
              rw [if_pos (by simp)]
              exact hfin
            | true =>
              rw [if_neg (by simp), if_pos (by simp), if_pos rfl]
              refine ⟨x.allow, loc (hle b _ hbb) rfl, ?_⟩
              have : x.allow = true := by
                unfold mayGo allowL at hb2
                rw [Bool.and_eq_true] at hb2
                have h2 := hb2.2
                rw [List.find?_cons] at h2
                cases hfit : x.fits proto dst port with
                | true => rw [hfit] at h2; exact h2
                | false => rw [hfit] at h2; cases h2
              rw [this]
              exact hfin
        constructor
        · refine vizardlaw18_own.runO (hat.mono hle03) hn fun p4 c4 H4 hle4 ho4 hs4 => ⟨?_, ?_⟩
          · have hb4 := hle4 b _ hbb
            exact ⟨_, loc hb4 rfl, _, loc hb4 rfl, _, loc hb4 rfl, _, loc hb4 rfl, _, loc hb4 rfl, _, loc hb4 rfl, rfl, rfl⟩
          · refine newB_le fun b5 H5 hb5 hb6 hle5 => ?_
            refine push_rules (ho4.le hle5) (rule_at hb6) (by omega) fun p6 c6 H6 ho6 hs6 => ?_
            have hs46 : Step (bl p4) H4 (bl p6) H6 := (Step.of_le hle5).trans hs6
            refine policy_Allow.run ho6.rules hall hd (j3 (hs4.trans hs46).le)
        · refine newB_le fun b5 H5 hb5 hb6 hle5 => ?_
          refine vizardlaw18_own.runO (hat.mono (hle03.trans hle5)) hn fun p4 c4 H4 hle4 ho4 hs4 => ⟨?_, ?_⟩
          · have hb4 := hle4 b _ (hle5 b _ hbb)
            exact ⟨_, loc hb4 rfl, _, loc hb4 rfl, _, loc hb4 rfl, _, loc hb4 rfl, _, loc hb4 rfl, _, loc hb4 rfl, rfl, rfl⟩
          · refine push_rules ho4 (rule_at (hle4 b5 _ hb6)) (by omega) fun p6 c6 H6 ho6 hs6 => ?_
            refine policy_Allow.run ho6.rules hall hd (j3 (hle5.trans (hs4.trans hs6).le))
      · rw [show (checkL [x] != 0) = true by simpa using hcx]
        exact yes hle02
    · rw [if_pos (by simpa using hc)]
      exact yes (hleB.trans hle1)
theorem vizardlaw18_PolicyMore.run {H : Heap} {p : Option Addr} {n c : Nat} {x0 : Bool} {x1 x2 x3 x4 x5 : Int} {proto dst port : Int} {K : Bool → Heap → Prop} {E : Value → Heap → Prop} (hnc : n ≤ c) (hw : c * 48 ≤ reachBytes)
    (hrows : ∃ rows, RowsAt H p n 6 rows ∧ ∀ es ∈ rows, ∃ y0 y1 y2 y3 y4 y5, es = [(.bool y0), (.int .i64 y1), (.int .u32 y2), (.int .i64 y3), (.int .i64 y4), (.int .i64 y5)] ∧ IntKind.i64.has y1 ∧ IntKind.u32.has y2 ∧ IntKind.i64.has y3 ∧ IntKind.i64.has y4 ∧ IntKind.i64.has y5)
    (_ : IntKind.i64.has x1) (hx : IntKind.u32.has x2) (_ : IntKind.i64.has x3) (_ : IntKind.i64.has x4) (_ : IntKind.i64.has x5) (_ : IntKind.i64.has proto) (hd : IntKind.u32.has dst) (_ : IntKind.i64.has port) (h : K true H) : vizardlaw18_PolicyMore.c p n c x0 x1 x2 x3 x4 x5 proto dst port K E H := by
  obtain ⟨l, hat, hl⟩ := rules_of hrows
  have hd := has_u32 hd
  have hx := has_u32 hx
  have hr : reachBytes = 140737488351232 := rfl
  exact vizardlaw18_PolicyMore.go (x := ⟨x0, x1, x2, x3, x4, x5⟩) hat (by omega) hl ⟨hx.1, by show x2 < 4294967296; omega⟩ ⟨hd.1, by omega⟩ h
end Go.Sh
