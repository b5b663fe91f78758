/- The reference's routes; PolicyRoutes; that the rows work. -/
import Derived.Test.YtennpdminebahaaPolH
namespace Go.Sh
section
variable {Hb H0 : Heap} {p pb : Option Addr} {n c cb : Nat} {l : List Rul} {E : Value → Heap → Prop}
theorem vizardref18_Routes.each (hat : RulesAt Hb p n l) (hf : ∀ r ∈ l, r.fine) (hc : checkL l = 0) (ho : OwnRows Hb 2 1 pb (risen l).length cb (irow (risen l))) {Kx : Option Addr → Nat → Nat → Heap → Prop}
    (h : ∀ p' c' H, OwnRows H 31 3 p' (rtsTo (canGo l) (risen l) ((risen l).length - 1)).length c' (rrow (rtsTo (canGo l) (risen l) ((risen l).length - 1))) → Step [] Hb (bl p') H → Kx p' (rtsTo (canGo l) (risen l) ((risen l).length - 1)).length c' H) :
    vizardref18_Routes.W1 p n c none 0 0 pb (risen l).length cb false 0 Kx E Hb := by
  have hlen := hat.len
  have h32 := checkL_len hc
  have hl := right_all hc
  have hrl := risen_len l
  have h2 := risen_two l
  have hrs := risen_rises hf
  refine ⟨Loop.of (I := fun st H m => ∃ (k : Nat) (p' : Option Addr) (c' : Nat) (jo : Bool), st = (p', (rtsTo (canGo l) (risen l) k).length, c', jo, (k : Int)) ∧ k ≤ (risen l).length - 1 ∧ m = (risen l).length - 1 - k ∧ OwnRows H 31 3 p' (rtsTo (canGo l) (risen l) k).length c' (rrow (rtsTo (canGo l) (risen l) k)) ∧ Step [] Hb (bl p') H ∧
      (jo = true ↔ ∃ x b, (rtsTo (canGo l) (risen l) k).getLast? = some x ∧ (risen l)[k]? = some b ∧ x.2 + 1 = b)) ?_
    ⟨0, none, 0, false, rfl, Nat.zero_le _, rfl, ⟨rfl, (fun es he => by cases he), Nat.le_refl _, .inl ⟨rfl, rfl⟩⟩, Step.refl _ _, by simp [rtsTo]⟩⟩
  rintro m st H ⟨k, p', c', jo, rfl, hk, rfl, hown, hst, hjo⟩ RR hRR
  unfold vizardref18_Routes.W1.vc
  dsimp only
  have ek : IntKind.i64.wrap ((k : Int) + 1) = ((k + 1 : Nat) : Int) := by rw [w_i64 (by omega) (by omega)]; rfl
  by_cases hlt : k < (risen l).length - 1
  · rw [if_pos (by rw [ek]; simp only [decide_eq_true_eq]; omega)]
    obtain ⟨lo, hlo⟩ : ∃ x, (risen l)[k]? = some x := ⟨(risen l)[k]'(by omega), List.getElem?_eq_getElem (by omega)⟩
    obtain ⟨hi, hhi⟩ : ∃ x, (risen l)[k + 1]? = some x := ⟨(risen l)[k + 1]'(by omega), List.getElem?_eq_getElem (by omega)⟩
    have hlh := hrs.rise k (k + 1) lo hi hlo hhi (by omega)
    have hr0 := hrs.range lo (List.mem_of_getElem? hlo)
    have hr1 := hrs.range hi (List.mem_of_getElem? hhi)
    have hrt := rts_ok (g := canGo l) hrs k (by omega)
    have hrn := rtsTo_len (canGo l) (risen l) k
    obtain ⟨a, ha, hca⟩ := int_get (ho.step hst (by simp)) hlo
    subst ha
    refine ⟨a, rfl, by omega, by omega, lo, by simpa using hca, ?_⟩
    dsimp only
    rw [w_u32 (n := lo) (by omega) (by omega)]
    refine vizardref18_some.run (hat.mono hst.le) hf hc ⟨by omega, by omega⟩ ?_
    have estep : rtsTo (canGo l) (risen l) (k + 1) = stepR (canGo l) (rtsTo (canGo l) (risen l) k) lo hi := by
      show stepR _ _ _ _ = _
      rw [getD_of hlo, getD_of hhi]
    have next : ∀ {p2 : Option Addr} {c2 : Nat} {H2 : Heap} {rs : List (Int × Int)} {jo2 : Bool}, rs = rtsTo (canGo l) (risen l) (k + 1) → OwnRows H2 31 3 p2 rs.length c2 (rrow rs) → Step [] Hb (bl p2) H2 → (jo2 = true ↔ ∃ x, rs.getLast? = some x ∧ x.2 + 1 = hi) → RR (p2, rs.length, c2, jo2, IntKind.i64.wrap ((k : Int) + 1)) H2 := by
      rintro p2 c2 H2 rs jo2 rfl q1 q2 q3
      exact hRR _ _ ((risen l).length - 1 - (k + 1)) (Nat.sub_lt_sub_left hlt (Nat.lt_succ_self k)) ⟨k + 1, p2, c2, jo2, by rw [ek], by omega, rfl, q1, q2, by
        rw [q3]
        constructor
        · rintro ⟨x, h1, h2⟩; exact ⟨x, hi, h1, hhi, h2⟩
        · rintro ⟨x, b, h1, h2, h3⟩; rw [hhi] at h2; cases h2; exact ⟨x, h1, h3⟩⟩
    cases hg : canGo l lo with
    | false =>
      rw [if_pos (by simp)]
      refine ⟨?_⟩
      unfold vizardref18_Routes.J2.vc
      refine next (by rw [estep, stepR_no hg]) hown hst ⟨(fun h => by cases h), fun h => ?_⟩
      obtain ⟨x, h1, h2⟩ := h
      have := (hrt.each x (List.mem_of_getLast? h1)).2.2 lo hlo
      omega
    | true =>
      rw [if_neg (by simp)]
      obtain ⟨a2, ha2, hca2⟩ := int_get (ho.step hst (by simp)) hhi
      cases ha2
      refine ⟨a, rfl, by rw [ek]; omega, by rw [ek]; omega, hi, by rw [ek, Int.toNat_natCast]; exact hca2, ?_⟩
      have eh : IntKind.u32.wrap (IntKind.i64.wrap (hi - 1)) = hi - 1 := by rw [w_i64 (by omega) (by omega), w_u32 (by omega) (by omega)]
      dsimp only
      rw [eh]
      cases hjo0 : jo with
      | true =>
        obtain ⟨x, b, h1, h2, h3⟩ := hjo.1 hjo0
        rw [hlo] at h2; cases h2
        obtain ⟨acc, x', hacc⟩ := (snoc_cases (rtsTo (canGo l) (risen l) k)).resolve_left (fun e => by rw [e] at h1; cases h1)
        have hxx : x' = x := by rw [hacc] at h1; simpa using h1
        subst hxx
        rw [if_pos rfl]
        have hnl : (rtsTo (canGo l) (risen l) k).length = acc.length + 1 := by rw [hacc]; simp
        obtain ⟨a3, ha3, g1, g2, g3⟩ := route_get hown (i := acc.length) (x := x') (by rw [hacc]; simp)
        have en : IntKind.i64.wrap (((rtsTo (canGo l) (risen l) k).length : Int) - 1) = (acc.length : Int) := by rw [hnl, w_i64 (by omega) (by omega)]; omega
        refine ⟨a3, ha3, by rw [en]; omega, by rw [en, hnl]; omega, ?_⟩
        rw [en, Int.toNat_natCast]
        rw [hacc] at hown
        refine set_route (x := x'.1) (y := x'.2) hown ha3 fun H2 q1 q2 => ⟨?_⟩
        unfold vizardref18_Routes.J2.vc
        have := next (rs := acc ++ [(x'.1, hi - 1)]) (jo2 := true) (by rw [estep, hacc, stepR_join hg h3]) (p2 := p') (c2 := c') (H2 := H2) (by simpa using q1) (hst.trans q2) ⟨fun _ => ⟨(x'.1, hi - 1), by simp, by show hi - 1 + 1 = hi; omega⟩, fun _ => rfl⟩
        rw [hnl]
        simpa using this
      | false =>
        rw [if_neg (by simp)]
        obtain ⟨a4, ha4, hca4⟩ := int_get (ho.step hst (by simp)) hlo
        cases ha4
        refine ⟨a, rfl, by omega, by omega, lo, by simpa using hca4, ?_⟩
        dsimp only
        rw [w_u32 (n := lo) (by omega) (by omega)]
        have er : rtsTo (canGo l) (risen l) k ++ [(lo, hi - 1)] = rtsTo (canGo l) (risen l) (k + 1) := by
          rw [estep]
          rcases snoc_cases (rtsTo (canGo l) (risen l) k) with e | ⟨acc, x, e⟩
          · rw [e, stepR_nil hg]; rfl
          · rw [e, stepR_new hg]
            intro hx
            have := hjo.2 ⟨x, lo, by rw [e]; simp, hlo, hx⟩
            rw [hjo0] at this; cases this
        refine push_route hown (by omega) fun p2 c2 H2 q1 q2 => ⟨?_⟩
        unfold vizardref18_Routes.J2.vc
        have := next er (jo2 := true) (p2 := p2) (c2 := c2) (H2 := H2) (by simpa using q1) (hst.trans q2) ⟨fun _ => ⟨(lo, hi - 1), by simp, by show hi - 1 + 1 = hi; omega⟩, fun _ => rfl⟩
        simpa using this
  · rw [if_neg (by rw [ek]; simp only [decide_eq_true_eq]; omega)]
    have hkn : k = (risen l).length - 1 := by omega
    subst hkn
    exact h p' c' H hown hst
theorem vizardref18_Routes.run (hat : RulesAt Hb p n l) (hf : ∀ r ∈ l, r.fine) {K : Option Addr → Nat → Nat → Heap → Prop}
    (h : ∀ p' c' H, Heap.Le Hb H → RowsAt H p' (routes l).length 3 (rrow (routes l)) → K p' (routes l).length c' H) : vizardref18_Routes.c p n c K E Hb := by
  refine ⟨?_⟩
  unfold vizardref18_Routes.vc
  refine vizardref18_Check.run hat hf ?_
  have hlen := hat.len
  by_cases hc : checkL l = 0
  · rw [if_neg (by simpa using hc)]
    have h32 := checkL_len hc
    refine vizardref18_bounds.run hat (by omega) hf fun p1 c1 H1 q1 q2 => ?_
    refine vizardref18_Routes.each (hat.mono q2) hf hc q1 fun p' c' H4 u1 u2 => ?_
    have er : routes l = (rtsTo (canGo l) (risen l) ((risen l).length - 1)).take 16 := by unfold routes; rw [if_pos hc]; rfl
    have hlr : (routes l).length = min 16 (rtsTo (canGo l) (risen l) ((risen l).length - 1)).length := by rw [er, List.length_take]
    have hcap2 := u1.2.2.1
    have hrow := u1.at.take (m := (routes l).length) (by omega)
    have ex : rrow (routes l) = (rrow (rtsTo (canGo l) (risen l) ((risen l).length - 1))).take (routes l).length := by
      rw [hlr, er]
      unfold rrow
      rw [← List.map_take]
      congr 1
      rw [List.take_eq_take_iff]
      omega
    rw [← ex] at hrow
    by_cases h16 : 16 < (rtsTo (canGo l) (risen l) ((risen l).length - 1)).length
    · rw [if_pos (by simp only [decide_eq_true_eq]; omega)]
      have e16 : (routes l).length = 16 := by omega
      refine ⟨by omega, by omega, ⟨?_⟩⟩
      unfold vizardref18_Routes.J3.vc
      rw [slA_nul]
      rw [e16] at hrow
      have := h p' c' H4 (q2.trans u2.le) (by rw [e16]; exact hrow)
      rw [e16] at this
      exact ⟨H4, Heap.Le.refl _, this⟩
    · rw [if_neg (by simp only [decide_eq_true_eq]; omega)]
      have e16 : (rtsTo (canGo l) (risen l) ((risen l).length - 1)).length = (routes l).length := by omega
      rw [e16]
      refine ⟨?_⟩
      unfold vizardref18_Routes.J3.vc
      exact ⟨H4, Heap.Le.refl _, h p' c' H4 (q2.trans u2.le) hrow⟩
  · rw [if_pos (by simpa using hc)]
    have e : routes l = [] := by unfold routes; rw [if_neg hc]
    rw [e] at h
    exact ⟨Hb, Heap.Le.refl _, h none 0 Hb (Heap.Le.refl _) ⟨rfl, fun _ => rfl, fun a ha => by cases ha⟩⟩
end
theorem route_cell {H : Heap} {p : Option Addr} {n : Nat} {l : List (Int × Int)} (h : RowsAt H p n 3 (rrow l)) {i : Nat} {x : Int × Int} (hx : l[i]? = some x) : ∃ a, p = some a ∧ H.cell? ((a.add (i * 3)).add 0) = some (.int .u32 x.1) ∧ H.cell? ((a.add (i * 3)).add 1) = some (.int .u32 x.2) ∧ H.cell? ((a.add (i * 3)).add 2) = some (.int .i64 0) := by
  obtain ⟨a, ha, hc⟩ := h.cell (i := i) (es := [.int .u32 x.1, .int .u32 x.2, .int .i64 0]) (by simp [rrow, hx])
  exact ⟨a, ha, hc 0 _ rfl, hc 1 _ rfl, hc 2 _ rfl⟩
theorem routes_len (l : List Rul) : (routes l).length ≤ 16 := by
  unfold routes
  split
  · unfold rts; rw [List.length_take]; omega
  · simp
theorem vizardlaw18_PolicyRoutes.go {H0 : Heap} {p : Option Addr} {n c : Nat} {l : List Rul} (hat : RulesAt H0 p n l) (hn : n * 48 ≤ 140737488351232) (hf : ∀ r ∈ l, r.fine) {K : Bool → Heap → Prop} {E : Value → Heap → Prop} (h : K true H0) : vizardlaw18_PolicyRoutes.c p n c K E H0 := by
  refine ⟨?_⟩
  unfold vizardlaw18_PolicyRoutes.vc
  refine vizardlaw18_own.run hat hn fun p1 c1 H1 hle1 hat1 => ?_
  refine policy_Routes.run hat1 hf fun p2 c2 H2 hle2 hr2 => ?_
  refine vizardref18_Routes.run (hat.mono (hle1.trans hle2)) hf fun p3 c3 H3 hle3 hr3 => ?_
  rw [if_neg (by simp)]
  have hlen := routes_len l
  have hr2 := hr2.mono hle3
  refine ⟨Loop.of (I := fun st H m => ∃ k : Nat, st = (k : Int) ∧ k ≤ (routes l).length ∧ m = (routes l).length - k ∧ H = H3) ?_ ⟨0, rfl, Nat.zero_le _, rfl, rfl⟩⟩
  rintro m st H ⟨k, rfl, hk, rfl, rfl⟩ RR hRR
  unfold vizardlaw18_PolicyRoutes.W1.vc
  by_cases hlt : k < (routes l).length
  · rw [if_pos (by simp; omega)]
    obtain ⟨x, hx⟩ : ∃ x, (routes l)[k]? = some x := ⟨(routes l)[k], List.getElem?_eq_getElem hlt⟩
    obtain ⟨a, rfl, f0, f1, f2⟩ := route_cell hr2 hx
    obtain ⟨b, rfl, g0, g1, g2⟩ := route_cell hr3 hx
    refine ⟨a, rfl, by omega, by omega, x.1, f0, b, rfl, by omega, by omega, x.1, g0, ?_⟩
    dsimp only
    rw [if_neg (by simp)]
    refine ⟨a, rfl, by omega, by omega, x.2, f1, b, rfl, by omega, by omega, x.2, g1, ?_⟩
    dsimp only
    rw [if_neg (by simp)]
    refine ⟨a, rfl, by omega, by omega, 0, f2, b, rfl, by omega, by omega, 0, g2, ⟨?_⟩⟩
    unfold vizardlaw18_PolicyRoutes.J2.vc
    rw [if_neg (by simp)]
    refine ⟨?_⟩
    unfold vizardlaw18_PolicyRoutes.J3.vc
    exact hRR _ _ ((routes l).length - (k + 1)) (by omega) ⟨k + 1, by rw [w_i64 (by omega) (by omega)]; rfl, by omega, rfl, rfl⟩
  · rw [if_neg (by simp; omega)]
    exact ⟨H0, hle1.trans (hle2.trans hle3), h⟩
/-- Rules, as the argument's rows are read. -/
theorem rules_of {H : Heap} {p : Option Addr} {n : Nat} (hrows : ∃ rows, RowsAt H p n 6 rows ∧ ∀ es ∈ rows, ∃ y0 y1 y2 y3 y4 y5, es = [(.bool y0), (.int .i64 y1), (.int .u32 y2), (.int .i64 y3), (.int .i64 y4), (.int .i64 y5)] ∧ IntKind.i64.has y1 ∧ IntKind.u32.has y2 ∧ IntKind.i64.has y3 ∧ IntKind.i64.has y4 ∧ IntKind.i64.has y5) :
    ∃ l : List Rul, RulesAt H p n l ∧ ∀ r ∈ l, r.fine := by
  obtain ⟨rows, hat, hes⟩ := hrows
  have : ∃ l : List Rul, rows = l.map Rul.cells ∧ ∀ r ∈ l, r.fine := by
    clear hat
    induction rows with
    | nil => exact ⟨[], rfl, fun r hr => by cases hr⟩
    | cons es rows ih =>
      obtain ⟨l, rfl, hl⟩ := ih fun es he => hes es (by simp [he])
      obtain ⟨y0, y1, y2, y3, y4, y5, rfl, _, h2, _⟩ := hes es (by simp)
      have h2 := has_u32 h2
      refine ⟨⟨y0, y1, y2, y3, y4, y5⟩ :: l, rfl, fun r hr => ?_⟩
      rcases List.mem_cons.1 hr with rfl | hr
      · exact ⟨h2.1, by show y2 < 4294967296; omega⟩
      · exact hl r hr
  obtain ⟨l, rfl, hl⟩ := this
  exact ⟨l, hat, hl⟩
theorem vizardlaw18_PolicyRoutes.run {H : Heap} {p : Option Addr} {n c : Nat} {K : Bool → Heap → Prop} {E : Value → Heap → Prop} (hnc : n ≤ c) (hw : c * 48 ≤ reachBytes)
    (hrows : ∃ rows, RowsAt H p n 6 rows ∧ ∀ es ∈ rows, ∃ y0 y1 y2 y3 y4 y5, es = [(.bool y0), (.int .i64 y1), (.int .u32 y2), (.int .i64 y3), (.int .i64 y4), (.int .i64 y5)] ∧ IntKind.i64.has y1 ∧ IntKind.u32.has y2 ∧ IntKind.i64.has y3 ∧ IntKind.i64.has y4 ∧ IntKind.i64.has y5)
    (h : K true H) : vizardlaw18_PolicyRoutes.c p n c K E H := by
  obtain ⟨l, hat, hl⟩ := rules_of hrows
  have hr : reachBytes = 140737488351232 := rfl
  exact vizardlaw18_PolicyRoutes.go hat (by omega) hl h
end Go.Sh
