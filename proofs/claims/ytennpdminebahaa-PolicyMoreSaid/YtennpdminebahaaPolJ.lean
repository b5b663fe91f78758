/- That the program works at one list of rules; PolicyCovers, PolicyFirst, PolicyMore. -/
import Derived.Test.YtennpdminebahaaPolI
namespace Go.Sh
/-! ### One list of rules -/
def wl : List Rul := [⟨false, 0, 167772161, 32, 0, 65535⟩, ⟨true, 17, 167772160, 30, 53, 53⟩]
theorem wl_fine : ∀ r ∈ wl, r.fine := by
  intro r hr
  simp only [wl, List.mem_cons, List.not_mem_nil, or_false] at hr
  rcases hr with rfl | rfl <;> exact ⟨by decide, by decide⟩
theorem pw32 : pw 32 = 1 := by decide
theorem pw30 : pw 30 = 4 := by decide
theorem chk1 : chk 167772161 32 = true := by decide
theorem chk2 : chk 167772160 30 = true := by decide
theorem wl_check : checkL wl = 0 := by decide
theorem wl_has1 (a : Int) : hasB 167772161 32 a = decide (a = 167772161) := by
  unfold hasB
  rw [chk1, pw32, Bool.true_and]
  apply decide_eq_decide.2
  omega
theorem wl_has2 (a : Int) : hasB 167772160 30 a = decide (167772160 ≤ a ∧ a ≤ 167772163) := by
  unfold hasB
  rw [chk2, pw30, Bool.true_and]
  apply decide_eq_decide.2
  omega
theorem wl_fits1 (p a s : Int) : Rul.fits p a s ⟨false, 0, 167772161, 32, 0, 65535⟩ = (decide (a = 167772161) && (decide (s ≥ 0) && decide (s ≤ 65535))) := by
  unfold Rul.fits
  rw [wl_has1]
  simp
theorem wl_fits2 (p a s : Int) : Rul.fits p a s ⟨true, 17, 167772160, 30, 53, 53⟩ = ((17 == p) && (decide (167772160 ≤ a ∧ a ≤ 167772163) && (decide (s ≥ 53) && decide (s ≤ 53)))) := by
  unfold Rul.fits
  rw [wl_has2]
  simp
theorem wl_no {a : Int} (h : ¬ (167772160 ≤ a ∧ a ≤ 167772163) ∨ a = 167772161) : canGo wl a = false := by
  refine (canGo_of (b := false) ⟨(fun h => by cases h), ?_⟩).symm
  rintro ⟨p, s, ⟨p1, p2⟩, ⟨h0, h1⟩, hal⟩
  unfold allowL wl at hal
  rw [List.find?_cons, wl_fits1, List.find?_cons, wl_fits2] at hal
  rcases h with h | h
  · rw [decide_eq_false (show ¬ a = 167772161 by omega), decide_eq_false h] at hal
    simp at hal
  · rw [decide_eq_true h, decide_eq_true (show s ≥ 0 by omega), decide_eq_true h1] at hal
    simp at hal
theorem wl_yes {a : Int} (h : 167772160 ≤ a ∧ a ≤ 167772163) (h1 : a ≠ 167772161) : canGo wl a = true := by
  refine (canGo_of (b := true) ⟨fun _ => ⟨17, 53, by omega, by omega, ?_⟩, fun _ => rfl⟩).symm
  unfold allowL wl
  rw [List.find?_cons, wl_fits1, List.find?_cons, wl_fits2, decide_eq_false h1, decide_eq_true h]
  simp
theorem wl_bnds : bnds wl = [167772161, 167772162, 167772160, 167772164] := by
  unfold bnds wl ends1 ends2
  simp [chk1, chk2, pw32, pw30]
theorem wl_risen : risen wl = [0, 167772160, 167772161, 167772162, 167772164, 4294967296] := by
  refine rise_ext (risen_pair wl) (by decide) fun x => ?_
  rw [risen_mem, wl_bnds]
  simp only [List.mem_cons, List.not_mem_nil, or_false]
  constructor
  · rintro (h | h | h | h | h | h) <;> simp [h]
  · rintro (h | h | h | h | h | h) <;> simp [h]
theorem wl_routes : (routes wl).length = 2 := by
  unfold routes
  rw [if_pos wl_check, wl_risen]
  unfold rts
  have e1 : canGo wl 0 = false := wl_no (.inl (by omega))
  have e2 : canGo wl 167772160 = true := wl_yes (by omega) (by omega)
  have e3 : canGo wl 167772161 = false := wl_no (.inr rfl)
  have e4 : canGo wl 167772162 = true := wl_yes (by omega) (by omega)
  have e5 : canGo wl 167772164 = false := wl_no (.inl (by omega))
  simp [rtsTo, stepR, e1, e2, e3, e4, e5]
theorem vizardlaw18_works.run {H : Heap} {K : Bool → Heap → Prop} {E : Value → Heap → Prop} (h : K true H) : vizardlaw18_works.c K E H := by
  refine ⟨?_⟩
  unfold vizardlaw18_works.vc
  intro b hb
  have hat : RulesAt (H.set b (.cells #[(.bool false), (.int .i64 0), (.int .u32 167772161), (.int .i64 32), (.int .i64 0), (.int .i64 65535), (.bool true), (.int .i64 17), (.int .u32 167772160), (.int .i64 30), (.int .i64 53), (.int .i64 53)] 40)) (some ⟨b, 0, none⟩) 2 wl :=
    OwnRows.at (e := 40) (c := 2) ⟨rfl, rul_len wl, Nat.le_refl _, .inr ⟨b, _, rfl, set_self _ _ _, rfl, rfl⟩⟩
  have m1 : mayGo wl 17 167772162 53 = true := by decide
  have m2 : mayGo wl 17 167772161 53 = false := by decide
  have m3 : mayGo wl 6 167772162 53 = false := by decide
  refine policy_Allow.run hat wl_fine ⟨by omega, by omega⟩ ?_
  rw [m1, if_pos rfl]
  refine policy_Allow.run hat wl_fine ⟨by omega, by omega⟩ ?_
  rw [m2, if_pos (by simp)]
  refine policy_Allow.run hat wl_fine ⟨by omega, by omega⟩ ?_
  rw [m3, if_pos (by simp)]
  refine policy_Routes.run hat wl_fine fun p' c' H' hle _ => ⟨H, (Le_set hb _).trans hle, ?_⟩
  rw [wl_routes]
  exact h
/-! ### PolicyCovers -/
theorem routes_facts {l : List Rul} (hf : ∀ r ∈ l, r.fine) : (∀ x ∈ routes l, 0 ≤ x.1 ∧ x.1 ≤ x.2 ∧ x.2 < 4294967296) ∧ (routes l).Pairwise fun x y => x.2 + 1 < y.1 := by
  unfold routes
  split
  · have hrs := risen_rises hf
    have h2 := risen_two l
    have hrt := rts_ok (g := canGo l) hrs ((risen l).length - 1) (by omega)
    unfold rts
    refine ⟨fun x hx => ?_, hrt.apart.sublist (List.take_sublist _ _)⟩
    have h3 := hrt.each x (List.mem_of_mem_take hx)
    obtain ⟨b, hb⟩ : ∃ b, (risen l)[(risen l).length - 1]? = some b := ⟨_, List.getElem?_eq_getElem (by omega)⟩
    have h4 := h3.2.2 b hb
    have h5 := (hrs.range b (List.mem_of_getElem? hb)).2
    omega
  · exact ⟨by simp, by simp⟩
theorem risen_at {l : List Rul} {a : Int} (h0 : 0 ≤ a) (h1 : a < 4294967296) : ∃ i b b', i < (risen l).length - 1 ∧ (risen l)[i]? = some b ∧ (risen l)[i + 1]? = some b' ∧ b ≤ a ∧ a < b' ∧ ∀ x ∈ risen l, x ≤ a → x ≤ b := by
  obtain ⟨x, hx, hxa, hall⟩ := best_le (b := a) (risen l) ⟨0, risen_mem.2 (.inl rfl), h0⟩
  obtain ⟨i, hi⟩ := List.getElem?_of_mem hx
  have hil := (List.getElem?_eq_some_iff.1 hi).1
  have hlt : i + 1 < (risen l).length := by
    rcases Nat.lt_or_ge (i + 1) (risen l).length with h | h
    · exact h
    · exfalso
      obtain ⟨j, hj⟩ := List.getElem?_of_mem ((risen_mem (l := l) (x := 4294967296)).2 (.inr (.inl rfl)))
      have hjl := (List.getElem?_eq_some_iff.1 hj).1
      by_cases e : j = i
      · subst e; rw [hi] at hj; cases hj; omega
      · have := risen_lt hj hi (by omega); omega
  have hb' : (risen l)[i + 1]? = some (risen l)[i + 1] := List.getElem?_eq_getElem hlt
  refine ⟨i, x, _, by omega, hi, hb', hxa, ?_, hall⟩
  have h5 := risen_lt hi hb' (by omega)
  by_cases h6 : a < (risen l)[i + 1]
  · exact h6
  · have := hall _ (List.getElem_mem hlt) (by omega)
    omega
theorem same_has {l : List Rul} (hl : l.all Rul.right = true) {r : Rul} (hr : r ∈ l) {a b : Int} (hba : b ≤ a) (hall : ∀ x ∈ risen l, x ≤ a → x ≤ b) : hasB r.addr r.bits b = hasB r.addr r.bits a := by
  have hc := (rights hl hr).2.2.1
  have m1 : ends1 r.addr r.bits ∈ risen l := risen_mem.2 (.inr (.inr (List.mem_flatMap.2 ⟨r, hr, by simp⟩)))
  have m2 : ends2 r.addr r.bits + 1 ∈ risen l := risen_mem.2 (.inr (.inr (List.mem_flatMap.2 ⟨r, hr, by simp⟩)))
  have e1 : ends1 r.addr r.bits = r.addr := by unfold ends1; rw [if_pos hc]
  have e2 : ends2 r.addr r.bits + 1 = r.addr + pw r.bits := by unfold ends2; rw [if_pos hc]; omega
  have h1 := hall _ m1
  have h2 := hall _ m2
  rw [e1] at h1
  rw [e2] at h2
  unfold hasB
  rw [hc]
  apply Bool.eq_iff_iff.2
  simp only [Bool.true_and, decide_eq_true_eq]
  omega
theorem covered {l : List Rul} (hf : ∀ r ∈ l, r.fine) {proto dst port : Int} (hd : 0 ≤ dst ∧ dst < 4294967296) (hp : 1 ≤ proto ∧ proto ≤ 255) (ho : 0 ≤ port ∧ port ≤ 65535) (h16 : (routes l).length < 16) (h : mayGo l proto dst port = true) : ∃ x ∈ routes l, x.1 ≤ dst ∧ dst ≤ x.2 := by
  unfold mayGo at h
  rw [Bool.and_eq_true, beq_iff_eq] at h
  obtain ⟨hc, hal⟩ := h
  have hl := right_all hc
  obtain ⟨i, b, b', hi, hb, hb', h1, h2, hall⟩ := risen_at (l := l) hd.1 hd.2
  have hg : canGo l b = true := by
    refine (canGo_of (b := true) ⟨fun _ => ⟨proto, port, hp, ho, ?_⟩, fun _ => rfl⟩).symm
    rw [← hal]
    refine allow_congr fun r hr => ?_
    unfold Rul.fits
    rw [same_has hl hr h1 hall]
  have hrt := rts_ok (g := canGo l) (risen_rises hf) ((risen l).length - 1) (by have := risen_two l; omega)
  have er : routes l = (rtsTo (canGo l) (risen l) ((risen l).length - 1)).take 16 := by unfold routes; rw [if_pos hc]; rfl
  have hlr : (routes l).length = min 16 (rtsTo (canGo l) (risen l) ((risen l).length - 1)).length := by rw [er, List.length_take]
  rw [er, List.take_of_length_le (by omega)]
  exact hrt.cover i b b' dst hi hb hb' hg h1 h2
theorem vizardlaw18_PolicyCovers.go {H0 : Heap} {p : Option Addr} {n c : Nat} {l : List Rul} {proto dst port : Int} (hat : RulesAt H0 p n l) (hn : n * 48 ≤ 140737488351232) (hf : ∀ r ∈ l, r.fine) (hd : 0 ≤ dst ∧ dst < 4294967296) {K : Bool → Heap → Prop} {E : Value → Heap → Prop} (h : K true H0) : vizardlaw18_PolicyCovers.c p n c proto dst port K E H0 := by
  refine ⟨?_⟩
  unfold vizardlaw18_PolicyCovers.vc
  refine vizardlaw18_works.run ?_
  rw [if_neg (by simp)]
  refine vizardlaw18_own.run hat hn fun p1 c1 H1 hle1 hat1 => ?_
  refine policy_Routes.run hat1 hf fun p2 c2 H2 hle2 hr2 => ?_
  have hlen := routes_len l
  obtain ⟨hfac, hap⟩ := routes_facts hf
  have hle : Heap.Le H0 H2 := hle1.trans hle2
  have hfin : ∃ H', Heap.Le H' H2 ∧ K true H' := ⟨H0, hle, h⟩
  refine ⟨Loop.of (I := fun st H m => ∃ k : Nat, st.2 = (k : Int) ∧ k ≤ (routes l).length ∧ m = (routes l).length - k ∧ H = H2 ∧ (st.1 = true ↔ ∃ x ∈ (routes l).take k, x.1 ≤ dst ∧ dst ≤ x.2)) ?_ ⟨0, rfl, Nat.zero_le _, rfl, rfl, by simp⟩⟩
  rintro m ⟨in0, i0⟩ H ⟨k, hk0, hk, rfl, rfl, hin⟩ RR hRR
  dsimp only at hk0 hin
  subst hk0
  unfold vizardlaw18_PolicyCovers.W1.vc
  dsimp only
  by_cases hlt : k < (routes l).length
  · rw [if_pos (by simp; omega)]
    obtain ⟨x, hx⟩ : ∃ x, (routes l)[k]? = some x := ⟨(routes l)[k], List.getElem?_eq_getElem hlt⟩
    have hxf := hfac x (List.mem_of_getElem? hx)
    obtain ⟨a, rfl, f0, f1, f2⟩ := route_cell hr2 hx
    have fin : vizardlaw18_PolicyCovers.J2 p n c proto dst port (some a) (routes l).length c2 in0 (k : Int) ((0 : Int) != 0) (fun h13 => vizardlaw18_PolicyCovers.J3 p n c proto dst port (some a) (routes l).length c2 in0 (k : Int) (fun in4 h14 => vizardlaw18_PolicyCovers.J4 p n c proto dst port (some a) (routes l).length c2 in4 (k : Int) (fun i4 h15 => RR (in4, i4) h15) E h14) E h13) (fun r H => ∃ H', Heap.Le H' H ∧ K r H') E H := by
      refine ⟨?_⟩
      unfold vizardlaw18_PolicyCovers.J2.vc
      rw [if_neg (by simp)]
      have next : ∀ {b : Bool}, (b = true ↔ in0 = true ∨ (x.1 ≤ dst ∧ dst ≤ x.2)) → vizardlaw18_PolicyCovers.J4 p n c proto dst port (some a) (routes l).length c2 b (k : Int) (fun i4 h15 => RR (b, i4) h15) E H := fun hb => by
        refine ⟨?_⟩
        unfold vizardlaw18_PolicyCovers.J4.vc
        refine hRR _ _ ((routes l).length - (k + 1)) (by omega) ⟨k + 1, by show IntKind.i64.wrap ((k : Int) + 1) = _; rw [w_i64 (by omega) (by omega)]; rfl, by omega, rfl, rfl, ?_⟩
        show _ ↔ _
        rw [hb, hin, List.take_add_one, hx]
        simp only [Option.toList_some, List.mem_append, List.mem_singleton]
        constructor
        · rintro (⟨y, hy, e⟩ | e)
          · exact ⟨y, .inl hy, e⟩
          · exact ⟨x, .inr rfl, e⟩
        · rintro ⟨y, hy | rfl, e⟩
          · exact .inl ⟨y, hy, e⟩
          · exact .inr e
      refine ⟨?_⟩
      unfold vizardlaw18_PolicyCovers.J3.vc
      cases hi0 : in0 with
      | true =>
        rw [if_pos rfl]
        exact next ⟨fun _ => .inl hi0, fun _ => rfl⟩
      | false =>
        rw [if_neg (by simp)]
        refine ⟨a, rfl, by omega, by omega, x.1, f0, ?_⟩
        dsimp only
        by_cases h1 : dst ≥ x.1
        · rw [if_pos (by simpa using h1)]
          refine ⟨a, rfl, by omega, by omega, x.2, f1, ?_⟩
          refine next ⟨fun e => .inr ⟨h1, by simpa using e⟩, fun e => ?_⟩
          rcases e with e | e
          · rw [hi0] at e; cases e
          · simpa using e.2
        · rw [if_neg (by simpa using h1)]
          refine next ⟨(fun e => by cases e), fun e => ?_⟩
          rcases e with e | e
          · rw [hi0] at e; cases e
          · exact absurd e.1 h1
    refine ⟨a, rfl, by omega, by omega, x.1, f0, a, rfl, by omega, by omega, x.2, f1, ?_⟩
    dsimp only
    rw [if_neg (by simp only [decide_eq_true_eq]; omega)]
    by_cases h0 : k = 0
    · rw [if_neg (by simp [h0])]
      exact ⟨a, rfl, by omega, by omega, 0, f2, fin⟩
    · rw [if_pos (by simp only [decide_eq_true_eq]; omega)]
      obtain ⟨y, hy⟩ : ∃ y, (routes l)[k - 1]? = some y := ⟨(routes l)[k - 1]'(by omega), List.getElem?_eq_getElem (by omega)⟩
      have hyf := hfac y (List.mem_of_getElem? hy)
      have hxy : y.2 + 1 < x.1 := by
        obtain ⟨h1, rfl⟩ := List.getElem?_eq_some_iff.1 hy
        obtain ⟨h2, rfl⟩ := List.getElem?_eq_some_iff.1 hx
        exact List.pairwise_iff_getElem.1 hap (k - 1) k h1 h2 (by omega)
      obtain ⟨a2, ha2, g0, g1, g2⟩ := route_cell hr2 hy
      cases ha2
      have en : IntKind.i64.wrap ((k : Int) - 1) = ((k - 1 : Nat) : Int) := by rw [w_i64 (by omega) (by omega)]; omega
      refine ⟨a, rfl, by omega, by omega, x.1, f0, a, rfl, by rw [en]; omega, by rw [en]; omega, y.2, by rw [en, Int.toNat_natCast]; exact g1, ?_⟩
      have ew : IntKind.i64.wrap (IntKind.i64.wrap y.2 + 1) = y.2 + 1 := by rw [w_i64 (n := y.2) (by omega) (by omega), w_i64 (by omega) (by omega)]
      dsimp only
      rw [ew, w_i64 (n := x.1) (by omega) (by omega), if_neg (by simp only [decide_eq_true_eq]; omega)]
      exact ⟨a, rfl, by omega, by omega, 0, f2, fin⟩
  · rw [if_neg (by simp; omega)]
    rw [List.take_of_length_le (by omega)] at hin
    have yes : ∀ {Kn : Heap → Prop}, vizardlaw18_PolicyCovers.J5 p n c proto dst port p2 (routes l).length c2 in0 true Kn (fun r H => ∃ H', Heap.Le H' H ∧ K r H') E H := fun {Kn} => by
      refine ⟨?_⟩
      unfold vizardlaw18_PolicyCovers.J5.vc
      rw [if_pos rfl, decide_eq_true (by omega)]
      exact hfin
    by_cases g1 : ((routes l).length : Int) ≥ 16
    · rw [if_pos (by simpa using g1)]
      exact yes
    · rw [if_neg (by simpa using g1)]
      by_cases g2 : proto < 1
      · rw [if_pos (by simpa using g2)]
        exact yes
      · rw [if_neg (by simpa using g2)]
        by_cases g3 : proto > 255
        · rw [if_pos (by simpa using g3)]
          exact yes
        · rw [if_neg (by simpa using g3)]
          by_cases g4 : port < 0
          · rw [if_pos (by simpa using g4)]
            exact yes
          · rw [if_neg (by simpa using g4)]
            by_cases g5 : port > 65535
            · rw [decide_eq_true g5]
              exact yes
            · rw [decide_eq_false g5]
              refine ⟨?_⟩
              unfold vizardlaw18_PolicyCovers.J5.vc
              rw [if_neg (by simp)]
              refine ⟨?_⟩
              unfold vizardlaw18_PolicyCovers.J6.vc
              cases hi0 : in0 with
              | true => rw [if_pos rfl]; exact hfin
              | false =>
                rw [if_neg (by simp)]
                refine vizardlaw18_own.run (hat.mono hle) hn fun p3 c3 H3 hle3 hat3 => ?_
                refine policy_Allow.run hat3 hf hd ?_
                have : mayGo l proto dst port = false := by
                  cases hm : mayGo l proto dst port with
                  | false => rfl
                  | true =>
                    have := hin.2 (covered hf hd ⟨by omega, by omega⟩ ⟨by omega, by omega⟩ (by omega) hm)
                    rw [hi0] at this; cases this
                rw [this]
                exact ⟨H0, hle.trans hle3, h⟩
theorem vizardlaw18_PolicyCovers.run {H : Heap} {p : Option Addr} {n c : Nat} {proto dst port : Int} {K : Bool → Heap → Prop} {E : Value → Heap → Prop} (hnc : n ≤ c) (hw : c * 48 ≤ reachBytes)
    (hrows : ∃ rows, RowsAt H p n 6 rows ∧ ∀ es ∈ rows, ∃ y0 y1 y2 y3 y4 y5, es = [(.bool y0), (.int .i64 y1), (.int .u32 y2), (.int .i64 y3), (.int .i64 y4), (.int .i64 y5)] ∧ IntKind.i64.has y1 ∧ IntKind.u32.has y2 ∧ IntKind.i64.has y3 ∧ IntKind.i64.has y4 ∧ IntKind.i64.has y5)
    (_ : IntKind.i64.has proto) (hd : IntKind.u32.has dst) (_ : IntKind.i64.has port) (h : K true H) : vizardlaw18_PolicyCovers.c p n c proto dst port K E H := by
  obtain ⟨l, hat, hl⟩ := rules_of hrows
  have hd := has_u32 hd
  have hr : reachBytes = 140737488351232 := rfl
  exact vizardlaw18_PolicyCovers.go hat (by omega) hl ⟨hd.1, by omega⟩ h
end Go.Sh
