/- target.Parse, which catches what its tests throw. -/
import Derived.Test.YtpmgchippfmakaaDoorTgx
namespace Go.Sh
open Go.Proofs Num Go.RowKit
set_option maxRecDepth 8000
def namesL : List ByteArray := [mNm, sNm, aNm, hNm]
theorem getF_ok {l : FL} {n v : ByteArray} (hc : chkL l = true) (h : getF l n = some v) : v.size ≤ 256 := by
  unfold getF at h
  split at h
  · rename_i h1
    obtain ⟨f, hf⟩ := List.length_eq_one_iff.1 h1
    unfold lastV at h
    rw [hf] at h
    have hv : f.2 = v := by simpa using h
    have hm : f ∈ l := by
      have : f ∈ hits l n := by rw [hf]; simp
      unfold hits at this
      exact (List.mem_filter.1 this).1
    unfold chkL at hc
    rw [Bool.and_eq_true] at hc
    have := List.all_eq_true.1 hc.2 f hm
    unfold fieldOk at this
    simp only [Bool.and_eq_true, decide_eq_true_eq] at this
    rw [← hv]
    exact this.1.1.1.2
  · cases h
theorem parse_lack {l : FL} {n : ByteArray} (hm : n ∈ namesL) (hn : getF l n = none) : parseL l = badA 400 := by
  unfold parseL
  split
  · simp only [namesL, List.mem_cons, List.not_mem_nil, or_false] at hm
    split
    · rename_i h1 h2 h3 h4
      rcases hm with rfl | rfl | rfl | rfl
      · rw [hn] at h1; cases h1
      · rw [hn] at h2; cases h2
      · rw [hn] at h3; cases h3
      · rw [hn] at h4; cases h4
    · rfl
  · rfl
theorem MapS.ext {H : Heap} {r : Nat} {f g : ByteArray → Option Value} (h : MapS H r f) (e : ∀ n, f n = g n) : MapS H r g := by
  have : f = g := funext e
  rw [← this]; exact h
section
variable {H : Heap} {p : Option Addr} {n c : Nat} {l : FL} {b0 b1 : Nat} {E : Value → Heap → Prop} {Kr : Heap → Prop}
/-- The result's two variables, and all that was there before them. -/
structure Gd (H : Heap) (b0 b1 : Nat) (H' : Heap) : Prop where
  t : H' b0 = some (.cells #[.bool false, .int .u32 0, .int .i64 0] 24)
  n : H' b1 = some (.cells #[.int .i64 0] 3)
  le : Heap.Le H H'
theorem Gd.step {H1 H2 : Heap} (h : Gd H b0 b1 H1) (hl : Heap.Le H1 H2) : Gd H b0 b1 H2 := ⟨hl _ _ h.t, hl _ _ h.n, h.le.trans hl⟩
/-- The answer is laid. -/
structure Ps (H : Heap) (p : Option Addr) (n : Nat) (l : FL) (b0 b1 : Nat) (E : Value → Heap → Prop) (Kr : Heap → Prop) : Prop where
  g : GH H
  hr : RowsAt H p n 2 (rF l)
  hn : n ≤ 4611686018427387904
  n0 : H b0 = none
  n1 : H b1 = none
  ne : b1 ≠ b0
  bad : ∀ (x : Nat) H', Gd H b0 b1 H' → parseL l = badA x → E (.iface 48 (.int .i64 (x : Int))) H'
  good : ∀ ip a q H', parseL l = (ip, a, q, 200) → H' b0 = some (.cells #[.bool ip, .int .u32 (a : Int), .int .i64 (q : Int)] 24) → H' b1 = some (.cells #[.int .i64 200] 3) → Heap.Le H H' → Kr H'
theorem Ps.lay (s : Ps H p n l b0 b1 E Kr) {Hc : Heap} (g : Gd H b0 b1 Hc) {ip : Bool} {a q : Nat} (h : parseL l = (ip, a, q, 200)) :
    stc Hc ((⟨b0, 0, none⟩ : Addr).add 0) (.bool ip) fun h1 => stc h1 ((⟨b0, 0, none⟩ : Addr).add 1) (.int .u32 (a : Int)) fun h2 => stc h2 ((⟨b0, 0, none⟩ : Addr).add 2) (.int .i64 (q : Int)) fun h3 => stc h3 ⟨b1, 0, none⟩ (.int .i64 200) Kr := by
  refine st3_loc g.t ?_
  refine stc0 (by rw [set_ne _ _ s.ne]; exact g.n) (s.good ip a q _ h (by rw [set_ne _ _ (Ne.symm s.ne)]; exact set_self _ _ _) (set_self _ _ _) ?_)
  intro k o hk
  rw [set_ne _ _ (fun e => by rw [e, s.n1] at hk; cases hk), set_ne _ _ (fun e => by rw [e, s.n0] at hk; cases hk)]
  exact g.le k o hk
/-- A test of which it is known what its failing means. -/
theorem Ps.chk (s : Ps H p n l b0 b1 E Kr) {Hc : Heap} (g : Gd H b0 b1 Hc) {ok : Bool} {x : Nat} {K : Heap → Prop} (h1 : ok = true → K Hc) (h0 : ok = false → parseL l = badA x) : target_check.c ok (x : Int) K E Hc :=
  target_check.run h1 fun h => s.bad x Hc g (h0 h)
theorem target_Parse.J8.run (s : Ps H p n l b0 b1 E Kr) {Hc : Heap} (g : Gd H b0 b1 Hc) (h : parseL l = (true, 0, 0, 200)) : target_Parse.J8 ⟨b0, 0, none⟩ ⟨b1, 0, none⟩ Kr E Hc := ⟨s.lay g h⟩
open Classical in
noncomputable def valF (l : FL) (i : Nat) (n : ByteArray) : Option Value := if n ∈ namesL.take i then (getF l n).map .string else none
theorem look_name {r : Nat} {Hc : Heap} (hm : MapS Hc r (valF l 4)) {nm v z : ByteArray} (hn : nm ∈ namesL) (hv : getF l nm = some v) {K : ByteArray → Bool → Prop} (h : K v true) : lookS .string (some r) (.string nm) z K Hc := by
  have e : valF l 4 nm = some (.string v) := by
    unfold valF
    rw [if_pos (by exact hn), hv]
    rfl
  refine hm.look (fun x hx => ?_) (fun hx => ?_)
  · rw [e] at hx
    cases hx
    exact ⟨v, rfl, h⟩
  · rw [e] at hx; cases hx
theorem target_Parse.J7.run (s : Ps H p n l b0 b1 E Kr) {Hc : Heap} {r : Nat} (g : Gd H b0 b1 Hc) (hm : MapS Hc r (valF l 4)) {m sc a h pv : ByteArray} (hh : getF l hNm = some h) (hk : chkL l = true) (hP : parseL l = restA l m sc a h) (hp : getF l pNm = some pv) (hpv : pv = udpB ∨ pv = ipB)
    (hR : restA l m sc a h = if getF l pNm = some ipB then (if h = packB then (true, 0, 0, 200) else badA 404) else match udpV h with | some x => (false, x.1, x.2, 200) | none => badA 404) : target_Parse.J7 ⟨b0, 0, none⟩ ⟨b1, 0, none⟩ (some r) pv Kr E Hc := by
  refine ⟨?_⟩
  unfold target_Parse.J7.vc
  rw [ba_eq]
  have hmem : hNm ∈ namesL := by simp [namesL]
  rw [hR, hp] at hP
  by_cases hi : pv = ipB
  · rw [if_pos (by rw [decide_eq_true_eq]; exact hi)]
    rw [if_pos (by rw [hi])] at hP
    refine look_name hm hmem hh ?_
    rw [ba_eq]
    refine s.chk (x := 404) g (fun hb => target_Parse.J8.run s g ?_) (fun hb => ?_)
    · rw [decide_eq_true_eq] at hb
      rw [hP, if_pos hb]
    · rw [decide_eq_false_iff_not] at hb
      rw [hP, if_neg hb]
  · rw [if_neg (by rw [decide_eq_true_eq]; exact hi)]
    rw [if_neg (fun e => hi (Option.some.inj e))] at hP
    refine look_name hm hmem hh ?_
    refine target_parse.run (s.g.le g.le) (by have := getF_ok hk hh; omega) (fun x hx H' hl => s.lay (g.step hl) ?_) (fun hx H' hl => s.bad 404 H' (g.step hl) ?_)
    · rw [hP, hx]
    · rw [hP, hx]
theorem target_Parse.J6.run (s : Ps H p n l b0 b1 E Kr) {Hc : Heap} {r : Nat} (g : Gd H b0 b1 Hc) (hm : MapS Hc r (valF l 4)) {m sc a h pv : ByteArray} (hsc : getF l sNm = some sc) (ha : getF l aNm = some a) (hh : getF l hNm = some h) (hk : chkL l = true) (hP : parseL l = restA l m sc a h) (hp : getF l pNm = some pv) (hpv : pv = udpB ∨ pv = ipB) (hmc : m = connB) :
    target_Parse.J6 p n c ⟨b0, 0, none⟩ ⟨b1, 0, none⟩ (some r) pv Kr E Hc := by
  refine ⟨?_⟩
  unfold target_Parse.J6.vc
  have hR : restA l m sc a h = if ¬ (sc = httpsB ∧ a.size ≠ 0 ∧ getF l cNm = some oneB) then badA 400 else if getF l pNm = some ipB then (if h = packB then (true, 0, 0, 200) else badA 404) else match udpV h with | some x => (false, x.1, x.2, 200) | none => badA 404 := by
    unfold restA
    rw [if_neg (by rw [hp]; simp), if_neg (by simp [hmc]), if_neg (by rw [hp]; rcases hpv with rfl | rfl <;> simp)]
    rfl
  have fail : ∀ {K : Heap → Prop}, ¬ (sc = httpsB ∧ a.size ≠ 0 ∧ getF l cNm = some oneB) → target_check.c false 400 K E Hc := fun hn => s.chk (x := 400) g (fun e => by cases e) fun _ => by rw [hP, hR, if_pos hn]
  have smem : sNm ∈ namesL := by simp [namesL]
  have amem : aNm ∈ namesL := by simp [namesL]
  refine fields_Get.run (s.hr.mono g.le) s.hn ?_
  refine look_name hm smem hsc ?_
  rw [ba_eq]
  by_cases h1 : sc = httpsB
  · rw [if_pos (by rw [decide_eq_true_eq]; exact h1)]
    refine look_name hm amem ha ?_
    rw [ba_eq]
    by_cases h2 : a.size = 0
    · rw [if_neg (by rw [size0.2 h2]; simp)]
      exact fail fun h => h.2.1 h2
    · rw [if_pos (by rw [Bool.not_eq_true', decide_eq_false_iff_not]; exact fun e => h2 (size0.1 e))]
      by_cases hsm : (getF l cNm).isSome = true
      rotate_left
      · rw [if_neg hsm]
        exact fail fun h => hsm (by rw [h.2.2]; rfl)
      · rw [if_pos hsm]
        obtain ⟨cv, hc⟩ := Option.isSome_iff_exists.1 hsm
        have ecv : (getF l cNm).getD ⟨#[]⟩ = cv := by rw [hc]; rfl
        rw [ecv, ba_eq]
        refine s.chk (x := 400) g (fun hb => ?_) (fun hb => ?_)
        · rw [decide_eq_true_eq] at hb
          refine target_Parse.J7.run s g hm hh hk hP hp hpv ?_
          rw [hR, if_neg (fun hno => hno ⟨h1, h2, by rw [hc]; exact congrArg some hb⟩)]
        · rw [decide_eq_false_iff_not] at hb
          rw [hP, hR, if_pos (fun h => hb (by rw [hc] at h; exact Option.some.inj h.2.2))]
  · rw [if_neg (by rw [decide_eq_true_eq]; exact h1)]
    exact fail fun h => h1 h.1
theorem target_Parse.J5.run (s : Ps H p n l b0 b1 E Kr) {Hc : Heap} {r : Nat} (g : Gd H b0 b1 Hc) (hm : MapS Hc r (valF l 4)) {m sc a h : ByteArray} (hsc : getF l sNm = some sc) (ha : getF l aNm = some a) (hh : getF l hNm = some h) (hk : chkL l = true) (hP : parseL l = restA l m sc a h)
    (h0 : ((getF l pNm).isNone && decide (m = connB)) = false) : target_Parse.J5 p n c ⟨b0, 0, none⟩ ⟨b1, 0, none⟩ (some r) ((getF l pNm).getD ⟨#[]⟩) (decide (m = connB)) Kr E Hc := by
  refine ⟨?_⟩
  unfold target_Parse.J5.vc
  refine s.chk (x := 405) g (fun hb => ?_) (fun hb => ?_)
  · rw [decide_eq_true_eq] at hb
    have hsome : ∃ pv, getF l pNm = some pv := by
      cases hp : getF l pNm with
      | none => rw [hp, hb] at h0; simp at h0
      | some pv => exact ⟨pv, rfl⟩
    obtain ⟨pv, hp⟩ := hsome
    have epv : (getF l pNm).getD ⟨#[]⟩ = pv := by rw [hp]; rfl
    rw [epv, ba_eq]
    by_cases hu : pv = udpB
    · rw [if_pos (by rw [decide_eq_true_eq]; exact hu)]
      exact s.chk (x := 501) g (fun _ => target_Parse.J6.run s g hm hsc ha hh hk hP hp (.inl hu) hb) (fun e => by cases e)
    · rw [if_neg (by rw [decide_eq_true_eq]; exact hu), ba_eq]
      refine s.chk (x := 501) g (fun hi => ?_) (fun hi => ?_)
      · rw [decide_eq_true_eq] at hi
        exact target_Parse.J6.run s g hm hsc ha hh hk hP hp (.inr hi) hb
      · rw [decide_eq_false_iff_not] at hi
        rw [hP]
        unfold restA
        rw [if_neg (by rw [hp]; simp), if_neg (by simp [hb]), if_pos (by rw [hp]; simp only [Option.some.injEq]; exact fun h => h.elim hu hi)]
  · rw [decide_eq_false_iff_not] at hb
    rw [hP]
    unfold restA
    rw [if_neg (by rw [h0]; simp), if_pos hb]
theorem target_Parse.J4.run (s : Ps H p n l b0 b1 E Kr) {Hc : Heap} {r : Nat} (g : Gd H b0 b1 Hc) (hm : MapS Hc r (valF l 4)) {m sc a h : ByteArray} (hsc : getF l sNm = some sc) (ha : getF l aNm = some a) (hh : getF l hNm = some h) (hk : chkL l = true) (hP : parseL l = restA l m sc a h) :
    target_Parse.J4 p n c ⟨b0, 0, none⟩ ⟨b1, 0, none⟩ (some r) ((getF l pNm).getD ⟨#[]⟩) (getF l pNm).isSome (decide (m = connB)) Kr E Hc := by
  refine ⟨?_⟩
  unfold target_Parse.J4.vc
  cases hp : (getF l pNm).isSome with
  | true =>
    rw [if_pos rfl]
    refine s.chk (x := 400) g (fun _ => target_Parse.J5.run s g hm hsc ha hh hk hP ?_) (fun e => by cases e)
    cases hq : getF l pNm with
    | none => rw [hq] at hp; cases hp
    | some v => rfl
  | false =>
    have hq : getF l pNm = none := by
      cases hq : getF l pNm with
      | none => rfl
      | some v => rw [hq] at hp; cases hp
    rw [if_neg (by simp)]
    refine s.chk (x := 400) g (fun hb => target_Parse.J5.run s g hm hsc ha hh hk hP ?_) (fun hb => ?_)
    · rw [Bool.not_eq_true'] at hb
      rw [hb, Bool.and_false]
    · rw [Bool.not_eq_false'] at hb
      rw [hP]
      unfold restA
      rw [if_pos (by rw [hq, hb]; rfl)]
theorem names_get {i : Nat} (h : i < 4) : ∃ nm, namesL[i]? = some nm ∧ nm ∈ namesL ∧ (#[(.string mNm), (.string sNm), (.string aNm), (.string hNm)] : Array Value)[i]? = some (.string nm) := by
  match i, h with
  | 0, _ => exact ⟨mNm, rfl, by simp [namesL], rfl⟩
  | 1, _ => exact ⟨sNm, rfl, by simp [namesL], rfl⟩
  | 2, _ => exact ⟨aNm, rfl, by simp [namesL], rfl⟩
  | 3, _ => exact ⟨hNm, rfl, by simp [namesL], rfl⟩
theorem target_Parse.J2.run (s : Ps H p n l b0 b1 E Kr) {Hc : Heap} (g : Gd H b0 b1 Hc) : target_Parse.J2 p n c ⟨b0, 0, none⟩ ⟨b1, 0, none⟩ Kr E Hc := by
  refine ⟨?_⟩
  unfold target_Parse.J2.vc
  have hr := s.hr.mono g.le
  refine fields_Check.run hr (fun hk => ?_) (fun hk e he => ?_)
  rotate_left
  · refine s.chk (x := 400) g (fun hb => absurd (by simpa using hb) he) (fun _ => parse_bad (by rw [hk]; rfl))
  refine s.chk (x := 400) g (fun _ => ?_) (fun e => by simp at e)
  refine target_shape.run hr s.hn (fun hs => ?_) (fun hs H' hl => s.bad 400 H' (g.step hl) (parse_bad (by rw [hs, Bool.and_false])))
  have hks : (chkL l && shapeGo l false l) = true := by rw [hk, hs]; rfl
  intro r hrn
  refine newB_le fun bn H2 hbn hl2 hle2 => ?_
  have hm0 : (Hc.set r (.map #[] 0)) r = some (.map #[] 0) := set_self _ _ _
  have hner : bn ≠ r := fun e => by rw [e, hm0] at hbn; cases hbn
  have g2 : Gd H b0 b1 H2 := (g.step (Le_set hrn _)).step hle2
  have hr0 : r ≠ b0 := fun e => by rw [e, g.t] at hrn; cases hrn
  have hr1 : r ≠ b1 := fun e => by rw [e, g.n] at hrn; cases hrn
  have hrH : H r = none := by
    cases hh : H r with
    | none => rfl
    | some o => rw [g.le _ _ hh] at hrn; cases hrn
  refine ⟨Loop.of (I := fun st H' m => ∃ i : Nat, st = (i : Int) ∧ i ≤ 4 ∧ m = 4 - i ∧ Gd H b0 b1 H' ∧ H' bn = some (.cells #[(.string mNm), (.string sNm), (.string aNm), (.string hNm)] 9) ∧ MapS H' r (valF l i) ∧ ∀ nm ∈ namesL.take i, getF l nm ≠ none) ?_ ⟨0, rfl, by decide, rfl, g2, hl2, ⟨#[], 0, hle2 _ _ hm0, by simp, by simp, fun n => by unfold valF; rw [if_neg (by simp)]; rfl⟩, by simp⟩⟩
  rintro k st H' ⟨i, rfl, hi, rfl, gi, hbi, hmi, hall⟩ RR hRR
  unfold target_Parse.W3.vc
  by_cases hlt : i < 4
  · rw [if_pos (by rw [decide_eq_true_eq]; omega)]
    obtain ⟨nm, n1, n2, n3⟩ := names_get hlt
    refine ⟨⟨bn, 0, none⟩, rfl, by omega, by omega, nm, ?_, ?_⟩
    · rw [Int.toNat_natCast, Nat.mul_one]
      exact loc hbi n3
    · refine fields_Get.run (s.hr.mono gi.le) s.hn ?_
      refine s.chk (x := 400) gi (fun hb => ?_) (fun hb => parse_lack n2 ?_)
      · obtain ⟨v, hv⟩ : ∃ v, getF l nm = some v := Option.isSome_iff_exists.1 hb
        rw [hv]
        refine hmi.put fun o hm2 => ?_
        rw [w_i64 (by omega) (by omega)]
        have etake : namesL.take (i + 1) = namesL.take i ++ [nm] := by rw [List.take_add_one, n1]; rfl
        refine hRR _ _ (4 - (i + 1)) (by omega) ⟨i + 1, by simp, by omega, rfl, ⟨?_, ?_, ?_⟩, ?_, hm2.ext fun x => ?_, fun x hx => ?_⟩
        · rw [set_ne _ _ (Ne.symm hr0)]; exact gi.t
        · rw [set_ne _ _ (Ne.symm hr1)]; exact gi.n
        · intro c o' hc
          rw [set_ne _ _ (fun e => by rw [e, hrH] at hc; cases hc)]
          exact gi.le c o' hc
        · rw [set_ne _ _ hner]; exact hbi
        · unfold valF
          rw [etake]
          by_cases hx : x = nm
          · rw [if_pos hx, if_pos (by rw [hx]; simp), hx, hv]; rfl
          · rw [if_neg hx]
            by_cases hx2 : x ∈ namesL.take i
            · rw [if_pos hx2, if_pos (by simp [hx2])]
            · rw [if_neg hx2, if_neg (by simp [hx2, hx])]
        · rw [etake] at hx
          rcases List.mem_append.1 hx with hx | hx
          · exact hall x hx
          · rw [List.mem_singleton] at hx
            rw [hx, hv]; simp
      · cases hv : getF l nm with
        | none => rfl
        | some v => rw [hv] at hb; cases hb
  · rw [if_neg (by rw [decide_eq_true_eq]; omega)]
    have h4 : i = 4 := by omega
    subst h4
    have some4 : ∀ nm ∈ namesL, ∃ v, getF l nm = some v := fun nm hm => by
      cases hv : getF l nm with
      | none => exact absurd hv (hall nm (by exact hm))
      | some v => exact ⟨v, rfl⟩
    obtain ⟨m, hm⟩ := some4 mNm (by simp [namesL])
    obtain ⟨sc, hsc⟩ := some4 sNm (by simp [namesL])
    obtain ⟨a, ha⟩ := some4 aNm (by simp [namesL])
    obtain ⟨h, hh⟩ := some4 hNm (by simp [namesL])
    have hP : parseL l = restA l m sc a h := by
      unfold parseL
      rw [if_pos hks, hm, hsc, ha, hh]
    refine fields_Get.run (s.hr.mono gi.le) s.hn ?_
    refine look_name hmi (by simp [namesL]) hm ?_
    rw [ba_eq]
    exact target_Parse.J4.run s gi hmi hsc ha hh hk hP
end
/-! ### As a callee -/
structure target_Parse.c (p : Option Addr) (n c : Nat) (K : Bool → Int → Int → Int → Heap → Prop) (E : Value → Heap → Prop) (H : Heap) : Prop where
  h : ∃ l, RowsAt H p n 2 (rF l) ∧ n ≤ 4611686018427387904 ∧ GH H ∧ K (parseL l).1 ((parseL l).2.1 : Int) ((parseL l).2.2.1 : Int) ((parseL l).2.2.2 : Int) H
def target_Parse.F : FT := fun args K E H => match args with
  | [.slice p n c] => target_Parse.c p n c (fun a b d e H => K (.tuple #[.agg #[.bool a, .int .u32 b, .int .i64 d], .int .i64 e]) H) E H
  | _ => False
noncomputable def target_Parse.mop : Oper := (match Tryd.f13.body with | some (.seq _ (.seq (.region _ ops _) _)) => ops[0]? | _ => none).getD default
noncomputable def target_Parse.dop : Oper := (match Tryd.f13.body with | some (.seq _ (.seq (.region _ ops _) _)) => ops[1]? | _ => none).getD default
theorem target_Parse.body_eq : Tryd.f13.body = some (.seq (sub [0] target_Parse.body) (.seq (.region 1 #[target_Parse.mop, target_Parse.dop] false) (sub [1, 1] target_Parse.body))) := by kernel_rfl
theorem target_Parse.res {fr : Fr} {G : Heap} {b0 b1 : Nat} {ip : Bool} {a q x : Int} {Kv : Value → Prop} (g2 : fr.getD 2 none = some (PA b0)) (g3 : fr.getD 3 none = some (PA b1)) (h0 : G b0 = some (.cells #[.bool ip, .int .u32 a, .int .i64 q] 24)) (h1 : G b1 = some (.cells #[.int .i64 x] 3)) (hk : Kv (.tuple #[.agg #[.bool ip, .int .u32 a, .int .i64 q], .int .i64 x])) :
    resW Tryd.prog fr G Tryd.f13.results.toList [] Kv := by
  have e : Tryd.f13.results.toList = [.cell 2 24, .cell 3 3] := by kernel_rfl
  rw [e]
  have e1 : ∀ (K : Value → Prop) (b : Nat) (G : Heap), wLoad Tryd.prog 24 (PA b) K G = ldB G ((⟨b, 0, none⟩ : Addr).add 0) fun x => ldI G .u32 ((⟨b, 0, none⟩ : Addr).add 1) fun y => ldI G .i64 ((⟨b, 0, none⟩ : Addr).add 2) fun z => K (.agg #[.bool x, .int .u32 y, .int .i64 z]) := fun K b G => by kernel_rfl
  have e2 : ∀ (K : Value → Prop) (b : Nat) (G : Heap), wLoad Tryd.prog 3 (PA b) K G = ldI G .i64 ⟨b, 0, none⟩ fun x => K (.int .i64 x) := fun K b G => by kernel_rfl
  unfold resW
  rw [g2]
  unfold with1
  dsimp only
  rw [e1]
  refine ⟨ip, loc (o := 0) h0 rfl, a, loc (o := 1) h0 rfl, q, loc (o := 2) h0 rfl, ?_⟩
  unfold resW
  rw [g3]
  unfold with1
  dsimp only
  rw [e2]
  refine ⟨x, loc0 h1, ?_⟩
  unfold resW
  exact hk
theorem slSl_in {fr : Fr} {t : Nat} {p : Option Addr} {n c : Nat} {K : Option Addr → Nat → Nat → Prop} (h : fr.getD t none = some (.slice p n c)) (k : K p n c) : slSl fr t K := by unfold slSl; rw [h]; exact k
theorem target_Parse.ok : CalleeOk Tryd.prog 13 target_Parse.F := by
  refine catchG_ok (pins := [2, 3]) (te := 48) (t := 13) (g := 23) (caps := #[.tmp 2, .tmp 3]) (m := target_Parse.mop) (o := target_Parse.dop) Tryd.func13 target_Parse.body_eq (by kernel_rfl) (by kernel_rfl) (by kernel_rfl) (by kernel_rfl) (by kernel_rfl) (by kernel_rfl) (by kernel_rfl) target_caught.ok ⟨Tryd.f23, Tryd.func23, by kernel_rfl, by kernel_rfl⟩ target_Parse.J1.ok target_Parse.J2.ok (by kernel_rfl) ?_
  intro args K E H h
  unfold target_Parse.F at h
  split at h
  rotate_left
  · exact h.elim
  rename_i p n c
  obtain ⟨l, hr, hn, hg, hk⟩ := h.h
  have hnt : Tryd.f13.ntmps = 93 := by kernel_rfl
  unfold catchGT
  rw [hnt]
  refine lenIs_in rfl (slSl_in rfl ⟨?_⟩)
  unfold target_Parse.J1.vc
  refine newB_le fun b0 H1 hn0 hl0 hle0 => newB_le fun b1 H2 hn1 hl1 hle1 => ?_
  have h01 : b1 ≠ b0 := fun e => by rw [e, hl0] at hn1; cases hn1
  have hle : Heap.Le H H2 := hle0.trans hle1
  have hnb1 : H b1 = none := by
    cases hh : H b1 with
    | none => rfl
    | some o => rw [hle0 _ _ hh] at hn1; cases hn1
  refine ⟨rfl, [PA b0, PA b1], [none, none, some (PA b0), some (PA b1)], ?_, show 13 < 93 by decide, ⟨_, _, rfl⟩, fun t v ht => ?_, ⟨[none, none, some (PA b0)], PA b1, rfl⟩, ?_⟩
  · intro a hR
    have e2 := hR.eval (x := .tmp 2) (v := PA b0) rfl
    have e3 := hR.eval (x := .tmp 3) (v := PA b1) rfl
    rw [List.map_toArray]
    simp only [List.map_cons, List.map_nil]
    rw [e2, e3]
  · match t, ht with
    | 2, ht => exact ⟨ht, by simp⟩
    | 3, ht => exact ⟨ht, by simp⟩
  refine lenIs_in rfl (slSl_in rfl (slPA_in (n := ⟨b0, 0, none⟩) rfl (slPA_in (n := ⟨b1, 0, none⟩) rfl ?_)))
  refine target_Parse.J2.run (H := H) (l := l) ⟨hg, hr, hn, hn0, hnb1, h01, ?_, ?_⟩ ⟨hle1 _ _ hl0, hl1, hle⟩
  · intro x H' g hp
    refine ⟨(x : Int), rfl, ⟨b0, 0, none⟩, ⟨b1, 0, none⟩, rfl, ?_⟩
    rw [target_caught.eq1]
    refine st3_loc g.t (stc0 (by rw [set_ne _ _ h01]; exact g.n) ⟨rfl, ?_⟩)
    refine target_Parse.res (ip := false) (a := 0) (q := 0) (x := (x : Int)) rfl rfl (by rw [set_ne _ _ (Ne.symm h01)]; exact set_self _ _ _) (set_self _ _ _) ⟨H, ?_, ?_⟩
    · intro k o hk2
      rw [set_ne _ _ (fun e => by rw [e, hnb1] at hk2; cases hk2), set_ne _ _ (fun e => by rw [e, hn0] at hk2; cases hk2)]
      exact g.le k o hk2
    · rw [hp] at hk
      exact hk
  · intro ip a q H' hp g0 g1 hl
    refine ⟨.inr rfl, target_Parse.res rfl rfl g0 g1 ⟨H, hl, ?_⟩⟩
    rw [hp] at hk
    exact hk
end Go.Sh
