/- prefix.Parse, as a callee. -/
import Derived.Test.YtpmgchippfmakaaDoorPar
import Derived.Test.YtpmgchippfmakaaDoorDef
namespace Go.Sh
open Go.Proofs Go.RowKit
set_option maxRecDepth 8000
structure prefix_Parse.c (s : ByteArray) (K : Int → Bool → Heap → Prop) (E : Value → Heap → Prop) (H : Heap) : Prop where
  h : s.size ≤ 281474976710656 ∧ ErrIn H 1 ∧ ErrIn H 2 ∧ TabIn H 0 .u64 powTab ∧ K (parseV s).1 (parseV s).2 H
def prefix_Parse.F : FT := fun args K E H => match args with
  | [.string s] => prefix_Parse.c s (fun a b H => K (.tuple #[.int .u32 a, .bool b]) H) E H
  | _ => False
theorem prefix_Parse.body_eq : Tryd.f39.body = some (.seq (sub [0] prefix_Parse.body) (.seq (sub [1, 0] prefix_Parse.body) (.seq (.seq (sub [1, 1, 0, 0] prefix_Parse.body) (.block 0 (.rangeFunc (.tmp 10) #[11] (sub [1, 1, 0, 1, 0, 0] prefix_Parse.body) (.block 1 (sub [1, 1, 0, 1, 0, 1, 0] prefix_Parse.body))))) (sub [1, 1, 1] prefix_Parse.body)))) := by kernel_rfl
theorem prefix_Parse.block_eq : sub [1, 1, 0, 1, 0, 1] prefix_Parse.body = .block 1 (sub [1, 1, 0, 1, 0, 1, 0] prefix_Parse.body) := by kernel_rfl
noncomputable def prefix_Parse.aop : Oper := (match sub [1, 1, 0, 1, 0, 0] prefix_Parse.body with | .region _ ops _ => ops[0]? | _ => none).getD default
theorem prefix_Parse.assign_eq : sub [1, 1, 0, 1, 0, 0] prefix_Parse.body = .region 3 #[prefix_Parse.aop] false := by kernel_rfl
theorem prefix_Parse.aop_eq : prefix_Parse.aop.op = .assign (.tmp 11) ∧ prefix_Parse.aop.dst = some 6 ∧ prefix_Parse.aop.guard = none := ⟨by kernel_rfl, by kernel_rfl, by kernel_rfl⟩
/-- A region of one assignment. -/
theorem assign_one {P : Program} {ro : Option Nat} {nf id : Nat} {o : Oper} {x : Operand} {a : Act} {w : World} {Q : Exit → Act → World → Prop} (ho : o.op = .assign x) (hg : o.guard = none) (h : Q .normal (a.put o.dst (a.eval x)) w) :
    (Code.region id #[o] false).wpIn (wideR ro) nf P Q a w := by
  refine wpIn_region ?_
  show wpOpsIn (wideR ro) nf P #[o] Q (List.range' 0 1) a w
  rw [List.range'_succ, wpOpsIn_cons]
  unfold wpOpIn
  simp only [show (#[o] : Array Oper)[0]? = some o from rfl]
  rw [if_pos (by simp [Region.wanted, hg])]
  refine wpIn_of (by simp [ho]) ?_
  have e : (execOp a.eval o).run P w = .ok (.value (a.eval x)) w := by simp [execOp, ho, go_sem]
  rw [e]
  exact h
abbrev PA (b : Nat) : Value := .pointer (some ⟨b, 0, none⟩)
abbrev frP (b0 b1 : Nat) (s : ByteArray) : Fr := mkF 43 [(0, .string s), (2, PA b0), (3, PA b1)]
abbrev frQ (b0 b1 b2 b3 : Nat) (s : ByteArray) : Fr := mkF 43 [(0, .string s), (2, PA b0), (3, PA b1), (4, PA b2), (5, PA b3)]
abbrev fr5 (b0 b1 b2 b3 B0 B1 B2 : Nat) : Fr := mkF 43 [(2, PA b0), (3, PA b1), (4, PA b2), (5, PA b3), (10, .func (.func 80) #[] #[PA B0, PA B1, PA B2])]
section
variable {Q : Exit → Act → World → Prop} {a : Act} {w : World} {H : Heap} {s : ByteArray}
theorem prefix_Parse.s1 (hR : R (Fx.of []) (mkF 43 [(0, .string s)]) a) (hS : Sub H w)
    (k : ∀ a1 w1 b0 b1 H1, R (Fx.of []) (frP b0 b1 s) a1 → Sub H1 w1 → Ext H w H1 w1 → H b0 = none → H b1 = none → b1 ≠ b0 → H1 = (H.set b0 (.cells #[.int .u32 0] 22)).set b1 (.cells #[.bool false] 4) → Q .normal a1 w1) :
    (sub [0] prefix_Parse.body).wpIn (wideR none) 10 Tryd.prog Q a w := by
  refine prefix_Parse.J1.ok none 10 (Fx.of []) Q (fun e fr H1 => e = .normal ∧ ∃ b0 b1, fr = frP b0 b1 s ∧ H b0 = none ∧ H b1 = none ∧ b1 ≠ b0 ∧ H1 = (H.set b0 (.cells #[.int .u32 0] 22)).set b1 (.cells #[.bool false] 4)) NE (mkF 43 [(0, .string s)]) H a w (NoPin.none _) ⟨?_, fun v H' a' w' _ _ _ h => h.elim⟩ hR hS ?_
  · rintro e fr1 H1 a1 w1 hR1 hS1 hE1 ⟨rfl, b0, b1, rfl, n0, n1, d01, h1⟩
    exact k a1 w1 b0 b1 H1 hR1 hS1 hE1 n0 n1 d01 h1
  · refine lenIs_in rfl (slS_in (n := s) rfl ⟨?_⟩)
    unfold prefix_Parse.J1.vc
    intro b0 h0 b1 h1
    refine ⟨rfl, b0, b1, rfl, h0, ?_, ?_, rfl⟩
    · cases hh : H b1 with
      | none => rfl
      | some o => rw [Le_set h0 _ b1 o hh] at h1; cases h1
    · rintro rfl; rw [set_self] at h1; cases h1
theorem prefix_Parse.s2 {b0 b1 : Nat} (hR : R (Fx.of []) (frP b0 b1 s) a) (hS : Sub ((H.set b0 (.cells #[.int .u32 0] 22)).set b1 (.cells #[.bool false] 4)) w) (n0 : H b0 = none) (n1 : H b1 = none) (d01 : b1 ≠ b0)
    (k : ∀ a1 w1 b2 b3, R (Fx.of []) (frQ b0 b1 b2 b3 s) a1 → Sub (HH H b0 b1 b2 b3 0 false 0 0) w1 → Ext ((H.set b0 (.cells #[.int .u32 0] 22)).set b1 (.cells #[.bool false] 4)) w (HH H b0 b1 b2 b3 0 false 0 0) w1 → Bx H b0 b1 b2 b3 → Q .normal a1 w1) :
    (sub [1, 0] prefix_Parse.body).wpIn (wideR none) 10 Tryd.prog Q a w := by
  refine prefix_Parse.J2.ok none 10 (Fx.of []) Q (fun e fr H2 => e = .normal ∧ ∃ b2 b3, fr = frQ b0 b1 b2 b3 s ∧ Bx H b0 b1 b2 b3 ∧ H2 = HH H b0 b1 b2 b3 0 false 0 0) NE (frP b0 b1 s) _ a w (NoPin.none _) ⟨?_, fun v H' a' w' _ _ _ h => h.elim⟩ hR hS ?_
  · rintro e fr1 H1 a1 w1 hR1 hS1 hE1 ⟨rfl, b2, b3, rfl, hbx, rfl⟩
    exact k a1 w1 b2 b3 hR1 hS1 hE1 hbx
  · refine lenIs_in rfl (slS_in (n := s) rfl (slPA_in (n := ⟨b0, 0, none⟩) rfl (slPA_in (n := ⟨b1, 0, none⟩) rfl ⟨?_⟩)))
    unfold prefix_Parse.J2.vc
    intro b2 h2 b3 h3
    have d2 : b2 ≠ b1 := by rintro rfl; rw [set_self] at h2; cases h2
    rw [set_ne _ _ d2] at h2
    have d02 : b2 ≠ b0 := by rintro rfl; rw [set_self] at h2; cases h2
    rw [set_ne _ _ d02] at h2
    have d3 : b3 ≠ b2 := by rintro rfl; rw [set_self] at h3; cases h3
    rw [set_ne _ _ d3] at h3
    have d13 : b3 ≠ b1 := by rintro rfl; rw [set_self] at h3; cases h3
    rw [set_ne _ _ d13] at h3
    have d03 : b3 ≠ b0 := by rintro rfl; rw [set_self] at h3; cases h3
    rw [set_ne _ _ d03] at h3
    have hbx : Bx H b0 b1 b2 b3 := ⟨n0, n1, h2, h3, d01, d02, d03, d2, d13, d3⟩
    have hh : ((((H.set b0 (.cells #[.int .u32 0] 22)).set b1 (.cells #[.bool false] 4)).set b2 (.cells #[.int .u32 0] 22)).set b3 (.cells #[.int .i64 0] 3)) = HH H b0 b1 b2 b3 0 false 0 0 := by
      funext k
      unfold HH Heap.set
      by_cases e0 : k = b0
      · subst e0; simp [d01.symm, d02.symm, d03.symm]
      by_cases e1 : k = b1
      · subst e1; simp [d01, d2.symm, d13.symm]
      by_cases e2 : k = b2
      · subst e2; simp [d02, d2, d3.symm]
      by_cases e3 : k = b3
      · subst e3; simp [d03, d13, d3]
      simp [e0, e1, e2, e3]
    rw [hh]
    refine stc0 (HH.at2 hbx) ?_
    rw [HH.set2 hbx]
    refine stc0 (HH.at3 hbx) ?_
    rw [HH.set3 hbx]
    exact ⟨rfl, b2, b3, rfl, hbx, rfl⟩
theorem prefix_Parse.s3 {b0 b1 b2 b3 : Nat} {G : Heap} (hR : R (Fx.of []) (frQ b0 b1 b2 b3 s) a) (hS : Sub G w)
    (k : ∀ a1 w1 B0 B1 B2 H3, R (Fx.of []) (fr5 b0 b1 b2 b3 B0 B1 B2) a1 → Sub H3 w1 → Ext G w H3 w1 → Heap.Le G H3 → H3 B0 = some (.cells #[.string ⟨#[46]⟩] 9) → H3 B1 = some (.cells #[.string s] 9) → H3 B2 = some (.cells #[.int .i64 0] 3) →
      G B0 = none → G B1 = none → G B2 = none → B0 ≠ B1 → B2 ≠ B1 → Q .normal a1 w1) :
    (sub [1, 1, 0, 0] prefix_Parse.body).wpIn (wideR none) 10 Tryd.prog Q a w := by
  refine prefix_Parse.J3.ok none 10 (Fx.of []) Q (fun e fr H3 => e = .normal ∧ ∃ B0 B1 B2, fr = fr5 b0 b1 b2 b3 B0 B1 B2 ∧ Heap.Le G H3 ∧ H3 B0 = some (.cells #[.string ⟨#[46]⟩] 9) ∧ H3 B1 = some (.cells #[.string s] 9) ∧ H3 B2 = some (.cells #[.int .i64 0] 3) ∧
      G B0 = none ∧ G B1 = none ∧ G B2 = none ∧ B0 ≠ B1 ∧ B2 ≠ B1) NE (frQ b0 b1 b2 b3 s) G a w (NoPin.none _) ⟨?_, fun v H' a' w' _ _ _ h => h.elim⟩ hR hS ?_
  · rintro e fr1 H1 a1 w1 hR1 hS1 hE1 ⟨rfl, B0, B1, B2, rfl, g1, g2, g3, g4, g5, g6, g7, g8, g9⟩
    exact k a1 w1 B0 B1 B2 H1 hR1 hS1 hE1 g1 g2 g3 g4 g5 g6 g7 g8 g9
  · refine lenIs_in rfl (slS_in (n := s) rfl (slPA_in (n := ⟨b0, 0, none⟩) rfl (slPA_in (n := ⟨b1, 0, none⟩) rfl (slPA_in (n := ⟨b2, 0, none⟩) rfl (slPA_in (n := ⟨b3, 0, none⟩) rfl ⟨?_⟩)))))
    unfold prefix_Parse.J3.vc
    refine ⟨?_⟩
    unfold strings_SplitSeq.vc
    refine ⟨?_⟩
    unfold strings_splitSeq.vc
    intro B1 h1 B0 h0 B2 h2
    have d1 : B0 ≠ B1 := by rintro rfl; rw [set_self] at h0; cases h0
    rw [set_ne _ _ d1] at h0
    have d2 : B2 ≠ B0 := by rintro rfl; rw [set_self] at h2; cases h2
    rw [set_ne _ _ d2] at h2
    have d3 : B2 ≠ B1 := by rintro rfl; rw [set_self] at h2; cases h2
    rw [set_ne _ _ d3] at h2
    refine ⟨_, Heap.Le.refl _, _, Heap.Le.refl _, rfl, B0, B1, B2, rfl, ?_, ?_, ?_, set_self _ _ _, h0, h1, h2, d1, d3⟩
    · refine (Le_set h1 _).trans ((Le_set (by rw [set_ne _ _ d1]; exact h0) _).trans (Le_set (by rw [set_ne _ _ d2, set_ne _ _ d3]; exact h2) _))
    · rw [set_ne _ _ (Ne.symm d2)]; exact set_self _ _ _
    · rw [set_ne _ _ (Ne.symm d3), set_ne _ _ (Ne.symm d1)]; exact set_self _ _ _
/-- How it ends: no call was deferred in the loop. -/
theorem prefix_Parse.fin {Rr : Ending → World → Prop} {b0 b1 b2 b3 D : Nat} {r v n : Int} {ok : Bool} {fr : Fr} (hbx : Bx H b0 b1 b2 b3) (g2 : fr.getD 2 none = some (PA b0)) (g3 : fr.getD 3 none = some (PA b1)) (hR : R (Fx.of [markD D]) fr a) (hS : Sub (HH H b0 b1 b2 b3 r ok v n) w)
    (hD : HH H b0 b1 b2 b3 r ok v n D = none) (hdef : w.heap[D]? = some (.deferred (some []))) (k : Rr (.returned (.tuple #[.int .u32 r, .bool ok])) (w.putObj D (.deferred none))) :
    LeavesInM (wideR none) 10 Tryd.prog Tryd.f39 a.tmps Rr a.defers .returning w := by
  rw [hR.1.1]
  refine ⟨by simp, .inl ⟨D, _, rfl, run_takeDeferred hdef, ?_⟩⟩
  have hS' := putObj_sub hS (.deferred none) hD
  have hres : resW Tryd.prog fr (HH H b0 b1 b2 b3 r ok v n) Tryd.f39.results.toList [] (fun v => v = .tuple #[.int .u32 r, .bool ok]) := by
    have e : Tryd.f39.results.toList = [.cell 2 22, .cell 3 4] := by kernel_rfl
    rw [e]
    have e1 : ∀ (K : Value → Prop) (p : Nat) (G : Heap), wLoad Tryd.prog 22 (PA p) K G = ldI G .u32 ⟨p, 0, none⟩ fun x => K (.int .u32 x) := fun K p G => by kernel_rfl
    have e2 : ∀ (K : Value → Prop) (p : Nat) (G : Heap), wLoad Tryd.prog 4 (PA p) K G = ldB G ⟨p, 0, none⟩ fun x => K (.bool x) := fun K p G => by kernel_rfl
    unfold resW
    rw [g2]
    unfold with1
    dsimp only
    rw [e1]
    refine ⟨r, loc0 HH.at0, ?_⟩
    unfold resW
    rw [g3]
    unfold with1
    dsimp only
    rw [e2]
    refine ⟨ok, loc0 (HH.at1 hbx), ?_⟩
    unfold resW
    rfl
  obtain ⟨u, hu, rfl⟩ := results_run hR hS' hres
  exact ⟨_, hu, k⟩
abbrev fr6 (b0 b1 b2 b3 B0 B1 B2 : Nat) (x : ByteArray) : Fr := ((fr5 b0 b1 b2 b3 B0 B1 B2).set 11 (some (.string x))).set 6 (some (.string x))
theorem R.defs {fr : Fr} {a : Act} {Ds : Fx} (h : R Ds fr a) (Ds' : List Deferred) : R (Fx.of Ds') fr { a with defers := Ds' } := ⟨⟨rfl, fun _ _ e => by cases e⟩, h.2.1, h.2.2⟩
theorem prefix_Parse.loop {b0 b1 b2 b3 B0 B1 B2 : Nat} {H3 : Heap} (hbx : Bx H b0 b1 b2 b3) (hs : s.size ≤ 281474976710656) (er1 : ErrIn H 1) (er2 : ErrIn H 2) (htab : TabIn H 0 .u64 powTab)
    (hR : R (Fx.of []) (fr5 b0 b1 b2 b3 B0 B1 B2) a) (hS : Sub H3 w) (hle : Heap.Le (HH H b0 b1 b2 b3 0 false 0 0) H3) (c0 : H3 B0 = some (.cells #[.string ⟨#[46]⟩] 9)) (c1 : H3 B1 = some (.cells #[.string s] 9)) (c2 : H3 B2 = some (.cells #[.int .i64 0] 3))
    (m0 : HH H b0 b1 b2 b3 0 false 0 0 B0 = none) (m1 : HH H b0 b1 b2 b3 0 false 0 0 B1 = none) (m2 : HH H b0 b1 b2 b3 0 false 0 0 B2 = none) (d01 : B0 ≠ B1) (d21 : B2 ≠ B1)
    (hdone : ∀ D W, w.heap.size ≤ D → allOk (partsB s.data.toList) = true → Sub (HH H b0 b1 b2 b3 0 false (valP (partsB s.data.toList)) (partsB s.data.toList).length) W →
      Ext1 B1 (HH H b0 b1 b2 b3 0 false 0 0) w (HH H b0 b1 b2 b3 0 false (valP (partsB s.data.toList)) (partsB s.data.toList).length) W → W.heap[D]? = some (.deferred (some [])) → Q .normal { a with defers := [markD D] } W)
    (hret : ∀ D v n W, w.heap.size ≤ D → allOk (partsB s.data.toList) = false → Sub (HH H b0 b1 b2 b3 0 false v n) W → Ext1 B1 (HH H b0 b1 b2 b3 0 false 0 0) w (HH H b0 b1 b2 b3 0 false v n) W → W.heap[D]? = some (.deferred (some [])) → Q .ret { a with defers := [markD D] } W) :
    (Code.rangeFunc (.tmp 10) #[11] (sub [1, 1, 0, 1, 0, 0] prefix_Parse.body) (.block 1 (sub [1, 1, 0, 1, 0, 1, 0] prefix_Parse.body))).wpIn (wideR none) 10 Tryd.prog Q a w := by
  have hg : a.eval (.tmp 10) = .func (.func 80) #[] #[PA B0, PA B1, PA B2] := hR.eval (x := .tmp 10) rfl
  refine range_split (fr1 := fr6 b0 b1 b2 b3 B0 B1 B2) (s := s) hg hR (hS _ _ c0) (hS _ _ c1) (hS _ _ c2) d01 d21 (by omega) (hS.of_le hle) m0 m1 m2
    (fun pre Hc => Hc = HH H b0 b1 b2 b3 0 false (valP pre) pre.length ∧ allOk pre = true) (fun Hc => allOk (partsB s.data.toList) = false ∧ ∃ v n, Hc = HH H b0 b1 b2 b3 0 false v n) ?_ ?_ ⟨rfl, rfl⟩ ?_ ?_ ?_ ?_
  · rintro pre Hc ⟨rfl, _⟩ b; exact HH.dom b
  · rintro Hc ⟨_, v, n, rfl⟩ b; exact HH.dom b
  · intro l x a0 W K hR0 k
    rw [prefix_Parse.assign_eq]
    obtain ⟨o1, o2, o3⟩ := prefix_Parse.aop_eq
    refine assign_one o1 o3 (k _ ?_)
    rw [o2, hR0.eval (x := .tmp 11) (v := .string x) rfl]
    exact hR0.put (some 6) (.string x) (fun _ _ => rfl)
  · rintro l pre x Hc a1 W QB hpre hR1 ⟨rfl, hok⟩ hSc kn kr
    rw [← prefix_Parse.block_eq]
    have hmem : x ∈ partsB s.data.toList := hpre.subset (by simp)
    have hlen : pre.length + 1 ≤ s.size + 1 := by
      have := hpre.length_le
      have h2 := partsB_len s
      simp at this
      omega
    refine prefix_Parse.J4.ok (some l) 8 (Fx.of []) QB (fun e fr H' => (e = .normal ∧ H' = HH H b0 b1 b2 b3 0 false (valP (pre ++ [x])) (pre ++ [x]).length ∧ allOk (pre ++ [x]) = true) ∨ (e = .ret ∧ allOk (partsB s.data.toList) = false ∧ ∃ v n, H' = HH H b0 b1 b2 b3 0 false v n)) NE (fr6 b0 b1 b2 b3 B0 B1 B2 x) _ a1 W (NoPin.none _) ⟨?_, fun v H' a' w' _ _ _ h => h.elim⟩ hR1 hSc ?_
    · rintro e fr' H' a' w' hR' hS' hE' (⟨rfl, h⟩ | ⟨rfl, h⟩)
      · exact kn a' H' w' h hS' hE'
      · exact kr a' H' w' h hS' hE'
    · refine lenIs_in rfl (slPA_in (n := ⟨b0, 0, none⟩) rfl (slPA_in (n := ⟨b1, 0, none⟩) rfl (slPA_in (n := ⟨b2, 0, none⟩) rfl (slPA_in (n := ⟨b3, 0, none⟩) rfl (slS_in (n := x) rfl ?_)))))
      refine prefix_Parse.J4.run (h := hbx) (Nat.le_trans (partsB_size hmem) hs) er1 er2 htab (valP_range pre) ⟨by omega, by omega⟩ (fun d hd => .inl ⟨rfl, ?_, ?_⟩) (fun hd => .inr ⟨rfl, ?_, _, _, rfl⟩)
      · rw [valP_snoc, hd]
        simp
      · simp [allOk] at hok ⊢
        exact ⟨hok, by simp [hd]⟩
      · rw [Bool.eq_false_iff]
        intro hall
        have := List.all_eq_true.1 hall x hmem
        rw [hd] at this
        cases this
  · rintro D Hc W hD ⟨rfl, hok⟩ h1 h2 h3
    exact hdone D W hD hok h1 h2 h3
  · rintro D Hc W hD ⟨hok, v, n, rfl⟩ h1 h2 h3
    exact hret D v n W hD hok h1 h2 h3
end
theorem R_enter1 (v : Value) (n m : Nat) (h : m = n + 1) : R (Fx.of []) (some v :: List.replicate n none) { tmps := [v].toArray ++ Array.replicate (m - [v].toArray.size) undef, defers := [] } := by
  subst h
  refine ⟨⟨rfl, fun _ _ e => by cases e⟩, by simp; omega, ?_⟩
  intro t u ht
  match t, ht with
  | 0, ht => cases ht; rw [List.size_toArray, List.length_singleton, Nat.add_sub_cancel, Array.getElem?_append_left (by simp)]; rfl
  | t + 1, ht =>
    exfalso
    have : (List.replicate n (none : Option Value)).getD t none = some u := ht
    rw [replicate_getD] at this
    cases this
theorem prefix_Parse.ok : CalleeOk Tryd.prog 39 prefix_Parse.F := by
  intro args K E H w hS hF
  unfold prefix_Parse.F at hF
  split at hF
  rotate_left
  · exact hF.elim
  rename_i s
  obtain ⟨hs, er1, er2, htab, hK⟩ := hF.h
  have hr : (callFunc 39 [Value.string s].toArray).run Tryd.prog w = .ok (.enter 39 [Value.string s].toArray) w := enters_of Tryd.func39 (by kernel_rfl) rfl _ _
  rw [hr]
  suffices key : ∀ Rr : Ending → World → Prop, (∀ v W, (∃ H', Sub H' W ∧ Ext H w H' W ∧ K v H') → Rr (.returned v) W) → Code.wpIn (wideR none) 10 Tryd.prog (.seq (sub [0] prefix_Parse.body) (.seq (sub [1, 0] prefix_Parse.body) (.seq (.seq (sub [1, 1, 0, 0] prefix_Parse.body) (.block 0 (.rangeFunc (.tmp 10) #[11] (sub [1, 1, 0, 1, 0, 0] prefix_Parse.body) (.block 1 (sub [1, 1, 0, 1, 0, 1, 0] prefix_Parse.body))))) (sub [1, 1, 1] prefix_Parse.body)))) (bodyPostM (wideR none) 10 Tryd.prog Tryd.f39 Rr) { tmps := [Value.string s].toArray ++ Array.replicate (Tryd.f39.ntmps - [Value.string s].toArray.size) undef, defers := [] } w by
    exact (callsIn_wide (n := 10)).1 (callsIn_of_wp_marks Tryd.func39 prefix_Parse.body_eq trivial (key _ fun v W h => h) rfl)
  intro Rr hRr
  have hR : R (Fx.of []) (mkF 43 [(0, .string s)]) { tmps := [Value.string s].toArray ++ Array.replicate (Tryd.f39.ntmps - [Value.string s].toArray.size) undef, defers := [] } := by
    have hn : Tryd.f39.ntmps = 43 := by kernel_rfl
    have hm : mkF 43 [(0, Value.string s)] = some (.string s) :: List.replicate 42 none := rfl
    rw [hn, hm]
    exact R_enter1 _ 42 43 rfl
  obtain ⟨a, ha⟩ : ∃ a : Act, a = { tmps := [Value.string s].toArray ++ Array.replicate (Tryd.f39.ntmps - [Value.string s].toArray.size) undef, defers := [] } := ⟨_, rfl⟩
  rw [← ha] at hR ⊢
  obtain ⟨Q, hQ⟩ : ∃ Q : Exit → Act → World → Prop, Q = bodyPostM (wideR none) 10 Tryd.prog Tryd.f39 Rr := ⟨_, rfl⟩
  rw [← hQ]
  refine wpIn_seq (prefix_Parse.s1 hR hS ?_)
  intro a1 w1 b0 b1 H1 hR1 hS1 hE1 n0 n1 d01 hH1
  subst hH1
  refine wpIn_seq (prefix_Parse.s2 hR1 hS1 n0 n1 d01 ?_)
  intro a2 w2 b2 b3 hR2 hS2 hE2 hbx
  have hEx2 := hE1.trans hE2
  refine wpIn_seq (wpIn_seq (prefix_Parse.s3 hR2 hS2 ?_))
  intro a3 w3 B0 B1 B2 H3 hR3 hS3 hE3 hle3 c0 c1 c2 m0 m1 m2 d01' d21'
  have hEx3 := hEx2.trans hE3
  have hnone : ∀ {b}, HH H b0 b1 b2 b3 0 false 0 0 b = none → H b = none := fun {b} hb => by
    cases hh : H b with
    | none => rfl
    | some o => rw [HH.le hbx _ _ hh] at hb; cases hb
  have hgeB : w.heap.size ≤ B1 := by
    rcases Nat.lt_or_ge B1 w.heap.size with hlt | hge
    · have := (hEx3.old B1 hlt (hnone m1)).2
      rw [c1] at this; cases this
    · exact hge
  have hge3 := hEx3.size
  -- how it ends
  have finish : ∀ (r : Int) (ok : Bool) (v n v0 n0 : Int) (fr' : Fr) (D : Nat) (a' : Act) (W W0 : World), fr'.getD 2 none = some (PA b0) → fr'.getD 3 none = some (PA b1) → w3.heap.size ≤ D → R (Fx.of [markD D]) fr' a' →
      Ext1 B1 (HH H b0 b1 b2 b3 0 false 0 0) w3 (HH H b0 b1 b2 b3 0 false v0 n0) W0 → W0.heap[D]? = some (.deferred (some [])) → Sub (HH H b0 b1 b2 b3 0 false v0 n0) W0 →
      Sub (HH H b0 b1 b2 b3 r ok v n) W → Ext (HH H b0 b1 b2 b3 0 false v0 n0) W0 (HH H b0 b1 b2 b3 r ok v n) W → r = (parseV s).1 → ok = (parseV s).2 → Q .ret a' W := by
    intro r ok v n v0 n0 fr' D a' W W0 g2 g3 hD hR' hX hdef hS0 hSub hExt hr hk
    have hD0 : ∀ {r ok v n}, HH H b0 b1 b2 b3 r ok v n D = none := fun {r ok v n} => (HH.dom D).1 (by
      cases hh : HH H b0 b1 b2 b3 0 false 0 0 D with
      | none => rfl
      | some o => have := hS3.lt (hle3 _ _ hh); omega)
    have hlt : D < W0.heap.size := (Array.getElem?_eq_some_iff.1 hdef).1
    rw [hQ]
    refine prefix_Parse.fin hbx g2 g3 hR' hSub hD0 (((hExt.old D hlt hD0).1).trans hdef) ?_
    refine hRr _ _ ⟨H, putObj_sub (hSub.of_le (HH.le hbx)) _ (hnone hD0), ⟨?_, ?_, ?_, ?_, fun b hb hn => ⟨?_, hn⟩⟩, ?_⟩
    · exact hExt.os.trans (hX.os.trans hEx3.os)
    · exact hExt.tape.trans (hX.tape.trans hEx3.tape)
    · exact hExt.output.trans (hX.output.trans hEx3.output)
    · have h1 := hExt.size
      have h2 := hX.size
      simp [World.putObj]
      omega
    · obtain ⟨o1, o2⟩ := hEx3.old b hb hn
      have hG : HH H b0 b1 b2 b3 0 false 0 0 b = none := by
        cases hh : HH H b0 b1 b2 b3 0 false 0 0 b with
        | none => rfl
        | some o => rw [hle3 _ _ hh] at o2; cases o2
      have hx2 := hX.size
      obtain ⟨p1, p2⟩ := hX.old b (by omega) hG (by omega)
      obtain ⟨q1, q2⟩ := hExt.old b (by omega) p2
      exact (World.putObj_heap_other (by omega)).trans (q1.trans (p1.trans o1))
    · rw [hr, hk]; exact hK
  refine wpIn_block ?_
  refine prefix_Parse.loop hbx hs er1 er2 htab hR3 hS3 hle3 c0 c1 c2 m0 m1 m2 d01' d21' ?_ ?_
  · intro D W hD hok hSW hX hdef
    show (sub [1, 1, 1] prefix_Parse.body).wpIn (wideR none) 10 Tryd.prog Q _ W
    refine prefix_Parse.J7.ok none 10 (Fx.of [markD D]) Q (fun e fr H' => e = .ret ∧ fr = mkF 43 [(2, PA b0), (3, PA b1)] ∧ ∃ r ok v n, r = (parseV s).1 ∧ ok = (parseV s).2 ∧ H' = HH H b0 b1 b2 b3 r ok v n) NE (fr5 b0 b1 b2 b3 B0 B1 B2) _ _ W (NoPin.none _) ⟨?_, fun v H' a' w' _ _ _ h => h.elim⟩ (hR3.defs _) hSW ?_
    · rintro e fr' H' a' w' hR' hS' hE' ⟨rfl, rfl, r, ok, v, n, h1, h2, rfl⟩
      exact finish r ok v n _ _ _ D a' w' W rfl rfl hD hR' hX hdef hSW hS' hE' h1 h2
    · refine lenIs_in rfl (slPA_in (n := ⟨b0, 0, none⟩) rfl (slPA_in (n := ⟨b1, 0, none⟩) rfl (slPA_in (n := ⟨b2, 0, none⟩) rfl (slPA_in (n := ⟨b3, 0, none⟩) rfl ?_))))
      refine prefix_Parse.J7.run (h := hbx) (fun e => ⟨rfl, rfl, _, _, _, _, ?_, ?_, rfl⟩) (fun e => ⟨rfl, rfl, _, _, _, _, ?_, ?_, rfl⟩)
      · rw [parseV, if_pos ⟨hok, by omega⟩]
      · rw [parseV, if_pos ⟨hok, by omega⟩]
      · rw [parseV, if_neg (by omega)]
      · rw [parseV, if_neg (by omega)]
  · intro D v n W hD hok hSW hX hdef
    show Q .ret _ W
    refine finish 0 false v n _ _ (fr5 b0 b1 b2 b3 B0 B1 B2) D _ W W rfl rfl hD (hR3.defs _) hX hdef hSW hSW (Ext.refl _ _) ?_ ?_
    · rw [parseV, if_neg (by simp [hok])]
    · rw [parseV, if_neg (by simp [hok])]
end Go.Sh
