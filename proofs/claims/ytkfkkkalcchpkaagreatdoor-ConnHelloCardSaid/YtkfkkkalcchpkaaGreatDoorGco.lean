/- PRINTED by a program (sh.py): what the walk over each function asks, and that it asks just that. -/
import Derived.Test.YtkfkkkalcchpkaaGreatDoorSeaE
import Derived.Test.YtkfkkkalcchpkaaGreatDoorStub
namespace Go.Sh
open Go.Proofs
set_option linter.unusedVariables false
set_option maxRecDepth 8000
/-! vizard/conn.number -/
noncomputable def conn_number.body : Code := Tryz.f65.body.getD .skip
def conn_number.W1.vc (n0 : Int) (x0 : Option Addr) (x1 : Nat) (x2 : Nat) (x3 : Int) (x4 : Int) (Kx0 : Int → Heap → Prop) (RR : Int → Int → Heap → Prop) (E : Value → Heap → Prop) (h0 : Heap) : Prop :=
  (if (decide (x4 < x3)) = true then
  nilc x0 fun a0 => (0 : Int) ≤ x4 ∧ x4 < (x1 : Int) ∧
  ldI h0 .u8 (a0.add (x4.toNat * 1)) fun x5 =>
  (0 : Int) ≤ 8 ∧
  RR (bits .or .i64 (shlI .i64 n0 8) (IntKind.i64.wrap x5)) (IntKind.i64.wrap (x4 + 1)) h0
  else
  Kx0 n0 h0)
structure conn_number.W1 (n0 : Int) (x0 : Option Addr) (x1 : Nat) (x2 : Nat) (x3 : Int) (x4 : Int) (Kx0 : Int → Heap → Prop) (E : Value → Heap → Prop) (H : Heap) : Prop where
  h : Loop (fun (RR : Int × Int → Heap → Prop) (s : Int × Int) (H : Heap) => conn_number.W1.vc s.1 x0 x1 x2 x3 s.2 Kx0 (fun n0 x4 H => RR (n0, x4) H) E H) (n0, x4) H
def conn_number.vc (p0 : ByteArray) (K : Int → Heap → Prop) (E : Value → Heap → Prop) (h0 : Heap) : Prop :=
  (0 : Int) ≤ 9 ∧ 9 ≤ (13 : Int) ∧ 13 ≤ (p0.size : Int) ∧
  ∀ j0, newB (.cells ((byteVals (p0.extract 9 13)).toArray ++ Array.replicate j0 (.int .u8 0)) 5 ((p0.extract 9 13).size + j0, (p0.extract 9 13).size + j0 + 1)) (fun b0 h1 =>
  conn_number.W1 0 (some (⟨b0, 0, none⟩ : Addr)) (p0.extract 9 13).size ((p0.extract 9 13).size + j0) ((p0.extract 9 13).size : Int) 0 K E h1) h0
structure conn_number.c (p0 : ByteArray) (K : Int → Heap → Prop) (E : Value → Heap → Prop) (H : Heap) : Prop where
  h : conn_number.vc p0 (fun r0_0 H => ∃ H', Heap.Le H' H ∧ K r0_0 H') E H
def conn_number.F : FT := fun args K E H => match args with
  | [(.string p0)] => conn_number.c p0 (fun r0_0 H => K (.int .i64 r0_0) H) E H
  | _ => False
noncomputable def conn_number.Γ : FuncId → Option FT := Γof []
theorem conn_number.hΓ : ∀ f F, conn_number.Γ f = some F → CalleeOk Tryz.prog f F := Γof_ok (fun _ h => nomatch h)
def conn_number.W1.t : CT := fun Q E fr H => lenIs 20 fr (slI fr 2 .i64 fun n0 => slSl fr 7 fun x0 x1 x2 => slI fr 8 .i64 fun x3 => slI fr 9 .i64 fun x4 => conn_number.W1 n0 x0 x1 x2 x3 x4 (fun y2_0 H => Q (.exit 0) (mkF 20 [(2, (.int .i64 y2_0))]) H) E H)
noncomputable def conn_number.W1.plan : Plan := .go
theorem conn_number.W1.pok : PlanOk Tryz.prog conn_number.W1.plan (sub [1, 0, 1, 0, 0] conn_number.body) := by
  have e : PlanOk Tryz.prog conn_number.W1.plan (sub [1, 0, 1, 0, 0] conn_number.body) = (True) := by kernel_rfl
  exact e.mpr trivial
theorem conn_number.W1.eq (x0 : Option Addr) (x1 : Nat) (x2 : Nat) (x3 : Int) (Q : Ex → Fr → Heap → Prop) (E : Value → Heap → Prop) (RR : Fr → Heap → Prop) (s : Int × Int) (H : Heap) :
    (fun (RR : Int × Int → Heap → Prop) (s : Int × Int) (H : Heap) => conn_number.W1.vc s.1 x0 x1 x2 x3 s.2 (fun y2_0 H => Q (.exit 0) (mkF 20 [(2, (.int .i64 y2_0))]) H) (fun n0 x4 H => RR (n0, x4) H) E H) (fun s' H' => RR ((fun (s : Int × Int) => (mkF 20 [(2, (.int .i64 s.1)), (7, (.slice x0 x1 x2)), (8, (.int .i64 x3)), (9, (.int .i64 s.2))])) s') H') s H = keepT [2, 7, 8, 9] [] (fun i => if i = 0 then [2] else []) (wC Tryz.prog conn_number.Γ conn_number.W1.plan (sub [1, 0, 1, 0, 0] conn_number.body)) (fun e fr' H' => match e with | .normal => RR fr' H' | .exit id => Q (.exit id) fr' H' | .ret => Q .ret fr' H') E ((fun (s : Int × Int) => (mkF 20 [(2, (.int .i64 s.1)), (7, (.slice x0 x1 x2)), (8, (.int .i64 x3)), (9, (.int .i64 s.2))])) s) H := by
  kernel_rfl
theorem conn_number.W1.ok : SoundCode Tryz.prog (sub [1, 0, 1, 0] conn_number.body) conn_number.W1.t := by
  have e : (sub [1, 0, 1, 0] conn_number.body) = .loop (sub [1, 0, 1, 0, 0] conn_number.body) := by kernel_rfl
  rw [e]
  refine piece_sound (loopN_sound (keepT_sound [2, 7, 8, 9] [] (fun i => if i = 0 then [2] else []) (wC_sound conn_number.hΓ Tryz.hm conn_number.W1.plan _ conn_number.W1.pok))) ?_
  intro Q E fr H h
  unfold conn_number.W1.t at h
  obtain ⟨hl, h⟩ := lenIs_elim h
  obtain ⟨n0, q2, h⟩ := slI_elim h
  obtain ⟨x0, x1, x2, q7, h⟩ := slSl_elim h
  obtain ⟨x3, q8, h⟩ := slI_elim h
  obtain ⟨x4, q9, h⟩ := slI_elim h
  obtain ⟨m, h⟩ := h.h
  refine ⟨(mkF 20 [(2, (.int .i64 n0)), (7, (.slice x0 x1 x2)), (8, (.int .i64 x3)), (9, (.int .i64 x4))]), fun a ha => ha.mk (Nat.le_of_eq hl.symm) (List.forall_mem_cons.2 ⟨q2, List.forall_mem_cons.2 ⟨q7, List.forall_mem_cons.2 ⟨q8, List.forall_mem_cons.2 ⟨q9, fun _ h => nomatch h⟩⟩⟩⟩), m, ?_⟩
  have e := loopS_eq (B := (fun (RR : Int × Int → Heap → Prop) (s : Int × Int) (H : Heap) => conn_number.W1.vc s.1 x0 x1 x2 x3 s.2 (fun y2_0 H => Q (.exit 0) (mkF 20 [(2, (.int .i64 y2_0))]) H) (fun n0 x4 H => RR (n0, x4) H) E H)) (A := keepT [2, 7, 8, 9] [] (fun i => if i = 0 then [2] else []) (wC Tryz.prog conn_number.Γ conn_number.W1.plan (sub [1, 0, 1, 0, 0] conn_number.body))) (m := (fun (s : Int × Int) => (mkF 20 [(2, (.int .i64 s.1)), (7, (.slice x0 x1 x2)), (8, (.int .i64 x3)), (9, (.int .i64 s.2))]))) (Q := Q) (E := E) (fun RR s H => conn_number.W1.eq x0 x1 x2 x3 Q E RR s H) m (n0, x4) H
  exact cast e h
noncomputable def conn_number.plan : Plan := .seq (.go) (.seq (.seq (.go) (.block (.use conn_number.W1.t))) (.go))
theorem conn_number.pok : PlanOk Tryz.prog conn_number.plan conn_number.body := by
  have e : PlanOk Tryz.prog conn_number.plan conn_number.body = ((True) ∧ (((True) ∧ (SoundCode Tryz.prog (sub [1, 0, 1, 0] conn_number.body) conn_number.W1.t)) ∧ (True))) := by kernel_rfl
  exact e.mpr ⟨trivial, ⟨⟨trivial, conn_number.W1.ok⟩, trivial⟩⟩
theorem conn_number.eq (p0 : ByteArray) (K : Value → Heap → Prop) (E : Value → Heap → Prop) (H : Heap) :
    fnT Tryz.prog Tryz.f65 (wC Tryz.prog conn_number.Γ conn_number.plan conn_number.body) [(.string p0)] K E H = conn_number.vc p0 (fun r0_0 H => K (.int .i64 r0_0) H) E H := by
  kernel_rfl
theorem conn_number.Fe {args : List Value} {K E : Value → Heap → Prop} {H : Heap} (h : conn_number.F args K E H) : ∃ p0, args = [(.string p0)] ∧ conn_number.c p0 (fun r0_0 H => K (.int .i64 r0_0) H) E H := by
  unfold conn_number.F at h
  split at h
  · exact ⟨_, rfl, h⟩
  · exact h.elim
theorem conn_number.ok : CalleeOk Tryz.prog 65 conn_number.F :=
  callee_ok conn_number.hΓ (fn := Tryz.f65) (c := conn_number.body) (T := wC Tryz.prog conn_number.Γ conn_number.plan conn_number.body) (by kernel_rfl) (by kernel_rfl) (by kernel_rfl) (wC_sound conn_number.hΓ Tryz.hm conn_number.plan _ conn_number.pok) fun _ K E H h => by
    obtain ⟨z0, e, h⟩ := conn_number.Fe h
    subst e
    have h2 : conn_number.vc z0 (fun r0_0 H => ∃ H', Heap.Le H' H ∧ K (.int .i64 r0_0) H') E H := h.h
    rw [conn_number.eq z0 (Fg K) E H]
    exact h2

/-! vizard/conn.opened -/
noncomputable def conn_opened.body : Code := Tryz.f63.body.getD .skip
def conn_opened.vc (key0 : Option Addr) (p0 : ByteArray) (K : ByteArray → Int → Heap → Prop) (E : Value → Heap → Prop) (h0 : Heap) : Prop :=
  (0 : Int) ≤ 13 ∧ 13 ≤ (p0.size : Int) ∧
  (0 : Int) ≤ 13 ∧ 13 ≤ (p0.size : Int) ∧ p0.size ≤ p0.size ∧
  conn_number.c p0 (fun x0 h1 =>
  seal_Key_Open.c key0 x0 (p0.extract 0 13) (p0.extract 13 p0.size) K E h1) E h0
structure conn_opened.c (key0 : Option Addr) (p0 : ByteArray) (K : ByteArray → Int → Heap → Prop) (E : Value → Heap → Prop) (H : Heap) : Prop where
  h : conn_opened.vc key0 p0 (fun r0_0 r1_0 H => ∃ H', Heap.Le H' H ∧ K r0_0 r1_0 H') E H
def conn_opened.F : FT := fun args K E H => match args with
  | [(.pointer key0), (.string p0)] => conn_opened.c key0 p0 (fun r0_0 r1_0 H => K (.tuple #[(.string r0_0), (.int .i64 r1_0)]) H) E H
  | _ => False
noncomputable def conn_opened.Γ : FuncId → Option FT := Γof [(65, conn_number.F), (116, seal_Key_Open.F)]
theorem conn_opened.hΓ : ∀ f F, conn_opened.Γ f = some F → CalleeOk Tryz.prog f F := Γof_ok (List.forall_mem_cons.2 ⟨conn_number.ok, List.forall_mem_cons.2 ⟨seal_Key_Open.ok, fun _ h => nomatch h⟩⟩)
noncomputable def conn_opened.plan : Plan := .seq (.go) (.seq (.draw ⟨[0, 1, 2, 3, 4, 5, 6, 7, 8, 9], (dl [(0, []), (1, []), (3, []), (4, []), (5, []), (6, []), (2, [1]), (7, [0, 2, 4, 6, 1, 3, 5]), (8, []), (9, [])] .fin), [10, 11]⟩) (.go))
theorem conn_opened.pok : PlanOk Tryz.prog conn_opened.plan conn_opened.body := by
  have e : PlanOk Tryz.prog conn_opened.plan conn_opened.body = ((True) ∧ ((True) ∧ (True))) := by kernel_rfl
  exact e.mpr ⟨trivial, ⟨trivial, trivial⟩⟩
theorem conn_opened.eq (key0 : Option Addr) (p0 : ByteArray) (K : Value → Heap → Prop) (E : Value → Heap → Prop) (H : Heap) :
    fnT Tryz.prog Tryz.f63 (wC Tryz.prog conn_opened.Γ conn_opened.plan conn_opened.body) [(.pointer key0), (.string p0)] K E H = conn_opened.vc key0 p0 (fun r0_0 r1_0 H => K (.tuple #[(.string r0_0), (.int .i64 r1_0)]) H) E H := by
  kernel_rfl
theorem conn_opened.Fe {args : List Value} {K E : Value → Heap → Prop} {H : Heap} (h : conn_opened.F args K E H) : ∃ key0 p0, args = [(.pointer key0), (.string p0)] ∧ conn_opened.c key0 p0 (fun r0_0 r1_0 H => K (.tuple #[(.string r0_0), (.int .i64 r1_0)]) H) E H := by
  unfold conn_opened.F at h
  split at h
  · exact ⟨_, _, rfl, h⟩
  · exact h.elim
theorem conn_opened.ok : CalleeOk Tryz.prog 63 conn_opened.F :=
  callee_ok conn_opened.hΓ (fn := Tryz.f63) (c := conn_opened.body) (T := wC Tryz.prog conn_opened.Γ conn_opened.plan conn_opened.body) (by kernel_rfl) (by kernel_rfl) (by kernel_rfl) (wC_sound conn_opened.hΓ Tryz.hm conn_opened.plan _ conn_opened.pok) fun _ K E H h => by
    obtain ⟨z0, z1, e, h⟩ := conn_opened.Fe h
    subst e
    have h2 : conn_opened.vc z0 z1 (fun r0_0 r1_0 H => ∃ H', Heap.Le H' H ∧ K (.tuple #[(.string r0_0), (.int .i64 r1_0)]) H') E H := h.h
    rw [conn_opened.eq z0 z1 (Fg K) E H]
    exact h2

/-! vizard/conn.greeting -/
noncomputable def conn_greeting.body : Code := Tryz.f28.body.getD .skip
def conn_greeting.J1.vc (s0 : ByteArray) (x0 : Bool) (Kn : Heap → Prop) (Kr : ByteArray → Int → Heap → Prop) (E : Value → Heap → Prop) (h0 : Heap) : Prop :=
  (if x0 = true then
  Kr (⟨#[]⟩ : ByteArray) 3 h0
  else
  Kn h0)
structure conn_greeting.J1 (s0 : ByteArray) (x0 : Bool) (Kn : Heap → Prop) (Kr : ByteArray → Int → Heap → Prop) (E : Value → Heap → Prop) (H : Heap) : Prop where
  h : conn_greeting.J1.vc s0 x0 Kn Kr E H
def conn_greeting.J2.vc (s0 : ByteArray) (Kr : ByteArray → Int → Heap → Prop) (E : Value → Heap → Prop) (h0 : Heap) : Prop :=
  Kr s0 0 h0
structure conn_greeting.J2 (s0 : ByteArray) (Kr : ByteArray → Int → Heap → Prop) (E : Value → Heap → Prop) (H : Heap) : Prop where
  h : conn_greeting.J2.vc s0 Kr E H
def conn_greeting.vc (secret0 : ByteArray) (p0 : ByteArray) (K : ByteArray → Int → Heap → Prop) (E : Value → Heap → Prop) (h0 : Heap) : Prop :=
  seal_New.c secret0 (fun x0 h1 =>
  conn_opened.c x0 p0 (fun x1 x2 h2 =>
  (if (x2 != 0) = true then
  K (⟨#[]⟩ : ByteArray) x2 h2
  else
  conn_number.c p0 (fun x3 h3 =>
  (if (x3 != 0) = true then
  conn_greeting.J1 x1 true (fun h4 =>
  conn_greeting.J2 x1 K E h4) K E h3
  else
  conn_greeting.J1 x1 ((x1.size : Int) != 16) (fun h7 =>
  conn_greeting.J2 x1 K E h7) K E h3)) E h2)) E h1) E h0
structure conn_greeting.c (secret0 : ByteArray) (p0 : ByteArray) (K : ByteArray → Int → Heap → Prop) (E : Value → Heap → Prop) (H : Heap) : Prop where
  h : conn_greeting.vc secret0 p0 (fun r0_0 r1_0 H => ∃ H', Heap.Le H' H ∧ K r0_0 r1_0 H') E H
def conn_greeting.F : FT := fun args K E H => match args with
  | [(.string secret0), (.string p0)] => conn_greeting.c secret0 p0 (fun r0_0 r1_0 H => K (.tuple #[(.string r0_0), (.int .i64 r1_0)]) H) E H
  | _ => False
noncomputable def conn_greeting.Γ : FuncId → Option FT := Γof [(63, conn_opened.F), (64, seal_New.F), (65, conn_number.F)]
theorem conn_greeting.hΓ : ∀ f F, conn_greeting.Γ f = some F → CalleeOk Tryz.prog f F := Γof_ok (List.forall_mem_cons.2 ⟨conn_opened.ok, List.forall_mem_cons.2 ⟨seal_New.ok, List.forall_mem_cons.2 ⟨conn_number.ok, fun _ h => nomatch h⟩⟩⟩)
def conn_greeting.J1.t : CT := fun Q E fr H => lenIs 29 fr (slS fr 6 fun s0 => slB fr 19 fun x0 => conn_greeting.J1 s0 x0 (fun  H => Q .normal (mkF 29 [(6, (.string s0))]) H) (fun y4_0 y5_0 H => Q .ret (mkF 29 [(4, (.string y4_0)), (5, (.int .i64 y5_0))]) H) E H)
noncomputable def conn_greeting.J1.plan : Plan := .go
theorem conn_greeting.J1.pok : PlanOk Tryz.prog conn_greeting.J1.plan (sub [1, 1, 0, 0, 1, 1, 1] conn_greeting.body) := by
  have e : PlanOk Tryz.prog conn_greeting.J1.plan (sub [1, 1, 0, 0, 1, 1, 1] conn_greeting.body) = (True) := by kernel_rfl
  exact e.mpr trivial
theorem conn_greeting.J1.eq (s0 : ByteArray) (x0 : Bool) (Q : Ex → Fr → Heap → Prop) (E : Value → Heap → Prop) (H : Heap) :
    conn_greeting.J1.vc s0 x0 (fun  H => Q .normal (mkF 29 [(6, (.string s0))]) H) (fun y4_0 y5_0 H => Q .ret (mkF 29 [(4, (.string y4_0)), (5, (.int .i64 y5_0))]) H) E H = keepT [6] [4, 5] (fun i => []) (wC Tryz.prog conn_greeting.Γ conn_greeting.J1.plan (sub [1, 1, 0, 0, 1, 1, 1] conn_greeting.body)) Q E (mkF 29 [(6, (.string s0)), (19, (.bool x0))]) H := by
  kernel_rfl
theorem conn_greeting.J1.ok : SoundCode Tryz.prog (sub [1, 1, 0, 0, 1, 1, 1] conn_greeting.body) conn_greeting.J1.t := by
  refine piece_sound (keepT_sound [6] [4, 5] (fun i => []) (wC_sound conn_greeting.hΓ Tryz.hm conn_greeting.J1.plan _ conn_greeting.J1.pok)) ?_
  intro Q E fr H h
  unfold conn_greeting.J1.t at h
  obtain ⟨hl, h⟩ := lenIs_elim h
  obtain ⟨s0, q6, h⟩ := slS_elim h
  obtain ⟨x0, q19, h⟩ := slB_elim h
  refine ⟨(mkF 29 [(6, (.string s0)), (19, (.bool x0))]), fun a ha => ha.mk (Nat.le_of_eq hl.symm) (List.forall_mem_cons.2 ⟨q6, List.forall_mem_cons.2 ⟨q19, fun _ h => nomatch h⟩⟩), ?_⟩
  have e := conn_greeting.J1.eq s0 x0 Q E H
  rw [← e]
  exact h.h
def conn_greeting.J2.t : CT := fun Q E fr H => lenIs 29 fr (slS fr 6 fun s0 => conn_greeting.J2 s0 (fun y4_0 y5_0 H => Q .ret (mkF 29 [(4, (.string y4_0)), (5, (.int .i64 y5_0))]) H) E H)
noncomputable def conn_greeting.J2.plan : Plan := .go
theorem conn_greeting.J2.pok : PlanOk Tryz.prog conn_greeting.J2.plan (sub [1, 1, 1] conn_greeting.body) := by
  have e : PlanOk Tryz.prog conn_greeting.J2.plan (sub [1, 1, 1] conn_greeting.body) = (True) := by kernel_rfl
  exact e.mpr trivial
theorem conn_greeting.J2.eq (s0 : ByteArray) (Q : Ex → Fr → Heap → Prop) (E : Value → Heap → Prop) (H : Heap) :
    conn_greeting.J2.vc s0 (fun y4_0 y5_0 H => Q .ret (mkF 29 [(4, (.string y4_0)), (5, (.int .i64 y5_0))]) H) E H = keepT [] [4, 5] (fun i => []) (wC Tryz.prog conn_greeting.Γ conn_greeting.J2.plan (sub [1, 1, 1] conn_greeting.body)) Q E (mkF 29 [(6, (.string s0))]) H := by
  kernel_rfl
theorem conn_greeting.J2.ok : SoundCode Tryz.prog (sub [1, 1, 1] conn_greeting.body) conn_greeting.J2.t := by
  refine piece_sound (keepT_sound [] [4, 5] (fun i => []) (wC_sound conn_greeting.hΓ Tryz.hm conn_greeting.J2.plan _ conn_greeting.J2.pok)) ?_
  intro Q E fr H h
  unfold conn_greeting.J2.t at h
  obtain ⟨hl, h⟩ := lenIs_elim h
  obtain ⟨s0, q6, h⟩ := slS_elim h
  refine ⟨(mkF 29 [(6, (.string s0))]), fun a ha => ha.mk (Nat.le_of_eq hl.symm) (List.forall_mem_cons.2 ⟨q6, fun _ h => nomatch h⟩), ?_⟩
  have e := conn_greeting.J2.eq s0 Q E H
  rw [← e]
  exact h.h
noncomputable def conn_greeting.plan : Plan := .seq (.go) (.seq (.go) (.seq (.block (.seq (.go) (.cond (.go) (.seq (.go) (.use conn_greeting.J1.t))))) (.use conn_greeting.J2.t)))
theorem conn_greeting.pok : PlanOk Tryz.prog conn_greeting.plan conn_greeting.body := by
  have e : PlanOk Tryz.prog conn_greeting.plan conn_greeting.body = ((True) ∧ ((True) ∧ (((True) ∧ ((True) ∧ ((True) ∧ (SoundCode Tryz.prog (sub [1, 1, 0, 0, 1, 1, 1] conn_greeting.body) conn_greeting.J1.t)))) ∧ (SoundCode Tryz.prog (sub [1, 1, 1] conn_greeting.body) conn_greeting.J2.t)))) := by kernel_rfl
  exact e.mpr ⟨trivial, ⟨trivial, ⟨⟨trivial, ⟨trivial, ⟨trivial, conn_greeting.J1.ok⟩⟩⟩, conn_greeting.J2.ok⟩⟩⟩
theorem conn_greeting.eq (secret0 : ByteArray) (p0 : ByteArray) (K : Value → Heap → Prop) (E : Value → Heap → Prop) (H : Heap) :
    fnT Tryz.prog Tryz.f28 (wC Tryz.prog conn_greeting.Γ conn_greeting.plan conn_greeting.body) [(.string secret0), (.string p0)] K E H = conn_greeting.vc secret0 p0 (fun r0_0 r1_0 H => K (.tuple #[(.string r0_0), (.int .i64 r1_0)]) H) E H := by
  kernel_rfl
theorem conn_greeting.Fe {args : List Value} {K E : Value → Heap → Prop} {H : Heap} (h : conn_greeting.F args K E H) : ∃ secret0 p0, args = [(.string secret0), (.string p0)] ∧ conn_greeting.c secret0 p0 (fun r0_0 r1_0 H => K (.tuple #[(.string r0_0), (.int .i64 r1_0)]) H) E H := by
  unfold conn_greeting.F at h
  split at h
  · exact ⟨_, _, rfl, h⟩
  · exact h.elim
theorem conn_greeting.ok : CalleeOk Tryz.prog 28 conn_greeting.F :=
  callee_ok conn_greeting.hΓ (fn := Tryz.f28) (c := conn_greeting.body) (T := wC Tryz.prog conn_greeting.Γ conn_greeting.plan conn_greeting.body) (by kernel_rfl) (by kernel_rfl) (by kernel_rfl) (wC_sound conn_greeting.hΓ Tryz.hm conn_greeting.plan _ conn_greeting.pok) fun _ K E H h => by
    obtain ⟨z0, z1, e, h⟩ := conn_greeting.Fe h
    subst e
    have h2 : conn_greeting.vc z0 z1 (fun r0_0 r1_0 H => ∃ H', Heap.Le H' H ∧ K (.tuple #[(.string r0_0), (.int .i64 r1_0)]) H') E H := h.h
    rw [conn_greeting.eq z0 z1 (Fg K) E H]
    exact h2

/-! vizard/conn.Hello -/
noncomputable def conn_Hello.body : Code := Tryz.f8.body.getD .skip
def conn_Hello.vc (psk0 : ByteArray) (p0 : ByteArray) (K : ByteArray → ByteArray → Int → Heap → Prop) (E : Value → Heap → Prop) (h0 : Heap) : Prop :=
  (if (decide ((p0.size : Int) < 29)) = true then
  K (⟨#[]⟩ : ByteArray) (⟨#[]⟩ : ByteArray) 1 h0
  else
  (0 : Int) ≤ 0 ∧ 0 < (p0.size : Int) ∧
  (if ((bt p0 0) != 1) = true then
  K (⟨#[]⟩ : ByteArray) (⟨#[]⟩ : ByteArray) 5 h0
  else
  sha_Derive.c psk0 (⟨#[104, 101, 108, 108, 111]⟩ : ByteArray) (⟨#[]⟩ : ByteArray) (fun x0 h1 =>
  conn_greeting.c x0 p0 (fun x1 x2 h2 =>
  (if (x2 != 0) = true then
  K (⟨#[]⟩ : ByteArray) (⟨#[]⟩ : ByteArray) x2 h2
  else
  (0 : Int) ≤ 1 ∧ 1 ≤ (9 : Int) ∧ 9 ≤ (p0.size : Int) ∧
  K (p0.extract 1 9) x1 0 h2)) E h1) E h0))
structure conn_Hello.c (psk0 : ByteArray) (p0 : ByteArray) (K : ByteArray → ByteArray → Int → Heap → Prop) (E : Value → Heap → Prop) (H : Heap) : Prop where
  h : conn_Hello.vc psk0 p0 (fun r0_0 r1_0 r2_0 H => ∃ H', Heap.Le H' H ∧ K r0_0 r1_0 r2_0 H') E H
def conn_Hello.F : FT := fun args K E H => match args with
  | [(.string psk0), (.string p0)] => conn_Hello.c psk0 p0 (fun r0_0 r1_0 r2_0 H => K (.tuple #[(.string r0_0), (.string r1_0), (.int .i64 r2_0)]) H) E H
  | _ => False
noncomputable def conn_Hello.Γ : FuncId → Option FT := Γof [(28, conn_greeting.F), (29, sha_Derive.F)]
theorem conn_Hello.hΓ : ∀ f F, conn_Hello.Γ f = some F → CalleeOk Tryz.prog f F := Γof_ok (List.forall_mem_cons.2 ⟨conn_greeting.ok, List.forall_mem_cons.2 ⟨sha_Derive.ok, fun _ h => nomatch h⟩⟩)
noncomputable def conn_Hello.plan : Plan := .go
theorem conn_Hello.pok : PlanOk Tryz.prog conn_Hello.plan conn_Hello.body := by
  have e : PlanOk Tryz.prog conn_Hello.plan conn_Hello.body = (True) := by kernel_rfl
  exact e.mpr trivial
theorem conn_Hello.eq (psk0 : ByteArray) (p0 : ByteArray) (K : Value → Heap → Prop) (E : Value → Heap → Prop) (H : Heap) :
    fnT Tryz.prog Tryz.f8 (wC Tryz.prog conn_Hello.Γ conn_Hello.plan conn_Hello.body) [(.string psk0), (.string p0)] K E H = conn_Hello.vc psk0 p0 (fun r0_0 r1_0 r2_0 H => K (.tuple #[(.string r0_0), (.string r1_0), (.int .i64 r2_0)]) H) E H := by
  kernel_rfl
theorem conn_Hello.Fe {args : List Value} {K E : Value → Heap → Prop} {H : Heap} (h : conn_Hello.F args K E H) : ∃ psk0 p0, args = [(.string psk0), (.string p0)] ∧ conn_Hello.c psk0 p0 (fun r0_0 r1_0 r2_0 H => K (.tuple #[(.string r0_0), (.string r1_0), (.int .i64 r2_0)]) H) E H := by
  unfold conn_Hello.F at h
  split at h
  · exact ⟨_, _, rfl, h⟩
  · exact h.elim
theorem conn_Hello.ok : CalleeOk Tryz.prog 8 conn_Hello.F :=
  callee_ok conn_Hello.hΓ (fn := Tryz.f8) (c := conn_Hello.body) (T := wC Tryz.prog conn_Hello.Γ conn_Hello.plan conn_Hello.body) (by kernel_rfl) (by kernel_rfl) (by kernel_rfl) (wC_sound conn_Hello.hΓ Tryz.hm conn_Hello.plan _ conn_Hello.pok) fun _ K E H h => by
    obtain ⟨z0, z1, e, h⟩ := conn_Hello.Fe h
    subst e
    have h2 : conn_Hello.vc z0 z1 (fun r0_0 r1_0 r2_0 H => ∃ H', Heap.Le H' H ∧ K (.tuple #[(.string r0_0), (.string r1_0), (.int .i64 r2_0)]) H') E H := h.h
    rw [conn_Hello.eq z0 z1 (Fg K) E H]
    exact h2

/-! vizard/vizardref01.Number -/
noncomputable def vizardref01_Number.body : Code := Tryz.f107.body.getD .skip
def vizardref01_Number.W1.vc (s0 : ByteArray) (n0 : Int) (i0 : Int) (Kx0 : Int → Heap → Prop) (RR : Int → Int → Heap → Prop) (E : Value → Heap → Prop) (h0 : Heap) : Prop :=
  (if (decide (i0 < (s0.size : Int))) = true then
  (0 : Int) ≤ i0 ∧ i0 < (s0.size : Int) ∧
  RR (IntKind.i64.wrap ((IntKind.i64.wrap (n0 * 256)) + (IntKind.i64.wrap (bt s0 i0)))) (IntKind.i64.wrap (i0 + 1)) h0
  else
  Kx0 n0 h0)
structure vizardref01_Number.W1 (s0 : ByteArray) (n0 : Int) (i0 : Int) (Kx0 : Int → Heap → Prop) (E : Value → Heap → Prop) (H : Heap) : Prop where
  h : Loop (fun (RR : Int × Int → Heap → Prop) (s : Int × Int) (H : Heap) => vizardref01_Number.W1.vc s0 s.1 s.2 Kx0 (fun n0 i0 H => RR (n0, i0) H) E H) (n0, i0) H
def vizardref01_Number.vc (s0 : ByteArray) (K : Int → Heap → Prop) (E : Value → Heap → Prop) (h0 : Heap) : Prop :=
  vizardref01_Number.W1 s0 0 0 K E h0
structure vizardref01_Number.c (s0 : ByteArray) (K : Int → Heap → Prop) (E : Value → Heap → Prop) (H : Heap) : Prop where
  h : vizardref01_Number.vc s0 (fun r0_0 H => ∃ H', Heap.Le H' H ∧ K r0_0 H') E H
def vizardref01_Number.F : FT := fun args K E H => match args with
  | [(.string s0)] => vizardref01_Number.c s0 (fun r0_0 H => K (.int .i64 r0_0) H) E H
  | _ => False
noncomputable def vizardref01_Number.Γ : FuncId → Option FT := Γof []
theorem vizardref01_Number.hΓ : ∀ f F, vizardref01_Number.Γ f = some F → CalleeOk Tryz.prog f F := Γof_ok (fun _ h => nomatch h)
def vizardref01_Number.W1.t : CT := fun Q E fr H => lenIs 19 fr (slS fr 0 fun s0 => slI fr 3 .i64 fun n0 => slI fr 4 .i64 fun i0 => vizardref01_Number.W1 s0 n0 i0 (fun y3_0 H => Q (.exit 0) (mkF 19 [(3, (.int .i64 y3_0))]) H) E H)
noncomputable def vizardref01_Number.W1.plan : Plan := .go
theorem vizardref01_Number.W1.pok : PlanOk Tryz.prog vizardref01_Number.W1.plan (sub [1, 1, 0, 1, 0, 0] vizardref01_Number.body) := by
  have e : PlanOk Tryz.prog vizardref01_Number.W1.plan (sub [1, 1, 0, 1, 0, 0] vizardref01_Number.body) = (True) := by kernel_rfl
  exact e.mpr trivial
theorem vizardref01_Number.W1.eq (s0 : ByteArray) (Q : Ex → Fr → Heap → Prop) (E : Value → Heap → Prop) (RR : Fr → Heap → Prop) (s : Int × Int) (H : Heap) :
    (fun (RR : Int × Int → Heap → Prop) (s : Int × Int) (H : Heap) => vizardref01_Number.W1.vc s0 s.1 s.2 (fun y3_0 H => Q (.exit 0) (mkF 19 [(3, (.int .i64 y3_0))]) H) (fun n0 i0 H => RR (n0, i0) H) E H) (fun s' H' => RR ((fun (s : Int × Int) => (mkF 19 [(0, (.string s0)), (3, (.int .i64 s.1)), (4, (.int .i64 s.2))])) s') H') s H = keepT [0, 3, 4] [] (fun i => if i = 0 then [3] else []) (wC Tryz.prog vizardref01_Number.Γ vizardref01_Number.W1.plan (sub [1, 1, 0, 1, 0, 0] vizardref01_Number.body)) (fun e fr' H' => match e with | .normal => RR fr' H' | .exit id => Q (.exit id) fr' H' | .ret => Q .ret fr' H') E ((fun (s : Int × Int) => (mkF 19 [(0, (.string s0)), (3, (.int .i64 s.1)), (4, (.int .i64 s.2))])) s) H := by
  kernel_rfl
theorem vizardref01_Number.W1.ok : SoundCode Tryz.prog (sub [1, 1, 0, 1, 0] vizardref01_Number.body) vizardref01_Number.W1.t := by
  have e : (sub [1, 1, 0, 1, 0] vizardref01_Number.body) = .loop (sub [1, 1, 0, 1, 0, 0] vizardref01_Number.body) := by kernel_rfl
  rw [e]
  refine piece_sound (loopN_sound (keepT_sound [0, 3, 4] [] (fun i => if i = 0 then [3] else []) (wC_sound vizardref01_Number.hΓ Tryz.hm vizardref01_Number.W1.plan _ vizardref01_Number.W1.pok))) ?_
  intro Q E fr H h
  unfold vizardref01_Number.W1.t at h
  obtain ⟨hl, h⟩ := lenIs_elim h
  obtain ⟨s0, q0, h⟩ := slS_elim h
  obtain ⟨n0, q3, h⟩ := slI_elim h
  obtain ⟨i0, q4, h⟩ := slI_elim h
  obtain ⟨m, h⟩ := h.h
  refine ⟨(mkF 19 [(0, (.string s0)), (3, (.int .i64 n0)), (4, (.int .i64 i0))]), fun a ha => ha.mk (Nat.le_of_eq hl.symm) (List.forall_mem_cons.2 ⟨q0, List.forall_mem_cons.2 ⟨q3, List.forall_mem_cons.2 ⟨q4, fun _ h => nomatch h⟩⟩⟩), m, ?_⟩
  have e := loopS_eq (B := (fun (RR : Int × Int → Heap → Prop) (s : Int × Int) (H : Heap) => vizardref01_Number.W1.vc s0 s.1 s.2 (fun y3_0 H => Q (.exit 0) (mkF 19 [(3, (.int .i64 y3_0))]) H) (fun n0 i0 H => RR (n0, i0) H) E H)) (A := keepT [0, 3, 4] [] (fun i => if i = 0 then [3] else []) (wC Tryz.prog vizardref01_Number.Γ vizardref01_Number.W1.plan (sub [1, 1, 0, 1, 0, 0] vizardref01_Number.body))) (m := (fun (s : Int × Int) => (mkF 19 [(0, (.string s0)), (3, (.int .i64 s.1)), (4, (.int .i64 s.2))]))) (Q := Q) (E := E) (fun RR s H => vizardref01_Number.W1.eq s0 Q E RR s H) m (n0, i0) H
  exact cast e h
noncomputable def vizardref01_Number.plan : Plan := .seq (.go) (.seq (.go) (.seq (.seq (.go) (.block (.use vizardref01_Number.W1.t))) (.go)))
theorem vizardref01_Number.pok : PlanOk Tryz.prog vizardref01_Number.plan vizardref01_Number.body := by
  have e : PlanOk Tryz.prog vizardref01_Number.plan vizardref01_Number.body = ((True) ∧ ((True) ∧ (((True) ∧ (SoundCode Tryz.prog (sub [1, 1, 0, 1, 0] vizardref01_Number.body) vizardref01_Number.W1.t)) ∧ (True)))) := by kernel_rfl
  exact e.mpr ⟨trivial, ⟨trivial, ⟨⟨trivial, vizardref01_Number.W1.ok⟩, trivial⟩⟩⟩
theorem vizardref01_Number.eq (s0 : ByteArray) (K : Value → Heap → Prop) (E : Value → Heap → Prop) (H : Heap) :
    fnT Tryz.prog Tryz.f107 (wC Tryz.prog vizardref01_Number.Γ vizardref01_Number.plan vizardref01_Number.body) [(.string s0)] K E H = vizardref01_Number.vc s0 (fun r0_0 H => K (.int .i64 r0_0) H) E H := by
  kernel_rfl
theorem vizardref01_Number.Fe {args : List Value} {K E : Value → Heap → Prop} {H : Heap} (h : vizardref01_Number.F args K E H) : ∃ s0, args = [(.string s0)] ∧ vizardref01_Number.c s0 (fun r0_0 H => K (.int .i64 r0_0) H) E H := by
  unfold vizardref01_Number.F at h
  split at h
  · exact ⟨_, rfl, h⟩
  · exact h.elim
theorem vizardref01_Number.ok : CalleeOk Tryz.prog 107 vizardref01_Number.F :=
  callee_ok vizardref01_Number.hΓ (fn := Tryz.f107) (c := vizardref01_Number.body) (T := wC Tryz.prog vizardref01_Number.Γ vizardref01_Number.plan vizardref01_Number.body) (by kernel_rfl) (by kernel_rfl) (by kernel_rfl) (wC_sound vizardref01_Number.hΓ Tryz.hm vizardref01_Number.plan _ vizardref01_Number.pok) fun _ K E H h => by
    obtain ⟨z0, e, h⟩ := vizardref01_Number.Fe h
    subst e
    have h2 : vizardref01_Number.vc z0 (fun r0_0 H => ∃ H', Heap.Le H' H ∧ K (.int .i64 r0_0) H') E H := h.h
    rw [vizardref01_Number.eq z0 (Fg K) E H]
    exact h2

/-! vizard/vizardref13.open -/
noncomputable def vizardref13_open.body : Code := Tryz.f68.body.getD .skip
def vizardref13_open.vc (secret0 : ByteArray) (p0 : ByteArray) (K : Int → ByteArray → Int → Heap → Prop) (E : Value → Heap → Prop) (h0 : Heap) : Prop :=
  (0 : Int) ≤ 9 ∧ 9 ≤ (13 : Int) ∧ 13 ≤ (p0.size : Int) ∧
  vizardref01_Number.c (p0.extract 9 13) (fun x0 h1 =>
  (0 : Int) ≤ 13 ∧ 13 ≤ (p0.size : Int) ∧
  (0 : Int) ≤ 13 ∧ 13 ≤ (p0.size : Int) ∧ p0.size ≤ p0.size ∧
  vizardref06_Open.c secret0 x0 (p0.extract 0 13) (p0.extract 13 p0.size) (fun x1 x2 h2 =>
  K x0 x1 x2 h2) E h1) E h0
structure vizardref13_open.c (secret0 : ByteArray) (p0 : ByteArray) (K : Int → ByteArray → Int → Heap → Prop) (E : Value → Heap → Prop) (H : Heap) : Prop where
  h : vizardref13_open.vc secret0 p0 (fun r0_0 r1_0 r2_0 H => ∃ H', Heap.Le H' H ∧ K r0_0 r1_0 r2_0 H') E H
def vizardref13_open.F : FT := fun args K E H => match args with
  | [(.string secret0), (.string p0)] => vizardref13_open.c secret0 p0 (fun r0_0 r1_0 r2_0 H => K (.tuple #[(.int .i64 r0_0), (.string r1_0), (.int .i64 r2_0)]) H) E H
  | _ => False
noncomputable def vizardref13_open.Γ : FuncId → Option FT := Γof [(107, vizardref01_Number.F), (108, vizardref06_Open.F)]
theorem vizardref13_open.hΓ : ∀ f F, vizardref13_open.Γ f = some F → CalleeOk Tryz.prog f F := Γof_ok (List.forall_mem_cons.2 ⟨vizardref01_Number.ok, List.forall_mem_cons.2 ⟨vizardref06_Open.ok, fun _ h => nomatch h⟩⟩)
noncomputable def vizardref13_open.plan : Plan := .seq (.go) (.seq (.go) (.seq (.draw ⟨[0, 1, 2, 3, 4, 5, 6, 7, 8, 9, 10], (dl [(0, []), (1, []), (2, []), (3, []), (4, []), (5, []), (6, [0, 1, 3, 5, 2, 4]), (7, []), (8, []), (9, []), (10, [])] .fin), [11]⟩) (.go)))
theorem vizardref13_open.pok : PlanOk Tryz.prog vizardref13_open.plan vizardref13_open.body := by
  have e : PlanOk Tryz.prog vizardref13_open.plan vizardref13_open.body = ((True) ∧ ((True) ∧ ((True) ∧ (True)))) := by kernel_rfl
  exact e.mpr ⟨trivial, ⟨trivial, ⟨trivial, trivial⟩⟩⟩
theorem vizardref13_open.eq (secret0 : ByteArray) (p0 : ByteArray) (K : Value → Heap → Prop) (E : Value → Heap → Prop) (H : Heap) :
    fnT Tryz.prog Tryz.f68 (wC Tryz.prog vizardref13_open.Γ vizardref13_open.plan vizardref13_open.body) [(.string secret0), (.string p0)] K E H = vizardref13_open.vc secret0 p0 (fun r0_0 r1_0 r2_0 H => K (.tuple #[(.int .i64 r0_0), (.string r1_0), (.int .i64 r2_0)]) H) E H := by
  kernel_rfl
theorem vizardref13_open.Fe {args : List Value} {K E : Value → Heap → Prop} {H : Heap} (h : vizardref13_open.F args K E H) : ∃ secret0 p0, args = [(.string secret0), (.string p0)] ∧ vizardref13_open.c secret0 p0 (fun r0_0 r1_0 r2_0 H => K (.tuple #[(.int .i64 r0_0), (.string r1_0), (.int .i64 r2_0)]) H) E H := by
  unfold vizardref13_open.F at h
  split at h
  · exact ⟨_, _, rfl, h⟩
  · exact h.elim
theorem vizardref13_open.ok : CalleeOk Tryz.prog 68 vizardref13_open.F :=
  callee_ok vizardref13_open.hΓ (fn := Tryz.f68) (c := vizardref13_open.body) (T := wC Tryz.prog vizardref13_open.Γ vizardref13_open.plan vizardref13_open.body) (by kernel_rfl) (by kernel_rfl) (by kernel_rfl) (wC_sound vizardref13_open.hΓ Tryz.hm vizardref13_open.plan _ vizardref13_open.pok) fun _ K E H h => by
    obtain ⟨z0, z1, e, h⟩ := vizardref13_open.Fe h
    subst e
    have h2 : vizardref13_open.vc z0 z1 (fun r0_0 r1_0 r2_0 H => ∃ H', Heap.Le H' H ∧ K (.tuple #[(.int .i64 r0_0), (.string r1_0), (.int .i64 r2_0)]) H') E H := h.h
    rw [vizardref13_open.eq z0 z1 (Fg K) E H]
    exact h2

/-! vizard/vizardref13.nonce -/
noncomputable def vizardref13_nonce.body : Code := Tryz.f30.body.getD .skip
def vizardref13_nonce.J1.vc (s0 : ByteArray) (x0 : Bool) (Kn : Heap → Prop) (Kr : ByteArray → Int → Heap → Prop) (E : Value → Heap → Prop) (h0 : Heap) : Prop :=
  (if x0 = true then
  Kr (⟨#[]⟩ : ByteArray) 3 h0
  else
  Kn h0)
structure vizardref13_nonce.J1 (s0 : ByteArray) (x0 : Bool) (Kn : Heap → Prop) (Kr : ByteArray → Int → Heap → Prop) (E : Value → Heap → Prop) (H : Heap) : Prop where
  h : vizardref13_nonce.J1.vc s0 x0 Kn Kr E H
def vizardref13_nonce.J2.vc (s0 : ByteArray) (Kr : ByteArray → Int → Heap → Prop) (E : Value → Heap → Prop) (h0 : Heap) : Prop :=
  Kr s0 0 h0
structure vizardref13_nonce.J2 (s0 : ByteArray) (Kr : ByteArray → Int → Heap → Prop) (E : Value → Heap → Prop) (H : Heap) : Prop where
  h : vizardref13_nonce.J2.vc s0 Kr E H
def vizardref13_nonce.vc (secret0 : ByteArray) (p0 : ByteArray) (K : ByteArray → Int → Heap → Prop) (E : Value → Heap → Prop) (h0 : Heap) : Prop :=
  vizardref13_open.c secret0 p0 (fun x0 x1 x2 h1 =>
  (if (x2 != 0) = true then
  K (⟨#[]⟩ : ByteArray) x2 h1
  else
  (if (x0 != 0) = true then
  vizardref13_nonce.J1 x1 true (fun h2 =>
  vizardref13_nonce.J2 x1 K E h2) K E h1
  else
  vizardref13_nonce.J1 x1 ((x1.size : Int) != 16) (fun h5 =>
  vizardref13_nonce.J2 x1 K E h5) K E h1))) E h0
structure vizardref13_nonce.c (secret0 : ByteArray) (p0 : ByteArray) (K : ByteArray → Int → Heap → Prop) (E : Value → Heap → Prop) (H : Heap) : Prop where
  h : vizardref13_nonce.vc secret0 p0 (fun r0_0 r1_0 H => ∃ H', Heap.Le H' H ∧ K r0_0 r1_0 H') E H
def vizardref13_nonce.F : FT := fun args K E H => match args with
  | [(.string secret0), (.string p0)] => vizardref13_nonce.c secret0 p0 (fun r0_0 r1_0 H => K (.tuple #[(.string r0_0), (.int .i64 r1_0)]) H) E H
  | _ => False
noncomputable def vizardref13_nonce.Γ : FuncId → Option FT := Γof [(68, vizardref13_open.F)]
theorem vizardref13_nonce.hΓ : ∀ f F, vizardref13_nonce.Γ f = some F → CalleeOk Tryz.prog f F := Γof_ok (List.forall_mem_cons.2 ⟨vizardref13_open.ok, fun _ h => nomatch h⟩)
def vizardref13_nonce.J1.t : CT := fun Q E fr H => lenIs 27 fr (slS fr 7 fun s0 => slB fr 25 fun x0 => vizardref13_nonce.J1 s0 x0 (fun  H => Q .normal (mkF 27 [(7, (.string s0))]) H) (fun y4_0 y5_0 H => Q .ret (mkF 27 [(4, (.string y4_0)), (5, (.int .i64 y5_0))]) H) E H)
noncomputable def vizardref13_nonce.J1.plan : Plan := .go
theorem vizardref13_nonce.J1.pok : PlanOk Tryz.prog vizardref13_nonce.J1.plan (sub [1, 1, 1, 0, 1] vizardref13_nonce.body) := by
  have e : PlanOk Tryz.prog vizardref13_nonce.J1.plan (sub [1, 1, 1, 0, 1] vizardref13_nonce.body) = (True) := by kernel_rfl
  exact e.mpr trivial
theorem vizardref13_nonce.J1.eq (s0 : ByteArray) (x0 : Bool) (Q : Ex → Fr → Heap → Prop) (E : Value → Heap → Prop) (H : Heap) :
    vizardref13_nonce.J1.vc s0 x0 (fun  H => Q .normal (mkF 27 [(7, (.string s0))]) H) (fun y4_0 y5_0 H => Q .ret (mkF 27 [(4, (.string y4_0)), (5, (.int .i64 y5_0))]) H) E H = keepT [7] [4, 5] (fun i => []) (wC Tryz.prog vizardref13_nonce.Γ vizardref13_nonce.J1.plan (sub [1, 1, 1, 0, 1] vizardref13_nonce.body)) Q E (mkF 27 [(7, (.string s0)), (25, (.bool x0))]) H := by
  kernel_rfl
theorem vizardref13_nonce.J1.ok : SoundCode Tryz.prog (sub [1, 1, 1, 0, 1] vizardref13_nonce.body) vizardref13_nonce.J1.t := by
  refine piece_sound (keepT_sound [7] [4, 5] (fun i => []) (wC_sound vizardref13_nonce.hΓ Tryz.hm vizardref13_nonce.J1.plan _ vizardref13_nonce.J1.pok)) ?_
  intro Q E fr H h
  unfold vizardref13_nonce.J1.t at h
  obtain ⟨hl, h⟩ := lenIs_elim h
  obtain ⟨s0, q7, h⟩ := slS_elim h
  obtain ⟨x0, q25, h⟩ := slB_elim h
  refine ⟨(mkF 27 [(7, (.string s0)), (25, (.bool x0))]), fun a ha => ha.mk (Nat.le_of_eq hl.symm) (List.forall_mem_cons.2 ⟨q7, List.forall_mem_cons.2 ⟨q25, fun _ h => nomatch h⟩⟩), ?_⟩
  have e := vizardref13_nonce.J1.eq s0 x0 Q E H
  rw [← e]
  exact h.h
def vizardref13_nonce.J2.t : CT := fun Q E fr H => lenIs 27 fr (slS fr 7 fun s0 => vizardref13_nonce.J2 s0 (fun y4_0 y5_0 H => Q .ret (mkF 27 [(4, (.string y4_0)), (5, (.int .i64 y5_0))]) H) E H)
noncomputable def vizardref13_nonce.J2.plan : Plan := .go
theorem vizardref13_nonce.J2.pok : PlanOk Tryz.prog vizardref13_nonce.J2.plan (sub [1, 1, 1, 1] vizardref13_nonce.body) := by
  have e : PlanOk Tryz.prog vizardref13_nonce.J2.plan (sub [1, 1, 1, 1] vizardref13_nonce.body) = (True) := by kernel_rfl
  exact e.mpr trivial
theorem vizardref13_nonce.J2.eq (s0 : ByteArray) (Q : Ex → Fr → Heap → Prop) (E : Value → Heap → Prop) (H : Heap) :
    vizardref13_nonce.J2.vc s0 (fun y4_0 y5_0 H => Q .ret (mkF 27 [(4, (.string y4_0)), (5, (.int .i64 y5_0))]) H) E H = keepT [] [4, 5] (fun i => []) (wC Tryz.prog vizardref13_nonce.Γ vizardref13_nonce.J2.plan (sub [1, 1, 1, 1] vizardref13_nonce.body)) Q E (mkF 27 [(7, (.string s0))]) H := by
  kernel_rfl
theorem vizardref13_nonce.J2.ok : SoundCode Tryz.prog (sub [1, 1, 1, 1] vizardref13_nonce.body) vizardref13_nonce.J2.t := by
  refine piece_sound (keepT_sound [] [4, 5] (fun i => []) (wC_sound vizardref13_nonce.hΓ Tryz.hm vizardref13_nonce.J2.plan _ vizardref13_nonce.J2.pok)) ?_
  intro Q E fr H h
  unfold vizardref13_nonce.J2.t at h
  obtain ⟨hl, h⟩ := lenIs_elim h
  obtain ⟨s0, q7, h⟩ := slS_elim h
  refine ⟨(mkF 27 [(7, (.string s0))]), fun a ha => ha.mk (Nat.le_of_eq hl.symm) (List.forall_mem_cons.2 ⟨q7, fun _ h => nomatch h⟩), ?_⟩
  have e := vizardref13_nonce.J2.eq s0 Q E H
  rw [← e]
  exact h.h
noncomputable def vizardref13_nonce.plan : Plan := .seq (.go) (.seq (.go) (.seq (.go) (.seq (.seq (.go) (.use vizardref13_nonce.J1.t)) (.use vizardref13_nonce.J2.t))))
theorem vizardref13_nonce.pok : PlanOk Tryz.prog vizardref13_nonce.plan vizardref13_nonce.body := by
  have e : PlanOk Tryz.prog vizardref13_nonce.plan vizardref13_nonce.body = ((True) ∧ ((True) ∧ ((True) ∧ (((True) ∧ (SoundCode Tryz.prog (sub [1, 1, 1, 0, 1] vizardref13_nonce.body) vizardref13_nonce.J1.t)) ∧ (SoundCode Tryz.prog (sub [1, 1, 1, 1] vizardref13_nonce.body) vizardref13_nonce.J2.t))))) := by kernel_rfl
  exact e.mpr ⟨trivial, ⟨trivial, ⟨trivial, ⟨⟨trivial, vizardref13_nonce.J1.ok⟩, vizardref13_nonce.J2.ok⟩⟩⟩⟩
theorem vizardref13_nonce.eq (secret0 : ByteArray) (p0 : ByteArray) (K : Value → Heap → Prop) (E : Value → Heap → Prop) (H : Heap) :
    fnT Tryz.prog Tryz.f30 (wC Tryz.prog vizardref13_nonce.Γ vizardref13_nonce.plan vizardref13_nonce.body) [(.string secret0), (.string p0)] K E H = vizardref13_nonce.vc secret0 p0 (fun r0_0 r1_0 H => K (.tuple #[(.string r0_0), (.int .i64 r1_0)]) H) E H := by
  kernel_rfl
theorem vizardref13_nonce.Fe {args : List Value} {K E : Value → Heap → Prop} {H : Heap} (h : vizardref13_nonce.F args K E H) : ∃ secret0 p0, args = [(.string secret0), (.string p0)] ∧ vizardref13_nonce.c secret0 p0 (fun r0_0 r1_0 H => K (.tuple #[(.string r0_0), (.int .i64 r1_0)]) H) E H := by
  unfold vizardref13_nonce.F at h
  split at h
  · exact ⟨_, _, rfl, h⟩
  · exact h.elim
theorem vizardref13_nonce.ok : CalleeOk Tryz.prog 30 vizardref13_nonce.F :=
  callee_ok vizardref13_nonce.hΓ (fn := Tryz.f30) (c := vizardref13_nonce.body) (T := wC Tryz.prog vizardref13_nonce.Γ vizardref13_nonce.plan vizardref13_nonce.body) (by kernel_rfl) (by kernel_rfl) (by kernel_rfl) (wC_sound vizardref13_nonce.hΓ Tryz.hm vizardref13_nonce.plan _ vizardref13_nonce.pok) fun _ K E H h => by
    obtain ⟨z0, z1, e, h⟩ := vizardref13_nonce.Fe h
    subst e
    have h2 : vizardref13_nonce.vc z0 z1 (fun r0_0 r1_0 H => ∃ H', Heap.Le H' H ∧ K (.tuple #[(.string r0_0), (.int .i64 r1_0)]) H') E H := h.h
    rw [vizardref13_nonce.eq z0 z1 (Fg K) E H]
    exact h2

/-! vizard/vizardref13.Hello -/
noncomputable def vizardref13_Hello.body : Code := Tryz.f9.body.getD .skip
def vizardref13_Hello.vc (psk0 : ByteArray) (p0 : ByteArray) (K : ByteArray → ByteArray → Int → Heap → Prop) (E : Value → Heap → Prop) (h0 : Heap) : Prop :=
  (if (decide ((p0.size : Int) < 29)) = true then
  K (⟨#[]⟩ : ByteArray) (⟨#[]⟩ : ByteArray) 1 h0
  else
  (0 : Int) ≤ 0 ∧ 0 < (p0.size : Int) ∧
  (if ((bt p0 0) != 1) = true then
  K (⟨#[]⟩ : ByteArray) (⟨#[]⟩ : ByteArray) 5 h0
  else
  vizardref05_Derive.c psk0 (⟨#[104, 101, 108, 108, 111]⟩ : ByteArray) (⟨#[]⟩ : ByteArray) (fun x0 h1 =>
  vizardref13_nonce.c x0 p0 (fun x1 x2 h2 =>
  (if (x2 != 0) = true then
  K (⟨#[]⟩ : ByteArray) (⟨#[]⟩ : ByteArray) x2 h2
  else
  (0 : Int) ≤ 1 ∧ 1 ≤ (9 : Int) ∧ 9 ≤ (p0.size : Int) ∧
  K (p0.extract 1 9) x1 0 h2)) E h1) E h0))
structure vizardref13_Hello.c (psk0 : ByteArray) (p0 : ByteArray) (K : ByteArray → ByteArray → Int → Heap → Prop) (E : Value → Heap → Prop) (H : Heap) : Prop where
  h : vizardref13_Hello.vc psk0 p0 (fun r0_0 r1_0 r2_0 H => ∃ H', Heap.Le H' H ∧ K r0_0 r1_0 r2_0 H') E H
def vizardref13_Hello.F : FT := fun args K E H => match args with
  | [(.string psk0), (.string p0)] => vizardref13_Hello.c psk0 p0 (fun r0_0 r1_0 r2_0 H => K (.tuple #[(.string r0_0), (.string r1_0), (.int .i64 r2_0)]) H) E H
  | _ => False
noncomputable def vizardref13_Hello.Γ : FuncId → Option FT := Γof [(30, vizardref13_nonce.F), (31, vizardref05_Derive.F)]
theorem vizardref13_Hello.hΓ : ∀ f F, vizardref13_Hello.Γ f = some F → CalleeOk Tryz.prog f F := Γof_ok (List.forall_mem_cons.2 ⟨vizardref13_nonce.ok, List.forall_mem_cons.2 ⟨vizardref05_Derive.ok, fun _ h => nomatch h⟩⟩)
noncomputable def vizardref13_Hello.plan : Plan := .go
theorem vizardref13_Hello.pok : PlanOk Tryz.prog vizardref13_Hello.plan vizardref13_Hello.body := by
  have e : PlanOk Tryz.prog vizardref13_Hello.plan vizardref13_Hello.body = (True) := by kernel_rfl
  exact e.mpr trivial
theorem vizardref13_Hello.eq (psk0 : ByteArray) (p0 : ByteArray) (K : Value → Heap → Prop) (E : Value → Heap → Prop) (H : Heap) :
    fnT Tryz.prog Tryz.f9 (wC Tryz.prog vizardref13_Hello.Γ vizardref13_Hello.plan vizardref13_Hello.body) [(.string psk0), (.string p0)] K E H = vizardref13_Hello.vc psk0 p0 (fun r0_0 r1_0 r2_0 H => K (.tuple #[(.string r0_0), (.string r1_0), (.int .i64 r2_0)]) H) E H := by
  kernel_rfl
theorem vizardref13_Hello.Fe {args : List Value} {K E : Value → Heap → Prop} {H : Heap} (h : vizardref13_Hello.F args K E H) : ∃ psk0 p0, args = [(.string psk0), (.string p0)] ∧ vizardref13_Hello.c psk0 p0 (fun r0_0 r1_0 r2_0 H => K (.tuple #[(.string r0_0), (.string r1_0), (.int .i64 r2_0)]) H) E H := by
  unfold vizardref13_Hello.F at h
  split at h
  · exact ⟨_, _, rfl, h⟩
  · exact h.elim
theorem vizardref13_Hello.ok : CalleeOk Tryz.prog 9 vizardref13_Hello.F :=
  callee_ok vizardref13_Hello.hΓ (fn := Tryz.f9) (c := vizardref13_Hello.body) (T := wC Tryz.prog vizardref13_Hello.Γ vizardref13_Hello.plan vizardref13_Hello.body) (by kernel_rfl) (by kernel_rfl) (by kernel_rfl) (wC_sound vizardref13_Hello.hΓ Tryz.hm vizardref13_Hello.plan _ vizardref13_Hello.pok) fun _ K E H h => by
    obtain ⟨z0, z1, e, h⟩ := vizardref13_Hello.Fe h
    subst e
    have h2 : vizardref13_Hello.vc z0 z1 (fun r0_0 r1_0 r2_0 H => ∃ H', Heap.Le H' H ∧ K (.tuple #[(.string r0_0), (.string r1_0), (.int .i64 r2_0)]) H') E H := h.h
    rw [vizardref13_Hello.eq z0 z1 (Fg K) E H]
    exact h2

/-! vizard/replay.New -/
noncomputable def replay_New.body : Code := Tryz.f71.body.getD .skip
def replay_New.vc (K : Option Addr → Heap → Prop) (E : Value → Heap → Prop) (h0 : Heap) : Prop :=
  newB (.cells #[(.int .i64 0), (.int .u64 0)] 223) (fun b0 h1 =>
  K (some (⟨b0, 0, none⟩ : Addr)) h1) h0
structure replay_New.c (K : Option Addr → Heap → Prop) (E : Value → Heap → Prop) (H : Heap) : Prop where
  h : replay_New.vc  (fun r0_0 H => ∃ H', Heap.Le H' H ∧ K r0_0 H') E H
def replay_New.F : FT := fun args K E H => match args with
  | [] => replay_New.c  (fun r0_0 H => K (.pointer r0_0) H) E H
  | _ => False
noncomputable def replay_New.Γ : FuncId → Option FT := Γof []
theorem replay_New.hΓ : ∀ f F, replay_New.Γ f = some F → CalleeOk Tryz.prog f F := Γof_ok (fun _ h => nomatch h)
noncomputable def replay_New.plan : Plan := .go
theorem replay_New.pok : PlanOk Tryz.prog replay_New.plan replay_New.body := by
  have e : PlanOk Tryz.prog replay_New.plan replay_New.body = (True) := by kernel_rfl
  exact e.mpr trivial
theorem replay_New.eq (K : Value → Heap → Prop) (E : Value → Heap → Prop) (H : Heap) :
    fnT Tryz.prog Tryz.f71 (wC Tryz.prog replay_New.Γ replay_New.plan replay_New.body) [] K E H = replay_New.vc  (fun r0_0 H => K (.pointer r0_0) H) E H := by
  kernel_rfl
theorem replay_New.Fe {args : List Value} {K E : Value → Heap → Prop} {H : Heap} (h : replay_New.F args K E H) : args = [] ∧ replay_New.c  (fun r0_0 H => K (.pointer r0_0) H) E H := by
  unfold replay_New.F at h
  split at h
  · exact ⟨rfl, h⟩
  · exact h.elim
theorem replay_New.ok : CalleeOk Tryz.prog 71 replay_New.F :=
  callee_ok replay_New.hΓ (fn := Tryz.f71) (c := replay_New.body) (T := wC Tryz.prog replay_New.Γ replay_New.plan replay_New.body) (by kernel_rfl) (by kernel_rfl) (by kernel_rfl) (wC_sound replay_New.hΓ Tryz.hm replay_New.plan _ replay_New.pok) fun _ K E H h => by
    obtain ⟨e, h⟩ := replay_New.Fe h
    subst e
    have h2 : replay_New.vc (fun r0_0 H => ∃ H', Heap.Le H' H ∧ K (.pointer r0_0) H') E H := h.h
    rw [replay_New.eq (Fg K) E H]
    exact h2

/-! vizard/acks.New -/
noncomputable def acks_New.body : Code := Tryz.f72.body.getD .skip
def acks_New.vc (K : Option Addr → Heap → Prop) (E : Value → Heap → Prop) (h0 : Heap) : Prop :=
  newB (.cells #[(.slice none 0 0)] 225) (fun b0 h1 =>
  K (some (⟨b0, 0, none⟩ : Addr)) h1) h0
structure acks_New.c (K : Option Addr → Heap → Prop) (E : Value → Heap → Prop) (H : Heap) : Prop where
  h : acks_New.vc  (fun r0_0 H => ∃ H', Heap.Le H' H ∧ K r0_0 H') E H
def acks_New.F : FT := fun args K E H => match args with
  | [] => acks_New.c  (fun r0_0 H => K (.pointer r0_0) H) E H
  | _ => False
noncomputable def acks_New.Γ : FuncId → Option FT := Γof []
theorem acks_New.hΓ : ∀ f F, acks_New.Γ f = some F → CalleeOk Tryz.prog f F := Γof_ok (fun _ h => nomatch h)
noncomputable def acks_New.plan : Plan := .go
theorem acks_New.pok : PlanOk Tryz.prog acks_New.plan acks_New.body := by
  have e : PlanOk Tryz.prog acks_New.plan acks_New.body = (True) := by kernel_rfl
  exact e.mpr trivial
theorem acks_New.eq (K : Value → Heap → Prop) (E : Value → Heap → Prop) (H : Heap) :
    fnT Tryz.prog Tryz.f72 (wC Tryz.prog acks_New.Γ acks_New.plan acks_New.body) [] K E H = acks_New.vc  (fun r0_0 H => K (.pointer r0_0) H) E H := by
  kernel_rfl
theorem acks_New.Fe {args : List Value} {K E : Value → Heap → Prop} {H : Heap} (h : acks_New.F args K E H) : args = [] ∧ acks_New.c  (fun r0_0 H => K (.pointer r0_0) H) E H := by
  unfold acks_New.F at h
  split at h
  · exact ⟨rfl, h⟩
  · exact h.elim
theorem acks_New.ok : CalleeOk Tryz.prog 72 acks_New.F :=
  callee_ok acks_New.hΓ (fn := Tryz.f72) (c := acks_New.body) (T := wC Tryz.prog acks_New.Γ acks_New.plan acks_New.body) (by kernel_rfl) (by kernel_rfl) (by kernel_rfl) (wC_sound acks_New.hΓ Tryz.hm acks_New.plan _ acks_New.pok) fun _ K E H h => by
    obtain ⟨e, h⟩ := acks_New.Fe h
    subst e
    have h2 : acks_New.vc (fun r0_0 H => ∃ H', Heap.Le H' H ∧ K (.pointer r0_0) H') E H := h.h
    rw [acks_New.eq (Fg K) E H]
    exact h2

/-! vizard/ledger.New -/
noncomputable def ledger_New.body : Code := Tryz.f73.body.getD .skip
def ledger_New.vc (K : Option Addr → Heap → Prop) (E : Value → Heap → Prop) (h0 : Heap) : Prop :=
  newB (.cells #[(.slice none 0 0), (.int .i64 (-1)), (.int .i64 12000), (.int .i64 1073741824), (.int .i64 (-1)), (.int .i64 0)] 159) (fun b0 h1 =>
  K (some (⟨b0, 0, none⟩ : Addr)) h1) h0
structure ledger_New.c (K : Option Addr → Heap → Prop) (E : Value → Heap → Prop) (H : Heap) : Prop where
  h : ledger_New.vc  (fun r0_0 H => ∃ H', Heap.Le H' H ∧ K r0_0 H') E H
def ledger_New.F : FT := fun args K E H => match args with
  | [] => ledger_New.c  (fun r0_0 H => K (.pointer r0_0) H) E H
  | _ => False
noncomputable def ledger_New.Γ : FuncId → Option FT := Γof []
theorem ledger_New.hΓ : ∀ f F, ledger_New.Γ f = some F → CalleeOk Tryz.prog f F := Γof_ok (fun _ h => nomatch h)
noncomputable def ledger_New.plan : Plan := .go
theorem ledger_New.pok : PlanOk Tryz.prog ledger_New.plan ledger_New.body := by
  have e : PlanOk Tryz.prog ledger_New.plan ledger_New.body = (True) := by kernel_rfl
  exact e.mpr trivial
theorem ledger_New.eq (K : Value → Heap → Prop) (E : Value → Heap → Prop) (H : Heap) :
    fnT Tryz.prog Tryz.f73 (wC Tryz.prog ledger_New.Γ ledger_New.plan ledger_New.body) [] K E H = ledger_New.vc  (fun r0_0 H => K (.pointer r0_0) H) E H := by
  kernel_rfl
theorem ledger_New.Fe {args : List Value} {K E : Value → Heap → Prop} {H : Heap} (h : ledger_New.F args K E H) : args = [] ∧ ledger_New.c  (fun r0_0 H => K (.pointer r0_0) H) E H := by
  unfold ledger_New.F at h
  split at h
  · exact ⟨rfl, h⟩
  · exact h.elim
theorem ledger_New.ok : CalleeOk Tryz.prog 73 ledger_New.F :=
  callee_ok ledger_New.hΓ (fn := Tryz.f73) (c := ledger_New.body) (T := wC Tryz.prog ledger_New.Γ ledger_New.plan ledger_New.body) (by kernel_rfl) (by kernel_rfl) (by kernel_rfl) (wC_sound ledger_New.hΓ Tryz.hm ledger_New.plan _ ledger_New.pok) fun _ K E H h => by
    obtain ⟨e, h⟩ := ledger_New.Fe h
    subst e
    have h2 : ledger_New.vc (fun r0_0 H => ∃ H', Heap.Le H' H ∧ K (.pointer r0_0) H') E H := h.h
    rw [ledger_New.eq (Fg K) E H]
    exact h2

/-! vizard/conn.ids -/
noncomputable def conn_ids.body : Code := Tryz.f74.body.getD .skip
def conn_ids.vc (K : Option Addr → Nat → Nat → Heap → Prop) (E : Value → Heap → Prop) (h0 : Heap) : Prop :=
  newB (.cells #[(.int .i64 0), (.int .i64 2), (.int .i64 3), (.int .i64 4), (.int .i64 8), (.int .i64 12), (.int .i64 16), (.int .i64 20), (.int .i64 24), (.int .i64 28)] 2) (fun b0 h1 =>
  K (some (⟨b0, 0, none⟩ : Addr)) 10 10 h1) h0
structure conn_ids.c (K : Option Addr → Nat → Nat → Heap → Prop) (E : Value → Heap → Prop) (H : Heap) : Prop where
  h : conn_ids.vc  (fun r0_0 r0_1 r0_2 H => ∃ H', Heap.Le H' H ∧ K r0_0 r0_1 r0_2 H') E H
def conn_ids.F : FT := fun args K E H => match args with
  | [] => conn_ids.c  (fun r0_0 r0_1 r0_2 H => K (.slice r0_0 r0_1 r0_2) H) E H
  | _ => False
noncomputable def conn_ids.Γ : FuncId → Option FT := Γof []
theorem conn_ids.hΓ : ∀ f F, conn_ids.Γ f = some F → CalleeOk Tryz.prog f F := Γof_ok (fun _ h => nomatch h)
noncomputable def conn_ids.plan : Plan := .go
theorem conn_ids.pok : PlanOk Tryz.prog conn_ids.plan conn_ids.body := by
  have e : PlanOk Tryz.prog conn_ids.plan conn_ids.body = (True) := by kernel_rfl
  exact e.mpr trivial
theorem conn_ids.eq (K : Value → Heap → Prop) (E : Value → Heap → Prop) (H : Heap) :
    fnT Tryz.prog Tryz.f74 (wC Tryz.prog conn_ids.Γ conn_ids.plan conn_ids.body) [] K E H = conn_ids.vc  (fun r0_0 r0_1 r0_2 H => K (.slice r0_0 r0_1 r0_2) H) E H := by
  kernel_rfl
theorem conn_ids.Fe {args : List Value} {K E : Value → Heap → Prop} {H : Heap} (h : conn_ids.F args K E H) : args = [] ∧ conn_ids.c  (fun r0_0 r0_1 r0_2 H => K (.slice r0_0 r0_1 r0_2) H) E H := by
  unfold conn_ids.F at h
  split at h
  · exact ⟨rfl, h⟩
  · exact h.elim
theorem conn_ids.ok : CalleeOk Tryz.prog 74 conn_ids.F :=
  callee_ok conn_ids.hΓ (fn := Tryz.f74) (c := conn_ids.body) (T := wC Tryz.prog conn_ids.Γ conn_ids.plan conn_ids.body) (by kernel_rfl) (by kernel_rfl) (by kernel_rfl) (wC_sound conn_ids.hΓ Tryz.hm conn_ids.plan _ conn_ids.pok) fun _ K E H h => by
    obtain ⟨e, h⟩ := conn_ids.Fe h
    subst e
    have h2 : conn_ids.vc (fun r0_0 r0_1 r0_2 H => ∃ H', Heap.Le H' H ∧ K (.slice r0_0 r0_1 r0_2) H') E H := h.h
    rw [conn_ids.eq (Fg K) E H]
    exact h2

/-! vizard/inbox.New -/
noncomputable def inbox_New.body : Code := Tryz.f75.body.getD .skip
def inbox_New.vc (K : Option Addr → Heap → Prop) (E : Value → Heap → Prop) (h0 : Heap) : Prop :=
  newB (.map #[] 0) (fun b0 h1 =>
  newB (.cells #[(.map (some b0)), (.int .i64 0), (.int .i64 (-1)), (.int .i64 0), (.bool false)] 185) (fun b1 h2 =>
  K (some (⟨b1, 0, none⟩ : Addr)) h2) h1) h0
structure inbox_New.c (K : Option Addr → Heap → Prop) (E : Value → Heap → Prop) (H : Heap) : Prop where
  h : inbox_New.vc  (fun r0_0 H => ∃ H', Heap.Le H' H ∧ K r0_0 H') E H
def inbox_New.F : FT := fun args K E H => match args with
  | [] => inbox_New.c  (fun r0_0 H => K (.pointer r0_0) H) E H
  | _ => False
noncomputable def inbox_New.Γ : FuncId → Option FT := Γof []
theorem inbox_New.hΓ : ∀ f F, inbox_New.Γ f = some F → CalleeOk Tryz.prog f F := Γof_ok (fun _ h => nomatch h)
noncomputable def inbox_New.plan : Plan := .go
theorem inbox_New.pok : PlanOk Tryz.prog inbox_New.plan inbox_New.body := by
  have e : PlanOk Tryz.prog inbox_New.plan inbox_New.body = (True) := by kernel_rfl
  exact e.mpr trivial
theorem inbox_New.eq (K : Value → Heap → Prop) (E : Value → Heap → Prop) (H : Heap) :
    fnT Tryz.prog Tryz.f75 (wC Tryz.prog inbox_New.Γ inbox_New.plan inbox_New.body) [] K E H = inbox_New.vc  (fun r0_0 H => K (.pointer r0_0) H) E H := by
  kernel_rfl
theorem inbox_New.Fe {args : List Value} {K E : Value → Heap → Prop} {H : Heap} (h : inbox_New.F args K E H) : args = [] ∧ inbox_New.c  (fun r0_0 H => K (.pointer r0_0) H) E H := by
  unfold inbox_New.F at h
  split at h
  · exact ⟨rfl, h⟩
  · exact h.elim
theorem inbox_New.ok : CalleeOk Tryz.prog 75 inbox_New.F :=
  callee_ok inbox_New.hΓ (fn := Tryz.f75) (c := inbox_New.body) (T := wC Tryz.prog inbox_New.Γ inbox_New.plan inbox_New.body) (by kernel_rfl) (by kernel_rfl) (by kernel_rfl) (wC_sound inbox_New.hΓ Tryz.hm inbox_New.plan _ inbox_New.pok) fun _ K E H h => by
    obtain ⟨e, h⟩ := inbox_New.Fe h
    subst e
    have h2 : inbox_New.vc (fun r0_0 H => ∃ H', Heap.Le H' H ∧ K (.pointer r0_0) H') E H := h.h
    rw [inbox_New.eq (Fg K) E H]
    exact h2

/-! vizard/outbox.New -/
noncomputable def outbox_New.body : Code := Tryz.f76.body.getD .skip
def outbox_New.vc (K : Option Addr → Heap → Prop) (E : Value → Heap → Prop) (h0 : Heap) : Prop :=
  newB (.cells #[(.slice none 0 0), (.slice none 0 0), (.int .u8 3), (.int .i64 4096), (.int .i64 0)] 181) (fun b0 h1 =>
  K (some (⟨b0, 0, none⟩ : Addr)) h1) h0
structure outbox_New.c (K : Option Addr → Heap → Prop) (E : Value → Heap → Prop) (H : Heap) : Prop where
  h : outbox_New.vc  (fun r0_0 H => ∃ H', Heap.Le H' H ∧ K r0_0 H') E H
def outbox_New.F : FT := fun args K E H => match args with
  | [] => outbox_New.c  (fun r0_0 H => K (.pointer r0_0) H) E H
  | _ => False
noncomputable def outbox_New.Γ : FuncId → Option FT := Γof []
theorem outbox_New.hΓ : ∀ f F, outbox_New.Γ f = some F → CalleeOk Tryz.prog f F := Γof_ok (fun _ h => nomatch h)
noncomputable def outbox_New.plan : Plan := .go
theorem outbox_New.pok : PlanOk Tryz.prog outbox_New.plan outbox_New.body := by
  have e : PlanOk Tryz.prog outbox_New.plan outbox_New.body = (True) := by kernel_rfl
  exact e.mpr trivial
theorem outbox_New.eq (K : Value → Heap → Prop) (E : Value → Heap → Prop) (H : Heap) :
    fnT Tryz.prog Tryz.f76 (wC Tryz.prog outbox_New.Γ outbox_New.plan outbox_New.body) [] K E H = outbox_New.vc  (fun r0_0 H => K (.pointer r0_0) H) E H := by
  kernel_rfl
theorem outbox_New.Fe {args : List Value} {K E : Value → Heap → Prop} {H : Heap} (h : outbox_New.F args K E H) : args = [] ∧ outbox_New.c  (fun r0_0 H => K (.pointer r0_0) H) E H := by
  unfold outbox_New.F at h
  split at h
  · exact ⟨rfl, h⟩
  · exact h.elim
theorem outbox_New.ok : CalleeOk Tryz.prog 76 outbox_New.F :=
  callee_ok outbox_New.hΓ (fn := Tryz.f76) (c := outbox_New.body) (T := wC Tryz.prog outbox_New.Γ outbox_New.plan outbox_New.body) (by kernel_rfl) (by kernel_rfl) (by kernel_rfl) (wC_sound outbox_New.hΓ Tryz.hm outbox_New.plan _ outbox_New.pok) fun _ K E H h => by
    obtain ⟨e, h⟩ := outbox_New.Fe h
    subst e
    have h2 : outbox_New.vc (fun r0_0 H => ∃ H', Heap.Le H' H ∧ K (.pointer r0_0) H') E H := h.h
    rw [outbox_New.eq (Fg K) E H]
    exact h2

/-! vizard/conn.made -/
noncomputable def conn_made.body : Code := Tryz.f32.body.getD .skip
def conn_made.W1.vc (c0 : Addr) (x0 : Option Addr) (x1 : Nat) (x2 : Nat) (x3 : Int) (x4 : Int) (Kx0 : Heap → Prop) (RR : Int → Heap → Prop) (E : Value → Heap → Prop) (h0 : Heap) : Prop :=
  (if (decide (x4 < x3)) = true then
  nilc x0 fun a0 => (0 : Int) ≤ x4 ∧ x4 < (x1 : Int) ∧
  ldI h0 .i64 (a0.add (x4.toNat * 1)) fun x5 =>
  nilc (some c0) fun a1 =>
  ldM h0 (a1.add 17) fun x6 =>
  inbox_New.c (fun x7 h1 =>
  (ldM h1 (a1.add 17) fun x8 =>
  eqv h1 h1 (some (.map x6)) (.map x8)) ∧
  outbox_New.c (fun x9 h2 =>
  (ldM h2 (a1.add 17) fun x10 =>
  eqv h2 h2 (some (.map x6)) (.map x10)) ∧
  newB (.cells #[(.pointer x7), (.pointer x9), (.int .i64 0), (.int .i64 0), (.bool false), (.int .i64 4096), (.bool false), (.int .i64 0)] 113) (fun b0 h3 =>
  (ldM h3 (a1.add 17) fun x11 =>
  eqv h3 h3 (some (.map x6)) (.map x11)) ∧
  putW (.int .i64) x6 (.int .i64 x5) (.pointer (some (⟨b0, 0, none⟩ : Addr))) (fun h4 =>
  RR (IntKind.i64.wrap (x4 + 1)) h4) h3) h2) E h1) E h0
  else
  Kx0 h0)
structure conn_made.W1 (c0 : Addr) (x0 : Option Addr) (x1 : Nat) (x2 : Nat) (x3 : Int) (x4 : Int) (Kx0 : Heap → Prop) (E : Value → Heap → Prop) (H : Heap) : Prop where
  h : Loop (fun (RR : Int → Heap → Prop) (s : Int) (H : Heap) => conn_made.W1.vc c0 x0 x1 x2 x3 s Kx0 (fun x4 H => RR (x4) H) E H) (x4) H
def conn_made.vc (psk0 : ByteArray) (cid0 : ByteArray) (nonce0 : ByteArray) (K : Option Addr → Heap → Prop) (E : Value → Heap → Prop) (h0 : Heap) : Prop :=
  replay_New.c (fun x0 h1 =>
  acks_New.c (fun x1 h2 =>
  ledger_New.c (fun x2 h3 =>
  newB (.map #[] 0) (fun b0 h4 =>
  newB (.map #[] 0) (fun b1 h5 =>
  newB (.cells #[(.string psk0), (.string cid0), (.bool false), (.string nonce0), (.int .i64 0), (.int .i64 0), (.bool false), (.bool false), (.int .i64 0), (.bool false), (.bool false), (.int .i64 0), (.pointer none), (.pointer none), (.pointer x0), (.pointer x1), (.pointer x2), (.map (some b0)), (.map (some b1)), (.slice none 0 0), (.slice none 0 0), (.string (⟨#[]⟩ : ByteArray))] 70) (fun b2 h6 =>
  conn_ids.c (fun x3 x4 x5 h7 =>
  conn_made.W1 (⟨b2, 0, none⟩ : Addr) x3 x4 x5 (x4 : Int) 0 (fun h8 =>
  K (some (⟨b2, 0, none⟩ : Addr)) h8) E h7) E h6) h5) h4) h3) E h2) E h1) E h0
structure conn_made.c (psk0 : ByteArray) (cid0 : ByteArray) (nonce0 : ByteArray) (K : Option Addr → Heap → Prop) (E : Value → Heap → Prop) (H : Heap) : Prop where
  h : conn_made.vc psk0 cid0 nonce0 (fun r0_0 H => ∃ H', Heap.Le H' H ∧ K r0_0 H') E H
def conn_made.F : FT := fun args K E H => match args with
  | [(.string psk0), (.string cid0), (.string nonce0)] => conn_made.c psk0 cid0 nonce0 (fun r0_0 H => K (.pointer r0_0) H) E H
  | _ => False
noncomputable def conn_made.Γ : FuncId → Option FT := Γof [(71, replay_New.F), (72, acks_New.F), (73, ledger_New.F), (74, conn_ids.F), (75, inbox_New.F), (76, outbox_New.F)]
theorem conn_made.hΓ : ∀ f F, conn_made.Γ f = some F → CalleeOk Tryz.prog f F := Γof_ok (List.forall_mem_cons.2 ⟨replay_New.ok, List.forall_mem_cons.2 ⟨acks_New.ok, List.forall_mem_cons.2 ⟨ledger_New.ok, List.forall_mem_cons.2 ⟨conn_ids.ok, List.forall_mem_cons.2 ⟨inbox_New.ok, List.forall_mem_cons.2 ⟨outbox_New.ok, fun _ h => nomatch h⟩⟩⟩⟩⟩⟩)
def conn_made.W1.t : CT := fun Q E fr H => lenIs 37 fr (slPA fr 7 fun c0 => slSl fr 20 fun x0 x1 x2 => slI fr 21 .i64 fun x3 => slI fr 22 .i64 fun x4 => conn_made.W1 c0 x0 x1 x2 x3 x4 (fun  H => Q (.exit 0) (mkF 37 [(7, (.pointer (some c0)))]) H) E H)
noncomputable def conn_made.W1.plan : Plan := .seq (.go) (.seq (.go) (.seq (.block (.seq (.go) (.draw ⟨[0, 1, 2, 3, 4, 5, 6, 7, 8, 9], (dl [(0, []), (1, []), (2, []), (3, []), (4, []), (5, []), (6, [5]), (7, []), (8, [7, 5, 6]), (9, [3, 4, 8, 6, 0, 1, 2, 5, 7])] .fin), []⟩))) (.go)))
theorem conn_made.W1.pok : PlanOk Tryz.prog conn_made.W1.plan (sub [1, 1, 0, 1, 0, 0] conn_made.body) := by
  have e : PlanOk Tryz.prog conn_made.W1.plan (sub [1, 1, 0, 1, 0, 0] conn_made.body) = ((True) ∧ ((True) ∧ (((True) ∧ (True)) ∧ (True)))) := by kernel_rfl
  exact e.mpr ⟨trivial, ⟨trivial, ⟨⟨trivial, trivial⟩, trivial⟩⟩⟩
theorem conn_made.W1.eq (c0 : Addr) (x0 : Option Addr) (x1 : Nat) (x2 : Nat) (x3 : Int) (Q : Ex → Fr → Heap → Prop) (E : Value → Heap → Prop) (RR : Fr → Heap → Prop) (s : Int) (H : Heap) :
    (fun (RR : Int → Heap → Prop) (s : Int) (H : Heap) => conn_made.W1.vc c0 x0 x1 x2 x3 s (fun  H => Q (.exit 0) (mkF 37 [(7, (.pointer (some c0)))]) H) (fun x4 H => RR (x4) H) E H) (fun s' H' => RR ((fun (s : Int) => (mkF 37 [(7, (.pointer (some c0))), (20, (.slice x0 x1 x2)), (21, (.int .i64 x3)), (22, (.int .i64 s))])) s') H') s H = keepT [7, 20, 21, 22] [] (fun i => if i = 0 then [7] else []) (wC Tryz.prog conn_made.Γ conn_made.W1.plan (sub [1, 1, 0, 1, 0, 0] conn_made.body)) (fun e fr' H' => match e with | .normal => RR fr' H' | .exit id => Q (.exit id) fr' H' | .ret => Q .ret fr' H') E ((fun (s : Int) => (mkF 37 [(7, (.pointer (some c0))), (20, (.slice x0 x1 x2)), (21, (.int .i64 x3)), (22, (.int .i64 s))])) s) H := by
  kernel_rfl
theorem conn_made.W1.ok : SoundCode Tryz.prog (sub [1, 1, 0, 1, 0] conn_made.body) conn_made.W1.t := by
  have e : (sub [1, 1, 0, 1, 0] conn_made.body) = .loop (sub [1, 1, 0, 1, 0, 0] conn_made.body) := by kernel_rfl
  rw [e]
  refine piece_sound (loopN_sound (keepT_sound [7, 20, 21, 22] [] (fun i => if i = 0 then [7] else []) (wC_sound conn_made.hΓ Tryz.hm conn_made.W1.plan _ conn_made.W1.pok))) ?_
  intro Q E fr H h
  unfold conn_made.W1.t at h
  obtain ⟨hl, h⟩ := lenIs_elim h
  obtain ⟨c0, q7, h⟩ := slPA_elim h
  obtain ⟨x0, x1, x2, q20, h⟩ := slSl_elim h
  obtain ⟨x3, q21, h⟩ := slI_elim h
  obtain ⟨x4, q22, h⟩ := slI_elim h
  obtain ⟨m, h⟩ := h.h
  refine ⟨(mkF 37 [(7, (.pointer (some c0))), (20, (.slice x0 x1 x2)), (21, (.int .i64 x3)), (22, (.int .i64 x4))]), fun a ha => ha.mk (Nat.le_of_eq hl.symm) (List.forall_mem_cons.2 ⟨q7, List.forall_mem_cons.2 ⟨q20, List.forall_mem_cons.2 ⟨q21, List.forall_mem_cons.2 ⟨q22, fun _ h => nomatch h⟩⟩⟩⟩), m, ?_⟩
  have e := loopS_eq (B := (fun (RR : Int → Heap → Prop) (s : Int) (H : Heap) => conn_made.W1.vc c0 x0 x1 x2 x3 s (fun  H => Q (.exit 0) (mkF 37 [(7, (.pointer (some c0)))]) H) (fun x4 H => RR (x4) H) E H)) (A := keepT [7, 20, 21, 22] [] (fun i => if i = 0 then [7] else []) (wC Tryz.prog conn_made.Γ conn_made.W1.plan (sub [1, 1, 0, 1, 0, 0] conn_made.body))) (m := (fun (s : Int) => (mkF 37 [(7, (.pointer (some c0))), (20, (.slice x0 x1 x2)), (21, (.int .i64 x3)), (22, (.int .i64 s))]))) (Q := Q) (E := E) (fun RR s H => conn_made.W1.eq c0 x0 x1 x2 x3 Q E RR s H) m (x4) H
  exact cast e h
noncomputable def conn_made.plan : Plan := .seq (.go) (.seq (.go) (.seq (.seq (.go) (.block (.use conn_made.W1.t))) (.go)))
theorem conn_made.pok : PlanOk Tryz.prog conn_made.plan conn_made.body := by
  have e : PlanOk Tryz.prog conn_made.plan conn_made.body = ((True) ∧ ((True) ∧ (((True) ∧ (SoundCode Tryz.prog (sub [1, 1, 0, 1, 0] conn_made.body) conn_made.W1.t)) ∧ (True)))) := by kernel_rfl
  exact e.mpr ⟨trivial, ⟨trivial, ⟨⟨trivial, conn_made.W1.ok⟩, trivial⟩⟩⟩
theorem conn_made.eq (psk0 : ByteArray) (cid0 : ByteArray) (nonce0 : ByteArray) (K : Value → Heap → Prop) (E : Value → Heap → Prop) (H : Heap) :
    fnT Tryz.prog Tryz.f32 (wC Tryz.prog conn_made.Γ conn_made.plan conn_made.body) [(.string psk0), (.string cid0), (.string nonce0)] K E H = conn_made.vc psk0 cid0 nonce0 (fun r0_0 H => K (.pointer r0_0) H) E H := by
  kernel_rfl
theorem conn_made.Fe {args : List Value} {K E : Value → Heap → Prop} {H : Heap} (h : conn_made.F args K E H) : ∃ psk0 cid0 nonce0, args = [(.string psk0), (.string cid0), (.string nonce0)] ∧ conn_made.c psk0 cid0 nonce0 (fun r0_0 H => K (.pointer r0_0) H) E H := by
  unfold conn_made.F at h
  split at h
  · exact ⟨_, _, _, rfl, h⟩
  · exact h.elim
theorem conn_made.ok : CalleeOk Tryz.prog 32 conn_made.F :=
  callee_ok conn_made.hΓ (fn := Tryz.f32) (c := conn_made.body) (T := wC Tryz.prog conn_made.Γ conn_made.plan conn_made.body) (by kernel_rfl) (by kernel_rfl) (by kernel_rfl) (wC_sound conn_made.hΓ Tryz.hm conn_made.plan _ conn_made.pok) fun _ K E H h => by
    obtain ⟨z0, z1, z2, e, h⟩ := conn_made.Fe h
    subst e
    have h2 : conn_made.vc z0 z1 z2 (fun r0_0 H => ∃ H', Heap.Le H' H ∧ K (.pointer r0_0) H') E H := h.h
    rw [conn_made.eq z0 z1 z2 (Fg K) E H]
    exact h2

/-! vizard/conn.Dial -/
noncomputable def conn_Dial.body : Code := Tryz.f10.body.getD .skip
def conn_Dial.J1.vc (psk0 : ByteArray) (cid0 : ByteArray) (nonce0 : ByteArray) (x0 : Bool) (Kn : Heap → Prop) (Kr : Option Addr → Int → Heap → Prop) (E : Value → Heap → Prop) (h0 : Heap) : Prop :=
  (if x0 = true then
  Kr none 3 h0
  else
  Kn h0)
structure conn_Dial.J1 (psk0 : ByteArray) (cid0 : ByteArray) (nonce0 : ByteArray) (x0 : Bool) (Kn : Heap → Prop) (Kr : Option Addr → Int → Heap → Prop) (E : Value → Heap → Prop) (H : Heap) : Prop where
  h : conn_Dial.J1.vc psk0 cid0 nonce0 x0 Kn Kr E H
def conn_Dial.J2.vc (psk0 : ByteArray) (cid0 : ByteArray) (nonce0 : ByteArray) (Kr : Option Addr → Int → Heap → Prop) (E : Value → Heap → Prop) (h0 : Heap) : Prop :=
  conn_made.c psk0 cid0 nonce0 (fun x0 h1 =>
  nilc x0 fun a0 =>
  stc h1 (a0.add 4) (.int .i64 1) fun h2 =>
  Kr x0 0 h2) E h0
structure conn_Dial.J2 (psk0 : ByteArray) (cid0 : ByteArray) (nonce0 : ByteArray) (Kr : Option Addr → Int → Heap → Prop) (E : Value → Heap → Prop) (H : Heap) : Prop where
  h : conn_Dial.J2.vc psk0 cid0 nonce0 Kr E H
def conn_Dial.vc (psk0 : ByteArray) (cid0 : ByteArray) (nonce0 : ByteArray) (K : Option Addr → Int → Heap → Prop) (E : Value → Heap → Prop) (h0 : Heap) : Prop :=
  (if ((cid0.size : Int) != 8) = true then
  conn_Dial.J1 psk0 cid0 nonce0 true (fun h1 =>
  conn_Dial.J2 psk0 cid0 nonce0 K E h1) K E h0
  else
  conn_Dial.J1 psk0 cid0 nonce0 ((nonce0.size : Int) != 16) (fun h4 =>
  conn_Dial.J2 psk0 cid0 nonce0 K E h4) K E h0)
structure conn_Dial.c (psk0 : ByteArray) (cid0 : ByteArray) (nonce0 : ByteArray) (K : Option Addr → Int → Heap → Prop) (E : Value → Heap → Prop) (H : Heap) : Prop where
  h : conn_Dial.vc psk0 cid0 nonce0 (fun r0_0 r1_0 H => ∃ H', Heap.Le H' H ∧ K r0_0 r1_0 H') E H
def conn_Dial.F : FT := fun args K E H => match args with
  | [(.string psk0), (.string cid0), (.string nonce0)] => conn_Dial.c psk0 cid0 nonce0 (fun r0_0 r1_0 H => K (.tuple #[(.pointer r0_0), (.int .i64 r1_0)]) H) E H
  | _ => False
noncomputable def conn_Dial.Γ : FuncId → Option FT := Γof [(32, conn_made.F)]
theorem conn_Dial.hΓ : ∀ f F, conn_Dial.Γ f = some F → CalleeOk Tryz.prog f F := Γof_ok (List.forall_mem_cons.2 ⟨conn_made.ok, fun _ h => nomatch h⟩)
def conn_Dial.J1.t : CT := fun Q E fr H => lenIs 25 fr (slS fr 0 fun psk0 => slS fr 1 fun cid0 => slS fr 2 fun nonce0 => slB fr 16 fun x0 => conn_Dial.J1 psk0 cid0 nonce0 x0 (fun  H => Q .normal (mkF 25 [(0, (.string psk0)), (1, (.string cid0)), (2, (.string nonce0))]) H) (fun y6_0 y7_0 H => Q .ret (mkF 25 [(6, (.pointer y6_0)), (7, (.int .i64 y7_0))]) H) E H)
noncomputable def conn_Dial.J1.plan : Plan := .go
theorem conn_Dial.J1.pok : PlanOk Tryz.prog conn_Dial.J1.plan (sub [1, 0, 1] conn_Dial.body) := by
  have e : PlanOk Tryz.prog conn_Dial.J1.plan (sub [1, 0, 1] conn_Dial.body) = (True) := by kernel_rfl
  exact e.mpr trivial
theorem conn_Dial.J1.eq (psk0 : ByteArray) (cid0 : ByteArray) (nonce0 : ByteArray) (x0 : Bool) (Q : Ex → Fr → Heap → Prop) (E : Value → Heap → Prop) (H : Heap) :
    conn_Dial.J1.vc psk0 cid0 nonce0 x0 (fun  H => Q .normal (mkF 25 [(0, (.string psk0)), (1, (.string cid0)), (2, (.string nonce0))]) H) (fun y6_0 y7_0 H => Q .ret (mkF 25 [(6, (.pointer y6_0)), (7, (.int .i64 y7_0))]) H) E H = keepT [0, 1, 2] [6, 7] (fun i => []) (wC Tryz.prog conn_Dial.Γ conn_Dial.J1.plan (sub [1, 0, 1] conn_Dial.body)) Q E (mkF 25 [(0, (.string psk0)), (1, (.string cid0)), (2, (.string nonce0)), (16, (.bool x0))]) H := by
  kernel_rfl
theorem conn_Dial.J1.ok : SoundCode Tryz.prog (sub [1, 0, 1] conn_Dial.body) conn_Dial.J1.t := by
  refine piece_sound (keepT_sound [0, 1, 2] [6, 7] (fun i => []) (wC_sound conn_Dial.hΓ Tryz.hm conn_Dial.J1.plan _ conn_Dial.J1.pok)) ?_
  intro Q E fr H h
  unfold conn_Dial.J1.t at h
  obtain ⟨hl, h⟩ := lenIs_elim h
  obtain ⟨psk0, q0, h⟩ := slS_elim h
  obtain ⟨cid0, q1, h⟩ := slS_elim h
  obtain ⟨nonce0, q2, h⟩ := slS_elim h
  obtain ⟨x0, q16, h⟩ := slB_elim h
  refine ⟨(mkF 25 [(0, (.string psk0)), (1, (.string cid0)), (2, (.string nonce0)), (16, (.bool x0))]), fun a ha => ha.mk (Nat.le_of_eq hl.symm) (List.forall_mem_cons.2 ⟨q0, List.forall_mem_cons.2 ⟨q1, List.forall_mem_cons.2 ⟨q2, List.forall_mem_cons.2 ⟨q16, fun _ h => nomatch h⟩⟩⟩⟩), ?_⟩
  have e := conn_Dial.J1.eq psk0 cid0 nonce0 x0 Q E H
  rw [← e]
  exact h.h
def conn_Dial.J2.t : CT := fun Q E fr H => lenIs 25 fr (slS fr 0 fun psk0 => slS fr 1 fun cid0 => slS fr 2 fun nonce0 => conn_Dial.J2 psk0 cid0 nonce0 (fun y6_0 y7_0 H => Q .ret (mkF 25 [(6, (.pointer y6_0)), (7, (.int .i64 y7_0))]) H) E H)
noncomputable def conn_Dial.J2.plan : Plan := .go
theorem conn_Dial.J2.pok : PlanOk Tryz.prog conn_Dial.J2.plan (sub [1, 1] conn_Dial.body) := by
  have e : PlanOk Tryz.prog conn_Dial.J2.plan (sub [1, 1] conn_Dial.body) = (True) := by kernel_rfl
  exact e.mpr trivial
theorem conn_Dial.J2.eq (psk0 : ByteArray) (cid0 : ByteArray) (nonce0 : ByteArray) (Q : Ex → Fr → Heap → Prop) (E : Value → Heap → Prop) (H : Heap) :
    conn_Dial.J2.vc psk0 cid0 nonce0 (fun y6_0 y7_0 H => Q .ret (mkF 25 [(6, (.pointer y6_0)), (7, (.int .i64 y7_0))]) H) E H = keepT [] [6, 7] (fun i => []) (wC Tryz.prog conn_Dial.Γ conn_Dial.J2.plan (sub [1, 1] conn_Dial.body)) Q E (mkF 25 [(0, (.string psk0)), (1, (.string cid0)), (2, (.string nonce0))]) H := by
  kernel_rfl
theorem conn_Dial.J2.ok : SoundCode Tryz.prog (sub [1, 1] conn_Dial.body) conn_Dial.J2.t := by
  refine piece_sound (keepT_sound [] [6, 7] (fun i => []) (wC_sound conn_Dial.hΓ Tryz.hm conn_Dial.J2.plan _ conn_Dial.J2.pok)) ?_
  intro Q E fr H h
  unfold conn_Dial.J2.t at h
  obtain ⟨hl, h⟩ := lenIs_elim h
  obtain ⟨psk0, q0, h⟩ := slS_elim h
  obtain ⟨cid0, q1, h⟩ := slS_elim h
  obtain ⟨nonce0, q2, h⟩ := slS_elim h
  refine ⟨(mkF 25 [(0, (.string psk0)), (1, (.string cid0)), (2, (.string nonce0))]), fun a ha => ha.mk (Nat.le_of_eq hl.symm) (List.forall_mem_cons.2 ⟨q0, List.forall_mem_cons.2 ⟨q1, List.forall_mem_cons.2 ⟨q2, fun _ h => nomatch h⟩⟩⟩), ?_⟩
  have e := conn_Dial.J2.eq psk0 cid0 nonce0 Q E H
  rw [← e]
  exact h.h
noncomputable def conn_Dial.plan : Plan := .seq (.go) (.seq (.seq (.go) (.use conn_Dial.J1.t)) (.use conn_Dial.J2.t))
theorem conn_Dial.pok : PlanOk Tryz.prog conn_Dial.plan conn_Dial.body := by
  have e : PlanOk Tryz.prog conn_Dial.plan conn_Dial.body = ((True) ∧ (((True) ∧ (SoundCode Tryz.prog (sub [1, 0, 1] conn_Dial.body) conn_Dial.J1.t)) ∧ (SoundCode Tryz.prog (sub [1, 1] conn_Dial.body) conn_Dial.J2.t))) := by kernel_rfl
  exact e.mpr ⟨trivial, ⟨⟨trivial, conn_Dial.J1.ok⟩, conn_Dial.J2.ok⟩⟩
theorem conn_Dial.eq (psk0 : ByteArray) (cid0 : ByteArray) (nonce0 : ByteArray) (K : Value → Heap → Prop) (E : Value → Heap → Prop) (H : Heap) :
    fnT Tryz.prog Tryz.f10 (wC Tryz.prog conn_Dial.Γ conn_Dial.plan conn_Dial.body) [(.string psk0), (.string cid0), (.string nonce0)] K E H = conn_Dial.vc psk0 cid0 nonce0 (fun r0_0 r1_0 H => K (.tuple #[(.pointer r0_0), (.int .i64 r1_0)]) H) E H := by
  kernel_rfl
theorem conn_Dial.Fe {args : List Value} {K E : Value → Heap → Prop} {H : Heap} (h : conn_Dial.F args K E H) : ∃ psk0 cid0 nonce0, args = [(.string psk0), (.string cid0), (.string nonce0)] ∧ conn_Dial.c psk0 cid0 nonce0 (fun r0_0 r1_0 H => K (.tuple #[(.pointer r0_0), (.int .i64 r1_0)]) H) E H := by
  unfold conn_Dial.F at h
  split at h
  · exact ⟨_, _, _, rfl, h⟩
  · exact h.elim
theorem conn_Dial.ok : CalleeOk Tryz.prog 10 conn_Dial.F :=
  callee_ok conn_Dial.hΓ (fn := Tryz.f10) (c := conn_Dial.body) (T := wC Tryz.prog conn_Dial.Γ conn_Dial.plan conn_Dial.body) (by kernel_rfl) (by kernel_rfl) (by kernel_rfl) (wC_sound conn_Dial.hΓ Tryz.hm conn_Dial.plan _ conn_Dial.pok) fun _ K E H h => by
    obtain ⟨z0, z1, z2, e, h⟩ := conn_Dial.Fe h
    subst e
    have h2 : conn_Dial.vc z0 z1 z2 (fun r0_0 r1_0 H => ∃ H', Heap.Le H' H ∧ K (.tuple #[(.pointer r0_0), (.int .i64 r1_0)]) H') E H := h.h
    rw [conn_Dial.eq z0 z1 z2 (Fg K) E H]
    exact h2

/-! vizard/vizardref10.New -/
noncomputable def vizardref10_New.body : Code := Tryz.f77.body.getD .skip
def vizardref10_New.vc (K : Option Addr → Heap → Prop) (E : Value → Heap → Prop) (h0 : Heap) : Prop :=
  newB (.cells #[(.slice none 0 0), (.int .i64 (-1)), (.int .i64 12000), (.int .i64 1073741824), (.int .i64 (-1)), (.int .i64 0)] 103) (fun b0 h1 =>
  K (some (⟨b0, 0, none⟩ : Addr)) h1) h0
structure vizardref10_New.c (K : Option Addr → Heap → Prop) (E : Value → Heap → Prop) (H : Heap) : Prop where
  h : vizardref10_New.vc  (fun r0_0 H => ∃ H', Heap.Le H' H ∧ K r0_0 H') E H
def vizardref10_New.F : FT := fun args K E H => match args with
  | [] => vizardref10_New.c  (fun r0_0 H => K (.pointer r0_0) H) E H
  | _ => False
noncomputable def vizardref10_New.Γ : FuncId → Option FT := Γof []
theorem vizardref10_New.hΓ : ∀ f F, vizardref10_New.Γ f = some F → CalleeOk Tryz.prog f F := Γof_ok (fun _ h => nomatch h)
noncomputable def vizardref10_New.plan : Plan := .go
theorem vizardref10_New.pok : PlanOk Tryz.prog vizardref10_New.plan vizardref10_New.body := by
  have e : PlanOk Tryz.prog vizardref10_New.plan vizardref10_New.body = (True) := by kernel_rfl
  exact e.mpr trivial
theorem vizardref10_New.eq (K : Value → Heap → Prop) (E : Value → Heap → Prop) (H : Heap) :
    fnT Tryz.prog Tryz.f77 (wC Tryz.prog vizardref10_New.Γ vizardref10_New.plan vizardref10_New.body) [] K E H = vizardref10_New.vc  (fun r0_0 H => K (.pointer r0_0) H) E H := by
  kernel_rfl
theorem vizardref10_New.Fe {args : List Value} {K E : Value → Heap → Prop} {H : Heap} (h : vizardref10_New.F args K E H) : args = [] ∧ vizardref10_New.c  (fun r0_0 H => K (.pointer r0_0) H) E H := by
  unfold vizardref10_New.F at h
  split at h
  · exact ⟨rfl, h⟩
  · exact h.elim
theorem vizardref10_New.ok : CalleeOk Tryz.prog 77 vizardref10_New.F :=
  callee_ok vizardref10_New.hΓ (fn := Tryz.f77) (c := vizardref10_New.body) (T := wC Tryz.prog vizardref10_New.Γ vizardref10_New.plan vizardref10_New.body) (by kernel_rfl) (by kernel_rfl) (by kernel_rfl) (wC_sound vizardref10_New.hΓ Tryz.hm vizardref10_New.plan _ vizardref10_New.pok) fun _ K E H h => by
    obtain ⟨e, h⟩ := vizardref10_New.Fe h
    subst e
    have h2 : vizardref10_New.vc (fun r0_0 H => ∃ H', Heap.Le H' H ∧ K (.pointer r0_0) H') E H := h.h
    rw [vizardref10_New.eq (Fg K) E H]
    exact h2

/-! vizard/vizardref11.New -/
noncomputable def vizardref11_New.body : Code := Tryz.f78.body.getD .skip
def vizardref11_New.vc (K : Option Addr → Heap → Prop) (E : Value → Heap → Prop) (h0 : Heap) : Prop :=
  newB (.map #[] 0) (fun b0 h1 =>
  newB (.cells #[(.map (some b0)), (.int .i64 0), (.int .i64 (-1)), (.int .i64 0), (.bool false)] 227) (fun b1 h2 =>
  K (some (⟨b1, 0, none⟩ : Addr)) h2) h1) h0
structure vizardref11_New.c (K : Option Addr → Heap → Prop) (E : Value → Heap → Prop) (H : Heap) : Prop where
  h : vizardref11_New.vc  (fun r0_0 H => ∃ H', Heap.Le H' H ∧ K r0_0 H') E H
def vizardref11_New.F : FT := fun args K E H => match args with
  | [] => vizardref11_New.c  (fun r0_0 H => K (.pointer r0_0) H) E H
  | _ => False
noncomputable def vizardref11_New.Γ : FuncId → Option FT := Γof []
theorem vizardref11_New.hΓ : ∀ f F, vizardref11_New.Γ f = some F → CalleeOk Tryz.prog f F := Γof_ok (fun _ h => nomatch h)
noncomputable def vizardref11_New.plan : Plan := .go
theorem vizardref11_New.pok : PlanOk Tryz.prog vizardref11_New.plan vizardref11_New.body := by
  have e : PlanOk Tryz.prog vizardref11_New.plan vizardref11_New.body = (True) := by kernel_rfl
  exact e.mpr trivial
theorem vizardref11_New.eq (K : Value → Heap → Prop) (E : Value → Heap → Prop) (H : Heap) :
    fnT Tryz.prog Tryz.f78 (wC Tryz.prog vizardref11_New.Γ vizardref11_New.plan vizardref11_New.body) [] K E H = vizardref11_New.vc  (fun r0_0 H => K (.pointer r0_0) H) E H := by
  kernel_rfl
theorem vizardref11_New.Fe {args : List Value} {K E : Value → Heap → Prop} {H : Heap} (h : vizardref11_New.F args K E H) : args = [] ∧ vizardref11_New.c  (fun r0_0 H => K (.pointer r0_0) H) E H := by
  unfold vizardref11_New.F at h
  split at h
  · exact ⟨rfl, h⟩
  · exact h.elim
theorem vizardref11_New.ok : CalleeOk Tryz.prog 78 vizardref11_New.F :=
  callee_ok vizardref11_New.hΓ (fn := Tryz.f78) (c := vizardref11_New.body) (T := wC Tryz.prog vizardref11_New.Γ vizardref11_New.plan vizardref11_New.body) (by kernel_rfl) (by kernel_rfl) (by kernel_rfl) (wC_sound vizardref11_New.hΓ Tryz.hm vizardref11_New.plan _ vizardref11_New.pok) fun _ K E H h => by
    obtain ⟨e, h⟩ := vizardref11_New.Fe h
    subst e
    have h2 : vizardref11_New.vc (fun r0_0 H => ∃ H', Heap.Le H' H ∧ K (.pointer r0_0) H') E H := h.h
    rw [vizardref11_New.eq (Fg K) E H]
    exact h2

/-! vizard/vizardref12.Make -/
noncomputable def vizardref12_Make.body : Code := Tryz.f79.body.getD .skip
def vizardref12_Make.vc (K : Option Addr → Heap → Prop) (E : Value → Heap → Prop) (h0 : Heap) : Prop :=
  newB (.cells #[(.string (⟨#[]⟩ : ByteArray)), (.slice none 0 0), (.int .i64 3), (.int .i64 4096)] 230) (fun b0 h1 =>
  K (some (⟨b0, 0, none⟩ : Addr)) h1) h0
structure vizardref12_Make.c (K : Option Addr → Heap → Prop) (E : Value → Heap → Prop) (H : Heap) : Prop where
  h : vizardref12_Make.vc  (fun r0_0 H => ∃ H', Heap.Le H' H ∧ K r0_0 H') E H
def vizardref12_Make.F : FT := fun args K E H => match args with
  | [] => vizardref12_Make.c  (fun r0_0 H => K (.pointer r0_0) H) E H
  | _ => False
noncomputable def vizardref12_Make.Γ : FuncId → Option FT := Γof []
theorem vizardref12_Make.hΓ : ∀ f F, vizardref12_Make.Γ f = some F → CalleeOk Tryz.prog f F := Γof_ok (fun _ h => nomatch h)
noncomputable def vizardref12_Make.plan : Plan := .go
theorem vizardref12_Make.pok : PlanOk Tryz.prog vizardref12_Make.plan vizardref12_Make.body := by
  have e : PlanOk Tryz.prog vizardref12_Make.plan vizardref12_Make.body = (True) := by kernel_rfl
  exact e.mpr trivial
theorem vizardref12_Make.eq (K : Value → Heap → Prop) (E : Value → Heap → Prop) (H : Heap) :
    fnT Tryz.prog Tryz.f79 (wC Tryz.prog vizardref12_Make.Γ vizardref12_Make.plan vizardref12_Make.body) [] K E H = vizardref12_Make.vc  (fun r0_0 H => K (.pointer r0_0) H) E H := by
  kernel_rfl
theorem vizardref12_Make.Fe {args : List Value} {K E : Value → Heap → Prop} {H : Heap} (h : vizardref12_Make.F args K E H) : args = [] ∧ vizardref12_Make.c  (fun r0_0 H => K (.pointer r0_0) H) E H := by
  unfold vizardref12_Make.F at h
  split at h
  · exact ⟨rfl, h⟩
  · exact h.elim
theorem vizardref12_Make.ok : CalleeOk Tryz.prog 79 vizardref12_Make.F :=
  callee_ok vizardref12_Make.hΓ (fn := Tryz.f79) (c := vizardref12_Make.body) (T := wC Tryz.prog vizardref12_Make.Γ vizardref12_Make.plan vizardref12_Make.body) (by kernel_rfl) (by kernel_rfl) (by kernel_rfl) (wC_sound vizardref12_Make.hΓ Tryz.hm vizardref12_Make.plan _ vizardref12_Make.pok) fun _ K E H h => by
    obtain ⟨e, h⟩ := vizardref12_Make.Fe h
    subst e
    have h2 : vizardref12_Make.vc (fun r0_0 H => ∃ H', Heap.Le H' H ∧ K (.pointer r0_0) H') E H := h.h
    rw [vizardref12_Make.eq (Fg K) E H]
    exact h2

/-! vizard/vizardref13.fresh -/
noncomputable def vizardref13_fresh.body : Code := Tryz.f33.body.getD .skip
def vizardref13_fresh.J2.vc (c0 : Addr) (i0 : Int) (x0 : Bool) (Kn : Heap → Prop) (E : Value → Heap → Prop) (h0 : Heap) : Prop :=
  (if x0 = true then
  nilc (some c0) fun a0 =>
  ldSl h0 (a0.add 16) fun x1 x2 x3 =>
  vizardref11_New.c (fun x4 h1 =>
  (ldSl h1 (a0.add 16) fun x5 x6 x7 =>
  eqv h1 h1 (some (.slice x1 x2 x3)) (.slice x5 x6 x7)) ∧
  vizardref12_Make.c (fun x8 h2 =>
  (ldSl h2 (a0.add 16) fun x9 x10 x11 =>
  eqv h2 h2 (some (.slice x1 x2 x3)) (.slice x9 x10 x11)) ∧
  newB (.cells #[(.pointer x4), (.pointer x8), (.bool false), (.int .i64 4096), (.bool false), (.int .i64 0), (.int .i64 0), (.int .i64 0)] 146) (fun b0 h3 =>
  (ldSl h3 (a0.add 16) fun x12 x13 x14 =>
  eqv h3 h3 (some (.slice x1 x2 x3)) (.slice x12 x13 x14)) ∧
  newB (.cells #[(.pointer (some (⟨b0, 0, none⟩ : Addr)))] 140) (fun b1 h4 =>
  (ldSl h4 (a0.add 16) fun x15 x16 x17 =>
  eqv h4 h4 (some (.slice x1 x2 x3)) (.slice x15 x16 x17)) ∧
  rdRow h4 (some (⟨b1, 0, none⟩ : Addr)) (1 * 1) fun cs0 =>
  appT 140 (.pointer none) x1 x2 1 x3 1 8 cs0 (fun p0 n0 c1 h5 =>
  nilc (some c0) fun a1 =>
  stc h5 (a1.add 16) (.slice p0 n0 c1) fun h6 =>
  Kn h6) h4) h3) h2) E h1) E h0
  else
  nilc (some c0) fun a2 =>
  ldSl h0 (a2.add 16) fun x18 x19 x20 =>
  newB (.cells #[(.pointer none)] 140) (fun b2 h7 =>
  rdRow h7 (some (⟨b2, 0, none⟩ : Addr)) (1 * 1) fun cs1 =>
  appT 140 (.pointer none) x18 x19 1 x20 1 8 cs1 (fun p1 n1 c2 h8 =>
  nilc (some c0) fun a3 =>
  stc h8 (a3.add 16) (.slice p1 n1 c2) fun h9 =>
  Kn h9) h7) h0)
structure vizardref13_fresh.J2 (c0 : Addr) (i0 : Int) (x0 : Bool) (Kn : Heap → Prop) (E : Value → Heap → Prop) (H : Heap) : Prop where
  h : vizardref13_fresh.J2.vc c0 i0 x0 Kn E H
def vizardref13_fresh.J3.vc (c0 : Addr) (i0 : Int) (Kn : Int → Heap → Prop) (E : Value → Heap → Prop) (h0 : Heap) : Prop :=
  Kn (IntKind.i64.wrap (i0 + 1)) h0
structure vizardref13_fresh.J3 (c0 : Addr) (i0 : Int) (Kn : Int → Heap → Prop) (E : Value → Heap → Prop) (H : Heap) : Prop where
  h : vizardref13_fresh.J3.vc c0 i0 Kn E H
def vizardref13_fresh.W1.vc (c0 : Addr) (i0 : Int) (Kx0 : Heap → Prop) (RR : Int → Heap → Prop) (E : Value → Heap → Prop) (h0 : Heap) : Prop :=
  (if (decide (i0 < 32)) = true then
  4 ≠ (0 : Int) ∧
  (if ((Int.tmod i0 4) == 0) = true then
  vizardref13_fresh.J2 c0 i0 true (fun h1 =>
  vizardref13_fresh.J3 c0 i0 RR E h1) E h0
  else
  (if (i0 == 2) = true then
  vizardref13_fresh.J2 c0 i0 true (fun h3 =>
  vizardref13_fresh.J3 c0 i0 RR E h3) E h0
  else
  vizardref13_fresh.J2 c0 i0 (i0 == 3) (fun h5 =>
  vizardref13_fresh.J3 c0 i0 RR E h5) E h0))
  else
  Kx0 h0)
structure vizardref13_fresh.W1 (c0 : Addr) (i0 : Int) (Kx0 : Heap → Prop) (E : Value → Heap → Prop) (H : Heap) : Prop where
  h : Loop (fun (RR : Int → Heap → Prop) (s : Int) (H : Heap) => vizardref13_fresh.W1.vc c0 s Kx0 (fun i0 H => RR (i0) H) E H) (i0) H
def vizardref13_fresh.vc (psk0 : ByteArray) (cid0 : ByteArray) (theirs0 : ByteArray) (ours0 : ByteArray) (K : Option Addr → Heap → Prop) (E : Value → Heap → Prop) (h0 : Heap) : Prop :=
  newB (.cells #[(.slice none 0 0)] 136) (fun b0 h1 =>
  newB (.cells #[(.slice none 0 0)] 138) (fun b1 h2 =>
  vizardref10_New.c (fun x0 h3 =>
  newB (.map #[] 0) (fun b2 h4 =>
  newB (.cells #[(.string psk0), (.string cid0), (.bool false), (.string theirs0), (.string ours0), (.int .i64 0), (.int .i64 0), (.bool false), (.bool false), (.int .i64 0), (.bool false), (.bool false), (.int .i64 0), (.pointer (some (⟨b0, 0, none⟩ : Addr))), (.pointer (some (⟨b1, 0, none⟩ : Addr))), (.pointer x0), (.slice none 0 0), (.map (some b2)), (.slice none 0 0), (.slice none 0 0)] 77) (fun b3 h5 =>
  vizardref13_fresh.W1 (⟨b3, 0, none⟩ : Addr) 0 (fun h6 =>
  K (some (⟨b3, 0, none⟩ : Addr)) h6) E h5) h4) h3) E h2) h1) h0
structure vizardref13_fresh.c (psk0 : ByteArray) (cid0 : ByteArray) (theirs0 : ByteArray) (ours0 : ByteArray) (K : Option Addr → Heap → Prop) (E : Value → Heap → Prop) (H : Heap) : Prop where
  h : vizardref13_fresh.vc psk0 cid0 theirs0 ours0 (fun r0_0 H => ∃ H', Heap.Le H' H ∧ K r0_0 H') E H
def vizardref13_fresh.F : FT := fun args K E H => match args with
  | [(.string psk0), (.string cid0), (.string theirs0), (.string ours0)] => vizardref13_fresh.c psk0 cid0 theirs0 ours0 (fun r0_0 H => K (.pointer r0_0) H) E H
  | _ => False
noncomputable def vizardref13_fresh.Γ : FuncId → Option FT := Γof [(77, vizardref10_New.F), (78, vizardref11_New.F), (79, vizardref12_Make.F)]
theorem vizardref13_fresh.hΓ : ∀ f F, vizardref13_fresh.Γ f = some F → CalleeOk Tryz.prog f F := Γof_ok (List.forall_mem_cons.2 ⟨vizardref10_New.ok, List.forall_mem_cons.2 ⟨vizardref11_New.ok, List.forall_mem_cons.2 ⟨vizardref12_Make.ok, fun _ h => nomatch h⟩⟩⟩)
def vizardref13_fresh.J2.t : CT := fun Q E fr H => lenIs 61 fr (slPA fr 9 fun c0 => slI fr 10 .i64 fun i0 => slB fr 37 fun x0 => vizardref13_fresh.J2 c0 i0 x0 (fun  H => Q .normal (mkF 61 [(9, (.pointer (some c0))), (10, (.int .i64 i0))]) H) E H)
noncomputable def vizardref13_fresh.J2.plan : Plan := .cond (.draw ⟨[0, 1, 2, 3, 4, 5, 6, 7, 8, 9, 10, 11, 12, 13], (dl [(0, []), (1, []), (2, []), (3, []), (4, []), (5, []), (6, [5]), (7, []), (8, [7, 5, 6]), (9, [8, 7, 5, 6]), (10, [4, 9, 6, 3, 8, 5, 2, 7, 1]), (11, []), (12, []), (13, [12, 10, 0, 1, 2, 3, 4, 5, 6, 7, 8, 9, 11])] .fin), []⟩) (.go)
theorem vizardref13_fresh.J2.pok : PlanOk Tryz.prog vizardref13_fresh.J2.plan (sub [1, 1, 0, 1, 0, 0, 1, 0, 0, 1] vizardref13_fresh.body) := by
  have e : PlanOk Tryz.prog vizardref13_fresh.J2.plan (sub [1, 1, 0, 1, 0, 0, 1, 0, 0, 1] vizardref13_fresh.body) = ((True) ∧ (True)) := by kernel_rfl
  exact e.mpr ⟨trivial, trivial⟩
theorem vizardref13_fresh.J2.eq (c0 : Addr) (i0 : Int) (x0 : Bool) (Q : Ex → Fr → Heap → Prop) (E : Value → Heap → Prop) (H : Heap) :
    vizardref13_fresh.J2.vc c0 i0 x0 (fun  H => Q .normal (mkF 61 [(9, (.pointer (some c0))), (10, (.int .i64 i0))]) H) E H = keepT [9, 10] [] (fun i => []) (wC Tryz.prog vizardref13_fresh.Γ vizardref13_fresh.J2.plan (sub [1, 1, 0, 1, 0, 0, 1, 0, 0, 1] vizardref13_fresh.body)) Q E (mkF 61 [(9, (.pointer (some c0))), (10, (.int .i64 i0)), (37, (.bool x0))]) H := by
  kernel_rfl
theorem vizardref13_fresh.J2.ok : SoundCode Tryz.prog (sub [1, 1, 0, 1, 0, 0, 1, 0, 0, 1] vizardref13_fresh.body) vizardref13_fresh.J2.t := by
  refine piece_sound (keepT_sound [9, 10] [] (fun i => []) (wC_sound vizardref13_fresh.hΓ Tryz.hm vizardref13_fresh.J2.plan _ vizardref13_fresh.J2.pok)) ?_
  intro Q E fr H h
  unfold vizardref13_fresh.J2.t at h
  obtain ⟨hl, h⟩ := lenIs_elim h
  obtain ⟨c0, q9, h⟩ := slPA_elim h
  obtain ⟨i0, q10, h⟩ := slI_elim h
  obtain ⟨x0, q37, h⟩ := slB_elim h
  refine ⟨(mkF 61 [(9, (.pointer (some c0))), (10, (.int .i64 i0)), (37, (.bool x0))]), fun a ha => ha.mk (Nat.le_of_eq hl.symm) (List.forall_mem_cons.2 ⟨q9, List.forall_mem_cons.2 ⟨q10, List.forall_mem_cons.2 ⟨q37, fun _ h => nomatch h⟩⟩⟩), ?_⟩
  have e := vizardref13_fresh.J2.eq c0 i0 x0 Q E H
  rw [← e]
  exact h.h
def vizardref13_fresh.J3.t : CT := fun Q E fr H => lenIs 61 fr (slPA fr 9 fun c0 => slI fr 10 .i64 fun i0 => vizardref13_fresh.J3 c0 i0 (fun y10_0 H => Q .normal (mkF 61 [(9, (.pointer (some c0))), (10, (.int .i64 y10_0))]) H) E H)
noncomputable def vizardref13_fresh.J3.plan : Plan := .go
theorem vizardref13_fresh.J3.pok : PlanOk Tryz.prog vizardref13_fresh.J3.plan (sub [1, 1, 0, 1, 0, 0, 1, 1] vizardref13_fresh.body) := by
  have e : PlanOk Tryz.prog vizardref13_fresh.J3.plan (sub [1, 1, 0, 1, 0, 0, 1, 1] vizardref13_fresh.body) = (True) := by kernel_rfl
  exact e.mpr trivial
theorem vizardref13_fresh.J3.eq (c0 : Addr) (i0 : Int) (Q : Ex → Fr → Heap → Prop) (E : Value → Heap → Prop) (H : Heap) :
    vizardref13_fresh.J3.vc c0 i0 (fun y10_0 H => Q .normal (mkF 61 [(9, (.pointer (some c0))), (10, (.int .i64 y10_0))]) H) E H = keepT [9, 10] [] (fun i => []) (wC Tryz.prog vizardref13_fresh.Γ vizardref13_fresh.J3.plan (sub [1, 1, 0, 1, 0, 0, 1, 1] vizardref13_fresh.body)) Q E (mkF 61 [(9, (.pointer (some c0))), (10, (.int .i64 i0))]) H := by
  kernel_rfl
theorem vizardref13_fresh.J3.ok : SoundCode Tryz.prog (sub [1, 1, 0, 1, 0, 0, 1, 1] vizardref13_fresh.body) vizardref13_fresh.J3.t := by
  refine piece_sound (keepT_sound [9, 10] [] (fun i => []) (wC_sound vizardref13_fresh.hΓ Tryz.hm vizardref13_fresh.J3.plan _ vizardref13_fresh.J3.pok)) ?_
  intro Q E fr H h
  unfold vizardref13_fresh.J3.t at h
  obtain ⟨hl, h⟩ := lenIs_elim h
  obtain ⟨c0, q9, h⟩ := slPA_elim h
  obtain ⟨i0, q10, h⟩ := slI_elim h
  refine ⟨(mkF 61 [(9, (.pointer (some c0))), (10, (.int .i64 i0))]), fun a ha => ha.mk (Nat.le_of_eq hl.symm) (List.forall_mem_cons.2 ⟨q9, List.forall_mem_cons.2 ⟨q10, fun _ h => nomatch h⟩⟩), ?_⟩
  have e := vizardref13_fresh.J3.eq c0 i0 Q E H
  rw [← e]
  exact h.h
def vizardref13_fresh.W1.t : CT := fun Q E fr H => lenIs 61 fr (slPA fr 9 fun c0 => slI fr 10 .i64 fun i0 => vizardref13_fresh.W1 c0 i0 (fun  H => Q (.exit 0) (mkF 61 [(9, (.pointer (some c0)))]) H) E H)
noncomputable def vizardref13_fresh.W1.plan : Plan := .seq (.go) (.seq (.block (.seq (.go) (.use vizardref13_fresh.J2.t))) (.use vizardref13_fresh.J3.t))
theorem vizardref13_fresh.W1.pok : PlanOk Tryz.prog vizardref13_fresh.W1.plan (sub [1, 1, 0, 1, 0, 0] vizardref13_fresh.body) := by
  have e : PlanOk Tryz.prog vizardref13_fresh.W1.plan (sub [1, 1, 0, 1, 0, 0] vizardref13_fresh.body) = ((True) ∧ (((True) ∧ (SoundCode Tryz.prog (sub [1, 1, 0, 1, 0, 0, 1, 0, 0, 1] vizardref13_fresh.body) vizardref13_fresh.J2.t)) ∧ (SoundCode Tryz.prog (sub [1, 1, 0, 1, 0, 0, 1, 1] vizardref13_fresh.body) vizardref13_fresh.J3.t))) := by kernel_rfl
  exact e.mpr ⟨trivial, ⟨⟨trivial, vizardref13_fresh.J2.ok⟩, vizardref13_fresh.J3.ok⟩⟩
theorem vizardref13_fresh.W1.eq (c0 : Addr) (Q : Ex → Fr → Heap → Prop) (E : Value → Heap → Prop) (RR : Fr → Heap → Prop) (s : Int) (H : Heap) :
    (fun (RR : Int → Heap → Prop) (s : Int) (H : Heap) => vizardref13_fresh.W1.vc c0 s (fun  H => Q (.exit 0) (mkF 61 [(9, (.pointer (some c0)))]) H) (fun i0 H => RR (i0) H) E H) (fun s' H' => RR ((fun (s : Int) => (mkF 61 [(9, (.pointer (some c0))), (10, (.int .i64 s))])) s') H') s H = keepT [9, 10] [] (fun i => if i = 0 then [9] else []) (wC Tryz.prog vizardref13_fresh.Γ vizardref13_fresh.W1.plan (sub [1, 1, 0, 1, 0, 0] vizardref13_fresh.body)) (fun e fr' H' => match e with | .normal => RR fr' H' | .exit id => Q (.exit id) fr' H' | .ret => Q .ret fr' H') E ((fun (s : Int) => (mkF 61 [(9, (.pointer (some c0))), (10, (.int .i64 s))])) s) H := by
  kernel_rfl
theorem vizardref13_fresh.W1.ok : SoundCode Tryz.prog (sub [1, 1, 0, 1, 0] vizardref13_fresh.body) vizardref13_fresh.W1.t := by
  have e : (sub [1, 1, 0, 1, 0] vizardref13_fresh.body) = .loop (sub [1, 1, 0, 1, 0, 0] vizardref13_fresh.body) := by kernel_rfl
  rw [e]
  refine piece_sound (loopN_sound (keepT_sound [9, 10] [] (fun i => if i = 0 then [9] else []) (wC_sound vizardref13_fresh.hΓ Tryz.hm vizardref13_fresh.W1.plan _ vizardref13_fresh.W1.pok))) ?_
  intro Q E fr H h
  unfold vizardref13_fresh.W1.t at h
  obtain ⟨hl, h⟩ := lenIs_elim h
  obtain ⟨c0, q9, h⟩ := slPA_elim h
  obtain ⟨i0, q10, h⟩ := slI_elim h
  obtain ⟨m, h⟩ := h.h
  refine ⟨(mkF 61 [(9, (.pointer (some c0))), (10, (.int .i64 i0))]), fun a ha => ha.mk (Nat.le_of_eq hl.symm) (List.forall_mem_cons.2 ⟨q9, List.forall_mem_cons.2 ⟨q10, fun _ h => nomatch h⟩⟩), m, ?_⟩
  have e := loopS_eq (B := (fun (RR : Int → Heap → Prop) (s : Int) (H : Heap) => vizardref13_fresh.W1.vc c0 s (fun  H => Q (.exit 0) (mkF 61 [(9, (.pointer (some c0)))]) H) (fun i0 H => RR (i0) H) E H)) (A := keepT [9, 10] [] (fun i => if i = 0 then [9] else []) (wC Tryz.prog vizardref13_fresh.Γ vizardref13_fresh.W1.plan (sub [1, 1, 0, 1, 0, 0] vizardref13_fresh.body))) (m := (fun (s : Int) => (mkF 61 [(9, (.pointer (some c0))), (10, (.int .i64 s))]))) (Q := Q) (E := E) (fun RR s H => vizardref13_fresh.W1.eq c0 Q E RR s H) m (i0) H
  exact cast e h
noncomputable def vizardref13_fresh.plan : Plan := .seq (.go) (.seq (.go) (.seq (.seq (.go) (.block (.use vizardref13_fresh.W1.t))) (.go)))
theorem vizardref13_fresh.pok : PlanOk Tryz.prog vizardref13_fresh.plan vizardref13_fresh.body := by
  have e : PlanOk Tryz.prog vizardref13_fresh.plan vizardref13_fresh.body = ((True) ∧ ((True) ∧ (((True) ∧ (SoundCode Tryz.prog (sub [1, 1, 0, 1, 0] vizardref13_fresh.body) vizardref13_fresh.W1.t)) ∧ (True)))) := by kernel_rfl
  exact e.mpr ⟨trivial, ⟨trivial, ⟨⟨trivial, vizardref13_fresh.W1.ok⟩, trivial⟩⟩⟩
theorem vizardref13_fresh.eq (psk0 : ByteArray) (cid0 : ByteArray) (theirs0 : ByteArray) (ours0 : ByteArray) (K : Value → Heap → Prop) (E : Value → Heap → Prop) (H : Heap) :
    fnT Tryz.prog Tryz.f33 (wC Tryz.prog vizardref13_fresh.Γ vizardref13_fresh.plan vizardref13_fresh.body) [(.string psk0), (.string cid0), (.string theirs0), (.string ours0)] K E H = vizardref13_fresh.vc psk0 cid0 theirs0 ours0 (fun r0_0 H => K (.pointer r0_0) H) E H := by
  kernel_rfl
theorem vizardref13_fresh.Fe {args : List Value} {K E : Value → Heap → Prop} {H : Heap} (h : vizardref13_fresh.F args K E H) : ∃ psk0 cid0 theirs0 ours0, args = [(.string psk0), (.string cid0), (.string theirs0), (.string ours0)] ∧ vizardref13_fresh.c psk0 cid0 theirs0 ours0 (fun r0_0 H => K (.pointer r0_0) H) E H := by
  unfold vizardref13_fresh.F at h
  split at h
  · exact ⟨_, _, _, _, rfl, h⟩
  · exact h.elim
theorem vizardref13_fresh.ok : CalleeOk Tryz.prog 33 vizardref13_fresh.F :=
  callee_ok vizardref13_fresh.hΓ (fn := Tryz.f33) (c := vizardref13_fresh.body) (T := wC Tryz.prog vizardref13_fresh.Γ vizardref13_fresh.plan vizardref13_fresh.body) (by kernel_rfl) (by kernel_rfl) (by kernel_rfl) (wC_sound vizardref13_fresh.hΓ Tryz.hm vizardref13_fresh.plan _ vizardref13_fresh.pok) fun _ K E H h => by
    obtain ⟨z0, z1, z2, z3, e, h⟩ := vizardref13_fresh.Fe h
    subst e
    have h2 : vizardref13_fresh.vc z0 z1 z2 z3 (fun r0_0 H => ∃ H', Heap.Le H' H ∧ K (.pointer r0_0) H') E H := h.h
    rw [vizardref13_fresh.eq z0 z1 z2 z3 (Fg K) E H]
    exact h2

/-! vizard/vizardref13.Dial -/
noncomputable def vizardref13_Dial.body : Code := Tryz.f11.body.getD .skip
def vizardref13_Dial.J1.vc (psk0 : ByteArray) (cid0 : ByteArray) (nonce0 : ByteArray) (x0 : Bool) (Kn : Heap → Prop) (Kr : Option Addr → Int → Heap → Prop) (E : Value → Heap → Prop) (h0 : Heap) : Prop :=
  (if x0 = true then
  Kr none 3 h0
  else
  Kn h0)
structure vizardref13_Dial.J1 (psk0 : ByteArray) (cid0 : ByteArray) (nonce0 : ByteArray) (x0 : Bool) (Kn : Heap → Prop) (Kr : Option Addr → Int → Heap → Prop) (E : Value → Heap → Prop) (H : Heap) : Prop where
  h : vizardref13_Dial.J1.vc psk0 cid0 nonce0 x0 Kn Kr E H
def vizardref13_Dial.J2.vc (psk0 : ByteArray) (cid0 : ByteArray) (nonce0 : ByteArray) (Kr : Option Addr → Int → Heap → Prop) (E : Value → Heap → Prop) (h0 : Heap) : Prop :=
  vizardref13_fresh.c psk0 cid0 nonce0 (⟨#[]⟩ : ByteArray) (fun x0 h1 =>
  nilc x0 fun a0 =>
  stc h1 (a0.add 5) (.int .i64 1) fun h2 =>
  Kr x0 0 h2) E h0
structure vizardref13_Dial.J2 (psk0 : ByteArray) (cid0 : ByteArray) (nonce0 : ByteArray) (Kr : Option Addr → Int → Heap → Prop) (E : Value → Heap → Prop) (H : Heap) : Prop where
  h : vizardref13_Dial.J2.vc psk0 cid0 nonce0 Kr E H
def vizardref13_Dial.vc (psk0 : ByteArray) (cid0 : ByteArray) (nonce0 : ByteArray) (K : Option Addr → Int → Heap → Prop) (E : Value → Heap → Prop) (h0 : Heap) : Prop :=
  (if ((cid0.size : Int) != 8) = true then
  vizardref13_Dial.J1 psk0 cid0 nonce0 true (fun h1 =>
  vizardref13_Dial.J2 psk0 cid0 nonce0 K E h1) K E h0
  else
  vizardref13_Dial.J1 psk0 cid0 nonce0 ((nonce0.size : Int) != 16) (fun h4 =>
  vizardref13_Dial.J2 psk0 cid0 nonce0 K E h4) K E h0)
structure vizardref13_Dial.c (psk0 : ByteArray) (cid0 : ByteArray) (nonce0 : ByteArray) (K : Option Addr → Int → Heap → Prop) (E : Value → Heap → Prop) (H : Heap) : Prop where
  h : vizardref13_Dial.vc psk0 cid0 nonce0 (fun r0_0 r1_0 H => ∃ H', Heap.Le H' H ∧ K r0_0 r1_0 H') E H
def vizardref13_Dial.F : FT := fun args K E H => match args with
  | [(.string psk0), (.string cid0), (.string nonce0)] => vizardref13_Dial.c psk0 cid0 nonce0 (fun r0_0 r1_0 H => K (.tuple #[(.pointer r0_0), (.int .i64 r1_0)]) H) E H
  | _ => False
noncomputable def vizardref13_Dial.Γ : FuncId → Option FT := Γof [(33, vizardref13_fresh.F)]
theorem vizardref13_Dial.hΓ : ∀ f F, vizardref13_Dial.Γ f = some F → CalleeOk Tryz.prog f F := Γof_ok (List.forall_mem_cons.2 ⟨vizardref13_fresh.ok, fun _ h => nomatch h⟩)
def vizardref13_Dial.J1.t : CT := fun Q E fr H => lenIs 25 fr (slS fr 0 fun psk0 => slS fr 1 fun cid0 => slS fr 2 fun nonce0 => slB fr 16 fun x0 => vizardref13_Dial.J1 psk0 cid0 nonce0 x0 (fun  H => Q .normal (mkF 25 [(0, (.string psk0)), (1, (.string cid0)), (2, (.string nonce0))]) H) (fun y6_0 y7_0 H => Q .ret (mkF 25 [(6, (.pointer y6_0)), (7, (.int .i64 y7_0))]) H) E H)
noncomputable def vizardref13_Dial.J1.plan : Plan := .go
theorem vizardref13_Dial.J1.pok : PlanOk Tryz.prog vizardref13_Dial.J1.plan (sub [1, 0, 1] vizardref13_Dial.body) := by
  have e : PlanOk Tryz.prog vizardref13_Dial.J1.plan (sub [1, 0, 1] vizardref13_Dial.body) = (True) := by kernel_rfl
  exact e.mpr trivial
theorem vizardref13_Dial.J1.eq (psk0 : ByteArray) (cid0 : ByteArray) (nonce0 : ByteArray) (x0 : Bool) (Q : Ex → Fr → Heap → Prop) (E : Value → Heap → Prop) (H : Heap) :
    vizardref13_Dial.J1.vc psk0 cid0 nonce0 x0 (fun  H => Q .normal (mkF 25 [(0, (.string psk0)), (1, (.string cid0)), (2, (.string nonce0))]) H) (fun y6_0 y7_0 H => Q .ret (mkF 25 [(6, (.pointer y6_0)), (7, (.int .i64 y7_0))]) H) E H = keepT [0, 1, 2] [6, 7] (fun i => []) (wC Tryz.prog vizardref13_Dial.Γ vizardref13_Dial.J1.plan (sub [1, 0, 1] vizardref13_Dial.body)) Q E (mkF 25 [(0, (.string psk0)), (1, (.string cid0)), (2, (.string nonce0)), (16, (.bool x0))]) H := by
  kernel_rfl
theorem vizardref13_Dial.J1.ok : SoundCode Tryz.prog (sub [1, 0, 1] vizardref13_Dial.body) vizardref13_Dial.J1.t := by
  refine piece_sound (keepT_sound [0, 1, 2] [6, 7] (fun i => []) (wC_sound vizardref13_Dial.hΓ Tryz.hm vizardref13_Dial.J1.plan _ vizardref13_Dial.J1.pok)) ?_
  intro Q E fr H h
  unfold vizardref13_Dial.J1.t at h
  obtain ⟨hl, h⟩ := lenIs_elim h
  obtain ⟨psk0, q0, h⟩ := slS_elim h
  obtain ⟨cid0, q1, h⟩ := slS_elim h
  obtain ⟨nonce0, q2, h⟩ := slS_elim h
  obtain ⟨x0, q16, h⟩ := slB_elim h
  refine ⟨(mkF 25 [(0, (.string psk0)), (1, (.string cid0)), (2, (.string nonce0)), (16, (.bool x0))]), fun a ha => ha.mk (Nat.le_of_eq hl.symm) (List.forall_mem_cons.2 ⟨q0, List.forall_mem_cons.2 ⟨q1, List.forall_mem_cons.2 ⟨q2, List.forall_mem_cons.2 ⟨q16, fun _ h => nomatch h⟩⟩⟩⟩), ?_⟩
  have e := vizardref13_Dial.J1.eq psk0 cid0 nonce0 x0 Q E H
  rw [← e]
  exact h.h
def vizardref13_Dial.J2.t : CT := fun Q E fr H => lenIs 25 fr (slS fr 0 fun psk0 => slS fr 1 fun cid0 => slS fr 2 fun nonce0 => vizardref13_Dial.J2 psk0 cid0 nonce0 (fun y6_0 y7_0 H => Q .ret (mkF 25 [(6, (.pointer y6_0)), (7, (.int .i64 y7_0))]) H) E H)
noncomputable def vizardref13_Dial.J2.plan : Plan := .go
theorem vizardref13_Dial.J2.pok : PlanOk Tryz.prog vizardref13_Dial.J2.plan (sub [1, 1] vizardref13_Dial.body) := by
  have e : PlanOk Tryz.prog vizardref13_Dial.J2.plan (sub [1, 1] vizardref13_Dial.body) = (True) := by kernel_rfl
  exact e.mpr trivial
theorem vizardref13_Dial.J2.eq (psk0 : ByteArray) (cid0 : ByteArray) (nonce0 : ByteArray) (Q : Ex → Fr → Heap → Prop) (E : Value → Heap → Prop) (H : Heap) :
    vizardref13_Dial.J2.vc psk0 cid0 nonce0 (fun y6_0 y7_0 H => Q .ret (mkF 25 [(6, (.pointer y6_0)), (7, (.int .i64 y7_0))]) H) E H = keepT [] [6, 7] (fun i => []) (wC Tryz.prog vizardref13_Dial.Γ vizardref13_Dial.J2.plan (sub [1, 1] vizardref13_Dial.body)) Q E (mkF 25 [(0, (.string psk0)), (1, (.string cid0)), (2, (.string nonce0))]) H := by
  kernel_rfl
theorem vizardref13_Dial.J2.ok : SoundCode Tryz.prog (sub [1, 1] vizardref13_Dial.body) vizardref13_Dial.J2.t := by
  refine piece_sound (keepT_sound [] [6, 7] (fun i => []) (wC_sound vizardref13_Dial.hΓ Tryz.hm vizardref13_Dial.J2.plan _ vizardref13_Dial.J2.pok)) ?_
  intro Q E fr H h
  unfold vizardref13_Dial.J2.t at h
  obtain ⟨hl, h⟩ := lenIs_elim h
  obtain ⟨psk0, q0, h⟩ := slS_elim h
  obtain ⟨cid0, q1, h⟩ := slS_elim h
  obtain ⟨nonce0, q2, h⟩ := slS_elim h
  refine ⟨(mkF 25 [(0, (.string psk0)), (1, (.string cid0)), (2, (.string nonce0))]), fun a ha => ha.mk (Nat.le_of_eq hl.symm) (List.forall_mem_cons.2 ⟨q0, List.forall_mem_cons.2 ⟨q1, List.forall_mem_cons.2 ⟨q2, fun _ h => nomatch h⟩⟩⟩), ?_⟩
  have e := vizardref13_Dial.J2.eq psk0 cid0 nonce0 Q E H
  rw [← e]
  exact h.h
noncomputable def vizardref13_Dial.plan : Plan := .seq (.go) (.seq (.seq (.go) (.use vizardref13_Dial.J1.t)) (.use vizardref13_Dial.J2.t))
theorem vizardref13_Dial.pok : PlanOk Tryz.prog vizardref13_Dial.plan vizardref13_Dial.body := by
  have e : PlanOk Tryz.prog vizardref13_Dial.plan vizardref13_Dial.body = ((True) ∧ (((True) ∧ (SoundCode Tryz.prog (sub [1, 0, 1] vizardref13_Dial.body) vizardref13_Dial.J1.t)) ∧ (SoundCode Tryz.prog (sub [1, 1] vizardref13_Dial.body) vizardref13_Dial.J2.t))) := by kernel_rfl
  exact e.mpr ⟨trivial, ⟨⟨trivial, vizardref13_Dial.J1.ok⟩, vizardref13_Dial.J2.ok⟩⟩
theorem vizardref13_Dial.eq (psk0 : ByteArray) (cid0 : ByteArray) (nonce0 : ByteArray) (K : Value → Heap → Prop) (E : Value → Heap → Prop) (H : Heap) :
    fnT Tryz.prog Tryz.f11 (wC Tryz.prog vizardref13_Dial.Γ vizardref13_Dial.plan vizardref13_Dial.body) [(.string psk0), (.string cid0), (.string nonce0)] K E H = vizardref13_Dial.vc psk0 cid0 nonce0 (fun r0_0 r1_0 H => K (.tuple #[(.pointer r0_0), (.int .i64 r1_0)]) H) E H := by
  kernel_rfl
theorem vizardref13_Dial.Fe {args : List Value} {K E : Value → Heap → Prop} {H : Heap} (h : vizardref13_Dial.F args K E H) : ∃ psk0 cid0 nonce0, args = [(.string psk0), (.string cid0), (.string nonce0)] ∧ vizardref13_Dial.c psk0 cid0 nonce0 (fun r0_0 r1_0 H => K (.tuple #[(.pointer r0_0), (.int .i64 r1_0)]) H) E H := by
  unfold vizardref13_Dial.F at h
  split at h
  · exact ⟨_, _, _, rfl, h⟩
  · exact h.elim
theorem vizardref13_Dial.ok : CalleeOk Tryz.prog 11 vizardref13_Dial.F :=
  callee_ok vizardref13_Dial.hΓ (fn := Tryz.f11) (c := vizardref13_Dial.body) (T := wC Tryz.prog vizardref13_Dial.Γ vizardref13_Dial.plan vizardref13_Dial.body) (by kernel_rfl) (by kernel_rfl) (by kernel_rfl) (wC_sound vizardref13_Dial.hΓ Tryz.hm vizardref13_Dial.plan _ vizardref13_Dial.pok) fun _ K E H h => by
    obtain ⟨z0, z1, z2, e, h⟩ := vizardref13_Dial.Fe h
    subst e
    have h2 : vizardref13_Dial.vc z0 z1 z2 (fun r0_0 r1_0 H => ∃ H', Heap.Le H' H ∧ K (.tuple #[(.pointer r0_0), (.int .i64 r1_0)]) H') E H := h.h
    rw [vizardref13_Dial.eq z0 z1 z2 (Fg K) E H]
    exact h2

/-! (*vizard/conn.Conn).agree -/
noncomputable def conn_Conn_agree.body : Code := Tryz.f34.body.getD .skip
def conn_Conn_agree.vc (c0 : Option Addr) (ours0 : ByteArray) (K : Heap → Prop) (E : Value → Heap → Prop) (h0 : Heap) : Prop :=
  nilc c0 fun a0 =>
  stc h0 (a0.add 21) (.string ours0) fun h1 =>
  nilc c0 fun a1 =>
  stc h1 (a1.add 4) (.int .i64 2) fun h2 =>
  nilc c0 fun a2 =>
  ldS h2 (a2.add 0) fun x0 =>
  nilc c0 fun a3 =>
  ldS h2 (a3.add 3) fun x1 =>
  x1.size + ours0.size ≤ 9223372036854775807 ∧
  nilc c0 fun a4 =>
  ldS h2 (a4.add 0) fun x2 =>
  nilc c0 fun a5 =>
  ldS h2 (a5.add 3) fun x3 =>
  x3.size + ours0.size ≤ 9223372036854775807 ∧
  sha_Derive.c x0 (⟨#[117, 112]⟩ : ByteArray) (x1 ++ ours0) (fun x4 h3 =>
  (ldS h3 (a5.add 3) fun x5 =>
  eqv h3 h3 (some (.string x3)) (.string x5)) ∧
  (ldS h3 (a4.add 0) fun x6 =>
  eqv h3 h3 (some (.string x2)) (.string x6)) ∧
  seal_New.c x4 (fun x7 h4 =>
  (ldS h4 (a5.add 3) fun x8 =>
  eqv h4 h4 (some (.string x3)) (.string x8)) ∧
  (ldS h4 (a4.add 0) fun x9 =>
  eqv h4 h4 (some (.string x2)) (.string x9)) ∧
  sha_Derive.c x2 (⟨#[100, 111, 119, 110]⟩ : ByteArray) (x3 ++ ours0) (fun x10 h5 =>
  seal_New.c x10 (fun x11 h6 =>
  nilc c0 fun a6 =>
  stc h6 (a6.add 12) (.pointer x11) fun h7 =>
  nilc c0 fun a7 =>
  stc h7 (a7.add 13) (.pointer x7) fun h8 =>
  nilc c0 fun a8 =>
  ldB h8 (a8.add 2) fun x12 =>
  (if x12 = true then
  nilc c0 fun a9 =>
  stc h8 (a9.add 12) (.pointer x7) fun h9 =>
  nilc c0 fun a10 =>
  stc h9 (a10.add 13) (.pointer x11) fun h10 =>
  K h10
  else
  K h8)) E h5) E h4) E h3) E h2
structure conn_Conn_agree.c (c0 : Option Addr) (ours0 : ByteArray) (K : Heap → Prop) (E : Value → Heap → Prop) (H : Heap) : Prop where
  h : conn_Conn_agree.vc c0 ours0 (fun  H => ∃ H', Heap.Le H' H ∧ K  H') E H
def conn_Conn_agree.F : FT := fun args K E H => match args with
  | [(.pointer c0), (.string ours0)] => conn_Conn_agree.c c0 ours0 (fun  H => K (.tuple #[]) H) E H
  | _ => False
noncomputable def conn_Conn_agree.Γ : FuncId → Option FT := Γof [(29, sha_Derive.F), (64, seal_New.F)]
theorem conn_Conn_agree.hΓ : ∀ f F, conn_Conn_agree.Γ f = some F → CalleeOk Tryz.prog f F := Γof_ok (List.forall_mem_cons.2 ⟨sha_Derive.ok, List.forall_mem_cons.2 ⟨seal_New.ok, fun _ h => nomatch h⟩⟩)
noncomputable def conn_Conn_agree.plan : Plan := .seq (.go) (.seq (.draw ⟨[0, 1, 2, 3, 4, 5, 6, 7, 8, 9, 10, 11, 12, 13, 14, 15, 16, 17, 18, 19, 20, 21, 22, 23, 24], (dl [(0, []), (1, []), (2, []), (3, []), (4, []), (5, []), (6, []), (7, []), (8, []), (9, []), (12, []), (13, []), (14, []), (15, []), (16, []), (17, []), (18, []), (19, []), (20, []), (21, []), (10, [3, 9, 2, 7, 8, 1, 6, 0, 5, 4]), (11, [10, 3, 9, 2, 7, 8, 1, 6, 0, 5, 4]), (22, [15, 21, 11, 14, 19, 20, 10, 13, 18, 3, 9, 12, 17, 2, 7, 8, 16, 1, 6, 0, 5, 4]), (23, [22, 15, 21, 11, 14, 19, 20, 10, 13, 18, 3, 9, 12, 17, 2, 7, 8, 16, 1, 6, 0, 5, 4]), (24, [])] .fin), [25]⟩) (.go))
theorem conn_Conn_agree.pok : PlanOk Tryz.prog conn_Conn_agree.plan conn_Conn_agree.body := by
  have e : PlanOk Tryz.prog conn_Conn_agree.plan conn_Conn_agree.body = ((True) ∧ ((True) ∧ (True))) := by kernel_rfl
  exact e.mpr ⟨trivial, ⟨trivial, trivial⟩⟩
theorem conn_Conn_agree.eq (c0 : Option Addr) (ours0 : ByteArray) (K : Value → Heap → Prop) (E : Value → Heap → Prop) (H : Heap) :
    fnT Tryz.prog Tryz.f34 (wC Tryz.prog conn_Conn_agree.Γ conn_Conn_agree.plan conn_Conn_agree.body) [(.pointer c0), (.string ours0)] K E H = conn_Conn_agree.vc c0 ours0 (fun  H => K (.tuple #[]) H) E H := by
  kernel_rfl
theorem conn_Conn_agree.Fe {args : List Value} {K E : Value → Heap → Prop} {H : Heap} (h : conn_Conn_agree.F args K E H) : ∃ c0 ours0, args = [(.pointer c0), (.string ours0)] ∧ conn_Conn_agree.c c0 ours0 (fun  H => K (.tuple #[]) H) E H := by
  unfold conn_Conn_agree.F at h
  split at h
  · exact ⟨_, _, rfl, h⟩
  · exact h.elim
theorem conn_Conn_agree.ok : CalleeOk Tryz.prog 34 conn_Conn_agree.F :=
  callee_ok conn_Conn_agree.hΓ (fn := Tryz.f34) (c := conn_Conn_agree.body) (T := wC Tryz.prog conn_Conn_agree.Γ conn_Conn_agree.plan conn_Conn_agree.body) (by kernel_rfl) (by kernel_rfl) (by kernel_rfl) (wC_sound conn_Conn_agree.hΓ Tryz.hm conn_Conn_agree.plan _ conn_Conn_agree.pok) fun _ K E H h => by
    obtain ⟨z0, z1, e, h⟩ := conn_Conn_agree.Fe h
    subst e
    have h2 : conn_Conn_agree.vc z0 z1 (fun  H => ∃ H', Heap.Le H' H ∧ K (.tuple #[]) H') E H := h.h
    rw [conn_Conn_agree.eq z0 z1 (Fg K) E H]
    exact h2

/-! vizard/conn.Accept -/
noncomputable def conn_Accept.body : Code := Tryz.f12.body.getD .skip
def conn_Accept.J1.vc (psk0 : ByteArray) (cid0 : ByteArray) (theirs0 : ByteArray) (nonce0 : ByteArray) (x0 : Bool) (Kn : Heap → Prop) (Kr : Option Addr → Int → Heap → Prop) (E : Value → Heap → Prop) (h0 : Heap) : Prop :=
  (if x0 = true then
  Kr none 3 h0
  else
  Kn h0)
structure conn_Accept.J1 (psk0 : ByteArray) (cid0 : ByteArray) (theirs0 : ByteArray) (nonce0 : ByteArray) (x0 : Bool) (Kn : Heap → Prop) (Kr : Option Addr → Int → Heap → Prop) (E : Value → Heap → Prop) (H : Heap) : Prop where
  h : conn_Accept.J1.vc psk0 cid0 theirs0 nonce0 x0 Kn Kr E H
def conn_Accept.J2.vc (psk0 : ByteArray) (cid0 : ByteArray) (theirs0 : ByteArray) (nonce0 : ByteArray) (Kr : Option Addr → Int → Heap → Prop) (E : Value → Heap → Prop) (h0 : Heap) : Prop :=
  conn_made.c psk0 cid0 theirs0 (fun x0 h1 =>
  nilc x0 fun a0 =>
  stc h1 (a0.add 2) (.bool true) fun h2 =>
  nilc x0 fun a1 =>
  stc h2 (a1.add 9) (.bool true) fun h3 =>
  conn_Conn_agree.c x0 nonce0 (fun h4 =>
  Kr x0 0 h4) E h3) E h0
structure conn_Accept.J2 (psk0 : ByteArray) (cid0 : ByteArray) (theirs0 : ByteArray) (nonce0 : ByteArray) (Kr : Option Addr → Int → Heap → Prop) (E : Value → Heap → Prop) (H : Heap) : Prop where
  h : conn_Accept.J2.vc psk0 cid0 theirs0 nonce0 Kr E H
def conn_Accept.vc (psk0 : ByteArray) (cid0 : ByteArray) (theirs0 : ByteArray) (nonce0 : ByteArray) (K : Option Addr → Int → Heap → Prop) (E : Value → Heap → Prop) (h0 : Heap) : Prop :=
  (if ((cid0.size : Int) != 8) = true then
  conn_Accept.J1 psk0 cid0 theirs0 nonce0 true (fun h1 =>
  conn_Accept.J2 psk0 cid0 theirs0 nonce0 K E h1) K E h0
  else
  (if ((theirs0.size : Int) != 16) = true then
  conn_Accept.J1 psk0 cid0 theirs0 nonce0 true (fun h4 =>
  conn_Accept.J2 psk0 cid0 theirs0 nonce0 K E h4) K E h0
  else
  conn_Accept.J1 psk0 cid0 theirs0 nonce0 ((nonce0.size : Int) != 16) (fun h7 =>
  conn_Accept.J2 psk0 cid0 theirs0 nonce0 K E h7) K E h0))
structure conn_Accept.c (psk0 : ByteArray) (cid0 : ByteArray) (theirs0 : ByteArray) (nonce0 : ByteArray) (K : Option Addr → Int → Heap → Prop) (E : Value → Heap → Prop) (H : Heap) : Prop where
  h : conn_Accept.vc psk0 cid0 theirs0 nonce0 (fun r0_0 r1_0 H => ∃ H', Heap.Le H' H ∧ K r0_0 r1_0 H') E H
def conn_Accept.F : FT := fun args K E H => match args with
  | [(.string psk0), (.string cid0), (.string theirs0), (.string nonce0)] => conn_Accept.c psk0 cid0 theirs0 nonce0 (fun r0_0 r1_0 H => K (.tuple #[(.pointer r0_0), (.int .i64 r1_0)]) H) E H
  | _ => False
noncomputable def conn_Accept.Γ : FuncId → Option FT := Γof [(32, conn_made.F), (34, conn_Conn_agree.F)]
theorem conn_Accept.hΓ : ∀ f F, conn_Accept.Γ f = some F → CalleeOk Tryz.prog f F := Γof_ok (List.forall_mem_cons.2 ⟨conn_made.ok, List.forall_mem_cons.2 ⟨conn_Conn_agree.ok, fun _ h => nomatch h⟩⟩)
def conn_Accept.J1.t : CT := fun Q E fr H => lenIs 38 fr (slS fr 0 fun psk0 => slS fr 1 fun cid0 => slS fr 2 fun theirs0 => slS fr 3 fun nonce0 => slB fr 23 fun x0 => conn_Accept.J1 psk0 cid0 theirs0 nonce0 x0 (fun  H => Q .normal (mkF 38 [(0, (.string psk0)), (1, (.string cid0)), (2, (.string theirs0)), (3, (.string nonce0))]) H) (fun y8_0 y9_0 H => Q .ret (mkF 38 [(8, (.pointer y8_0)), (9, (.int .i64 y9_0))]) H) E H)
noncomputable def conn_Accept.J1.plan : Plan := .go
theorem conn_Accept.J1.pok : PlanOk Tryz.prog conn_Accept.J1.plan (sub [1, 0, 1] conn_Accept.body) := by
  have e : PlanOk Tryz.prog conn_Accept.J1.plan (sub [1, 0, 1] conn_Accept.body) = (True) := by kernel_rfl
  exact e.mpr trivial
theorem conn_Accept.J1.eq (psk0 : ByteArray) (cid0 : ByteArray) (theirs0 : ByteArray) (nonce0 : ByteArray) (x0 : Bool) (Q : Ex → Fr → Heap → Prop) (E : Value → Heap → Prop) (H : Heap) :
    conn_Accept.J1.vc psk0 cid0 theirs0 nonce0 x0 (fun  H => Q .normal (mkF 38 [(0, (.string psk0)), (1, (.string cid0)), (2, (.string theirs0)), (3, (.string nonce0))]) H) (fun y8_0 y9_0 H => Q .ret (mkF 38 [(8, (.pointer y8_0)), (9, (.int .i64 y9_0))]) H) E H = keepT [0, 1, 2, 3] [8, 9] (fun i => []) (wC Tryz.prog conn_Accept.Γ conn_Accept.J1.plan (sub [1, 0, 1] conn_Accept.body)) Q E (mkF 38 [(0, (.string psk0)), (1, (.string cid0)), (2, (.string theirs0)), (3, (.string nonce0)), (23, (.bool x0))]) H := by
  kernel_rfl
theorem conn_Accept.J1.ok : SoundCode Tryz.prog (sub [1, 0, 1] conn_Accept.body) conn_Accept.J1.t := by
  refine piece_sound (keepT_sound [0, 1, 2, 3] [8, 9] (fun i => []) (wC_sound conn_Accept.hΓ Tryz.hm conn_Accept.J1.plan _ conn_Accept.J1.pok)) ?_
  intro Q E fr H h
  unfold conn_Accept.J1.t at h
  obtain ⟨hl, h⟩ := lenIs_elim h
  obtain ⟨psk0, q0, h⟩ := slS_elim h
  obtain ⟨cid0, q1, h⟩ := slS_elim h
  obtain ⟨theirs0, q2, h⟩ := slS_elim h
  obtain ⟨nonce0, q3, h⟩ := slS_elim h
  obtain ⟨x0, q23, h⟩ := slB_elim h
  refine ⟨(mkF 38 [(0, (.string psk0)), (1, (.string cid0)), (2, (.string theirs0)), (3, (.string nonce0)), (23, (.bool x0))]), fun a ha => ha.mk (Nat.le_of_eq hl.symm) (List.forall_mem_cons.2 ⟨q0, List.forall_mem_cons.2 ⟨q1, List.forall_mem_cons.2 ⟨q2, List.forall_mem_cons.2 ⟨q3, List.forall_mem_cons.2 ⟨q23, fun _ h => nomatch h⟩⟩⟩⟩⟩), ?_⟩
  have e := conn_Accept.J1.eq psk0 cid0 theirs0 nonce0 x0 Q E H
  rw [← e]
  exact h.h
def conn_Accept.J2.t : CT := fun Q E fr H => lenIs 38 fr (slS fr 0 fun psk0 => slS fr 1 fun cid0 => slS fr 2 fun theirs0 => slS fr 3 fun nonce0 => conn_Accept.J2 psk0 cid0 theirs0 nonce0 (fun y8_0 y9_0 H => Q .ret (mkF 38 [(8, (.pointer y8_0)), (9, (.int .i64 y9_0))]) H) E H)
noncomputable def conn_Accept.J2.plan : Plan := .go
theorem conn_Accept.J2.pok : PlanOk Tryz.prog conn_Accept.J2.plan (sub [1, 1] conn_Accept.body) := by
  have e : PlanOk Tryz.prog conn_Accept.J2.plan (sub [1, 1] conn_Accept.body) = (True) := by kernel_rfl
  exact e.mpr trivial
theorem conn_Accept.J2.eq (psk0 : ByteArray) (cid0 : ByteArray) (theirs0 : ByteArray) (nonce0 : ByteArray) (Q : Ex → Fr → Heap → Prop) (E : Value → Heap → Prop) (H : Heap) :
    conn_Accept.J2.vc psk0 cid0 theirs0 nonce0 (fun y8_0 y9_0 H => Q .ret (mkF 38 [(8, (.pointer y8_0)), (9, (.int .i64 y9_0))]) H) E H = keepT [] [8, 9] (fun i => []) (wC Tryz.prog conn_Accept.Γ conn_Accept.J2.plan (sub [1, 1] conn_Accept.body)) Q E (mkF 38 [(0, (.string psk0)), (1, (.string cid0)), (2, (.string theirs0)), (3, (.string nonce0))]) H := by
  kernel_rfl
theorem conn_Accept.J2.ok : SoundCode Tryz.prog (sub [1, 1] conn_Accept.body) conn_Accept.J2.t := by
  refine piece_sound (keepT_sound [] [8, 9] (fun i => []) (wC_sound conn_Accept.hΓ Tryz.hm conn_Accept.J2.plan _ conn_Accept.J2.pok)) ?_
  intro Q E fr H h
  unfold conn_Accept.J2.t at h
  obtain ⟨hl, h⟩ := lenIs_elim h
  obtain ⟨psk0, q0, h⟩ := slS_elim h
  obtain ⟨cid0, q1, h⟩ := slS_elim h
  obtain ⟨theirs0, q2, h⟩ := slS_elim h
  obtain ⟨nonce0, q3, h⟩ := slS_elim h
  refine ⟨(mkF 38 [(0, (.string psk0)), (1, (.string cid0)), (2, (.string theirs0)), (3, (.string nonce0))]), fun a ha => ha.mk (Nat.le_of_eq hl.symm) (List.forall_mem_cons.2 ⟨q0, List.forall_mem_cons.2 ⟨q1, List.forall_mem_cons.2 ⟨q2, List.forall_mem_cons.2 ⟨q3, fun _ h => nomatch h⟩⟩⟩⟩), ?_⟩
  have e := conn_Accept.J2.eq psk0 cid0 theirs0 nonce0 Q E H
  rw [← e]
  exact h.h
noncomputable def conn_Accept.plan : Plan := .seq (.go) (.seq (.seq (.go) (.use conn_Accept.J1.t)) (.use conn_Accept.J2.t))
theorem conn_Accept.pok : PlanOk Tryz.prog conn_Accept.plan conn_Accept.body := by
  have e : PlanOk Tryz.prog conn_Accept.plan conn_Accept.body = ((True) ∧ (((True) ∧ (SoundCode Tryz.prog (sub [1, 0, 1] conn_Accept.body) conn_Accept.J1.t)) ∧ (SoundCode Tryz.prog (sub [1, 1] conn_Accept.body) conn_Accept.J2.t))) := by kernel_rfl
  exact e.mpr ⟨trivial, ⟨⟨trivial, conn_Accept.J1.ok⟩, conn_Accept.J2.ok⟩⟩
theorem conn_Accept.eq (psk0 : ByteArray) (cid0 : ByteArray) (theirs0 : ByteArray) (nonce0 : ByteArray) (K : Value → Heap → Prop) (E : Value → Heap → Prop) (H : Heap) :
    fnT Tryz.prog Tryz.f12 (wC Tryz.prog conn_Accept.Γ conn_Accept.plan conn_Accept.body) [(.string psk0), (.string cid0), (.string theirs0), (.string nonce0)] K E H = conn_Accept.vc psk0 cid0 theirs0 nonce0 (fun r0_0 r1_0 H => K (.tuple #[(.pointer r0_0), (.int .i64 r1_0)]) H) E H := by
  kernel_rfl
theorem conn_Accept.Fe {args : List Value} {K E : Value → Heap → Prop} {H : Heap} (h : conn_Accept.F args K E H) : ∃ psk0 cid0 theirs0 nonce0, args = [(.string psk0), (.string cid0), (.string theirs0), (.string nonce0)] ∧ conn_Accept.c psk0 cid0 theirs0 nonce0 (fun r0_0 r1_0 H => K (.tuple #[(.pointer r0_0), (.int .i64 r1_0)]) H) E H := by
  unfold conn_Accept.F at h
  split at h
  · exact ⟨_, _, _, _, rfl, h⟩
  · exact h.elim
theorem conn_Accept.ok : CalleeOk Tryz.prog 12 conn_Accept.F :=
  callee_ok conn_Accept.hΓ (fn := Tryz.f12) (c := conn_Accept.body) (T := wC Tryz.prog conn_Accept.Γ conn_Accept.plan conn_Accept.body) (by kernel_rfl) (by kernel_rfl) (by kernel_rfl) (wC_sound conn_Accept.hΓ Tryz.hm conn_Accept.plan _ conn_Accept.pok) fun _ K E H h => by
    obtain ⟨z0, z1, z2, z3, e, h⟩ := conn_Accept.Fe h
    subst e
    have h2 : conn_Accept.vc z0 z1 z2 z3 (fun r0_0 r1_0 H => ∃ H', Heap.Le H' H ∧ K (.tuple #[(.pointer r0_0), (.int .i64 r1_0)]) H') E H := h.h
    rw [conn_Accept.eq z0 z1 z2 z3 (Fg K) E H]
    exact h2

/-! vizard/vizardref13.Accept -/
noncomputable def vizardref13_Accept.body : Code := Tryz.f13.body.getD .skip
def vizardref13_Accept.J1.vc (psk0 : ByteArray) (cid0 : ByteArray) (theirs0 : ByteArray) (nonce0 : ByteArray) (x0 : Bool) (Kn : Heap → Prop) (Kr : Option Addr → Int → Heap → Prop) (E : Value → Heap → Prop) (h0 : Heap) : Prop :=
  (if x0 = true then
  Kr none 3 h0
  else
  Kn h0)
structure vizardref13_Accept.J1 (psk0 : ByteArray) (cid0 : ByteArray) (theirs0 : ByteArray) (nonce0 : ByteArray) (x0 : Bool) (Kn : Heap → Prop) (Kr : Option Addr → Int → Heap → Prop) (E : Value → Heap → Prop) (H : Heap) : Prop where
  h : vizardref13_Accept.J1.vc psk0 cid0 theirs0 nonce0 x0 Kn Kr E H
def vizardref13_Accept.J2.vc (psk0 : ByteArray) (cid0 : ByteArray) (theirs0 : ByteArray) (nonce0 : ByteArray) (Kr : Option Addr → Int → Heap → Prop) (E : Value → Heap → Prop) (h0 : Heap) : Prop :=
  vizardref13_fresh.c psk0 cid0 theirs0 nonce0 (fun x0 h1 =>
  nilc x0 fun a0 =>
  stc h1 (a0.add 2) (.bool true) fun h2 =>
  nilc x0 fun a1 =>
  stc h2 (a1.add 5) (.int .i64 2) fun h3 =>
  nilc x0 fun a2 =>
  stc h3 (a2.add 10) (.bool true) fun h4 =>
  Kr x0 0 h4) E h0
structure vizardref13_Accept.J2 (psk0 : ByteArray) (cid0 : ByteArray) (theirs0 : ByteArray) (nonce0 : ByteArray) (Kr : Option Addr → Int → Heap → Prop) (E : Value → Heap → Prop) (H : Heap) : Prop where
  h : vizardref13_Accept.J2.vc psk0 cid0 theirs0 nonce0 Kr E H
def vizardref13_Accept.vc (psk0 : ByteArray) (cid0 : ByteArray) (theirs0 : ByteArray) (nonce0 : ByteArray) (K : Option Addr → Int → Heap → Prop) (E : Value → Heap → Prop) (h0 : Heap) : Prop :=
  (if ((cid0.size : Int) != 8) = true then
  vizardref13_Accept.J1 psk0 cid0 theirs0 nonce0 true (fun h1 =>
  vizardref13_Accept.J2 psk0 cid0 theirs0 nonce0 K E h1) K E h0
  else
  (if ((theirs0.size : Int) != 16) = true then
  vizardref13_Accept.J1 psk0 cid0 theirs0 nonce0 true (fun h4 =>
  vizardref13_Accept.J2 psk0 cid0 theirs0 nonce0 K E h4) K E h0
  else
  vizardref13_Accept.J1 psk0 cid0 theirs0 nonce0 ((nonce0.size : Int) != 16) (fun h7 =>
  vizardref13_Accept.J2 psk0 cid0 theirs0 nonce0 K E h7) K E h0))
structure vizardref13_Accept.c (psk0 : ByteArray) (cid0 : ByteArray) (theirs0 : ByteArray) (nonce0 : ByteArray) (K : Option Addr → Int → Heap → Prop) (E : Value → Heap → Prop) (H : Heap) : Prop where
  h : vizardref13_Accept.vc psk0 cid0 theirs0 nonce0 (fun r0_0 r1_0 H => ∃ H', Heap.Le H' H ∧ K r0_0 r1_0 H') E H
def vizardref13_Accept.F : FT := fun args K E H => match args with
  | [(.string psk0), (.string cid0), (.string theirs0), (.string nonce0)] => vizardref13_Accept.c psk0 cid0 theirs0 nonce0 (fun r0_0 r1_0 H => K (.tuple #[(.pointer r0_0), (.int .i64 r1_0)]) H) E H
  | _ => False
noncomputable def vizardref13_Accept.Γ : FuncId → Option FT := Γof [(33, vizardref13_fresh.F)]
theorem vizardref13_Accept.hΓ : ∀ f F, vizardref13_Accept.Γ f = some F → CalleeOk Tryz.prog f F := Γof_ok (List.forall_mem_cons.2 ⟨vizardref13_fresh.ok, fun _ h => nomatch h⟩)
def vizardref13_Accept.J1.t : CT := fun Q E fr H => lenIs 39 fr (slS fr 0 fun psk0 => slS fr 1 fun cid0 => slS fr 2 fun theirs0 => slS fr 3 fun nonce0 => slB fr 23 fun x0 => vizardref13_Accept.J1 psk0 cid0 theirs0 nonce0 x0 (fun  H => Q .normal (mkF 39 [(0, (.string psk0)), (1, (.string cid0)), (2, (.string theirs0)), (3, (.string nonce0))]) H) (fun y8_0 y9_0 H => Q .ret (mkF 39 [(8, (.pointer y8_0)), (9, (.int .i64 y9_0))]) H) E H)
noncomputable def vizardref13_Accept.J1.plan : Plan := .go
theorem vizardref13_Accept.J1.pok : PlanOk Tryz.prog vizardref13_Accept.J1.plan (sub [1, 0, 1] vizardref13_Accept.body) := by
  have e : PlanOk Tryz.prog vizardref13_Accept.J1.plan (sub [1, 0, 1] vizardref13_Accept.body) = (True) := by kernel_rfl
  exact e.mpr trivial
theorem vizardref13_Accept.J1.eq (psk0 : ByteArray) (cid0 : ByteArray) (theirs0 : ByteArray) (nonce0 : ByteArray) (x0 : Bool) (Q : Ex → Fr → Heap → Prop) (E : Value → Heap → Prop) (H : Heap) :
    vizardref13_Accept.J1.vc psk0 cid0 theirs0 nonce0 x0 (fun  H => Q .normal (mkF 39 [(0, (.string psk0)), (1, (.string cid0)), (2, (.string theirs0)), (3, (.string nonce0))]) H) (fun y8_0 y9_0 H => Q .ret (mkF 39 [(8, (.pointer y8_0)), (9, (.int .i64 y9_0))]) H) E H = keepT [0, 1, 2, 3] [8, 9] (fun i => []) (wC Tryz.prog vizardref13_Accept.Γ vizardref13_Accept.J1.plan (sub [1, 0, 1] vizardref13_Accept.body)) Q E (mkF 39 [(0, (.string psk0)), (1, (.string cid0)), (2, (.string theirs0)), (3, (.string nonce0)), (23, (.bool x0))]) H := by
  kernel_rfl
theorem vizardref13_Accept.J1.ok : SoundCode Tryz.prog (sub [1, 0, 1] vizardref13_Accept.body) vizardref13_Accept.J1.t := by
  refine piece_sound (keepT_sound [0, 1, 2, 3] [8, 9] (fun i => []) (wC_sound vizardref13_Accept.hΓ Tryz.hm vizardref13_Accept.J1.plan _ vizardref13_Accept.J1.pok)) ?_
  intro Q E fr H h
  unfold vizardref13_Accept.J1.t at h
  obtain ⟨hl, h⟩ := lenIs_elim h
  obtain ⟨psk0, q0, h⟩ := slS_elim h
  obtain ⟨cid0, q1, h⟩ := slS_elim h
  obtain ⟨theirs0, q2, h⟩ := slS_elim h
  obtain ⟨nonce0, q3, h⟩ := slS_elim h
  obtain ⟨x0, q23, h⟩ := slB_elim h
  refine ⟨(mkF 39 [(0, (.string psk0)), (1, (.string cid0)), (2, (.string theirs0)), (3, (.string nonce0)), (23, (.bool x0))]), fun a ha => ha.mk (Nat.le_of_eq hl.symm) (List.forall_mem_cons.2 ⟨q0, List.forall_mem_cons.2 ⟨q1, List.forall_mem_cons.2 ⟨q2, List.forall_mem_cons.2 ⟨q3, List.forall_mem_cons.2 ⟨q23, fun _ h => nomatch h⟩⟩⟩⟩⟩), ?_⟩
  have e := vizardref13_Accept.J1.eq psk0 cid0 theirs0 nonce0 x0 Q E H
  rw [← e]
  exact h.h
def vizardref13_Accept.J2.t : CT := fun Q E fr H => lenIs 39 fr (slS fr 0 fun psk0 => slS fr 1 fun cid0 => slS fr 2 fun theirs0 => slS fr 3 fun nonce0 => vizardref13_Accept.J2 psk0 cid0 theirs0 nonce0 (fun y8_0 y9_0 H => Q .ret (mkF 39 [(8, (.pointer y8_0)), (9, (.int .i64 y9_0))]) H) E H)
noncomputable def vizardref13_Accept.J2.plan : Plan := .go
theorem vizardref13_Accept.J2.pok : PlanOk Tryz.prog vizardref13_Accept.J2.plan (sub [1, 1] vizardref13_Accept.body) := by
  have e : PlanOk Tryz.prog vizardref13_Accept.J2.plan (sub [1, 1] vizardref13_Accept.body) = (True) := by kernel_rfl
  exact e.mpr trivial
theorem vizardref13_Accept.J2.eq (psk0 : ByteArray) (cid0 : ByteArray) (theirs0 : ByteArray) (nonce0 : ByteArray) (Q : Ex → Fr → Heap → Prop) (E : Value → Heap → Prop) (H : Heap) :
    vizardref13_Accept.J2.vc psk0 cid0 theirs0 nonce0 (fun y8_0 y9_0 H => Q .ret (mkF 39 [(8, (.pointer y8_0)), (9, (.int .i64 y9_0))]) H) E H = keepT [] [8, 9] (fun i => []) (wC Tryz.prog vizardref13_Accept.Γ vizardref13_Accept.J2.plan (sub [1, 1] vizardref13_Accept.body)) Q E (mkF 39 [(0, (.string psk0)), (1, (.string cid0)), (2, (.string theirs0)), (3, (.string nonce0))]) H := by
  kernel_rfl
theorem vizardref13_Accept.J2.ok : SoundCode Tryz.prog (sub [1, 1] vizardref13_Accept.body) vizardref13_Accept.J2.t := by
  refine piece_sound (keepT_sound [] [8, 9] (fun i => []) (wC_sound vizardref13_Accept.hΓ Tryz.hm vizardref13_Accept.J2.plan _ vizardref13_Accept.J2.pok)) ?_
  intro Q E fr H h
  unfold vizardref13_Accept.J2.t at h
  obtain ⟨hl, h⟩ := lenIs_elim h
  obtain ⟨psk0, q0, h⟩ := slS_elim h
  obtain ⟨cid0, q1, h⟩ := slS_elim h
  obtain ⟨theirs0, q2, h⟩ := slS_elim h
  obtain ⟨nonce0, q3, h⟩ := slS_elim h
  refine ⟨(mkF 39 [(0, (.string psk0)), (1, (.string cid0)), (2, (.string theirs0)), (3, (.string nonce0))]), fun a ha => ha.mk (Nat.le_of_eq hl.symm) (List.forall_mem_cons.2 ⟨q0, List.forall_mem_cons.2 ⟨q1, List.forall_mem_cons.2 ⟨q2, List.forall_mem_cons.2 ⟨q3, fun _ h => nomatch h⟩⟩⟩⟩), ?_⟩
  have e := vizardref13_Accept.J2.eq psk0 cid0 theirs0 nonce0 Q E H
  rw [← e]
  exact h.h
noncomputable def vizardref13_Accept.plan : Plan := .seq (.go) (.seq (.seq (.go) (.use vizardref13_Accept.J1.t)) (.use vizardref13_Accept.J2.t))
theorem vizardref13_Accept.pok : PlanOk Tryz.prog vizardref13_Accept.plan vizardref13_Accept.body := by
  have e : PlanOk Tryz.prog vizardref13_Accept.plan vizardref13_Accept.body = ((True) ∧ (((True) ∧ (SoundCode Tryz.prog (sub [1, 0, 1] vizardref13_Accept.body) vizardref13_Accept.J1.t)) ∧ (SoundCode Tryz.prog (sub [1, 1] vizardref13_Accept.body) vizardref13_Accept.J2.t))) := by kernel_rfl
  exact e.mpr ⟨trivial, ⟨⟨trivial, vizardref13_Accept.J1.ok⟩, vizardref13_Accept.J2.ok⟩⟩
theorem vizardref13_Accept.eq (psk0 : ByteArray) (cid0 : ByteArray) (theirs0 : ByteArray) (nonce0 : ByteArray) (K : Value → Heap → Prop) (E : Value → Heap → Prop) (H : Heap) :
    fnT Tryz.prog Tryz.f13 (wC Tryz.prog vizardref13_Accept.Γ vizardref13_Accept.plan vizardref13_Accept.body) [(.string psk0), (.string cid0), (.string theirs0), (.string nonce0)] K E H = vizardref13_Accept.vc psk0 cid0 theirs0 nonce0 (fun r0_0 r1_0 H => K (.tuple #[(.pointer r0_0), (.int .i64 r1_0)]) H) E H := by
  kernel_rfl
theorem vizardref13_Accept.Fe {args : List Value} {K E : Value → Heap → Prop} {H : Heap} (h : vizardref13_Accept.F args K E H) : ∃ psk0 cid0 theirs0 nonce0, args = [(.string psk0), (.string cid0), (.string theirs0), (.string nonce0)] ∧ vizardref13_Accept.c psk0 cid0 theirs0 nonce0 (fun r0_0 r1_0 H => K (.tuple #[(.pointer r0_0), (.int .i64 r1_0)]) H) E H := by
  unfold vizardref13_Accept.F at h
  split at h
  · exact ⟨_, _, _, _, rfl, h⟩
  · exact h.elim
theorem vizardref13_Accept.ok : CalleeOk Tryz.prog 13 vizardref13_Accept.F :=
  callee_ok vizardref13_Accept.hΓ (fn := Tryz.f13) (c := vizardref13_Accept.body) (T := wC Tryz.prog vizardref13_Accept.Γ vizardref13_Accept.plan vizardref13_Accept.body) (by kernel_rfl) (by kernel_rfl) (by kernel_rfl) (wC_sound vizardref13_Accept.hΓ Tryz.hm vizardref13_Accept.plan _ vizardref13_Accept.pok) fun _ K E H h => by
    obtain ⟨z0, z1, z2, z3, e, h⟩ := vizardref13_Accept.Fe h
    subst e
    have h2 : vizardref13_Accept.vc z0 z1 z2 z3 (fun r0_0 r1_0 H => ∃ H', Heap.Le H' H ∧ K (.tuple #[(.pointer r0_0), (.int .i64 r1_0)]) H') E H := h.h
    rw [vizardref13_Accept.eq z0 z1 z2 z3 (Fg K) E H]
    exact h2

/-! vizard/conn.pack -/
noncomputable def conn_pack.body : Code := Tryz.f80.body.getD .skip
def conn_pack.vc (key0 : Option Addr) (kind0 : Int) (cid0 : ByteArray) (n0 : Int) (s0 : ByteArray) (K : ByteArray → Heap → Prop) (E : Value → Heap → Prop) (h0 : Heap) : Prop :=
  newB (.cells #[(.int .u8 kind0)] 5) (fun b0 h1 =>
  rdBytes h1 (some (⟨b0, 0, none⟩ : Addr)) 1 fun x0 =>
  x0.size + cid0.size ≤ 9223372036854775807 ∧
  (0 : Int) ≤ 24 ∧
  (0 : Int) ≤ 16 ∧
  (0 : Int) ≤ 8 ∧
  newB (.cells #[(.int .u8 (IntKind.u8.wrap (shrI .i64 n0 24))), (.int .u8 (IntKind.u8.wrap (shrI .i64 n0 16))), (.int .u8 (IntKind.u8.wrap (shrI .i64 n0 8))), (.int .u8 (IntKind.u8.wrap n0))] 5) (fun b1 h2 =>
  rdBytes h2 (some (⟨b1, 0, none⟩ : Addr)) 4 fun x1 =>
  (x0 ++ cid0).size + x1.size ≤ 9223372036854775807 ∧
  seal_Key_Seal.c key0 n0 ((x0 ++ cid0) ++ x1) s0 (fun x2 h3 =>
  ((x0 ++ cid0) ++ x1).size + x2.size ≤ 9223372036854775807 ∧
  K (((x0 ++ cid0) ++ x1) ++ x2) h3) E h2) h1) h0
structure conn_pack.c (key0 : Option Addr) (kind0 : Int) (cid0 : ByteArray) (n0 : Int) (s0 : ByteArray) (K : ByteArray → Heap → Prop) (E : Value → Heap → Prop) (H : Heap) : Prop where
  h : conn_pack.vc key0 kind0 cid0 n0 s0 (fun r0_0 H => ∃ H', Heap.Le H' H ∧ K r0_0 H') E H
def conn_pack.F : FT := fun args K E H => match args with
  | [(.pointer key0), (.int .u8 kind0), (.string cid0), (.int .i64 n0), (.string s0)] => conn_pack.c key0 kind0 cid0 n0 s0 (fun r0_0 H => K (.string r0_0) H) E H
  | _ => False
noncomputable def conn_pack.Γ : FuncId → Option FT := Γof [(123, seal_Key_Seal.F)]
theorem conn_pack.hΓ : ∀ f F, conn_pack.Γ f = some F → CalleeOk Tryz.prog f F := Γof_ok (List.forall_mem_cons.2 ⟨seal_Key_Seal.ok, fun _ h => nomatch h⟩)
noncomputable def conn_pack.plan : Plan := .go
theorem conn_pack.pok : PlanOk Tryz.prog conn_pack.plan conn_pack.body := by
  have e : PlanOk Tryz.prog conn_pack.plan conn_pack.body = (True) := by kernel_rfl
  exact e.mpr trivial
theorem conn_pack.eq (key0 : Option Addr) (kind0 : Int) (cid0 : ByteArray) (n0 : Int) (s0 : ByteArray) (K : Value → Heap → Prop) (E : Value → Heap → Prop) (H : Heap) :
    fnT Tryz.prog Tryz.f80 (wC Tryz.prog conn_pack.Γ conn_pack.plan conn_pack.body) [(.pointer key0), (.int .u8 kind0), (.string cid0), (.int .i64 n0), (.string s0)] K E H = conn_pack.vc key0 kind0 cid0 n0 s0 (fun r0_0 H => K (.string r0_0) H) E H := by
  kernel_rfl
theorem conn_pack.Fe {args : List Value} {K E : Value → Heap → Prop} {H : Heap} (h : conn_pack.F args K E H) : ∃ key0 kind0 cid0 n0 s0, args = [(.pointer key0), (.int .u8 kind0), (.string cid0), (.int .i64 n0), (.string s0)] ∧ conn_pack.c key0 kind0 cid0 n0 s0 (fun r0_0 H => K (.string r0_0) H) E H := by
  unfold conn_pack.F at h
  split at h
  · exact ⟨_, _, _, _, _, rfl, h⟩
  · exact h.elim
theorem conn_pack.ok : CalleeOk Tryz.prog 80 conn_pack.F :=
  callee_ok conn_pack.hΓ (fn := Tryz.f80) (c := conn_pack.body) (T := wC Tryz.prog conn_pack.Γ conn_pack.plan conn_pack.body) (by kernel_rfl) (by kernel_rfl) (by kernel_rfl) (wC_sound conn_pack.hΓ Tryz.hm conn_pack.plan _ conn_pack.pok) fun _ K E H h => by
    obtain ⟨z0, z1, z2, z3, z4, e, h⟩ := conn_pack.Fe h
    subst e
    have h2 : conn_pack.vc z0 z1 z2 z3 z4 (fun r0_0 H => ∃ H', Heap.Le H' H ∧ K (.string r0_0) H') E H := h.h
    rw [conn_pack.eq z0 z1 z2 z3 z4 (Fg K) E H]
    exact h2

/-! (*vizard/conn.Conn).greetings -/
noncomputable def conn_Conn_greetings.body : Code := Tryz.f35.body.getD .skip
def conn_Conn_greetings.J1.vc (c0 : Option Addr) (now0 : Int) (x0 : Bool) (Kn : Heap → Prop) (Kr : ByteArray → Bool → Heap → Prop) (E : Value → Heap → Prop) (h0 : Heap) : Prop :=
  (if x0 = true then
  Kr (⟨#[]⟩ : ByteArray) false h0
  else
  Kn h0)
structure conn_Conn_greetings.J1 (c0 : Option Addr) (now0 : Int) (x0 : Bool) (Kn : Heap → Prop) (Kr : ByteArray → Bool → Heap → Prop) (E : Value → Heap → Prop) (H : Heap) : Prop where
  h : conn_Conn_greetings.J1.vc c0 now0 x0 Kn Kr E H
def conn_Conn_greetings.J2.vc (c0 : Option Addr) (now0 : Int) (Kr : ByteArray → Bool → Heap → Prop) (E : Value → Heap → Prop) (h0 : Heap) : Prop :=
  nilc c0 fun a0 =>
  stc h0 (a0.add 7) (.bool true) fun h1 =>
  nilc c0 fun a1 =>
  stc h1 (a1.add 8) (.int .i64 now0) fun h2 =>
  nilc c0 fun a2 =>
  ldS h2 (a2.add 0) fun x0 =>
  nilc c0 fun a3 =>
  ldS h2 (a3.add 1) fun x1 =>
  nilc c0 fun a4 =>
  ldS h2 (a4.add 3) fun x2 =>
  sha_Derive.c x0 (⟨#[104, 101, 108, 108, 111]⟩ : ByteArray) (⟨#[]⟩ : ByteArray) (fun x3 h3 =>
  (ldS h3 (a4.add 3) fun x4 =>
  eqv h3 h3 (some (.string x2)) (.string x4)) ∧
  (ldS h3 (a3.add 1) fun x5 =>
  eqv h3 h3 (some (.string x1)) (.string x5)) ∧
  seal_New.c x3 (fun x6 h4 =>
  (ldS h4 (a4.add 3) fun x7 =>
  eqv h4 h4 (some (.string x2)) (.string x7)) ∧
  (ldS h4 (a3.add 1) fun x8 =>
  eqv h4 h4 (some (.string x1)) (.string x8)) ∧
  conn_pack.c x6 1 x1 0 x2 (fun x9 h5 =>
  Kr x9 true h5) E h4) E h3) E h2
structure conn_Conn_greetings.J2 (c0 : Option Addr) (now0 : Int) (Kr : ByteArray → Bool → Heap → Prop) (E : Value → Heap → Prop) (H : Heap) : Prop where
  h : conn_Conn_greetings.J2.vc c0 now0 Kr E H
def conn_Conn_greetings.vc (c0 : Option Addr) (now0 : Int) (K : ByteArray → Bool → Heap → Prop) (E : Value → Heap → Prop) (h0 : Heap) : Prop :=
  nilc c0 fun a0 =>
  ldI h0 .i64 (a0.add 4) fun x0 =>
  (if (x0 == 1) = true then
  nilc c0 fun a1 =>
  ldB h0 (a1.add 7) fun x1 =>
  (if x1 = true then
  nilc c0 fun a2 =>
  ldI h0 .i64 (a2.add 8) fun x2 =>
  (if (decide (now0 < x2)) = true then
  conn_Conn_greetings.J1 c0 now0 true (fun h1 =>
  conn_Conn_greetings.J2 c0 now0 K E h1) K E h0
  else
  nilc c0 fun a3 =>
  ldI h0 .i64 (a3.add 8) fun x7 =>
  conn_Conn_greetings.J1 c0 now0 (decide ((IntKind.u64.wrap ((IntKind.u64.wrap now0) - (IntKind.u64.wrap x7))) < 8)) (fun h4 =>
  conn_Conn_greetings.J2 c0 now0 K E h4) K E h0)
  else
  conn_Conn_greetings.J1 c0 now0 false (fun h7 =>
  conn_Conn_greetings.J2 c0 now0 K E h7) K E h0)
  else
  nilc c0 fun a4 =>
  stc h0 (a4.add 9) (.bool false) fun h10 =>
  nilc c0 fun a5 =>
  ldS h10 (a5.add 0) fun x16 =>
  nilc c0 fun a6 =>
  ldS h10 (a6.add 3) fun x17 =>
  nilc c0 fun a7 =>
  ldS h10 (a7.add 1) fun x18 =>
  nilc c0 fun a8 =>
  ldS h10 (a8.add 21) fun x19 =>
  sha_Derive.c x16 (⟨#[119, 101, 108, 99, 111, 109, 101]⟩ : ByteArray) x17 (fun x20 h11 =>
  (ldS h11 (a8.add 21) fun x21 =>
  eqv h11 h11 (some (.string x19)) (.string x21)) ∧
  (ldS h11 (a7.add 1) fun x22 =>
  eqv h11 h11 (some (.string x18)) (.string x22)) ∧
  seal_New.c x20 (fun x23 h12 =>
  (ldS h12 (a8.add 21) fun x24 =>
  eqv h12 h12 (some (.string x19)) (.string x24)) ∧
  (ldS h12 (a7.add 1) fun x25 =>
  eqv h12 h12 (some (.string x18)) (.string x25)) ∧
  conn_pack.c x23 2 x18 0 x19 (fun x26 h13 =>
  K x26 true h13) E h12) E h11) E h10)
structure conn_Conn_greetings.c (c0 : Option Addr) (now0 : Int) (K : ByteArray → Bool → Heap → Prop) (E : Value → Heap → Prop) (H : Heap) : Prop where
  h : conn_Conn_greetings.vc c0 now0 (fun r0_0 r1_0 H => ∃ H', Heap.Le H' H ∧ K r0_0 r1_0 H') E H
def conn_Conn_greetings.F : FT := fun args K E H => match args with
  | [(.pointer c0), (.int .i64 now0)] => conn_Conn_greetings.c c0 now0 (fun r0_0 r1_0 H => K (.tuple #[(.string r0_0), (.bool r1_0)]) H) E H
  | _ => False
noncomputable def conn_Conn_greetings.Γ : FuncId → Option FT := Γof [(29, sha_Derive.F), (64, seal_New.F), (80, conn_pack.F)]
theorem conn_Conn_greetings.hΓ : ∀ f F, conn_Conn_greetings.Γ f = some F → CalleeOk Tryz.prog f F := Γof_ok (List.forall_mem_cons.2 ⟨sha_Derive.ok, List.forall_mem_cons.2 ⟨seal_New.ok, List.forall_mem_cons.2 ⟨conn_pack.ok, fun _ h => nomatch h⟩⟩⟩)
def conn_Conn_greetings.J1.t : CT := fun Q E fr H => lenIs 78 fr (slP fr 0 fun c0 => slI fr 1 .i64 fun now0 => slB fr 33 fun x0 => conn_Conn_greetings.J1 c0 now0 x0 (fun  H => Q .normal (mkF 78 [(0, (.pointer c0)), (1, (.int .i64 now0))]) H) (fun y4_0 y5_0 H => Q .ret (mkF 78 [(4, (.string y4_0)), (5, (.bool y5_0))]) H) E H)
noncomputable def conn_Conn_greetings.J1.plan : Plan := .go
theorem conn_Conn_greetings.J1.pok : PlanOk Tryz.prog conn_Conn_greetings.J1.plan (sub [1, 0, 1, 0, 0, 1] conn_Conn_greetings.body) := by
  have e : PlanOk Tryz.prog conn_Conn_greetings.J1.plan (sub [1, 0, 1, 0, 0, 1] conn_Conn_greetings.body) = (True) := by kernel_rfl
  exact e.mpr trivial
theorem conn_Conn_greetings.J1.eq (c0 : Option Addr) (now0 : Int) (x0 : Bool) (Q : Ex → Fr → Heap → Prop) (E : Value → Heap → Prop) (H : Heap) :
    conn_Conn_greetings.J1.vc c0 now0 x0 (fun  H => Q .normal (mkF 78 [(0, (.pointer c0)), (1, (.int .i64 now0))]) H) (fun y4_0 y5_0 H => Q .ret (mkF 78 [(4, (.string y4_0)), (5, (.bool y5_0))]) H) E H = keepT [0, 1] [4, 5] (fun i => []) (wC Tryz.prog conn_Conn_greetings.Γ conn_Conn_greetings.J1.plan (sub [1, 0, 1, 0, 0, 1] conn_Conn_greetings.body)) Q E (mkF 78 [(0, (.pointer c0)), (1, (.int .i64 now0)), (33, (.bool x0))]) H := by
  kernel_rfl
theorem conn_Conn_greetings.J1.ok : SoundCode Tryz.prog (sub [1, 0, 1, 0, 0, 1] conn_Conn_greetings.body) conn_Conn_greetings.J1.t := by
  refine piece_sound (keepT_sound [0, 1] [4, 5] (fun i => []) (wC_sound conn_Conn_greetings.hΓ Tryz.hm conn_Conn_greetings.J1.plan _ conn_Conn_greetings.J1.pok)) ?_
  intro Q E fr H h
  unfold conn_Conn_greetings.J1.t at h
  obtain ⟨hl, h⟩ := lenIs_elim h
  obtain ⟨c0, q0, h⟩ := slP_elim h
  obtain ⟨now0, q1, h⟩ := slI_elim h
  obtain ⟨x0, q33, h⟩ := slB_elim h
  refine ⟨(mkF 78 [(0, (.pointer c0)), (1, (.int .i64 now0)), (33, (.bool x0))]), fun a ha => ha.mk (Nat.le_of_eq hl.symm) (List.forall_mem_cons.2 ⟨q0, List.forall_mem_cons.2 ⟨q1, List.forall_mem_cons.2 ⟨q33, fun _ h => nomatch h⟩⟩⟩), ?_⟩
  have e := conn_Conn_greetings.J1.eq c0 now0 x0 Q E H
  rw [← e]
  exact h.h
def conn_Conn_greetings.J2.t : CT := fun Q E fr H => lenIs 78 fr (slP fr 0 fun c0 => slI fr 1 .i64 fun now0 => conn_Conn_greetings.J2 c0 now0 (fun y4_0 y5_0 H => Q .ret (mkF 78 [(4, (.string y4_0)), (5, (.bool y5_0))]) H) E H)
noncomputable def conn_Conn_greetings.J2.plan : Plan := .seq (.go) (.seq (.draw ⟨[0, 1, 2, 3, 4, 5, 6, 7, 8, 9, 10, 11, 12, 13, 14], (dl [(0, []), (1, []), (2, []), (3, []), (6, []), (7, []), (8, []), (9, []), (10, []), (11, []), (12, []), (13, []), (4, [3, 2, 1, 0]), (5, [4, 3, 2, 1, 0]), (14, [5, 9, 13, 4, 8, 12, 3, 7, 11, 2, 6, 10, 1, 0])] .fin), [15, 16]⟩) (.go))
theorem conn_Conn_greetings.J2.pok : PlanOk Tryz.prog conn_Conn_greetings.J2.plan (sub [1, 0, 1, 0, 1] conn_Conn_greetings.body) := by
  have e : PlanOk Tryz.prog conn_Conn_greetings.J2.plan (sub [1, 0, 1, 0, 1] conn_Conn_greetings.body) = ((True) ∧ ((True) ∧ (True))) := by kernel_rfl
  exact e.mpr ⟨trivial, ⟨trivial, trivial⟩⟩
theorem conn_Conn_greetings.J2.eq (c0 : Option Addr) (now0 : Int) (Q : Ex → Fr → Heap → Prop) (E : Value → Heap → Prop) (H : Heap) :
    conn_Conn_greetings.J2.vc c0 now0 (fun y4_0 y5_0 H => Q .ret (mkF 78 [(4, (.string y4_0)), (5, (.bool y5_0))]) H) E H = keepT [] [4, 5] (fun i => []) (wC Tryz.prog conn_Conn_greetings.Γ conn_Conn_greetings.J2.plan (sub [1, 0, 1, 0, 1] conn_Conn_greetings.body)) Q E (mkF 78 [(0, (.pointer c0)), (1, (.int .i64 now0))]) H := by
  kernel_rfl
theorem conn_Conn_greetings.J2.ok : SoundCode Tryz.prog (sub [1, 0, 1, 0, 1] conn_Conn_greetings.body) conn_Conn_greetings.J2.t := by
  refine piece_sound (keepT_sound [] [4, 5] (fun i => []) (wC_sound conn_Conn_greetings.hΓ Tryz.hm conn_Conn_greetings.J2.plan _ conn_Conn_greetings.J2.pok)) ?_
  intro Q E fr H h
  unfold conn_Conn_greetings.J2.t at h
  obtain ⟨hl, h⟩ := lenIs_elim h
  obtain ⟨c0, q0, h⟩ := slP_elim h
  obtain ⟨now0, q1, h⟩ := slI_elim h
  refine ⟨(mkF 78 [(0, (.pointer c0)), (1, (.int .i64 now0))]), fun a ha => ha.mk (Nat.le_of_eq hl.symm) (List.forall_mem_cons.2 ⟨q0, List.forall_mem_cons.2 ⟨q1, fun _ h => nomatch h⟩⟩), ?_⟩
  have e := conn_Conn_greetings.J2.eq c0 now0 Q E H
  rw [← e]
  exact h.h
noncomputable def conn_Conn_greetings.plan : Plan := .seq (.go) (.seq (.seq (.go) (.cond (.seq (.seq (.go) (.use conn_Conn_greetings.J1.t)) (.use conn_Conn_greetings.J2.t)) (.go))) (.seq (.go) (.seq (.draw ⟨[0, 1, 2, 3, 4, 5, 6, 7, 8, 9, 10, 11, 12, 13, 14, 15, 16, 17, 18], (dl [(0, []), (1, []), (2, []), (3, []), (4, []), (5, []), (6, []), (7, []), (10, []), (11, []), (12, []), (13, []), (14, []), (15, []), (16, []), (17, []), (8, [3, 7, 2, 6, 1, 5, 0, 4]), (9, [8, 3, 7, 2, 6, 1, 5, 0, 4]), (18, [9, 13, 17, 8, 12, 16, 3, 7, 11, 15, 2, 6, 10, 14, 1, 5, 0, 4])] .fin), [19, 20]⟩) (.go))))
theorem conn_Conn_greetings.pok : PlanOk Tryz.prog conn_Conn_greetings.plan conn_Conn_greetings.body := by
  have e : PlanOk Tryz.prog conn_Conn_greetings.plan conn_Conn_greetings.body = ((True) ∧ (((True) ∧ ((((True) ∧ (SoundCode Tryz.prog (sub [1, 0, 1, 0, 0, 1] conn_Conn_greetings.body) conn_Conn_greetings.J1.t)) ∧ (SoundCode Tryz.prog (sub [1, 0, 1, 0, 1] conn_Conn_greetings.body) conn_Conn_greetings.J2.t)) ∧ (True))) ∧ ((True) ∧ ((True) ∧ (True))))) := by kernel_rfl
  exact e.mpr ⟨trivial, ⟨⟨trivial, ⟨⟨⟨trivial, conn_Conn_greetings.J1.ok⟩, conn_Conn_greetings.J2.ok⟩, trivial⟩⟩, ⟨trivial, ⟨trivial, trivial⟩⟩⟩⟩
theorem conn_Conn_greetings.eq (c0 : Option Addr) (now0 : Int) (K : Value → Heap → Prop) (E : Value → Heap → Prop) (H : Heap) :
    fnT Tryz.prog Tryz.f35 (wC Tryz.prog conn_Conn_greetings.Γ conn_Conn_greetings.plan conn_Conn_greetings.body) [(.pointer c0), (.int .i64 now0)] K E H = conn_Conn_greetings.vc c0 now0 (fun r0_0 r1_0 H => K (.tuple #[(.string r0_0), (.bool r1_0)]) H) E H := by
  kernel_rfl
theorem conn_Conn_greetings.Fe {args : List Value} {K E : Value → Heap → Prop} {H : Heap} (h : conn_Conn_greetings.F args K E H) : ∃ c0 now0, args = [(.pointer c0), (.int .i64 now0)] ∧ conn_Conn_greetings.c c0 now0 (fun r0_0 r1_0 H => K (.tuple #[(.string r0_0), (.bool r1_0)]) H) E H := by
  unfold conn_Conn_greetings.F at h
  split at h
  · exact ⟨_, _, rfl, h⟩
  · exact h.elim
theorem conn_Conn_greetings.ok : CalleeOk Tryz.prog 35 conn_Conn_greetings.F :=
  callee_ok conn_Conn_greetings.hΓ (fn := Tryz.f35) (c := conn_Conn_greetings.body) (T := wC Tryz.prog conn_Conn_greetings.Γ conn_Conn_greetings.plan conn_Conn_greetings.body) (by kernel_rfl) (by kernel_rfl) (by kernel_rfl) (wC_sound conn_Conn_greetings.hΓ Tryz.hm conn_Conn_greetings.plan _ conn_Conn_greetings.pok) fun _ K E H h => by
    obtain ⟨z0, z1, e, h⟩ := conn_Conn_greetings.Fe h
    subst e
    have h2 : conn_Conn_greetings.vc z0 z1 (fun r0_0 r1_0 H => ∃ H', Heap.Le H' H ∧ K (.tuple #[(.string r0_0), (.bool r1_0)]) H') E H := h.h
    rw [conn_Conn_greetings.eq z0 z1 (Fg K) E H]
    exact h2

structure conn_Conn_sealed.c (z0 : Option Addr) (z1 : Option Addr) (z2 : Nat) (z3 : Nat) (z4 : Int) (K : ByteArray → Heap → Prop) (E : Value → Heap → Prop) (H : Heap) : Prop where
  h : False
def conn_Conn_sealed.F : FT := fun args K E H => match args with
  | [(.pointer z0), (.slice z1 z2 z3), (.int .i64 z4)] => conn_Conn_sealed.c z0 z1 z2 z3 z4 (fun r0_0 H => K (.string r0_0) H) E H
  | _ => False
theorem conn_Conn_sealed.ok : CalleeOk Tryz.prog 36 conn_Conn_sealed.F := by
  intro args K E H w hS h
  unfold conn_Conn_sealed.F at h
  split at h
  · exact h.h.elim
  · exact h.elim

structure ledger_Ledger_Expire.c (z0 : Option Addr) (z1 : Int) (K : Option Addr → Nat → Nat → Heap → Prop) (E : Value → Heap → Prop) (H : Heap) : Prop where
  h : False
def ledger_Ledger_Expire.F : FT := fun args K E H => match args with
  | [(.pointer z0), (.int .i64 z1)] => ledger_Ledger_Expire.c z0 z1 (fun r0_0 r0_1 r0_2 H => K (.slice r0_0 r0_1 r0_2) H) E H
  | _ => False
theorem ledger_Ledger_Expire.ok : CalleeOk Tryz.prog 38 ledger_Ledger_Expire.F := by
  intro args K E H w hS h
  unfold ledger_Ledger_Expire.F at h
  split at h
  · exact h.h.elim
  · exact h.elim

structure conn_Conn_lose.c (z0 : Option Addr) (z1 : Option Addr) (z2 : Nat) (z3 : Nat) (K : Heap → Prop) (E : Value → Heap → Prop) (H : Heap) : Prop where
  h : False
def conn_Conn_lose.F : FT := fun args K E H => match args with
  | [(.pointer z0), (.slice z1 z2 z3)] => conn_Conn_lose.c z0 z1 z2 z3 (fun  H => K (.tuple #[]) H) E H
  | _ => False
theorem conn_Conn_lose.ok : CalleeOk Tryz.prog 37 conn_Conn_lose.F := by
  intro args K E H w hS h
  unfold conn_Conn_lose.F at h
  split at h
  · exact h.h.elim
  · exact h.elim

structure conn_Conn_control.c (z0 : Option Addr) (z1 : Option Addr) (K : Heap → Prop) (E : Value → Heap → Prop) (H : Heap) : Prop where
  h : False
def conn_Conn_control.F : FT := fun args K E H => match args with
  | [(.pointer z0), (.pointer z1)] => conn_Conn_control.c z0 z1 (fun  H => K (.tuple #[]) H) E H
  | _ => False
theorem conn_Conn_control.ok : CalleeOk Tryz.prog 39 conn_Conn_control.F := by
  intro args K E H w hS h
  unfold conn_Conn_control.F at h
  split at h
  · exact h.h.elim
  · exact h.elim

structure ledger_Ledger_Flight.c (z0 : Option Addr) (K : Int → Int → Heap → Prop) (E : Value → Heap → Prop) (H : Heap) : Prop where
  h : False
def ledger_Ledger_Flight.F : FT := fun args K E H => match args with
  | [(.pointer z0)] => ledger_Ledger_Flight.c z0 (fun r0_0 r1_0 H => K (.tuple #[(.int .i64 r0_0), (.int .i64 r1_0)]) H) E H
  | _ => False
theorem ledger_Ledger_Flight.ok : CalleeOk Tryz.prog 40 ledger_Ledger_Flight.F := by
  intro args K E H w hS h
  unfold ledger_Ledger_Flight.F at h
  split at h
  · exact h.h.elim
  · exact h.elim

structure ledger_Ledger_Window.c (z0 : Option Addr) (K : Int → Heap → Prop) (E : Value → Heap → Prop) (H : Heap) : Prop where
  h : False
def ledger_Ledger_Window.F : FT := fun args K E H => match args with
  | [(.pointer z0)] => ledger_Ledger_Window.c z0 (fun r0_0 H => K (.int .i64 r0_0) H) E H
  | _ => False
theorem ledger_Ledger_Window.ok : CalleeOk Tryz.prog 41 ledger_Ledger_Window.F := by
  intro args K E H w hS h
  unfold ledger_Ledger_Window.F at h
  split at h
  · exact h.h.elim
  · exact h.elim

structure conn_Conn_payload.c (z0 : Option Addr) (z1 : Option Addr) (K : Heap → Prop) (E : Value → Heap → Prop) (H : Heap) : Prop where
  h : False
def conn_Conn_payload.F : FT := fun args K E H => match args with
  | [(.pointer z0), (.pointer z1)] => conn_Conn_payload.c z0 z1 (fun  H => K (.tuple #[]) H) E H
  | _ => False
theorem conn_Conn_payload.ok : CalleeOk Tryz.prog 42 conn_Conn_payload.F := by
  intro args K E H w hS h
  unfold conn_Conn_payload.F at h
  split at h
  · exact h.h.elim
  · exact h.elim

structure ledger_Ledger_Sent.c (z0 : Option Addr) (z1 : Int) (z2 : Int) (z3 : Int) (K : Int → Heap → Prop) (E : Value → Heap → Prop) (H : Heap) : Prop where
  h : False
def ledger_Ledger_Sent.F : FT := fun args K E H => match args with
  | [(.pointer z0), (.int .i64 z1), (.int .i64 z2), (.int .i64 z3)] => ledger_Ledger_Sent.c z0 z1 z2 z3 (fun r0_0 H => K (.int .i64 r0_0) H) E H
  | _ => False
theorem ledger_Ledger_Sent.ok : CalleeOk Tryz.prog 43 ledger_Ledger_Sent.F := by
  intro args K E H w hS h
  unfold ledger_Ledger_Sent.F at h
  split at h
  · exact h.h.elim
  · exact h.elim

/-! (*vizard/conn.Conn).Send -/
noncomputable def conn_Conn_Send.body : Code := Tryz.f14.body.getD .skip
def conn_Conn_Send.J2.vc (c0 : Option Addr) (now0 : Int) (size0 : Int) (x0 : Bool) (Kn : Heap → Prop) (Kr : ByteArray → Bool → Heap → Prop) (E : Value → Heap → Prop) (h0 : Heap) : Prop :=
  (if x0 = true then
  conn_Conn_greetings.c c0 now0 Kr E h0
  else
  nilc c0 fun a0 =>
  ldB h0 (a0.add 6) fun x3 =>
  (if x3 = true then
  nilc c0 fun a1 =>
  stc h0 (a1.add 6) (.bool false) fun h2 =>
  nilc c0 fun a2 =>
  ldI h2 .i64 (a2.add 5) fun x4 =>
  newB (.cells #[(.int .i64 28), (.int .i64 0), (.int .i64 0), (.bool false), (.int .i64 x4), (.string (⟨#[]⟩ : ByteArray)), (.slice none 0 0)] 83) (fun b0 h3 =>
  conn_Conn_sealed.c c0 (some (⟨b0, 0, none⟩ : Addr)) 1 1 size0 (fun x5 h4 =>
  Kr x5 true h4) E h3) h2
  else
  nilc c0 fun a3 =>
  ldI h0 .i64 (a3.add 4) fun x6 =>
  (if (x6 == 3) = true then
  Kr (⟨#[]⟩ : ByteArray) false h0
  else
  Kn h0)))
structure conn_Conn_Send.J2 (c0 : Option Addr) (now0 : Int) (size0 : Int) (x0 : Bool) (Kn : Heap → Prop) (Kr : ByteArray → Bool → Heap → Prop) (E : Value → Heap → Prop) (H : Heap) : Prop where
  h : conn_Conn_Send.J2.vc c0 now0 size0 x0 Kn Kr E H
def conn_Conn_Send.J1.vc (c0 : Option Addr) (now0 : Int) (size0 : Int) (x0 : Bool) (Kn : Heap → Prop) (Kr : ByteArray → Bool → Heap → Prop) (E : Value → Heap → Prop) (h0 : Heap) : Prop :=
  (if x0 = true then
  Kr (⟨#[]⟩ : ByteArray) false h0
  else
  nilc c0 fun a0 =>
  ldI h0 .i64 (a0.add 4) fun x1 =>
  (if (x1 == 1) = true then
  conn_Conn_Send.J2 c0 now0 size0 (x1 == 1) Kn Kr E h0
  else
  nilc c0 fun a1 =>
  ldI h0 .i64 (a1.add 4) fun x4 =>
  (if (x4 == 2) = true then
  nilc c0 fun a2 =>
  ldB h0 (a2.add 9) fun x5 =>
  conn_Conn_Send.J2 c0 now0 size0 x5 Kn Kr E h0
  else
  conn_Conn_Send.J2 c0 now0 size0 false Kn Kr E h0)))
structure conn_Conn_Send.J1 (c0 : Option Addr) (now0 : Int) (size0 : Int) (x0 : Bool) (Kn : Heap → Prop) (Kr : ByteArray → Bool → Heap → Prop) (E : Value → Heap → Prop) (H : Heap) : Prop where
  h : conn_Conn_Send.J1.vc c0 now0 size0 x0 Kn Kr E H
def conn_Conn_Send.J5.vc (c0 : Option Addr) (size0 : Int) (b0 : Addr) (Kr : ByteArray → Bool → Heap → Prop) (E : Value → Heap → Prop) (h0 : Heap) : Prop :=
  nilc (some b0) fun a0 =>
  ldSl h0 (a0.add 0) fun x0 x1 x2 =>
  conn_Conn_sealed.c c0 x0 x1 x2 size0 (fun x3 h1 =>
  Kr x3 true h1) E h0
structure conn_Conn_Send.J5 (c0 : Option Addr) (size0 : Int) (b0 : Addr) (Kr : ByteArray → Bool → Heap → Prop) (E : Value → Heap → Prop) (H : Heap) : Prop where
  h : conn_Conn_Send.J5.vc c0 size0 b0 Kr E H
def conn_Conn_Send.J4.vc (c0 : Option Addr) (now0 : Int) (size0 : Int) (b0 : Addr) (Kr : ByteArray → Bool → Heap → Prop) (E : Value → Heap → Prop) (h0 : Heap) : Prop :=
  nilc (some b0) fun a0 =>
  ldSl h0 (a0.add 0) fun x0 x1 x2 =>
  (if ((x1 : Int) == 0) = true then
  Kr (⟨#[]⟩ : ByteArray) false h0
  else
  nilc (some b0) fun a1 =>
  ldB h0 (a1.add 2) fun x3 =>
  (if x3 = true then
  nilc c0 fun a2 =>
  ldP h0 (a2.add 16) fun x4 =>
  nilc c0 fun a3 =>
  ldI h0 .i64 (a3.add 11) fun x5 =>
  ledger_Ledger_Sent.c x4 x5 now0 size0 (fun x6 h1 =>
  nilc c0 fun a4 =>
  ldM h1 (a4.add 18) fun x7 =>
  nilc c0 fun a5 =>
  ldI h1 .i64 (a5.add 11) fun x8 =>
  nilc (some b0) fun a6 =>
  ldSl h1 (a6.add 0) fun x9 x10 x11 =>
  putW (.int .i64) x7 (.int .i64 x8) (.slice x9 x10 x11) (fun h2 =>
  conn_Conn_Send.J5 c0 size0 b0 Kr E h2) h1) E h0
  else
  conn_Conn_Send.J5 c0 size0 b0 Kr E h0))
structure conn_Conn_Send.J4 (c0 : Option Addr) (now0 : Int) (size0 : Int) (b0 : Addr) (Kr : ByteArray → Bool → Heap → Prop) (E : Value → Heap → Prop) (H : Heap) : Prop where
  h : conn_Conn_Send.J4.vc c0 now0 size0 b0 Kr E H
def conn_Conn_Send.J3.vc (c0 : Option Addr) (now0 : Int) (size0 : Int) (Kr : ByteArray → Bool → Heap → Prop) (E : Value → Heap → Prop) (h0 : Heap) : Prop :=
  nilc c0 fun a0 =>
  ldP h0 (a0.add 16) fun x0 =>
  ledger_Ledger_Expire.c x0 now0 (fun x1 x2 x3 h1 =>
  conn_Conn_lose.c c0 x1 x2 x3 (fun h2 =>
  newB (.cells #[(.slice none 0 0), (.int .i64 (IntKind.i64.wrap (size0 - 29))), (.bool false)] 90) (fun b0 h3 =>
  conn_Conn_control.c c0 (some (⟨b0, 0, none⟩ : Addr)) (fun h4 =>
  nilc c0 fun a1 =>
  ldP h4 (a1.add 16) fun x4 =>
  ledger_Ledger_Flight.c x4 (fun x5 x6 h5 =>
  nilc c0 fun a2 =>
  ldP h5 (a2.add 16) fun x7 =>
  ledger_Ledger_Window.c x7 (fun x8 h6 =>
  (if (decide ((IntKind.i64.wrap (x6 + size0)) ≤ x8)) = true then
  conn_Conn_payload.c c0 (some (⟨b0, 0, none⟩ : Addr)) (fun h7 =>
  conn_Conn_Send.J4 c0 now0 size0 (⟨b0, 0, none⟩ : Addr) Kr E h7) E h6
  else
  conn_Conn_Send.J4 c0 now0 size0 (⟨b0, 0, none⟩ : Addr) Kr E h6)) E h5) E h4) E h3) h2) E h1) E h0
structure conn_Conn_Send.J3 (c0 : Option Addr) (now0 : Int) (size0 : Int) (Kr : ByteArray → Bool → Heap → Prop) (E : Value → Heap → Prop) (H : Heap) : Prop where
  h : conn_Conn_Send.J3.vc c0 now0 size0 Kr E H
def conn_Conn_Send.vc (c0 : Option Addr) (now0 : Int) (size0 : Int) (K : ByteArray → Bool → Heap → Prop) (E : Value → Heap → Prop) (h0 : Heap) : Prop :=
  (if (decide (size0 < 128)) = true then
  conn_Conn_Send.J1 c0 now0 size0 true (fun h1 =>
  conn_Conn_Send.J3 c0 now0 size0 K E h1) K E h0
  else
  conn_Conn_Send.J1 c0 now0 size0 (decide (size0 > 1200)) (fun h4 =>
  conn_Conn_Send.J3 c0 now0 size0 K E h4) K E h0)
structure conn_Conn_Send.c (c0 : Option Addr) (now0 : Int) (size0 : Int) (K : ByteArray → Bool → Heap → Prop) (E : Value → Heap → Prop) (H : Heap) : Prop where
  h : conn_Conn_Send.vc c0 now0 size0 (fun r0_0 r1_0 H => ∃ H', Heap.Le H' H ∧ K r0_0 r1_0 H') E H
def conn_Conn_Send.F : FT := fun args K E H => match args with
  | [(.pointer c0), (.int .i64 now0), (.int .i64 size0)] => conn_Conn_Send.c c0 now0 size0 (fun r0_0 r1_0 H => K (.tuple #[(.string r0_0), (.bool r1_0)]) H) E H
  | _ => False
noncomputable def conn_Conn_Send.Γ : FuncId → Option FT := Γof [(35, conn_Conn_greetings.F), (36, conn_Conn_sealed.F), (37, conn_Conn_lose.F), (38, ledger_Ledger_Expire.F), (39, conn_Conn_control.F), (40, ledger_Ledger_Flight.F), (41, ledger_Ledger_Window.F), (42, conn_Conn_payload.F), (43, ledger_Ledger_Sent.F)]
theorem conn_Conn_Send.hΓ : ∀ f F, conn_Conn_Send.Γ f = some F → CalleeOk Tryz.prog f F := Γof_ok (List.forall_mem_cons.2 ⟨conn_Conn_greetings.ok, List.forall_mem_cons.2 ⟨conn_Conn_sealed.ok, List.forall_mem_cons.2 ⟨conn_Conn_lose.ok, List.forall_mem_cons.2 ⟨ledger_Ledger_Expire.ok, List.forall_mem_cons.2 ⟨conn_Conn_control.ok, List.forall_mem_cons.2 ⟨ledger_Ledger_Flight.ok, List.forall_mem_cons.2 ⟨ledger_Ledger_Window.ok, List.forall_mem_cons.2 ⟨conn_Conn_payload.ok, List.forall_mem_cons.2 ⟨ledger_Ledger_Sent.ok, fun _ h => nomatch h⟩⟩⟩⟩⟩⟩⟩⟩⟩)
def conn_Conn_Send.J2.t : CT := fun Q E fr H => lenIs 138 fr (slP fr 0 fun c0 => slI fr 1 .i64 fun now0 => slI fr 2 .i64 fun size0 => slB fr 18 fun x0 => conn_Conn_Send.J2 c0 now0 size0 x0 (fun  H => Q .normal (mkF 138 [(0, (.pointer c0)), (1, (.int .i64 now0)), (2, (.int .i64 size0))]) H) (fun y6_0 y7_0 H => Q .ret (mkF 138 [(6, (.string y6_0)), (7, (.bool y7_0))]) H) E H)
noncomputable def conn_Conn_Send.J2.plan : Plan := .go
theorem conn_Conn_Send.J2.pok : PlanOk Tryz.prog conn_Conn_Send.J2.plan (sub [1, 0, 0, 1, 1, 1] conn_Conn_Send.body) := by
  have e : PlanOk Tryz.prog conn_Conn_Send.J2.plan (sub [1, 0, 0, 1, 1, 1] conn_Conn_Send.body) = (True) := by kernel_rfl
  exact e.mpr trivial
theorem conn_Conn_Send.J2.eq (c0 : Option Addr) (now0 : Int) (size0 : Int) (x0 : Bool) (Q : Ex → Fr → Heap → Prop) (E : Value → Heap → Prop) (H : Heap) :
    conn_Conn_Send.J2.vc c0 now0 size0 x0 (fun  H => Q .normal (mkF 138 [(0, (.pointer c0)), (1, (.int .i64 now0)), (2, (.int .i64 size0))]) H) (fun y6_0 y7_0 H => Q .ret (mkF 138 [(6, (.string y6_0)), (7, (.bool y7_0))]) H) E H = keepT [0, 1, 2] [6, 7] (fun i => []) (wC Tryz.prog conn_Conn_Send.Γ conn_Conn_Send.J2.plan (sub [1, 0, 0, 1, 1, 1] conn_Conn_Send.body)) Q E (mkF 138 [(0, (.pointer c0)), (1, (.int .i64 now0)), (2, (.int .i64 size0)), (18, (.bool x0))]) H := by
  kernel_rfl
theorem conn_Conn_Send.J2.ok : SoundCode Tryz.prog (sub [1, 0, 0, 1, 1, 1] conn_Conn_Send.body) conn_Conn_Send.J2.t := by
  refine piece_sound (keepT_sound [0, 1, 2] [6, 7] (fun i => []) (wC_sound conn_Conn_Send.hΓ Tryz.hm conn_Conn_Send.J2.plan _ conn_Conn_Send.J2.pok)) ?_
  intro Q E fr H h
  unfold conn_Conn_Send.J2.t at h
  obtain ⟨hl, h⟩ := lenIs_elim h
  obtain ⟨c0, q0, h⟩ := slP_elim h
  obtain ⟨now0, q1, h⟩ := slI_elim h
  obtain ⟨size0, q2, h⟩ := slI_elim h
  obtain ⟨x0, q18, h⟩ := slB_elim h
  refine ⟨(mkF 138 [(0, (.pointer c0)), (1, (.int .i64 now0)), (2, (.int .i64 size0)), (18, (.bool x0))]), fun a ha => ha.mk (Nat.le_of_eq hl.symm) (List.forall_mem_cons.2 ⟨q0, List.forall_mem_cons.2 ⟨q1, List.forall_mem_cons.2 ⟨q2, List.forall_mem_cons.2 ⟨q18, fun _ h => nomatch h⟩⟩⟩⟩), ?_⟩
  have e := conn_Conn_Send.J2.eq c0 now0 size0 x0 Q E H
  rw [← e]
  exact h.h
def conn_Conn_Send.J1.t : CT := fun Q E fr H => lenIs 138 fr (slP fr 0 fun c0 => slI fr 1 .i64 fun now0 => slI fr 2 .i64 fun size0 => slB fr 11 fun x0 => conn_Conn_Send.J1 c0 now0 size0 x0 (fun  H => Q .normal (mkF 138 [(0, (.pointer c0)), (1, (.int .i64 now0)), (2, (.int .i64 size0))]) H) (fun y6_0 y7_0 H => Q .ret (mkF 138 [(6, (.string y6_0)), (7, (.bool y7_0))]) H) E H)
noncomputable def conn_Conn_Send.J1.plan : Plan := .cond (.go) (.seq (.go) (.use conn_Conn_Send.J2.t))
theorem conn_Conn_Send.J1.pok : PlanOk Tryz.prog conn_Conn_Send.J1.plan (sub [1, 0, 0, 1] conn_Conn_Send.body) := by
  have e : PlanOk Tryz.prog conn_Conn_Send.J1.plan (sub [1, 0, 0, 1] conn_Conn_Send.body) = ((True) ∧ ((True) ∧ (SoundCode Tryz.prog (sub [1, 0, 0, 1, 1, 1] conn_Conn_Send.body) conn_Conn_Send.J2.t))) := by kernel_rfl
  exact e.mpr ⟨trivial, ⟨trivial, conn_Conn_Send.J2.ok⟩⟩
theorem conn_Conn_Send.J1.eq (c0 : Option Addr) (now0 : Int) (size0 : Int) (x0 : Bool) (Q : Ex → Fr → Heap → Prop) (E : Value → Heap → Prop) (H : Heap) :
    conn_Conn_Send.J1.vc c0 now0 size0 x0 (fun  H => Q .normal (mkF 138 [(0, (.pointer c0)), (1, (.int .i64 now0)), (2, (.int .i64 size0))]) H) (fun y6_0 y7_0 H => Q .ret (mkF 138 [(6, (.string y6_0)), (7, (.bool y7_0))]) H) E H = keepT [0, 1, 2] [6, 7] (fun i => []) (wC Tryz.prog conn_Conn_Send.Γ conn_Conn_Send.J1.plan (sub [1, 0, 0, 1] conn_Conn_Send.body)) Q E (mkF 138 [(0, (.pointer c0)), (1, (.int .i64 now0)), (2, (.int .i64 size0)), (11, (.bool x0))]) H := by
  kernel_rfl
theorem conn_Conn_Send.J1.ok : SoundCode Tryz.prog (sub [1, 0, 0, 1] conn_Conn_Send.body) conn_Conn_Send.J1.t := by
  refine piece_sound (keepT_sound [0, 1, 2] [6, 7] (fun i => []) (wC_sound conn_Conn_Send.hΓ Tryz.hm conn_Conn_Send.J1.plan _ conn_Conn_Send.J1.pok)) ?_
  intro Q E fr H h
  unfold conn_Conn_Send.J1.t at h
  obtain ⟨hl, h⟩ := lenIs_elim h
  obtain ⟨c0, q0, h⟩ := slP_elim h
  obtain ⟨now0, q1, h⟩ := slI_elim h
  obtain ⟨size0, q2, h⟩ := slI_elim h
  obtain ⟨x0, q11, h⟩ := slB_elim h
  refine ⟨(mkF 138 [(0, (.pointer c0)), (1, (.int .i64 now0)), (2, (.int .i64 size0)), (11, (.bool x0))]), fun a ha => ha.mk (Nat.le_of_eq hl.symm) (List.forall_mem_cons.2 ⟨q0, List.forall_mem_cons.2 ⟨q1, List.forall_mem_cons.2 ⟨q2, List.forall_mem_cons.2 ⟨q11, fun _ h => nomatch h⟩⟩⟩⟩), ?_⟩
  have e := conn_Conn_Send.J1.eq c0 now0 size0 x0 Q E H
  rw [← e]
  exact h.h
def conn_Conn_Send.J5.t : CT := fun Q E fr H => lenIs 138 fr (slP fr 0 fun c0 => slI fr 2 .i64 fun size0 => slPA fr 8 fun b0 => conn_Conn_Send.J5 c0 size0 b0 (fun y6_0 y7_0 H => Q .ret (mkF 138 [(6, (.string y6_0)), (7, (.bool y7_0))]) H) E H)
noncomputable def conn_Conn_Send.J5.plan : Plan := .go
theorem conn_Conn_Send.J5.pok : PlanOk Tryz.prog conn_Conn_Send.J5.plan (sub [1, 1, 1, 1, 1, 1, 1, 1] conn_Conn_Send.body) := by
  have e : PlanOk Tryz.prog conn_Conn_Send.J5.plan (sub [1, 1, 1, 1, 1, 1, 1, 1] conn_Conn_Send.body) = (True) := by kernel_rfl
  exact e.mpr trivial
theorem conn_Conn_Send.J5.eq (c0 : Option Addr) (size0 : Int) (b0 : Addr) (Q : Ex → Fr → Heap → Prop) (E : Value → Heap → Prop) (H : Heap) :
    conn_Conn_Send.J5.vc c0 size0 b0 (fun y6_0 y7_0 H => Q .ret (mkF 138 [(6, (.string y6_0)), (7, (.bool y7_0))]) H) E H = keepT [] [6, 7] (fun i => []) (wC Tryz.prog conn_Conn_Send.Γ conn_Conn_Send.J5.plan (sub [1, 1, 1, 1, 1, 1, 1, 1] conn_Conn_Send.body)) Q E (mkF 138 [(0, (.pointer c0)), (2, (.int .i64 size0)), (8, (.pointer (some b0)))]) H := by
  kernel_rfl
theorem conn_Conn_Send.J5.ok : SoundCode Tryz.prog (sub [1, 1, 1, 1, 1, 1, 1, 1] conn_Conn_Send.body) conn_Conn_Send.J5.t := by
  refine piece_sound (keepT_sound [] [6, 7] (fun i => []) (wC_sound conn_Conn_Send.hΓ Tryz.hm conn_Conn_Send.J5.plan _ conn_Conn_Send.J5.pok)) ?_
  intro Q E fr H h
  unfold conn_Conn_Send.J5.t at h
  obtain ⟨hl, h⟩ := lenIs_elim h
  obtain ⟨c0, q0, h⟩ := slP_elim h
  obtain ⟨size0, q2, h⟩ := slI_elim h
  obtain ⟨b0, q8, h⟩ := slPA_elim h
  refine ⟨(mkF 138 [(0, (.pointer c0)), (2, (.int .i64 size0)), (8, (.pointer (some b0)))]), fun a ha => ha.mk (Nat.le_of_eq hl.symm) (List.forall_mem_cons.2 ⟨q0, List.forall_mem_cons.2 ⟨q2, List.forall_mem_cons.2 ⟨q8, fun _ h => nomatch h⟩⟩⟩), ?_⟩
  have e := conn_Conn_Send.J5.eq c0 size0 b0 Q E H
  rw [← e]
  exact h.h
def conn_Conn_Send.J4.t : CT := fun Q E fr H => lenIs 138 fr (slP fr 0 fun c0 => slI fr 1 .i64 fun now0 => slI fr 2 .i64 fun size0 => slPA fr 8 fun b0 => conn_Conn_Send.J4 c0 now0 size0 b0 (fun y6_0 y7_0 H => Q .ret (mkF 138 [(6, (.string y6_0)), (7, (.bool y7_0))]) H) E H)
noncomputable def conn_Conn_Send.J4.plan : Plan := .seq (.go) (.seq (.seq (.go) (.cond (.seq (.draw ⟨[0, 1, 2, 3, 4, 5, 6, 7, 8, 9, 10], (dl [(0, []), (1, []), (2, []), (3, []), (4, []), (5, []), (6, []), (7, []), (8, []), (9, []), (10, [3, 7, 8, 9, 2, 6, 1, 5, 0, 4])] .fin), []⟩) (.draw ⟨[0, 1, 2, 3, 4, 5, 6, 7, 8, 9, 10, 11, 12], (dl [(0, []), (1, []), (2, []), (3, []), (4, []), (5, []), (6, []), (7, []), (8, []), (9, []), (10, []), (11, []), (12, [3, 7, 11, 0, 1, 2, 4, 5, 6, 8, 9, 10])] .fin), []⟩)) (.go))) (.use conn_Conn_Send.J5.t))
theorem conn_Conn_Send.J4.pok : PlanOk Tryz.prog conn_Conn_Send.J4.plan (sub [1, 1, 1, 1, 1, 1] conn_Conn_Send.body) := by
  have e : PlanOk Tryz.prog conn_Conn_Send.J4.plan (sub [1, 1, 1, 1, 1, 1] conn_Conn_Send.body) = ((True) ∧ (((True) ∧ (((True) ∧ (True)) ∧ (True))) ∧ (SoundCode Tryz.prog (sub [1, 1, 1, 1, 1, 1, 1, 1] conn_Conn_Send.body) conn_Conn_Send.J5.t))) := by kernel_rfl
  exact e.mpr ⟨trivial, ⟨⟨trivial, ⟨⟨trivial, trivial⟩, trivial⟩⟩, conn_Conn_Send.J5.ok⟩⟩
theorem conn_Conn_Send.J4.eq (c0 : Option Addr) (now0 : Int) (size0 : Int) (b0 : Addr) (Q : Ex → Fr → Heap → Prop) (E : Value → Heap → Prop) (H : Heap) :
    conn_Conn_Send.J4.vc c0 now0 size0 b0 (fun y6_0 y7_0 H => Q .ret (mkF 138 [(6, (.string y6_0)), (7, (.bool y7_0))]) H) E H = keepT [] [6, 7] (fun i => []) (wC Tryz.prog conn_Conn_Send.Γ conn_Conn_Send.J4.plan (sub [1, 1, 1, 1, 1, 1] conn_Conn_Send.body)) Q E (mkF 138 [(0, (.pointer c0)), (1, (.int .i64 now0)), (2, (.int .i64 size0)), (8, (.pointer (some b0)))]) H := by
  kernel_rfl
theorem conn_Conn_Send.J4.ok : SoundCode Tryz.prog (sub [1, 1, 1, 1, 1, 1] conn_Conn_Send.body) conn_Conn_Send.J4.t := by
  refine piece_sound (keepT_sound [] [6, 7] (fun i => []) (wC_sound conn_Conn_Send.hΓ Tryz.hm conn_Conn_Send.J4.plan _ conn_Conn_Send.J4.pok)) ?_
  intro Q E fr H h
  unfold conn_Conn_Send.J4.t at h
  obtain ⟨hl, h⟩ := lenIs_elim h
  obtain ⟨c0, q0, h⟩ := slP_elim h
  obtain ⟨now0, q1, h⟩ := slI_elim h
  obtain ⟨size0, q2, h⟩ := slI_elim h
  obtain ⟨b0, q8, h⟩ := slPA_elim h
  refine ⟨(mkF 138 [(0, (.pointer c0)), (1, (.int .i64 now0)), (2, (.int .i64 size0)), (8, (.pointer (some b0)))]), fun a ha => ha.mk (Nat.le_of_eq hl.symm) (List.forall_mem_cons.2 ⟨q0, List.forall_mem_cons.2 ⟨q1, List.forall_mem_cons.2 ⟨q2, List.forall_mem_cons.2 ⟨q8, fun _ h => nomatch h⟩⟩⟩⟩), ?_⟩
  have e := conn_Conn_Send.J4.eq c0 now0 size0 b0 Q E H
  rw [← e]
  exact h.h
def conn_Conn_Send.J3.t : CT := fun Q E fr H => lenIs 138 fr (slP fr 0 fun c0 => slI fr 1 .i64 fun now0 => slI fr 2 .i64 fun size0 => conn_Conn_Send.J3 c0 now0 size0 (fun y6_0 y7_0 H => Q .ret (mkF 138 [(6, (.string y6_0)), (7, (.bool y7_0))]) H) E H)
noncomputable def conn_Conn_Send.J3.plan : Plan := .seq (.go) (.seq (.go) (.seq (.go) (.seq (.go) (.use conn_Conn_Send.J4.t))))
theorem conn_Conn_Send.J3.pok : PlanOk Tryz.prog conn_Conn_Send.J3.plan (sub [1, 1] conn_Conn_Send.body) := by
  have e : PlanOk Tryz.prog conn_Conn_Send.J3.plan (sub [1, 1] conn_Conn_Send.body) = ((True) ∧ ((True) ∧ ((True) ∧ ((True) ∧ (SoundCode Tryz.prog (sub [1, 1, 1, 1, 1, 1] conn_Conn_Send.body) conn_Conn_Send.J4.t))))) := by kernel_rfl
  exact e.mpr ⟨trivial, ⟨trivial, ⟨trivial, ⟨trivial, conn_Conn_Send.J4.ok⟩⟩⟩⟩
theorem conn_Conn_Send.J3.eq (c0 : Option Addr) (now0 : Int) (size0 : Int) (Q : Ex → Fr → Heap → Prop) (E : Value → Heap → Prop) (H : Heap) :
    conn_Conn_Send.J3.vc c0 now0 size0 (fun y6_0 y7_0 H => Q .ret (mkF 138 [(6, (.string y6_0)), (7, (.bool y7_0))]) H) E H = keepT [] [6, 7] (fun i => []) (wC Tryz.prog conn_Conn_Send.Γ conn_Conn_Send.J3.plan (sub [1, 1] conn_Conn_Send.body)) Q E (mkF 138 [(0, (.pointer c0)), (1, (.int .i64 now0)), (2, (.int .i64 size0))]) H := by
  kernel_rfl
theorem conn_Conn_Send.J3.ok : SoundCode Tryz.prog (sub [1, 1] conn_Conn_Send.body) conn_Conn_Send.J3.t := by
  refine piece_sound (keepT_sound [] [6, 7] (fun i => []) (wC_sound conn_Conn_Send.hΓ Tryz.hm conn_Conn_Send.J3.plan _ conn_Conn_Send.J3.pok)) ?_
  intro Q E fr H h
  unfold conn_Conn_Send.J3.t at h
  obtain ⟨hl, h⟩ := lenIs_elim h
  obtain ⟨c0, q0, h⟩ := slP_elim h
  obtain ⟨now0, q1, h⟩ := slI_elim h
  obtain ⟨size0, q2, h⟩ := slI_elim h
  refine ⟨(mkF 138 [(0, (.pointer c0)), (1, (.int .i64 now0)), (2, (.int .i64 size0))]), fun a ha => ha.mk (Nat.le_of_eq hl.symm) (List.forall_mem_cons.2 ⟨q0, List.forall_mem_cons.2 ⟨q1, List.forall_mem_cons.2 ⟨q2, fun _ h => nomatch h⟩⟩⟩), ?_⟩
  have e := conn_Conn_Send.J3.eq c0 now0 size0 Q E H
  rw [← e]
  exact h.h
noncomputable def conn_Conn_Send.plan : Plan := .seq (.go) (.seq (.block (.seq (.go) (.use conn_Conn_Send.J1.t))) (.use conn_Conn_Send.J3.t))
theorem conn_Conn_Send.pok : PlanOk Tryz.prog conn_Conn_Send.plan conn_Conn_Send.body := by
  have e : PlanOk Tryz.prog conn_Conn_Send.plan conn_Conn_Send.body = ((True) ∧ (((True) ∧ (SoundCode Tryz.prog (sub [1, 0, 0, 1] conn_Conn_Send.body) conn_Conn_Send.J1.t)) ∧ (SoundCode Tryz.prog (sub [1, 1] conn_Conn_Send.body) conn_Conn_Send.J3.t))) := by kernel_rfl
  exact e.mpr ⟨trivial, ⟨⟨trivial, conn_Conn_Send.J1.ok⟩, conn_Conn_Send.J3.ok⟩⟩
theorem conn_Conn_Send.eq (c0 : Option Addr) (now0 : Int) (size0 : Int) (K : Value → Heap → Prop) (E : Value → Heap → Prop) (H : Heap) :
    fnT Tryz.prog Tryz.f14 (wC Tryz.prog conn_Conn_Send.Γ conn_Conn_Send.plan conn_Conn_Send.body) [(.pointer c0), (.int .i64 now0), (.int .i64 size0)] K E H = conn_Conn_Send.vc c0 now0 size0 (fun r0_0 r1_0 H => K (.tuple #[(.string r0_0), (.bool r1_0)]) H) E H := by
  kernel_rfl
theorem conn_Conn_Send.Fe {args : List Value} {K E : Value → Heap → Prop} {H : Heap} (h : conn_Conn_Send.F args K E H) : ∃ c0 now0 size0, args = [(.pointer c0), (.int .i64 now0), (.int .i64 size0)] ∧ conn_Conn_Send.c c0 now0 size0 (fun r0_0 r1_0 H => K (.tuple #[(.string r0_0), (.bool r1_0)]) H) E H := by
  unfold conn_Conn_Send.F at h
  split at h
  · exact ⟨_, _, _, rfl, h⟩
  · exact h.elim
theorem conn_Conn_Send.ok : CalleeOk Tryz.prog 14 conn_Conn_Send.F :=
  callee_ok conn_Conn_Send.hΓ (fn := Tryz.f14) (c := conn_Conn_Send.body) (T := wC Tryz.prog conn_Conn_Send.Γ conn_Conn_Send.plan conn_Conn_Send.body) (by kernel_rfl) (by kernel_rfl) (by kernel_rfl) (wC_sound conn_Conn_Send.hΓ Tryz.hm conn_Conn_Send.plan _ conn_Conn_Send.pok) fun _ K E H h => by
    obtain ⟨z0, z1, z2, e, h⟩ := conn_Conn_Send.Fe h
    subst e
    have h2 : conn_Conn_Send.vc z0 z1 z2 (fun r0_0 r1_0 H => ∃ H', Heap.Le H' H ∧ K (.tuple #[(.string r0_0), (.bool r1_0)]) H') E H := h.h
    rw [conn_Conn_Send.eq z0 z1 z2 (Fg K) E H]
    exact h2

/-! vizard/vizardref13.head -/
noncomputable def vizardref13_head.body : Code := Tryz.f95.body.getD .skip
def vizardref13_head.vc (kind0 : Int) (cid0 : ByteArray) (n0 : Int) (K : ByteArray → Heap → Prop) (E : Value → Heap → Prop) (h0 : Heap) : Prop :=
  (newB (.cells #[(.int .u8 kind0)] 5) (fun b0 h1 =>
  rdBytes h1 (some (⟨b0, 0, none⟩ : Addr)) 1 fun x0 =>
  x0.size + cid0.size ≤ 9223372036854775807 ∧
  vizardref01_Bytes.c n0 4 (fun x1 h2 =>
  (rdBytes h2 (some (⟨b0, 0, none⟩ : Addr)) 1 fun x2 =>
  eqv h2 h2 (some (.string x0)) (.string x2)) ∧
  (x0 ++ cid0).size + x1.size ≤ 9223372036854775807 ∧
  K ((x0 ++ cid0) ++ x1) h2) E h1) h0) ∧
  vizardref01_Bytes.c n0 4 (fun x3 h3 =>
  newB (.cells #[(.int .u8 kind0)] 5) (fun b1 h4 =>
  rdBytes h4 (some (⟨b1, 0, none⟩ : Addr)) 1 fun x4 =>
  x4.size + cid0.size ≤ 9223372036854775807 ∧
  (x4 ++ cid0).size + x3.size ≤ 9223372036854775807 ∧
  K ((x4 ++ cid0) ++ x3) h4) h3) E h0
structure vizardref13_head.c (kind0 : Int) (cid0 : ByteArray) (n0 : Int) (K : ByteArray → Heap → Prop) (E : Value → Heap → Prop) (H : Heap) : Prop where
  h : vizardref13_head.vc kind0 cid0 n0 (fun r0_0 H => ∃ H', Heap.Le H' H ∧ K r0_0 H') E H
def vizardref13_head.F : FT := fun args K E H => match args with
  | [(.int .u8 kind0), (.string cid0), (.int .i64 n0)] => vizardref13_head.c kind0 cid0 n0 (fun r0_0 H => K (.string r0_0) H) E H
  | _ => False
noncomputable def vizardref13_head.Γ : FuncId → Option FT := Γof [(138, vizardref01_Bytes.F)]
theorem vizardref13_head.hΓ : ∀ f F, vizardref13_head.Γ f = some F → CalleeOk Tryz.prog f F := Γof_ok (List.forall_mem_cons.2 ⟨vizardref01_Bytes.ok, fun _ h => nomatch h⟩)
noncomputable def vizardref13_head.plan : Plan := .seq (.go) (.seq (.draw ⟨[0, 1, 2, 3, 4, 5, 6, 7], (dl [(0, []), (3, []), (5, [])] (.alt (dl [(1, [0]), (2, []), (4, []), (6, [5]), (7, [])] .fin) (dl [(6, [5]), (1, [0]), (2, []), (4, []), (7, [])] .fin))), [8]⟩) (.go))
theorem vizardref13_head.pok : PlanOk Tryz.prog vizardref13_head.plan vizardref13_head.body := by
  have e : PlanOk Tryz.prog vizardref13_head.plan vizardref13_head.body = ((True) ∧ ((True) ∧ (True))) := by kernel_rfl
  exact e.mpr ⟨trivial, ⟨trivial, trivial⟩⟩
theorem vizardref13_head.eq (kind0 : Int) (cid0 : ByteArray) (n0 : Int) (K : Value → Heap → Prop) (E : Value → Heap → Prop) (H : Heap) :
    fnT Tryz.prog Tryz.f95 (wC Tryz.prog vizardref13_head.Γ vizardref13_head.plan vizardref13_head.body) [(.int .u8 kind0), (.string cid0), (.int .i64 n0)] K E H = vizardref13_head.vc kind0 cid0 n0 (fun r0_0 H => K (.string r0_0) H) E H := by
  kernel_rfl
theorem vizardref13_head.Fe {args : List Value} {K E : Value → Heap → Prop} {H : Heap} (h : vizardref13_head.F args K E H) : ∃ kind0 cid0 n0, args = [(.int .u8 kind0), (.string cid0), (.int .i64 n0)] ∧ vizardref13_head.c kind0 cid0 n0 (fun r0_0 H => K (.string r0_0) H) E H := by
  unfold vizardref13_head.F at h
  split at h
  · exact ⟨_, _, _, rfl, h⟩
  · exact h.elim
theorem vizardref13_head.ok : CalleeOk Tryz.prog 95 vizardref13_head.F :=
  callee_ok vizardref13_head.hΓ (fn := Tryz.f95) (c := vizardref13_head.body) (T := wC Tryz.prog vizardref13_head.Γ vizardref13_head.plan vizardref13_head.body) (by kernel_rfl) (by kernel_rfl) (by kernel_rfl) (wC_sound vizardref13_head.hΓ Tryz.hm vizardref13_head.plan _ vizardref13_head.pok) fun _ K E H h => by
    obtain ⟨z0, z1, z2, e, h⟩ := vizardref13_head.Fe h
    subst e
    have h2 : vizardref13_head.vc z0 z1 z2 (fun r0_0 H => ∃ H', Heap.Le H' H ∧ K (.string r0_0) H') E H := h.h
    rw [vizardref13_head.eq z0 z1 z2 (Fg K) E H]
    exact h2

/-! vizard/vizardref13.Pack -/
noncomputable def vizardref13_Pack.body : Code := Tryz.f44.body.getD .skip
def vizardref13_Pack.vc (secret0 : ByteArray) (kind0 : Int) (cid0 : ByteArray) (n0 : Int) (data0 : ByteArray) (K : ByteArray → Heap → Prop) (E : Value → Heap → Prop) (h0 : Heap) : Prop :=
  vizardref13_head.c kind0 cid0 n0 (fun x0 h1 =>
  vizardref06_Seal.c secret0 n0 x0 data0 (fun x1 h2 =>
  x0.size + x1.size ≤ 9223372036854775807 ∧
  K (x0 ++ x1) h2) E h1) E h0
structure vizardref13_Pack.c (secret0 : ByteArray) (kind0 : Int) (cid0 : ByteArray) (n0 : Int) (data0 : ByteArray) (K : ByteArray → Heap → Prop) (E : Value → Heap → Prop) (H : Heap) : Prop where
  h : vizardref13_Pack.vc secret0 kind0 cid0 n0 data0 (fun r0_0 H => ∃ H', Heap.Le H' H ∧ K r0_0 H') E H
def vizardref13_Pack.F : FT := fun args K E H => match args with
  | [(.string secret0), (.int .u8 kind0), (.string cid0), (.int .i64 n0), (.string data0)] => vizardref13_Pack.c secret0 kind0 cid0 n0 data0 (fun r0_0 H => K (.string r0_0) H) E H
  | _ => False
noncomputable def vizardref13_Pack.Γ : FuncId → Option FT := Γof [(95, vizardref13_head.F), (96, vizardref06_Seal.F)]
theorem vizardref13_Pack.hΓ : ∀ f F, vizardref13_Pack.Γ f = some F → CalleeOk Tryz.prog f F := Γof_ok (List.forall_mem_cons.2 ⟨vizardref13_head.ok, List.forall_mem_cons.2 ⟨vizardref06_Seal.ok, fun _ h => nomatch h⟩⟩)
noncomputable def vizardref13_Pack.plan : Plan := .go
theorem vizardref13_Pack.pok : PlanOk Tryz.prog vizardref13_Pack.plan vizardref13_Pack.body := by
  have e : PlanOk Tryz.prog vizardref13_Pack.plan vizardref13_Pack.body = (True) := by kernel_rfl
  exact e.mpr trivial
theorem vizardref13_Pack.eq (secret0 : ByteArray) (kind0 : Int) (cid0 : ByteArray) (n0 : Int) (data0 : ByteArray) (K : Value → Heap → Prop) (E : Value → Heap → Prop) (H : Heap) :
    fnT Tryz.prog Tryz.f44 (wC Tryz.prog vizardref13_Pack.Γ vizardref13_Pack.plan vizardref13_Pack.body) [(.string secret0), (.int .u8 kind0), (.string cid0), (.int .i64 n0), (.string data0)] K E H = vizardref13_Pack.vc secret0 kind0 cid0 n0 data0 (fun r0_0 H => K (.string r0_0) H) E H := by
  kernel_rfl
theorem vizardref13_Pack.Fe {args : List Value} {K E : Value → Heap → Prop} {H : Heap} (h : vizardref13_Pack.F args K E H) : ∃ secret0 kind0 cid0 n0 data0, args = [(.string secret0), (.int .u8 kind0), (.string cid0), (.int .i64 n0), (.string data0)] ∧ vizardref13_Pack.c secret0 kind0 cid0 n0 data0 (fun r0_0 H => K (.string r0_0) H) E H := by
  unfold vizardref13_Pack.F at h
  split at h
  · exact ⟨_, _, _, _, _, rfl, h⟩
  · exact h.elim
theorem vizardref13_Pack.ok : CalleeOk Tryz.prog 44 vizardref13_Pack.F :=
  callee_ok vizardref13_Pack.hΓ (fn := Tryz.f44) (c := vizardref13_Pack.body) (T := wC Tryz.prog vizardref13_Pack.Γ vizardref13_Pack.plan vizardref13_Pack.body) (by kernel_rfl) (by kernel_rfl) (by kernel_rfl) (wC_sound vizardref13_Pack.hΓ Tryz.hm vizardref13_Pack.plan _ vizardref13_Pack.pok) fun _ K E H h => by
    obtain ⟨z0, z1, z2, z3, z4, e, h⟩ := vizardref13_Pack.Fe h
    subst e
    have h2 : vizardref13_Pack.vc z0 z1 z2 z3 z4 (fun r0_0 H => ∃ H', Heap.Le H' H ∧ K (.string r0_0) H') E H := h.h
    rw [vizardref13_Pack.eq z0 z1 z2 z3 z4 (Fg K) E H]
    exact h2

structure vizardref13_Conn_sealed.c (z0 : Option Addr) (z1 : Option Addr) (z2 : Nat) (z3 : Nat) (z4 : Int) (K : ByteArray → Heap → Prop) (E : Value → Heap → Prop) (H : Heap) : Prop where
  h : False
def vizardref13_Conn_sealed.F : FT := fun args K E H => match args with
  | [(.pointer z0), (.slice z1 z2 z3), (.int .i64 z4)] => vizardref13_Conn_sealed.c z0 z1 z2 z3 z4 (fun r0_0 H => K (.string r0_0) H) E H
  | _ => False
theorem vizardref13_Conn_sealed.ok : CalleeOk Tryz.prog 45 vizardref13_Conn_sealed.F := by
  intro args K E H w hS h
  unfold vizardref13_Conn_sealed.F at h
  split at h
  · exact h.h.elim
  · exact h.elim

structure vizardref10_Ledger_Expire.c (z0 : Option Addr) (z1 : Int) (K : Option Addr → Nat → Nat → Heap → Prop) (E : Value → Heap → Prop) (H : Heap) : Prop where
  h : False
def vizardref10_Ledger_Expire.F : FT := fun args K E H => match args with
  | [(.pointer z0), (.int .i64 z1)] => vizardref10_Ledger_Expire.c z0 z1 (fun r0_0 r0_1 r0_2 H => K (.slice r0_0 r0_1 r0_2) H) E H
  | _ => False
theorem vizardref10_Ledger_Expire.ok : CalleeOk Tryz.prog 46 vizardref10_Ledger_Expire.F := by
  intro args K E H w hS h
  unfold vizardref10_Ledger_Expire.F at h
  split at h
  · exact h.h.elim
  · exact h.elim

structure vizardref13_Conn_again.c (z0 : Option Addr) (z1 : Int) (K : Heap → Prop) (E : Value → Heap → Prop) (H : Heap) : Prop where
  h : False
def vizardref13_Conn_again.F : FT := fun args K E H => match args with
  | [(.pointer z0), (.int .i64 z1)] => vizardref13_Conn_again.c z0 z1 (fun  H => K (.tuple #[]) H) E H
  | _ => False
theorem vizardref13_Conn_again.ok : CalleeOk Tryz.prog 47 vizardref13_Conn_again.F := by
  intro args K E H w hS h
  unfold vizardref13_Conn_again.F at h
  split at h
  · exact h.h.elim
  · exact h.elim

structure vizardref13_Conn_control.c (z0 : Option Addr) (z1 : Option Addr) (K : Heap → Prop) (E : Value → Heap → Prop) (H : Heap) : Prop where
  h : False
def vizardref13_Conn_control.F : FT := fun args K E H => match args with
  | [(.pointer z0), (.pointer z1)] => vizardref13_Conn_control.c z0 z1 (fun  H => K (.tuple #[]) H) E H
  | _ => False
theorem vizardref13_Conn_control.ok : CalleeOk Tryz.prog 48 vizardref13_Conn_control.F := by
  intro args K E H w hS h
  unfold vizardref13_Conn_control.F at h
  split at h
  · exact h.h.elim
  · exact h.elim

structure vizardref10_Ledger_Flight.c (z0 : Option Addr) (K : Int → Int → Heap → Prop) (E : Value → Heap → Prop) (H : Heap) : Prop where
  h : False
def vizardref10_Ledger_Flight.F : FT := fun args K E H => match args with
  | [(.pointer z0)] => vizardref10_Ledger_Flight.c z0 (fun r0_0 r1_0 H => K (.tuple #[(.int .i64 r0_0), (.int .i64 r1_0)]) H) E H
  | _ => False
theorem vizardref10_Ledger_Flight.ok : CalleeOk Tryz.prog 49 vizardref10_Ledger_Flight.F := by
  intro args K E H w hS h
  unfold vizardref10_Ledger_Flight.F at h
  split at h
  · exact h.h.elim
  · exact h.elim

structure vizardref13_Conn_payload.c (z0 : Option Addr) (z1 : Option Addr) (K : Heap → Prop) (E : Value → Heap → Prop) (H : Heap) : Prop where
  h : False
def vizardref13_Conn_payload.F : FT := fun args K E H => match args with
  | [(.pointer z0), (.pointer z1)] => vizardref13_Conn_payload.c z0 z1 (fun  H => K (.tuple #[]) H) E H
  | _ => False
theorem vizardref13_Conn_payload.ok : CalleeOk Tryz.prog 50 vizardref13_Conn_payload.F := by
  intro args K E H w hS h
  unfold vizardref13_Conn_payload.F at h
  split at h
  · exact h.h.elim
  · exact h.elim

structure vizardref09_Elicits.c (z0 : Int) (z1 : Int) (z2 : Int) (z3 : Bool) (z4 : Int) (z5 : ByteArray) (z6 : Option Addr) (z7 : Nat) (z8 : Nat) (K : Bool → Heap → Prop) (E : Value → Heap → Prop) (H : Heap) : Prop where
  h : False
def vizardref09_Elicits.F : FT := fun args K E H => match args with
  | [(.agg ⟨[(.int .i64 z0), (.int .i64 z1), (.int .i64 z2), (.bool z3), (.int .i64 z4), (.string z5), (.slice z6 z7 z8)]⟩)] => vizardref09_Elicits.c z0 z1 z2 z3 z4 z5 z6 z7 z8 (fun r0_0 H => K (.bool r0_0) H) E H
  | _ => False
theorem vizardref09_Elicits.ok : CalleeOk Tryz.prog 51 vizardref09_Elicits.F := by
  intro args K E H w hS h
  unfold vizardref09_Elicits.F at h
  split at h
  · exact h.h.elim
  · exact h.elim

structure vizardref10_Ledger_Sent.c (z0 : Option Addr) (z1 : Int) (z2 : Int) (z3 : Int) (K : Int → Heap → Prop) (E : Value → Heap → Prop) (H : Heap) : Prop where
  h : False
def vizardref10_Ledger_Sent.F : FT := fun args K E H => match args with
  | [(.pointer z0), (.int .i64 z1), (.int .i64 z2), (.int .i64 z3)] => vizardref10_Ledger_Sent.c z0 z1 z2 z3 (fun r0_0 H => K (.int .i64 r0_0) H) E H
  | _ => False
theorem vizardref10_Ledger_Sent.ok : CalleeOk Tryz.prog 52 vizardref10_Ledger_Sent.F := by
  intro args K E H w hS h
  unfold vizardref10_Ledger_Sent.F at h
  split at h
  · exact h.h.elim
  · exact h.elim

/-! (*vizard/vizardref13.Conn).Send -/
noncomputable def vizardref13_Conn_Send.body : Code := Tryz.f15.body.getD .skip
def vizardref13_Conn_Send.J1.vc (c0 : Option Addr) (now0 : Int) (size0 : Int) (x0 : Bool) (Kn : Heap → Prop) (Kr : ByteArray → Bool → Heap → Prop) (E : Value → Heap → Prop) (h0 : Heap) : Prop :=
  (if x0 = true then
  Kr (⟨#[]⟩ : ByteArray) false h0
  else
  Kn h0)
structure vizardref13_Conn_Send.J1 (c0 : Option Addr) (now0 : Int) (size0 : Int) (x0 : Bool) (Kn : Heap → Prop) (Kr : ByteArray → Bool → Heap → Prop) (E : Value → Heap → Prop) (H : Heap) : Prop where
  h : vizardref13_Conn_Send.J1.vc c0 now0 size0 x0 Kn Kr E H
def vizardref13_Conn_Send.J3.vc (c0 : Option Addr) (now0 : Int) (x0 : Bool) (Kn : Heap → Prop) (Kr : ByteArray → Bool → Heap → Prop) (E : Value → Heap → Prop) (h0 : Heap) : Prop :=
  (if x0 = true then
  Kr (⟨#[]⟩ : ByteArray) false h0
  else
  Kn h0)
structure vizardref13_Conn_Send.J3 (c0 : Option Addr) (now0 : Int) (x0 : Bool) (Kn : Heap → Prop) (Kr : ByteArray → Bool → Heap → Prop) (E : Value → Heap → Prop) (H : Heap) : Prop where
  h : vizardref13_Conn_Send.J3.vc c0 now0 x0 Kn Kr E H
def vizardref13_Conn_Send.J4.vc (c0 : Option Addr) (now0 : Int) (Kr : ByteArray → Bool → Heap → Prop) (E : Value → Heap → Prop) (h0 : Heap) : Prop :=
  nilc c0 fun a0 =>
  stc h0 (a0.add 8) (.bool true) fun h1 =>
  nilc c0 fun a1 =>
  stc h1 (a1.add 9) (.int .i64 now0) fun h2 =>
  nilc c0 fun a2 =>
  ldS h2 (a2.add 0) fun x0 =>
  nilc c0 fun a3 =>
  ldS h2 (a3.add 1) fun x1 =>
  nilc c0 fun a4 =>
  ldS h2 (a4.add 3) fun x2 =>
  vizardref05_Derive.c x0 (⟨#[104, 101, 108, 108, 111]⟩ : ByteArray) (⟨#[]⟩ : ByteArray) (fun x3 h3 =>
  (ldS h3 (a4.add 3) fun x4 =>
  eqv h3 h3 (some (.string x2)) (.string x4)) ∧
  (ldS h3 (a3.add 1) fun x5 =>
  eqv h3 h3 (some (.string x1)) (.string x5)) ∧
  vizardref13_Pack.c x3 1 x1 0 x2 (fun x6 h4 =>
  Kr x6 true h4) E h3) E h2
structure vizardref13_Conn_Send.J4 (c0 : Option Addr) (now0 : Int) (Kr : ByteArray → Bool → Heap → Prop) (E : Value → Heap → Prop) (H : Heap) : Prop where
  h : vizardref13_Conn_Send.J4.vc c0 now0 Kr E H
def vizardref13_Conn_Send.J5.vc (c0 : Option Addr) (now0 : Int) (size0 : Int) (x0 : Bool) (Kn : Heap → Prop) (Kr : ByteArray → Bool → Heap → Prop) (E : Value → Heap → Prop) (h0 : Heap) : Prop :=
  (if x0 = true then
  nilc c0 fun a0 =>
  stc h0 (a0.add 10) (.bool false) fun h1 =>
  nilc c0 fun a1 =>
  ldS h1 (a1.add 0) fun x1 =>
  nilc c0 fun a2 =>
  ldS h1 (a2.add 3) fun x2 =>
  nilc c0 fun a3 =>
  ldS h1 (a3.add 1) fun x3 =>
  nilc c0 fun a4 =>
  ldS h1 (a4.add 4) fun x4 =>
  vizardref05_Derive.c x1 (⟨#[119, 101, 108, 99, 111, 109, 101]⟩ : ByteArray) x2 (fun x5 h2 =>
  (ldS h2 (a4.add 4) fun x6 =>
  eqv h2 h2 (some (.string x4)) (.string x6)) ∧
  (ldS h2 (a3.add 1) fun x7 =>
  eqv h2 h2 (some (.string x3)) (.string x7)) ∧
  vizardref13_Pack.c x5 2 x3 0 x4 (fun x8 h3 =>
  Kr x8 true h3) E h2) E h1
  else
  nilc c0 fun a5 =>
  ldB h0 (a5.add 7) fun x9 =>
  (if x9 = true then
  nilc c0 fun a6 =>
  stc h0 (a6.add 7) (.bool false) fun h4 =>
  nilc c0 fun a7 =>
  ldI h4 .i64 (a7.add 6) fun x10 =>
  newB (.cells #[(.int .i64 28), (.int .i64 0), (.int .i64 0), (.bool false), (.int .i64 x10), (.string (⟨#[]⟩ : ByteArray)), (.slice none 0 0)] 83) (fun b0 h5 =>
  vizardref13_Conn_sealed.c c0 (some (⟨b0, 0, none⟩ : Addr)) 1 1 size0 (fun x11 h6 =>
  Kr x11 true h6) E h5) h4
  else
  nilc c0 fun a8 =>
  ldI h0 .i64 (a8.add 5) fun x12 =>
  (if (x12 == 3) = true then
  Kr (⟨#[]⟩ : ByteArray) false h0
  else
  Kn h0)))
structure vizardref13_Conn_Send.J5 (c0 : Option Addr) (now0 : Int) (size0 : Int) (x0 : Bool) (Kn : Heap → Prop) (Kr : ByteArray → Bool → Heap → Prop) (E : Value → Heap → Prop) (H : Heap) : Prop where
  h : vizardref13_Conn_Send.J5.vc c0 now0 size0 x0 Kn Kr E H
def vizardref13_Conn_Send.W7.vc (c0 : Option Addr) (now0 : Int) (size0 : Int) (lost0 : Option Addr) (lost1 : Nat) (lost2 : Nat) (i0 : Int) (Kx1 : Heap → Prop) (RR : Int → Heap → Prop) (E : Value → Heap → Prop) (h0 : Heap) : Prop :=
  (if (decide (i0 < (lost1 : Int))) = true then
  nilc lost0 fun a0 => (0 : Int) ≤ i0 ∧ i0 < (lost1 : Int) ∧
  ldI h0 .i64 (a0.add (i0.toNat * 1)) fun x0 =>
  vizardref13_Conn_again.c c0 x0 (fun h1 =>
  RR (IntKind.i64.wrap (i0 + 1)) h1) E h0
  else
  Kx1 h0)
structure vizardref13_Conn_Send.W7 (c0 : Option Addr) (now0 : Int) (size0 : Int) (lost0 : Option Addr) (lost1 : Nat) (lost2 : Nat) (i0 : Int) (Kx1 : Heap → Prop) (E : Value → Heap → Prop) (H : Heap) : Prop where
  h : Loop (fun (RR : Int → Heap → Prop) (s : Int) (H : Heap) => vizardref13_Conn_Send.W7.vc c0 now0 size0 lost0 lost1 lost2 s Kx1 (fun i0 H => RR (i0) H) E H) (i0) H
def vizardref13_Conn_Send.J10.vc (c0 : Option Addr) (now0 : Int) (size0 : Int) (b0 : Addr) (asks0 : Bool) (i0 : Int) (Kn : Int → Heap → Prop) (E : Value → Heap → Prop) (h0 : Heap) : Prop :=
  Kn (IntKind.i64.wrap (i0 + 1)) h0
structure vizardref13_Conn_Send.J10 (c0 : Option Addr) (now0 : Int) (size0 : Int) (b0 : Addr) (asks0 : Bool) (i0 : Int) (Kn : Int → Heap → Prop) (E : Value → Heap → Prop) (H : Heap) : Prop where
  h : vizardref13_Conn_Send.J10.vc c0 now0 size0 b0 asks0 i0 Kn E H
def vizardref13_Conn_Send.W9.vc (c0 : Option Addr) (now0 : Int) (size0 : Int) (b0 : Addr) (asks0 : Bool) (i0 : Int) (Kx3 : Bool → Heap → Prop) (RR : Bool → Int → Heap → Prop) (E : Value → Heap → Prop) (h0 : Heap) : Prop :=
  nilc (some b0) fun a0 =>
  ldSl h0 (a0.add 0) fun x0 x1 x2 =>
  (if (decide (i0 < (x1 : Int))) = true then
  (if asks0 = true then
  vizardref13_Conn_Send.J10 c0 now0 size0 b0 true i0 (fun i1 h1 =>
  RR true i1 h1) E h0
  else
  nilc (some b0) fun a1 =>
  ldSl h0 (a1.add 0) fun x3 x4 x5 =>
  nilc x3 fun a2 => (0 : Int) ≤ i0 ∧ i0 < (x4 : Int) ∧
  ldI h0 .i64 ((a2.add (i0.toNat * 7)).add 0) fun x6 => ldI h0 .i64 ((a2.add (i0.toNat * 7)).add 1) fun x7 => ldI h0 .i64 ((a2.add (i0.toNat * 7)).add 2) fun x8 => ldB h0 ((a2.add (i0.toNat * 7)).add 3) fun x9 => ldI h0 .i64 ((a2.add (i0.toNat * 7)).add 4) fun x10 => ldS h0 ((a2.add (i0.toNat * 7)).add 5) fun x11 => ldSl h0 ((a2.add (i0.toNat * 7)).add 6) fun x12 x13 x14 =>
  vizardref09_Elicits.c x6 x7 x8 x9 x10 x11 x12 x13 x14 (fun x15 h2 =>
  vizardref13_Conn_Send.J10 c0 now0 size0 b0 x15 i0 (fun i2 h3 =>
  RR x15 i2 h3) E h2) E h0)
  else
  Kx3 asks0 h0)
structure vizardref13_Conn_Send.W9 (c0 : Option Addr) (now0 : Int) (size0 : Int) (b0 : Addr) (asks0 : Bool) (i0 : Int) (Kx3 : Bool → Heap → Prop) (E : Value → Heap → Prop) (H : Heap) : Prop where
  h : Loop (fun (RR : Bool × Int → Heap → Prop) (s : Bool × Int) (H : Heap) => vizardref13_Conn_Send.W9.vc c0 now0 size0 b0 s.1 s.2 Kx3 (fun asks0 i0 H => RR (asks0, i0) H) E H) (asks0, i0) H
def vizardref13_Conn_Send.J11.vc (c0 : Option Addr) (size0 : Int) (b0 : Addr) (Kr : ByteArray → Bool → Heap → Prop) (E : Value → Heap → Prop) (h0 : Heap) : Prop :=
  nilc (some b0) fun a0 =>
  ldSl h0 (a0.add 0) fun x0 x1 x2 =>
  vizardref13_Conn_sealed.c c0 x0 x1 x2 size0 (fun x3 h1 =>
  Kr x3 true h1) E h0
structure vizardref13_Conn_Send.J11 (c0 : Option Addr) (size0 : Int) (b0 : Addr) (Kr : ByteArray → Bool → Heap → Prop) (E : Value → Heap → Prop) (H : Heap) : Prop where
  h : vizardref13_Conn_Send.J11.vc c0 size0 b0 Kr E H
def vizardref13_Conn_Send.J8.vc (c0 : Option Addr) (now0 : Int) (size0 : Int) (b0 : Addr) (Kr : ByteArray → Bool → Heap → Prop) (E : Value → Heap → Prop) (h0 : Heap) : Prop :=
  nilc (some b0) fun a0 =>
  ldSl h0 (a0.add 0) fun x0 x1 x2 =>
  (if ((x1 : Int) == 0) = true then
  Kr (⟨#[]⟩ : ByteArray) false h0
  else
  vizardref13_Conn_Send.W9 c0 now0 size0 b0 false 0 (fun asks0 h1 =>
  (if asks0 = true then
  nilc c0 fun a1 =>
  ldP h1 (a1.add 15) fun x3 =>
  nilc c0 fun a2 =>
  ldI h1 .i64 (a2.add 12) fun x4 =>
  vizardref10_Ledger_Sent.c x3 x4 now0 size0 (fun x5 h2 =>
  nilc c0 fun a3 =>
  ldM h2 (a3.add 17) fun x6 =>
  nilc c0 fun a4 =>
  ldI h2 .i64 (a4.add 12) fun x7 =>
  nilc (some b0) fun a5 =>
  ldSl h2 (a5.add 0) fun x8 x9 x10 =>
  putW (.int .i64) x6 (.int .i64 x7) (.slice x8 x9 x10) (fun h3 =>
  vizardref13_Conn_Send.J11 c0 size0 b0 Kr E h3) h2) E h1
  else
  vizardref13_Conn_Send.J11 c0 size0 b0 Kr E h1)) E h0)
structure vizardref13_Conn_Send.J8 (c0 : Option Addr) (now0 : Int) (size0 : Int) (b0 : Addr) (Kr : ByteArray → Bool → Heap → Prop) (E : Value → Heap → Prop) (H : Heap) : Prop where
  h : vizardref13_Conn_Send.J8.vc c0 now0 size0 b0 Kr E H
def vizardref13_Conn_Send.J6.vc (c0 : Option Addr) (now0 : Int) (size0 : Int) (Kr : ByteArray → Bool → Heap → Prop) (E : Value → Heap → Prop) (h0 : Heap) : Prop :=
  nilc c0 fun a0 =>
  ldP h0 (a0.add 15) fun x0 =>
  vizardref10_Ledger_Expire.c x0 now0 (fun x1 x2 x3 h1 =>
  vizardref13_Conn_Send.W7 c0 now0 size0 x1 x2 x3 0 (fun h2 =>
  newB (.cells #[(.slice none 0 0), (.int .i64 (IntKind.i64.wrap (size0 - 29)))] 99) (fun b0 h3 =>
  vizardref13_Conn_control.c c0 (some (⟨b0, 0, none⟩ : Addr)) (fun h4 =>
  nilc c0 fun a1 =>
  ldP h4 (a1.add 15) fun x4 =>
  vizardref10_Ledger_Flight.c x4 (fun x5 x6 h5 =>
  nilc c0 fun a2 =>
  ldP h5 (a2.add 15) fun x7 =>
  nilc x7 fun a3 =>
  ldI h5 .i64 (a3.add 2) fun x8 =>
  (if (decide ((IntKind.i64.wrap (x6 + size0)) ≤ x8)) = true then
  vizardref13_Conn_payload.c c0 (some (⟨b0, 0, none⟩ : Addr)) (fun h6 =>
  vizardref13_Conn_Send.J8 c0 now0 size0 (⟨b0, 0, none⟩ : Addr) Kr E h6) E h5
  else
  vizardref13_Conn_Send.J8 c0 now0 size0 (⟨b0, 0, none⟩ : Addr) Kr E h5)) E h4) E h3) h2) E h1) E h0
structure vizardref13_Conn_Send.J6 (c0 : Option Addr) (now0 : Int) (size0 : Int) (Kr : ByteArray → Bool → Heap → Prop) (E : Value → Heap → Prop) (H : Heap) : Prop where
  h : vizardref13_Conn_Send.J6.vc c0 now0 size0 Kr E H
def vizardref13_Conn_Send.J2.vc (c0 : Option Addr) (now0 : Int) (size0 : Int) (Kr : ByteArray → Bool → Heap → Prop) (E : Value → Heap → Prop) (h0 : Heap) : Prop :=
  nilc c0 fun a0 =>
  ldI h0 .i64 (a0.add 5) fun x0 =>
  (if (x0 == 1) = true then
  nilc c0 fun a1 =>
  ldB h0 (a1.add 8) fun x1 =>
  (if x1 = true then
  nilc c0 fun a2 =>
  ldI h0 .i64 (a2.add 9) fun x2 =>
  (if (decide (now0 < x2)) = true then
  vizardref13_Conn_Send.J3 c0 now0 true (fun h1 =>
  vizardref13_Conn_Send.J4 c0 now0 Kr E h1) Kr E h0
  else
  nilc c0 fun a3 =>
  ldI h0 .i64 (a3.add 9) fun x7 =>
  vizardref13_Conn_Send.J3 c0 now0 (decide ((IntKind.u64.wrap ((IntKind.u64.wrap now0) - (IntKind.u64.wrap x7))) < 8)) (fun h4 =>
  vizardref13_Conn_Send.J4 c0 now0 Kr E h4) Kr E h0)
  else
  vizardref13_Conn_Send.J3 c0 now0 false (fun h7 =>
  vizardref13_Conn_Send.J4 c0 now0 Kr E h7) Kr E h0)
  else
  nilc c0 fun a4 =>
  ldB h0 (a4.add 10) fun x16 =>
  (if x16 = true then
  nilc c0 fun a5 =>
  ldI h0 .i64 (a5.add 5) fun x17 =>
  vizardref13_Conn_Send.J5 c0 now0 size0 (x17 == 2) (fun h10 =>
  vizardref13_Conn_Send.J6 c0 now0 size0 Kr E h10) Kr E h0
  else
  vizardref13_Conn_Send.J5 c0 now0 size0 false (fun h13 =>
  vizardref13_Conn_Send.J6 c0 now0 size0 Kr E h13) Kr E h0))
structure vizardref13_Conn_Send.J2 (c0 : Option Addr) (now0 : Int) (size0 : Int) (Kr : ByteArray → Bool → Heap → Prop) (E : Value → Heap → Prop) (H : Heap) : Prop where
  h : vizardref13_Conn_Send.J2.vc c0 now0 size0 Kr E H
def vizardref13_Conn_Send.vc (c0 : Option Addr) (now0 : Int) (size0 : Int) (K : ByteArray → Bool → Heap → Prop) (E : Value → Heap → Prop) (h0 : Heap) : Prop :=
  (if (decide (size0 < 128)) = true then
  vizardref13_Conn_Send.J1 c0 now0 size0 true (fun h1 =>
  vizardref13_Conn_Send.J2 c0 now0 size0 K E h1) K E h0
  else
  vizardref13_Conn_Send.J1 c0 now0 size0 (decide (size0 > 1200)) (fun h4 =>
  vizardref13_Conn_Send.J2 c0 now0 size0 K E h4) K E h0)
structure vizardref13_Conn_Send.c (c0 : Option Addr) (now0 : Int) (size0 : Int) (K : ByteArray → Bool → Heap → Prop) (E : Value → Heap → Prop) (H : Heap) : Prop where
  h : vizardref13_Conn_Send.vc c0 now0 size0 (fun r0_0 r1_0 H => ∃ H', Heap.Le H' H ∧ K r0_0 r1_0 H') E H
def vizardref13_Conn_Send.F : FT := fun args K E H => match args with
  | [(.pointer c0), (.int .i64 now0), (.int .i64 size0)] => vizardref13_Conn_Send.c c0 now0 size0 (fun r0_0 r1_0 H => K (.tuple #[(.string r0_0), (.bool r1_0)]) H) E H
  | _ => False
noncomputable def vizardref13_Conn_Send.Γ : FuncId → Option FT := Γof [(31, vizardref05_Derive.F), (44, vizardref13_Pack.F), (45, vizardref13_Conn_sealed.F), (46, vizardref10_Ledger_Expire.F), (47, vizardref13_Conn_again.F), (48, vizardref13_Conn_control.F), (49, vizardref10_Ledger_Flight.F), (50, vizardref13_Conn_payload.F), (51, vizardref09_Elicits.F), (52, vizardref10_Ledger_Sent.F)]
theorem vizardref13_Conn_Send.hΓ : ∀ f F, vizardref13_Conn_Send.Γ f = some F → CalleeOk Tryz.prog f F := Γof_ok (List.forall_mem_cons.2 ⟨vizardref05_Derive.ok, List.forall_mem_cons.2 ⟨vizardref13_Pack.ok, List.forall_mem_cons.2 ⟨vizardref13_Conn_sealed.ok, List.forall_mem_cons.2 ⟨vizardref10_Ledger_Expire.ok, List.forall_mem_cons.2 ⟨vizardref13_Conn_again.ok, List.forall_mem_cons.2 ⟨vizardref13_Conn_control.ok, List.forall_mem_cons.2 ⟨vizardref10_Ledger_Flight.ok, List.forall_mem_cons.2 ⟨vizardref13_Conn_payload.ok, List.forall_mem_cons.2 ⟨vizardref09_Elicits.ok, List.forall_mem_cons.2 ⟨vizardref10_Ledger_Sent.ok, fun _ h => nomatch h⟩⟩⟩⟩⟩⟩⟩⟩⟩⟩)
def vizardref13_Conn_Send.J1.t : CT := fun Q E fr H => lenIs 231 fr (slP fr 0 fun c0 => slI fr 1 .i64 fun now0 => slI fr 2 .i64 fun size0 => slB fr 20 fun x0 => vizardref13_Conn_Send.J1 c0 now0 size0 x0 (fun  H => Q .normal (mkF 231 [(0, (.pointer c0)), (1, (.int .i64 now0)), (2, (.int .i64 size0))]) H) (fun y6_0 y7_0 H => Q .ret (mkF 231 [(6, (.string y6_0)), (7, (.bool y7_0))]) H) E H)
noncomputable def vizardref13_Conn_Send.J1.plan : Plan := .go
theorem vizardref13_Conn_Send.J1.pok : PlanOk Tryz.prog vizardref13_Conn_Send.J1.plan (sub [1, 0, 1] vizardref13_Conn_Send.body) := by
  have e : PlanOk Tryz.prog vizardref13_Conn_Send.J1.plan (sub [1, 0, 1] vizardref13_Conn_Send.body) = (True) := by kernel_rfl
  exact e.mpr trivial
theorem vizardref13_Conn_Send.J1.eq (c0 : Option Addr) (now0 : Int) (size0 : Int) (x0 : Bool) (Q : Ex → Fr → Heap → Prop) (E : Value → Heap → Prop) (H : Heap) :
    vizardref13_Conn_Send.J1.vc c0 now0 size0 x0 (fun  H => Q .normal (mkF 231 [(0, (.pointer c0)), (1, (.int .i64 now0)), (2, (.int .i64 size0))]) H) (fun y6_0 y7_0 H => Q .ret (mkF 231 [(6, (.string y6_0)), (7, (.bool y7_0))]) H) E H = keepT [0, 1, 2] [6, 7] (fun i => []) (wC Tryz.prog vizardref13_Conn_Send.Γ vizardref13_Conn_Send.J1.plan (sub [1, 0, 1] vizardref13_Conn_Send.body)) Q E (mkF 231 [(0, (.pointer c0)), (1, (.int .i64 now0)), (2, (.int .i64 size0)), (20, (.bool x0))]) H := by
  kernel_rfl
theorem vizardref13_Conn_Send.J1.ok : SoundCode Tryz.prog (sub [1, 0, 1] vizardref13_Conn_Send.body) vizardref13_Conn_Send.J1.t := by
  refine piece_sound (keepT_sound [0, 1, 2] [6, 7] (fun i => []) (wC_sound vizardref13_Conn_Send.hΓ Tryz.hm vizardref13_Conn_Send.J1.plan _ vizardref13_Conn_Send.J1.pok)) ?_
  intro Q E fr H h
  unfold vizardref13_Conn_Send.J1.t at h
  obtain ⟨hl, h⟩ := lenIs_elim h
  obtain ⟨c0, q0, h⟩ := slP_elim h
  obtain ⟨now0, q1, h⟩ := slI_elim h
  obtain ⟨size0, q2, h⟩ := slI_elim h
  obtain ⟨x0, q20, h⟩ := slB_elim h
  refine ⟨(mkF 231 [(0, (.pointer c0)), (1, (.int .i64 now0)), (2, (.int .i64 size0)), (20, (.bool x0))]), fun a ha => ha.mk (Nat.le_of_eq hl.symm) (List.forall_mem_cons.2 ⟨q0, List.forall_mem_cons.2 ⟨q1, List.forall_mem_cons.2 ⟨q2, List.forall_mem_cons.2 ⟨q20, fun _ h => nomatch h⟩⟩⟩⟩), ?_⟩
  have e := vizardref13_Conn_Send.J1.eq c0 now0 size0 x0 Q E H
  rw [← e]
  exact h.h
def vizardref13_Conn_Send.J3.t : CT := fun Q E fr H => lenIs 231 fr (slP fr 0 fun c0 => slI fr 1 .i64 fun now0 => slB fr 49 fun x0 => vizardref13_Conn_Send.J3 c0 now0 x0 (fun  H => Q .normal (mkF 231 [(0, (.pointer c0)), (1, (.int .i64 now0))]) H) (fun y6_0 y7_0 H => Q .ret (mkF 231 [(6, (.string y6_0)), (7, (.bool y7_0))]) H) E H)
noncomputable def vizardref13_Conn_Send.J3.plan : Plan := .go
theorem vizardref13_Conn_Send.J3.pok : PlanOk Tryz.prog vizardref13_Conn_Send.J3.plan (sub [1, 1, 0, 0, 1, 0, 0, 1] vizardref13_Conn_Send.body) := by
  have e : PlanOk Tryz.prog vizardref13_Conn_Send.J3.plan (sub [1, 1, 0, 0, 1, 0, 0, 1] vizardref13_Conn_Send.body) = (True) := by kernel_rfl
  exact e.mpr trivial
theorem vizardref13_Conn_Send.J3.eq (c0 : Option Addr) (now0 : Int) (x0 : Bool) (Q : Ex → Fr → Heap → Prop) (E : Value → Heap → Prop) (H : Heap) :
    vizardref13_Conn_Send.J3.vc c0 now0 x0 (fun  H => Q .normal (mkF 231 [(0, (.pointer c0)), (1, (.int .i64 now0))]) H) (fun y6_0 y7_0 H => Q .ret (mkF 231 [(6, (.string y6_0)), (7, (.bool y7_0))]) H) E H = keepT [0, 1] [6, 7] (fun i => []) (wC Tryz.prog vizardref13_Conn_Send.Γ vizardref13_Conn_Send.J3.plan (sub [1, 1, 0, 0, 1, 0, 0, 1] vizardref13_Conn_Send.body)) Q E (mkF 231 [(0, (.pointer c0)), (1, (.int .i64 now0)), (49, (.bool x0))]) H := by
  kernel_rfl
theorem vizardref13_Conn_Send.J3.ok : SoundCode Tryz.prog (sub [1, 1, 0, 0, 1, 0, 0, 1] vizardref13_Conn_Send.body) vizardref13_Conn_Send.J3.t := by
  refine piece_sound (keepT_sound [0, 1] [6, 7] (fun i => []) (wC_sound vizardref13_Conn_Send.hΓ Tryz.hm vizardref13_Conn_Send.J3.plan _ vizardref13_Conn_Send.J3.pok)) ?_
  intro Q E fr H h
  unfold vizardref13_Conn_Send.J3.t at h
  obtain ⟨hl, h⟩ := lenIs_elim h
  obtain ⟨c0, q0, h⟩ := slP_elim h
  obtain ⟨now0, q1, h⟩ := slI_elim h
  obtain ⟨x0, q49, h⟩ := slB_elim h
  refine ⟨(mkF 231 [(0, (.pointer c0)), (1, (.int .i64 now0)), (49, (.bool x0))]), fun a ha => ha.mk (Nat.le_of_eq hl.symm) (List.forall_mem_cons.2 ⟨q0, List.forall_mem_cons.2 ⟨q1, List.forall_mem_cons.2 ⟨q49, fun _ h => nomatch h⟩⟩⟩), ?_⟩
  have e := vizardref13_Conn_Send.J3.eq c0 now0 x0 Q E H
  rw [← e]
  exact h.h
def vizardref13_Conn_Send.J4.t : CT := fun Q E fr H => lenIs 231 fr (slP fr 0 fun c0 => slI fr 1 .i64 fun now0 => vizardref13_Conn_Send.J4 c0 now0 (fun y6_0 y7_0 H => Q .ret (mkF 231 [(6, (.string y6_0)), (7, (.bool y7_0))]) H) E H)
noncomputable def vizardref13_Conn_Send.J4.plan : Plan := .seq (.go) (.seq (.go) (.seq (.draw ⟨[0, 1, 2, 3, 4, 5, 6, 7, 8, 9, 10, 11, 12, 13], (dl [(0, []), (1, []), (2, []), (3, []), (5, []), (6, []), (7, []), (8, []), (9, []), (10, []), (11, []), (12, []), (4, [3, 2, 1, 0]), (13, [4, 8, 12, 3, 7, 11, 2, 6, 10, 1, 5, 9, 0])] .fin), [14, 15]⟩) (.go)))
theorem vizardref13_Conn_Send.J4.pok : PlanOk Tryz.prog vizardref13_Conn_Send.J4.plan (sub [1, 1, 0, 0, 1, 0, 1] vizardref13_Conn_Send.body) := by
  have e : PlanOk Tryz.prog vizardref13_Conn_Send.J4.plan (sub [1, 1, 0, 0, 1, 0, 1] vizardref13_Conn_Send.body) = ((True) ∧ ((True) ∧ ((True) ∧ (True)))) := by kernel_rfl
  exact e.mpr ⟨trivial, ⟨trivial, ⟨trivial, trivial⟩⟩⟩
theorem vizardref13_Conn_Send.J4.eq (c0 : Option Addr) (now0 : Int) (Q : Ex → Fr → Heap → Prop) (E : Value → Heap → Prop) (H : Heap) :
    vizardref13_Conn_Send.J4.vc c0 now0 (fun y6_0 y7_0 H => Q .ret (mkF 231 [(6, (.string y6_0)), (7, (.bool y7_0))]) H) E H = keepT [] [6, 7] (fun i => []) (wC Tryz.prog vizardref13_Conn_Send.Γ vizardref13_Conn_Send.J4.plan (sub [1, 1, 0, 0, 1, 0, 1] vizardref13_Conn_Send.body)) Q E (mkF 231 [(0, (.pointer c0)), (1, (.int .i64 now0))]) H := by
  kernel_rfl
theorem vizardref13_Conn_Send.J4.ok : SoundCode Tryz.prog (sub [1, 1, 0, 0, 1, 0, 1] vizardref13_Conn_Send.body) vizardref13_Conn_Send.J4.t := by
  refine piece_sound (keepT_sound [] [6, 7] (fun i => []) (wC_sound vizardref13_Conn_Send.hΓ Tryz.hm vizardref13_Conn_Send.J4.plan _ vizardref13_Conn_Send.J4.pok)) ?_
  intro Q E fr H h
  unfold vizardref13_Conn_Send.J4.t at h
  obtain ⟨hl, h⟩ := lenIs_elim h
  obtain ⟨c0, q0, h⟩ := slP_elim h
  obtain ⟨now0, q1, h⟩ := slI_elim h
  refine ⟨(mkF 231 [(0, (.pointer c0)), (1, (.int .i64 now0))]), fun a ha => ha.mk (Nat.le_of_eq hl.symm) (List.forall_mem_cons.2 ⟨q0, List.forall_mem_cons.2 ⟨q1, fun _ h => nomatch h⟩⟩), ?_⟩
  have e := vizardref13_Conn_Send.J4.eq c0 now0 Q E H
  rw [← e]
  exact h.h
def vizardref13_Conn_Send.J5.t : CT := fun Q E fr H => lenIs 231 fr (slP fr 0 fun c0 => slI fr 1 .i64 fun now0 => slI fr 2 .i64 fun size0 => slB fr 71 fun x0 => vizardref13_Conn_Send.J5 c0 now0 size0 x0 (fun  H => Q .normal (mkF 231 [(0, (.pointer c0)), (1, (.int .i64 now0)), (2, (.int .i64 size0))]) H) (fun y6_0 y7_0 H => Q .ret (mkF 231 [(6, (.string y6_0)), (7, (.bool y7_0))]) H) E H)
noncomputable def vizardref13_Conn_Send.J5.plan : Plan := .cond (.seq (.go) (.seq (.draw ⟨[0, 1, 2, 3, 4, 5, 6, 7, 8, 9, 10, 11, 12, 13, 14, 15, 16, 17], (dl [(0, []), (1, []), (2, []), (3, []), (4, []), (5, []), (6, []), (7, []), (9, []), (10, []), (11, []), (12, []), (13, []), (14, []), (15, []), (16, []), (8, [3, 7, 2, 6, 1, 5, 0, 4]), (17, [8, 12, 16, 3, 7, 11, 15, 2, 6, 10, 14, 1, 5, 9, 13, 0, 4])] .fin), [18, 19]⟩) (.go))) (.go)
theorem vizardref13_Conn_Send.J5.pok : PlanOk Tryz.prog vizardref13_Conn_Send.J5.plan (sub [1, 1, 0, 0, 1, 1, 1] vizardref13_Conn_Send.body) := by
  have e : PlanOk Tryz.prog vizardref13_Conn_Send.J5.plan (sub [1, 1, 0, 0, 1, 1, 1] vizardref13_Conn_Send.body) = (((True) ∧ ((True) ∧ (True))) ∧ (True)) := by kernel_rfl
  exact e.mpr ⟨⟨trivial, ⟨trivial, trivial⟩⟩, trivial⟩
theorem vizardref13_Conn_Send.J5.eq (c0 : Option Addr) (now0 : Int) (size0 : Int) (x0 : Bool) (Q : Ex → Fr → Heap → Prop) (E : Value → Heap → Prop) (H : Heap) :
    vizardref13_Conn_Send.J5.vc c0 now0 size0 x0 (fun  H => Q .normal (mkF 231 [(0, (.pointer c0)), (1, (.int .i64 now0)), (2, (.int .i64 size0))]) H) (fun y6_0 y7_0 H => Q .ret (mkF 231 [(6, (.string y6_0)), (7, (.bool y7_0))]) H) E H = keepT [0, 1, 2] [6, 7] (fun i => []) (wC Tryz.prog vizardref13_Conn_Send.Γ vizardref13_Conn_Send.J5.plan (sub [1, 1, 0, 0, 1, 1, 1] vizardref13_Conn_Send.body)) Q E (mkF 231 [(0, (.pointer c0)), (1, (.int .i64 now0)), (2, (.int .i64 size0)), (71, (.bool x0))]) H := by
  kernel_rfl
theorem vizardref13_Conn_Send.J5.ok : SoundCode Tryz.prog (sub [1, 1, 0, 0, 1, 1, 1] vizardref13_Conn_Send.body) vizardref13_Conn_Send.J5.t := by
  refine piece_sound (keepT_sound [0, 1, 2] [6, 7] (fun i => []) (wC_sound vizardref13_Conn_Send.hΓ Tryz.hm vizardref13_Conn_Send.J5.plan _ vizardref13_Conn_Send.J5.pok)) ?_
  intro Q E fr H h
  unfold vizardref13_Conn_Send.J5.t at h
  obtain ⟨hl, h⟩ := lenIs_elim h
  obtain ⟨c0, q0, h⟩ := slP_elim h
  obtain ⟨now0, q1, h⟩ := slI_elim h
  obtain ⟨size0, q2, h⟩ := slI_elim h
  obtain ⟨x0, q71, h⟩ := slB_elim h
  refine ⟨(mkF 231 [(0, (.pointer c0)), (1, (.int .i64 now0)), (2, (.int .i64 size0)), (71, (.bool x0))]), fun a ha => ha.mk (Nat.le_of_eq hl.symm) (List.forall_mem_cons.2 ⟨q0, List.forall_mem_cons.2 ⟨q1, List.forall_mem_cons.2 ⟨q2, List.forall_mem_cons.2 ⟨q71, fun _ h => nomatch h⟩⟩⟩⟩), ?_⟩
  have e := vizardref13_Conn_Send.J5.eq c0 now0 size0 x0 Q E H
  rw [← e]
  exact h.h
def vizardref13_Conn_Send.W7.t : CT := fun Q E fr H => lenIs 231 fr (slP fr 0 fun c0 => slI fr 1 .i64 fun now0 => slI fr 2 .i64 fun size0 => slSl fr 8 fun lost0 lost1 lost2 => slI fr 9 .i64 fun i0 => vizardref13_Conn_Send.W7 c0 now0 size0 lost0 lost1 lost2 i0 (fun  H => Q (.exit 1) (mkF 231 [(0, (.pointer c0)), (1, (.int .i64 now0)), (2, (.int .i64 size0))]) H) E H)
noncomputable def vizardref13_Conn_Send.W7.plan : Plan := .go
theorem vizardref13_Conn_Send.W7.pok : PlanOk Tryz.prog vizardref13_Conn_Send.W7.plan (sub [1, 1, 1, 1, 0, 1, 0, 0] vizardref13_Conn_Send.body) := by
  have e : PlanOk Tryz.prog vizardref13_Conn_Send.W7.plan (sub [1, 1, 1, 1, 0, 1, 0, 0] vizardref13_Conn_Send.body) = (True) := by kernel_rfl
  exact e.mpr trivial
theorem vizardref13_Conn_Send.W7.eq (c0 : Option Addr) (now0 : Int) (size0 : Int) (lost0 : Option Addr) (lost1 : Nat) (lost2 : Nat) (Q : Ex → Fr → Heap → Prop) (E : Value → Heap → Prop) (RR : Fr → Heap → Prop) (s : Int) (H : Heap) :
    (fun (RR : Int → Heap → Prop) (s : Int) (H : Heap) => vizardref13_Conn_Send.W7.vc c0 now0 size0 lost0 lost1 lost2 s (fun  H => Q (.exit 1) (mkF 231 [(0, (.pointer c0)), (1, (.int .i64 now0)), (2, (.int .i64 size0))]) H) (fun i0 H => RR (i0) H) E H) (fun s' H' => RR ((fun (s : Int) => (mkF 231 [(0, (.pointer c0)), (1, (.int .i64 now0)), (2, (.int .i64 size0)), (8, (.slice lost0 lost1 lost2)), (9, (.int .i64 s))])) s') H') s H = keepT [0, 1, 2, 8, 9] [] (fun i => if i = 1 then [0, 1, 2] else []) (wC Tryz.prog vizardref13_Conn_Send.Γ vizardref13_Conn_Send.W7.plan (sub [1, 1, 1, 1, 0, 1, 0, 0] vizardref13_Conn_Send.body)) (fun e fr' H' => match e with | .normal => RR fr' H' | .exit id => Q (.exit id) fr' H' | .ret => Q .ret fr' H') E ((fun (s : Int) => (mkF 231 [(0, (.pointer c0)), (1, (.int .i64 now0)), (2, (.int .i64 size0)), (8, (.slice lost0 lost1 lost2)), (9, (.int .i64 s))])) s) H := by
  kernel_rfl
theorem vizardref13_Conn_Send.W7.ok : SoundCode Tryz.prog (sub [1, 1, 1, 1, 0, 1, 0] vizardref13_Conn_Send.body) vizardref13_Conn_Send.W7.t := by
  have e : (sub [1, 1, 1, 1, 0, 1, 0] vizardref13_Conn_Send.body) = .loop (sub [1, 1, 1, 1, 0, 1, 0, 0] vizardref13_Conn_Send.body) := by kernel_rfl
  rw [e]
  refine piece_sound (loopN_sound (keepT_sound [0, 1, 2, 8, 9] [] (fun i => if i = 1 then [0, 1, 2] else []) (wC_sound vizardref13_Conn_Send.hΓ Tryz.hm vizardref13_Conn_Send.W7.plan _ vizardref13_Conn_Send.W7.pok))) ?_
  intro Q E fr H h
  unfold vizardref13_Conn_Send.W7.t at h
  obtain ⟨hl, h⟩ := lenIs_elim h
  obtain ⟨c0, q0, h⟩ := slP_elim h
  obtain ⟨now0, q1, h⟩ := slI_elim h
  obtain ⟨size0, q2, h⟩ := slI_elim h
  obtain ⟨lost0, lost1, lost2, q8, h⟩ := slSl_elim h
  obtain ⟨i0, q9, h⟩ := slI_elim h
  obtain ⟨m, h⟩ := h.h
  refine ⟨(mkF 231 [(0, (.pointer c0)), (1, (.int .i64 now0)), (2, (.int .i64 size0)), (8, (.slice lost0 lost1 lost2)), (9, (.int .i64 i0))]), fun a ha => ha.mk (Nat.le_of_eq hl.symm) (List.forall_mem_cons.2 ⟨q0, List.forall_mem_cons.2 ⟨q1, List.forall_mem_cons.2 ⟨q2, List.forall_mem_cons.2 ⟨q8, List.forall_mem_cons.2 ⟨q9, fun _ h => nomatch h⟩⟩⟩⟩⟩), m, ?_⟩
  have e := loopS_eq (B := (fun (RR : Int → Heap → Prop) (s : Int) (H : Heap) => vizardref13_Conn_Send.W7.vc c0 now0 size0 lost0 lost1 lost2 s (fun  H => Q (.exit 1) (mkF 231 [(0, (.pointer c0)), (1, (.int .i64 now0)), (2, (.int .i64 size0))]) H) (fun i0 H => RR (i0) H) E H)) (A := keepT [0, 1, 2, 8, 9] [] (fun i => if i = 1 then [0, 1, 2] else []) (wC Tryz.prog vizardref13_Conn_Send.Γ vizardref13_Conn_Send.W7.plan (sub [1, 1, 1, 1, 0, 1, 0, 0] vizardref13_Conn_Send.body))) (m := (fun (s : Int) => (mkF 231 [(0, (.pointer c0)), (1, (.int .i64 now0)), (2, (.int .i64 size0)), (8, (.slice lost0 lost1 lost2)), (9, (.int .i64 s))]))) (Q := Q) (E := E) (fun RR s H => vizardref13_Conn_Send.W7.eq c0 now0 size0 lost0 lost1 lost2 Q E RR s H) m (i0) H
  exact cast e h
def vizardref13_Conn_Send.J10.t : CT := fun Q E fr H => lenIs 231 fr (slP fr 0 fun c0 => slI fr 1 .i64 fun now0 => slI fr 2 .i64 fun size0 => slPA fr 10 fun b0 => slB fr 13 fun asks0 => slI fr 14 .i64 fun i0 => vizardref13_Conn_Send.J10 c0 now0 size0 b0 asks0 i0 (fun y14_0 H => Q .normal (mkF 231 [(0, (.pointer c0)), (1, (.int .i64 now0)), (2, (.int .i64 size0)), (10, (.pointer (some b0))), (13, (.bool asks0)), (14, (.int .i64 y14_0))]) H) E H)
noncomputable def vizardref13_Conn_Send.J10.plan : Plan := .go
theorem vizardref13_Conn_Send.J10.pok : PlanOk Tryz.prog vizardref13_Conn_Send.J10.plan (sub [1, 1, 1, 1, 1, 1, 1, 1, 1, 1, 1, 0, 1, 0, 0, 1, 1] vizardref13_Conn_Send.body) := by
  have e : PlanOk Tryz.prog vizardref13_Conn_Send.J10.plan (sub [1, 1, 1, 1, 1, 1, 1, 1, 1, 1, 1, 0, 1, 0, 0, 1, 1] vizardref13_Conn_Send.body) = (True) := by kernel_rfl
  exact e.mpr trivial
theorem vizardref13_Conn_Send.J10.eq (c0 : Option Addr) (now0 : Int) (size0 : Int) (b0 : Addr) (asks0 : Bool) (i0 : Int) (Q : Ex → Fr → Heap → Prop) (E : Value → Heap → Prop) (H : Heap) :
    vizardref13_Conn_Send.J10.vc c0 now0 size0 b0 asks0 i0 (fun y14_0 H => Q .normal (mkF 231 [(0, (.pointer c0)), (1, (.int .i64 now0)), (2, (.int .i64 size0)), (10, (.pointer (some b0))), (13, (.bool asks0)), (14, (.int .i64 y14_0))]) H) E H = keepT [0, 1, 2, 10, 13, 14] [] (fun i => []) (wC Tryz.prog vizardref13_Conn_Send.Γ vizardref13_Conn_Send.J10.plan (sub [1, 1, 1, 1, 1, 1, 1, 1, 1, 1, 1, 0, 1, 0, 0, 1, 1] vizardref13_Conn_Send.body)) Q E (mkF 231 [(0, (.pointer c0)), (1, (.int .i64 now0)), (2, (.int .i64 size0)), (10, (.pointer (some b0))), (13, (.bool asks0)), (14, (.int .i64 i0))]) H := by
  kernel_rfl
theorem vizardref13_Conn_Send.J10.ok : SoundCode Tryz.prog (sub [1, 1, 1, 1, 1, 1, 1, 1, 1, 1, 1, 0, 1, 0, 0, 1, 1] vizardref13_Conn_Send.body) vizardref13_Conn_Send.J10.t := by
  refine piece_sound (keepT_sound [0, 1, 2, 10, 13, 14] [] (fun i => []) (wC_sound vizardref13_Conn_Send.hΓ Tryz.hm vizardref13_Conn_Send.J10.plan _ vizardref13_Conn_Send.J10.pok)) ?_
  intro Q E fr H h
  unfold vizardref13_Conn_Send.J10.t at h
  obtain ⟨hl, h⟩ := lenIs_elim h
  obtain ⟨c0, q0, h⟩ := slP_elim h
  obtain ⟨now0, q1, h⟩ := slI_elim h
  obtain ⟨size0, q2, h⟩ := slI_elim h
  obtain ⟨b0, q10, h⟩ := slPA_elim h
  obtain ⟨asks0, q13, h⟩ := slB_elim h
  obtain ⟨i0, q14, h⟩ := slI_elim h
  refine ⟨(mkF 231 [(0, (.pointer c0)), (1, (.int .i64 now0)), (2, (.int .i64 size0)), (10, (.pointer (some b0))), (13, (.bool asks0)), (14, (.int .i64 i0))]), fun a ha => ha.mk (Nat.le_of_eq hl.symm) (List.forall_mem_cons.2 ⟨q0, List.forall_mem_cons.2 ⟨q1, List.forall_mem_cons.2 ⟨q2, List.forall_mem_cons.2 ⟨q10, List.forall_mem_cons.2 ⟨q13, List.forall_mem_cons.2 ⟨q14, fun _ h => nomatch h⟩⟩⟩⟩⟩⟩), ?_⟩
  have e := vizardref13_Conn_Send.J10.eq c0 now0 size0 b0 asks0 i0 Q E H
  rw [← e]
  exact h.h
def vizardref13_Conn_Send.W9.t : CT := fun Q E fr H => lenIs 231 fr (slP fr 0 fun c0 => slI fr 1 .i64 fun now0 => slI fr 2 .i64 fun size0 => slPA fr 10 fun b0 => slB fr 13 fun asks0 => slI fr 14 .i64 fun i0 => vizardref13_Conn_Send.W9 c0 now0 size0 b0 asks0 i0 (fun y13_0 H => Q (.exit 3) (mkF 231 [(0, (.pointer c0)), (1, (.int .i64 now0)), (2, (.int .i64 size0)), (10, (.pointer (some b0))), (13, (.bool y13_0))]) H) E H)
noncomputable def vizardref13_Conn_Send.W9.plan : Plan := .seq (.go) (.seq (.go) (.use vizardref13_Conn_Send.J10.t))
theorem vizardref13_Conn_Send.W9.pok : PlanOk Tryz.prog vizardref13_Conn_Send.W9.plan (sub [1, 1, 1, 1, 1, 1, 1, 1, 1, 1, 1, 0, 1, 0, 0] vizardref13_Conn_Send.body) := by
  have e : PlanOk Tryz.prog vizardref13_Conn_Send.W9.plan (sub [1, 1, 1, 1, 1, 1, 1, 1, 1, 1, 1, 0, 1, 0, 0] vizardref13_Conn_Send.body) = ((True) ∧ ((True) ∧ (SoundCode Tryz.prog (sub [1, 1, 1, 1, 1, 1, 1, 1, 1, 1, 1, 0, 1, 0, 0, 1, 1] vizardref13_Conn_Send.body) vizardref13_Conn_Send.J10.t))) := by kernel_rfl
  exact e.mpr ⟨trivial, ⟨trivial, vizardref13_Conn_Send.J10.ok⟩⟩
theorem vizardref13_Conn_Send.W9.eq (c0 : Option Addr) (now0 : Int) (size0 : Int) (b0 : Addr) (Q : Ex → Fr → Heap → Prop) (E : Value → Heap → Prop) (RR : Fr → Heap → Prop) (s : Bool × Int) (H : Heap) :
    (fun (RR : Bool × Int → Heap → Prop) (s : Bool × Int) (H : Heap) => vizardref13_Conn_Send.W9.vc c0 now0 size0 b0 s.1 s.2 (fun y13_0 H => Q (.exit 3) (mkF 231 [(0, (.pointer c0)), (1, (.int .i64 now0)), (2, (.int .i64 size0)), (10, (.pointer (some b0))), (13, (.bool y13_0))]) H) (fun asks0 i0 H => RR (asks0, i0) H) E H) (fun s' H' => RR ((fun (s : Bool × Int) => (mkF 231 [(0, (.pointer c0)), (1, (.int .i64 now0)), (2, (.int .i64 size0)), (10, (.pointer (some b0))), (13, (.bool s.1)), (14, (.int .i64 s.2))])) s') H') s H = keepT [0, 1, 2, 10, 13, 14] [] (fun i => if i = 3 then [0, 1, 2, 10, 13] else []) (wC Tryz.prog vizardref13_Conn_Send.Γ vizardref13_Conn_Send.W9.plan (sub [1, 1, 1, 1, 1, 1, 1, 1, 1, 1, 1, 0, 1, 0, 0] vizardref13_Conn_Send.body)) (fun e fr' H' => match e with | .normal => RR fr' H' | .exit id => Q (.exit id) fr' H' | .ret => Q .ret fr' H') E ((fun (s : Bool × Int) => (mkF 231 [(0, (.pointer c0)), (1, (.int .i64 now0)), (2, (.int .i64 size0)), (10, (.pointer (some b0))), (13, (.bool s.1)), (14, (.int .i64 s.2))])) s) H := by
  kernel_rfl
theorem vizardref13_Conn_Send.W9.ok : SoundCode Tryz.prog (sub [1, 1, 1, 1, 1, 1, 1, 1, 1, 1, 1, 0, 1, 0] vizardref13_Conn_Send.body) vizardref13_Conn_Send.W9.t := by
  have e : (sub [1, 1, 1, 1, 1, 1, 1, 1, 1, 1, 1, 0, 1, 0] vizardref13_Conn_Send.body) = .loop (sub [1, 1, 1, 1, 1, 1, 1, 1, 1, 1, 1, 0, 1, 0, 0] vizardref13_Conn_Send.body) := by kernel_rfl
  rw [e]
  refine piece_sound (loopN_sound (keepT_sound [0, 1, 2, 10, 13, 14] [] (fun i => if i = 3 then [0, 1, 2, 10, 13] else []) (wC_sound vizardref13_Conn_Send.hΓ Tryz.hm vizardref13_Conn_Send.W9.plan _ vizardref13_Conn_Send.W9.pok))) ?_
  intro Q E fr H h
  unfold vizardref13_Conn_Send.W9.t at h
  obtain ⟨hl, h⟩ := lenIs_elim h
  obtain ⟨c0, q0, h⟩ := slP_elim h
  obtain ⟨now0, q1, h⟩ := slI_elim h
  obtain ⟨size0, q2, h⟩ := slI_elim h
  obtain ⟨b0, q10, h⟩ := slPA_elim h
  obtain ⟨asks0, q13, h⟩ := slB_elim h
  obtain ⟨i0, q14, h⟩ := slI_elim h
  obtain ⟨m, h⟩ := h.h
  refine ⟨(mkF 231 [(0, (.pointer c0)), (1, (.int .i64 now0)), (2, (.int .i64 size0)), (10, (.pointer (some b0))), (13, (.bool asks0)), (14, (.int .i64 i0))]), fun a ha => ha.mk (Nat.le_of_eq hl.symm) (List.forall_mem_cons.2 ⟨q0, List.forall_mem_cons.2 ⟨q1, List.forall_mem_cons.2 ⟨q2, List.forall_mem_cons.2 ⟨q10, List.forall_mem_cons.2 ⟨q13, List.forall_mem_cons.2 ⟨q14, fun _ h => nomatch h⟩⟩⟩⟩⟩⟩), m, ?_⟩
  have e := loopS_eq (B := (fun (RR : Bool × Int → Heap → Prop) (s : Bool × Int) (H : Heap) => vizardref13_Conn_Send.W9.vc c0 now0 size0 b0 s.1 s.2 (fun y13_0 H => Q (.exit 3) (mkF 231 [(0, (.pointer c0)), (1, (.int .i64 now0)), (2, (.int .i64 size0)), (10, (.pointer (some b0))), (13, (.bool y13_0))]) H) (fun asks0 i0 H => RR (asks0, i0) H) E H)) (A := keepT [0, 1, 2, 10, 13, 14] [] (fun i => if i = 3 then [0, 1, 2, 10, 13] else []) (wC Tryz.prog vizardref13_Conn_Send.Γ vizardref13_Conn_Send.W9.plan (sub [1, 1, 1, 1, 1, 1, 1, 1, 1, 1, 1, 0, 1, 0, 0] vizardref13_Conn_Send.body))) (m := (fun (s : Bool × Int) => (mkF 231 [(0, (.pointer c0)), (1, (.int .i64 now0)), (2, (.int .i64 size0)), (10, (.pointer (some b0))), (13, (.bool s.1)), (14, (.int .i64 s.2))]))) (Q := Q) (E := E) (fun RR s H => vizardref13_Conn_Send.W9.eq c0 now0 size0 b0 Q E RR s H) m (asks0, i0) H
  exact cast e h
def vizardref13_Conn_Send.J11.t : CT := fun Q E fr H => lenIs 231 fr (slP fr 0 fun c0 => slI fr 2 .i64 fun size0 => slPA fr 10 fun b0 => vizardref13_Conn_Send.J11 c0 size0 b0 (fun y6_0 y7_0 H => Q .ret (mkF 231 [(6, (.string y6_0)), (7, (.bool y7_0))]) H) E H)
noncomputable def vizardref13_Conn_Send.J11.plan : Plan := .go
theorem vizardref13_Conn_Send.J11.pok : PlanOk Tryz.prog vizardref13_Conn_Send.J11.plan (sub [1, 1, 1, 1, 1, 1, 1, 1, 1, 1, 1, 1, 1] vizardref13_Conn_Send.body) := by
  have e : PlanOk Tryz.prog vizardref13_Conn_Send.J11.plan (sub [1, 1, 1, 1, 1, 1, 1, 1, 1, 1, 1, 1, 1] vizardref13_Conn_Send.body) = (True) := by kernel_rfl
  exact e.mpr trivial
theorem vizardref13_Conn_Send.J11.eq (c0 : Option Addr) (size0 : Int) (b0 : Addr) (Q : Ex → Fr → Heap → Prop) (E : Value → Heap → Prop) (H : Heap) :
    vizardref13_Conn_Send.J11.vc c0 size0 b0 (fun y6_0 y7_0 H => Q .ret (mkF 231 [(6, (.string y6_0)), (7, (.bool y7_0))]) H) E H = keepT [] [6, 7] (fun i => []) (wC Tryz.prog vizardref13_Conn_Send.Γ vizardref13_Conn_Send.J11.plan (sub [1, 1, 1, 1, 1, 1, 1, 1, 1, 1, 1, 1, 1] vizardref13_Conn_Send.body)) Q E (mkF 231 [(0, (.pointer c0)), (2, (.int .i64 size0)), (10, (.pointer (some b0)))]) H := by
  kernel_rfl
theorem vizardref13_Conn_Send.J11.ok : SoundCode Tryz.prog (sub [1, 1, 1, 1, 1, 1, 1, 1, 1, 1, 1, 1, 1] vizardref13_Conn_Send.body) vizardref13_Conn_Send.J11.t := by
  refine piece_sound (keepT_sound [] [6, 7] (fun i => []) (wC_sound vizardref13_Conn_Send.hΓ Tryz.hm vizardref13_Conn_Send.J11.plan _ vizardref13_Conn_Send.J11.pok)) ?_
  intro Q E fr H h
  unfold vizardref13_Conn_Send.J11.t at h
  obtain ⟨hl, h⟩ := lenIs_elim h
  obtain ⟨c0, q0, h⟩ := slP_elim h
  obtain ⟨size0, q2, h⟩ := slI_elim h
  obtain ⟨b0, q10, h⟩ := slPA_elim h
  refine ⟨(mkF 231 [(0, (.pointer c0)), (2, (.int .i64 size0)), (10, (.pointer (some b0)))]), fun a ha => ha.mk (Nat.le_of_eq hl.symm) (List.forall_mem_cons.2 ⟨q0, List.forall_mem_cons.2 ⟨q2, List.forall_mem_cons.2 ⟨q10, fun _ h => nomatch h⟩⟩⟩), ?_⟩
  have e := vizardref13_Conn_Send.J11.eq c0 size0 b0 Q E H
  rw [← e]
  exact h.h
def vizardref13_Conn_Send.J8.t : CT := fun Q E fr H => lenIs 231 fr (slP fr 0 fun c0 => slI fr 1 .i64 fun now0 => slI fr 2 .i64 fun size0 => slPA fr 10 fun b0 => vizardref13_Conn_Send.J8 c0 now0 size0 b0 (fun y6_0 y7_0 H => Q .ret (mkF 231 [(6, (.string y6_0)), (7, (.bool y7_0))]) H) E H)
noncomputable def vizardref13_Conn_Send.J8.plan : Plan := .seq (.go) (.seq (.go) (.seq (.seq (.go) (.block (.use vizardref13_Conn_Send.W9.t))) (.seq (.seq (.go) (.cond (.seq (.draw ⟨[0, 1, 2, 3, 4, 5, 6, 7, 8, 9, 10], (dl [(0, []), (1, []), (2, []), (3, []), (4, []), (5, []), (6, []), (7, []), (8, []), (9, []), (10, [3, 7, 8, 9, 2, 6, 1, 5, 0, 4])] .fin), []⟩) (.draw ⟨[0, 1, 2, 3, 4, 5, 6, 7, 8, 9, 10, 11, 12], (dl [(0, []), (1, []), (2, []), (3, []), (4, []), (5, []), (6, []), (7, []), (8, []), (9, []), (10, []), (11, []), (12, [3, 7, 11, 0, 1, 2, 4, 5, 6, 8, 9, 10])] .fin), []⟩)) (.go))) (.use vizardref13_Conn_Send.J11.t))))
theorem vizardref13_Conn_Send.J8.pok : PlanOk Tryz.prog vizardref13_Conn_Send.J8.plan (sub [1, 1, 1, 1, 1, 1, 1, 1, 1] vizardref13_Conn_Send.body) := by
  have e : PlanOk Tryz.prog vizardref13_Conn_Send.J8.plan (sub [1, 1, 1, 1, 1, 1, 1, 1, 1] vizardref13_Conn_Send.body) = ((True) ∧ ((True) ∧ (((True) ∧ (SoundCode Tryz.prog (sub [1, 1, 1, 1, 1, 1, 1, 1, 1, 1, 1, 0, 1, 0] vizardref13_Conn_Send.body) vizardref13_Conn_Send.W9.t)) ∧ (((True) ∧ (((True) ∧ (True)) ∧ (True))) ∧ (SoundCode Tryz.prog (sub [1, 1, 1, 1, 1, 1, 1, 1, 1, 1, 1, 1, 1] vizardref13_Conn_Send.body) vizardref13_Conn_Send.J11.t))))) := by kernel_rfl
  exact e.mpr ⟨trivial, ⟨trivial, ⟨⟨trivial, vizardref13_Conn_Send.W9.ok⟩, ⟨⟨trivial, ⟨⟨trivial, trivial⟩, trivial⟩⟩, vizardref13_Conn_Send.J11.ok⟩⟩⟩⟩
theorem vizardref13_Conn_Send.J8.eq (c0 : Option Addr) (now0 : Int) (size0 : Int) (b0 : Addr) (Q : Ex → Fr → Heap → Prop) (E : Value → Heap → Prop) (H : Heap) :
    vizardref13_Conn_Send.J8.vc c0 now0 size0 b0 (fun y6_0 y7_0 H => Q .ret (mkF 231 [(6, (.string y6_0)), (7, (.bool y7_0))]) H) E H = keepT [] [6, 7] (fun i => []) (wC Tryz.prog vizardref13_Conn_Send.Γ vizardref13_Conn_Send.J8.plan (sub [1, 1, 1, 1, 1, 1, 1, 1, 1] vizardref13_Conn_Send.body)) Q E (mkF 231 [(0, (.pointer c0)), (1, (.int .i64 now0)), (2, (.int .i64 size0)), (10, (.pointer (some b0)))]) H := by
  kernel_rfl
theorem vizardref13_Conn_Send.J8.ok : SoundCode Tryz.prog (sub [1, 1, 1, 1, 1, 1, 1, 1, 1] vizardref13_Conn_Send.body) vizardref13_Conn_Send.J8.t := by
  refine piece_sound (keepT_sound [] [6, 7] (fun i => []) (wC_sound vizardref13_Conn_Send.hΓ Tryz.hm vizardref13_Conn_Send.J8.plan _ vizardref13_Conn_Send.J8.pok)) ?_
  intro Q E fr H h
  unfold vizardref13_Conn_Send.J8.t at h
  obtain ⟨hl, h⟩ := lenIs_elim h
  obtain ⟨c0, q0, h⟩ := slP_elim h
  obtain ⟨now0, q1, h⟩ := slI_elim h
  obtain ⟨size0, q2, h⟩ := slI_elim h
  obtain ⟨b0, q10, h⟩ := slPA_elim h
  refine ⟨(mkF 231 [(0, (.pointer c0)), (1, (.int .i64 now0)), (2, (.int .i64 size0)), (10, (.pointer (some b0)))]), fun a ha => ha.mk (Nat.le_of_eq hl.symm) (List.forall_mem_cons.2 ⟨q0, List.forall_mem_cons.2 ⟨q1, List.forall_mem_cons.2 ⟨q2, List.forall_mem_cons.2 ⟨q10, fun _ h => nomatch h⟩⟩⟩⟩), ?_⟩
  have e := vizardref13_Conn_Send.J8.eq c0 now0 size0 b0 Q E H
  rw [← e]
  exact h.h
def vizardref13_Conn_Send.J6.t : CT := fun Q E fr H => lenIs 231 fr (slP fr 0 fun c0 => slI fr 1 .i64 fun now0 => slI fr 2 .i64 fun size0 => vizardref13_Conn_Send.J6 c0 now0 size0 (fun y6_0 y7_0 H => Q .ret (mkF 231 [(6, (.string y6_0)), (7, (.bool y7_0))]) H) E H)
noncomputable def vizardref13_Conn_Send.J6.plan : Plan := .seq (.go) (.seq (.seq (.go) (.block (.use vizardref13_Conn_Send.W7.t))) (.seq (.go) (.seq (.go) (.seq (.go) (.seq (.go) (.use vizardref13_Conn_Send.J8.t))))))
theorem vizardref13_Conn_Send.J6.pok : PlanOk Tryz.prog vizardref13_Conn_Send.J6.plan (sub [1, 1, 1] vizardref13_Conn_Send.body) := by
  have e : PlanOk Tryz.prog vizardref13_Conn_Send.J6.plan (sub [1, 1, 1] vizardref13_Conn_Send.body) = ((True) ∧ (((True) ∧ (SoundCode Tryz.prog (sub [1, 1, 1, 1, 0, 1, 0] vizardref13_Conn_Send.body) vizardref13_Conn_Send.W7.t)) ∧ ((True) ∧ ((True) ∧ ((True) ∧ ((True) ∧ (SoundCode Tryz.prog (sub [1, 1, 1, 1, 1, 1, 1, 1, 1] vizardref13_Conn_Send.body) vizardref13_Conn_Send.J8.t))))))) := by kernel_rfl
  exact e.mpr ⟨trivial, ⟨⟨trivial, vizardref13_Conn_Send.W7.ok⟩, ⟨trivial, ⟨trivial, ⟨trivial, ⟨trivial, vizardref13_Conn_Send.J8.ok⟩⟩⟩⟩⟩⟩
theorem vizardref13_Conn_Send.J6.eq (c0 : Option Addr) (now0 : Int) (size0 : Int) (Q : Ex → Fr → Heap → Prop) (E : Value → Heap → Prop) (H : Heap) :
    vizardref13_Conn_Send.J6.vc c0 now0 size0 (fun y6_0 y7_0 H => Q .ret (mkF 231 [(6, (.string y6_0)), (7, (.bool y7_0))]) H) E H = keepT [] [6, 7] (fun i => []) (wC Tryz.prog vizardref13_Conn_Send.Γ vizardref13_Conn_Send.J6.plan (sub [1, 1, 1] vizardref13_Conn_Send.body)) Q E (mkF 231 [(0, (.pointer c0)), (1, (.int .i64 now0)), (2, (.int .i64 size0))]) H := by
  kernel_rfl
theorem vizardref13_Conn_Send.J6.ok : SoundCode Tryz.prog (sub [1, 1, 1] vizardref13_Conn_Send.body) vizardref13_Conn_Send.J6.t := by
  refine piece_sound (keepT_sound [] [6, 7] (fun i => []) (wC_sound vizardref13_Conn_Send.hΓ Tryz.hm vizardref13_Conn_Send.J6.plan _ vizardref13_Conn_Send.J6.pok)) ?_
  intro Q E fr H h
  unfold vizardref13_Conn_Send.J6.t at h
  obtain ⟨hl, h⟩ := lenIs_elim h
  obtain ⟨c0, q0, h⟩ := slP_elim h
  obtain ⟨now0, q1, h⟩ := slI_elim h
  obtain ⟨size0, q2, h⟩ := slI_elim h
  refine ⟨(mkF 231 [(0, (.pointer c0)), (1, (.int .i64 now0)), (2, (.int .i64 size0))]), fun a ha => ha.mk (Nat.le_of_eq hl.symm) (List.forall_mem_cons.2 ⟨q0, List.forall_mem_cons.2 ⟨q1, List.forall_mem_cons.2 ⟨q2, fun _ h => nomatch h⟩⟩⟩), ?_⟩
  have e := vizardref13_Conn_Send.J6.eq c0 now0 size0 Q E H
  rw [← e]
  exact h.h
def vizardref13_Conn_Send.J2.t : CT := fun Q E fr H => lenIs 231 fr (slP fr 0 fun c0 => slI fr 1 .i64 fun now0 => slI fr 2 .i64 fun size0 => vizardref13_Conn_Send.J2 c0 now0 size0 (fun y6_0 y7_0 H => Q .ret (mkF 231 [(6, (.string y6_0)), (7, (.bool y7_0))]) H) E H)
noncomputable def vizardref13_Conn_Send.J2.plan : Plan := .seq (.block (.seq (.go) (.cond (.seq (.seq (.go) (.use vizardref13_Conn_Send.J3.t)) (.use vizardref13_Conn_Send.J4.t)) (.seq (.go) (.use vizardref13_Conn_Send.J5.t))))) (.use vizardref13_Conn_Send.J6.t)
theorem vizardref13_Conn_Send.J2.pok : PlanOk Tryz.prog vizardref13_Conn_Send.J2.plan (sub [1, 1] vizardref13_Conn_Send.body) := by
  have e : PlanOk Tryz.prog vizardref13_Conn_Send.J2.plan (sub [1, 1] vizardref13_Conn_Send.body) = (((True) ∧ ((((True) ∧ (SoundCode Tryz.prog (sub [1, 1, 0, 0, 1, 0, 0, 1] vizardref13_Conn_Send.body) vizardref13_Conn_Send.J3.t)) ∧ (SoundCode Tryz.prog (sub [1, 1, 0, 0, 1, 0, 1] vizardref13_Conn_Send.body) vizardref13_Conn_Send.J4.t)) ∧ ((True) ∧ (SoundCode Tryz.prog (sub [1, 1, 0, 0, 1, 1, 1] vizardref13_Conn_Send.body) vizardref13_Conn_Send.J5.t)))) ∧ (SoundCode Tryz.prog (sub [1, 1, 1] vizardref13_Conn_Send.body) vizardref13_Conn_Send.J6.t)) := by kernel_rfl
  exact e.mpr ⟨⟨trivial, ⟨⟨⟨trivial, vizardref13_Conn_Send.J3.ok⟩, vizardref13_Conn_Send.J4.ok⟩, ⟨trivial, vizardref13_Conn_Send.J5.ok⟩⟩⟩, vizardref13_Conn_Send.J6.ok⟩
theorem vizardref13_Conn_Send.J2.eq (c0 : Option Addr) (now0 : Int) (size0 : Int) (Q : Ex → Fr → Heap → Prop) (E : Value → Heap → Prop) (H : Heap) :
    vizardref13_Conn_Send.J2.vc c0 now0 size0 (fun y6_0 y7_0 H => Q .ret (mkF 231 [(6, (.string y6_0)), (7, (.bool y7_0))]) H) E H = keepT [] [6, 7] (fun i => []) (wC Tryz.prog vizardref13_Conn_Send.Γ vizardref13_Conn_Send.J2.plan (sub [1, 1] vizardref13_Conn_Send.body)) Q E (mkF 231 [(0, (.pointer c0)), (1, (.int .i64 now0)), (2, (.int .i64 size0))]) H := by
  kernel_rfl
theorem vizardref13_Conn_Send.J2.ok : SoundCode Tryz.prog (sub [1, 1] vizardref13_Conn_Send.body) vizardref13_Conn_Send.J2.t := by
  refine piece_sound (keepT_sound [] [6, 7] (fun i => []) (wC_sound vizardref13_Conn_Send.hΓ Tryz.hm vizardref13_Conn_Send.J2.plan _ vizardref13_Conn_Send.J2.pok)) ?_
  intro Q E fr H h
  unfold vizardref13_Conn_Send.J2.t at h
  obtain ⟨hl, h⟩ := lenIs_elim h
  obtain ⟨c0, q0, h⟩ := slP_elim h
  obtain ⟨now0, q1, h⟩ := slI_elim h
  obtain ⟨size0, q2, h⟩ := slI_elim h
  refine ⟨(mkF 231 [(0, (.pointer c0)), (1, (.int .i64 now0)), (2, (.int .i64 size0))]), fun a ha => ha.mk (Nat.le_of_eq hl.symm) (List.forall_mem_cons.2 ⟨q0, List.forall_mem_cons.2 ⟨q1, List.forall_mem_cons.2 ⟨q2, fun _ h => nomatch h⟩⟩⟩), ?_⟩
  have e := vizardref13_Conn_Send.J2.eq c0 now0 size0 Q E H
  rw [← e]
  exact h.h
noncomputable def vizardref13_Conn_Send.plan : Plan := .seq (.go) (.seq (.seq (.go) (.use vizardref13_Conn_Send.J1.t)) (.use vizardref13_Conn_Send.J2.t))
theorem vizardref13_Conn_Send.pok : PlanOk Tryz.prog vizardref13_Conn_Send.plan vizardref13_Conn_Send.body := by
  have e : PlanOk Tryz.prog vizardref13_Conn_Send.plan vizardref13_Conn_Send.body = ((True) ∧ (((True) ∧ (SoundCode Tryz.prog (sub [1, 0, 1] vizardref13_Conn_Send.body) vizardref13_Conn_Send.J1.t)) ∧ (SoundCode Tryz.prog (sub [1, 1] vizardref13_Conn_Send.body) vizardref13_Conn_Send.J2.t))) := by kernel_rfl
  exact e.mpr ⟨trivial, ⟨⟨trivial, vizardref13_Conn_Send.J1.ok⟩, vizardref13_Conn_Send.J2.ok⟩⟩
theorem vizardref13_Conn_Send.eq (c0 : Option Addr) (now0 : Int) (size0 : Int) (K : Value → Heap → Prop) (E : Value → Heap → Prop) (H : Heap) :
    fnT Tryz.prog Tryz.f15 (wC Tryz.prog vizardref13_Conn_Send.Γ vizardref13_Conn_Send.plan vizardref13_Conn_Send.body) [(.pointer c0), (.int .i64 now0), (.int .i64 size0)] K E H = vizardref13_Conn_Send.vc c0 now0 size0 (fun r0_0 r1_0 H => K (.tuple #[(.string r0_0), (.bool r1_0)]) H) E H := by
  kernel_rfl
theorem vizardref13_Conn_Send.Fe {args : List Value} {K E : Value → Heap → Prop} {H : Heap} (h : vizardref13_Conn_Send.F args K E H) : ∃ c0 now0 size0, args = [(.pointer c0), (.int .i64 now0), (.int .i64 size0)] ∧ vizardref13_Conn_Send.c c0 now0 size0 (fun r0_0 r1_0 H => K (.tuple #[(.string r0_0), (.bool r1_0)]) H) E H := by
  unfold vizardref13_Conn_Send.F at h
  split at h
  · exact ⟨_, _, _, rfl, h⟩
  · exact h.elim
theorem vizardref13_Conn_Send.ok : CalleeOk Tryz.prog 15 vizardref13_Conn_Send.F :=
  callee_ok vizardref13_Conn_Send.hΓ (fn := Tryz.f15) (c := vizardref13_Conn_Send.body) (T := wC Tryz.prog vizardref13_Conn_Send.Γ vizardref13_Conn_Send.plan vizardref13_Conn_Send.body) (by kernel_rfl) (by kernel_rfl) (by kernel_rfl) (wC_sound vizardref13_Conn_Send.hΓ Tryz.hm vizardref13_Conn_Send.plan _ vizardref13_Conn_Send.pok) fun _ K E H h => by
    obtain ⟨z0, z1, z2, e, h⟩ := vizardref13_Conn_Send.Fe h
    subst e
    have h2 : vizardref13_Conn_Send.vc z0 z1 z2 (fun r0_0 r1_0 H => ∃ H', Heap.Le H' H ∧ K (.tuple #[(.string r0_0), (.bool r1_0)]) H') E H := h.h
    rw [vizardref13_Conn_Send.eq z0 z1 z2 (Fg K) E H]
    exact h2

/-! vizard/vizardlaw13.ConnHello -/
noncomputable def vizardlaw13_ConnHello.body : Code := Tryz.f3.body.getD .skip
def vizardlaw13_ConnHello.J1.vc (key0 : ByteArray) (name0 : ByteArray) (nonce0 : ByteArray) (other0 : ByteArray) (p0 : ByteArray) (x0 : Bool) (Kn : Heap → Prop) (Kr : Bool → Heap → Prop) (E : Value → Heap → Prop) (h0 : Heap) : Prop :=
  (if x0 = true then
  Kr true h0
  else
  Kn h0)
structure vizardlaw13_ConnHello.J1 (key0 : ByteArray) (name0 : ByteArray) (nonce0 : ByteArray) (other0 : ByteArray) (p0 : ByteArray) (x0 : Bool) (Kn : Heap → Prop) (Kr : Bool → Heap → Prop) (E : Value → Heap → Prop) (H : Heap) : Prop where
  h : vizardlaw13_ConnHello.J1.vc key0 name0 nonce0 other0 p0 x0 Kn Kr E H
def vizardlaw13_ConnHello.J3.vc (key0 : ByteArray) (name0 : ByteArray) (nonce0 : ByteArray) (c0 : Option Addr) (r0 : Option Addr) (x0 : Bool) (Kn : Heap → Prop) (Kr : Bool → Heap → Prop) (E : Value → Heap → Prop) (h0 : Heap) : Prop :=
  (if x0 = true then
  Kr false h0
  else
  Kn h0)
structure vizardlaw13_ConnHello.J3 (key0 : ByteArray) (name0 : ByteArray) (nonce0 : ByteArray) (c0 : Option Addr) (r0 : Option Addr) (x0 : Bool) (Kn : Heap → Prop) (Kr : Bool → Heap → Prop) (E : Value → Heap → Prop) (H : Heap) : Prop where
  h : vizardlaw13_ConnHello.J3.vc key0 name0 nonce0 c0 r0 x0 Kn Kr E H
def vizardlaw13_ConnHello.J4.vc (key0 : ByteArray) (name0 : ByteArray) (nonce0 : ByteArray) (c0 : Option Addr) (r0 : Option Addr) (Kr : Bool → Heap → Prop) (E : Value → Heap → Prop) (h0 : Heap) : Prop :=
  (if (Option.isNone c0) = true then
  Kr true h0
  else
  conn_Conn_Send.c c0 0 128 (fun x0 x1 h1 =>
  vizardref13_Conn_Send.c r0 0 128 (fun x2 x3 h2 =>
  conn_Hello.c key0 x0 (fun x4 x5 x6 h3 =>
  (if (x0.toList == x2.toList) = true then
  (if (x1 == x3) = true then
  (if (x4.toList == name0.toList) = true then
  (if (x5.toList == nonce0.toList) = true then
  Kr (x6 == 0) h3
  else
  Kr false h3)
  else
  Kr false h3)
  else
  Kr false h3)
  else
  Kr false h3)) E h2) E h1) E h0)
structure vizardlaw13_ConnHello.J4 (key0 : ByteArray) (name0 : ByteArray) (nonce0 : ByteArray) (c0 : Option Addr) (r0 : Option Addr) (Kr : Bool → Heap → Prop) (E : Value → Heap → Prop) (H : Heap) : Prop where
  h : vizardlaw13_ConnHello.J4.vc key0 name0 nonce0 c0 r0 Kr E H
def vizardlaw13_ConnHello.J2.vc (key0 : ByteArray) (name0 : ByteArray) (nonce0 : ByteArray) (other0 : ByteArray) (p0 : ByteArray) (Kr : Bool → Heap → Prop) (E : Value → Heap → Prop) (h0 : Heap) : Prop :=
  conn_Hello.c key0 p0 (fun x0 x1 x2 h1 =>
  vizardref13_Hello.c key0 p0 (fun x3 x4 x5 h2 =>
  conn_Dial.c key0 name0 nonce0 (fun x6 x7 h3 =>
  vizardref13_Dial.c key0 name0 nonce0 (fun x8 x9 h4 =>
  conn_Accept.c key0 name0 nonce0 other0 (fun x10 x11 h5 =>
  vizardref13_Accept.c key0 name0 nonce0 other0 (fun x12 x13 h6 =>
  (if (!(x0.toList == x3.toList)) = true then
  vizardlaw13_ConnHello.J3 key0 name0 nonce0 x6 x8 true (fun h7 =>
  vizardlaw13_ConnHello.J4 key0 name0 nonce0 x6 x8 Kr E h7) Kr E h6
  else
  (if (!(x1.toList == x4.toList)) = true then
  vizardlaw13_ConnHello.J3 key0 name0 nonce0 x6 x8 true (fun h10 =>
  vizardlaw13_ConnHello.J4 key0 name0 nonce0 x6 x8 Kr E h10) Kr E h6
  else
  (if (x2 != x5) = true then
  vizardlaw13_ConnHello.J3 key0 name0 nonce0 x6 x8 true (fun h13 =>
  vizardlaw13_ConnHello.J4 key0 name0 nonce0 x6 x8 Kr E h13) Kr E h6
  else
  (if (x7 != x9) = true then
  vizardlaw13_ConnHello.J3 key0 name0 nonce0 x6 x8 true (fun h16 =>
  vizardlaw13_ConnHello.J4 key0 name0 nonce0 x6 x8 Kr E h16) Kr E h6
  else
  (if (x11 != x13) = true then
  vizardlaw13_ConnHello.J3 key0 name0 nonce0 x6 x8 true (fun h19 =>
  vizardlaw13_ConnHello.J4 key0 name0 nonce0 x6 x8 Kr E h19) Kr E h6
  else
  (if (!((Option.isNone x6) == (Option.isNone x8))) = true then
  vizardlaw13_ConnHello.J3 key0 name0 nonce0 x6 x8 true (fun h22 =>
  vizardlaw13_ConnHello.J4 key0 name0 nonce0 x6 x8 Kr E h22) Kr E h6
  else
  vizardlaw13_ConnHello.J3 key0 name0 nonce0 x6 x8 (!((Option.isNone x10) == (Option.isNone x12))) (fun h25 =>
  vizardlaw13_ConnHello.J4 key0 name0 nonce0 x6 x8 Kr E h25) Kr E h6))))))) E h5) E h4) E h3) E h2) E h1) E h0
structure vizardlaw13_ConnHello.J2 (key0 : ByteArray) (name0 : ByteArray) (nonce0 : ByteArray) (other0 : ByteArray) (p0 : ByteArray) (Kr : Bool → Heap → Prop) (E : Value → Heap → Prop) (H : Heap) : Prop where
  h : vizardlaw13_ConnHello.J2.vc key0 name0 nonce0 other0 p0 Kr E H
def vizardlaw13_ConnHello.vc (key0 : ByteArray) (name0 : ByteArray) (nonce0 : ByteArray) (other0 : ByteArray) (p0 : ByteArray) (K : Bool → Heap → Prop) (E : Value → Heap → Prop) (h0 : Heap) : Prop :=
  (if (decide ((key0.size : Int) > 300)) = true then
  vizardlaw13_ConnHello.J1 key0 name0 nonce0 other0 p0 true (fun h1 =>
  vizardlaw13_ConnHello.J2 key0 name0 nonce0 other0 p0 K E h1) K E h0
  else
  vizardlaw13_ConnHello.J1 key0 name0 nonce0 other0 p0 (decide ((p0.size : Int) > 2000)) (fun h4 =>
  vizardlaw13_ConnHello.J2 key0 name0 nonce0 other0 p0 K E h4) K E h0)
structure vizardlaw13_ConnHello.c (key0 : ByteArray) (name0 : ByteArray) (nonce0 : ByteArray) (other0 : ByteArray) (p0 : ByteArray) (K : Bool → Heap → Prop) (E : Value → Heap → Prop) (H : Heap) : Prop where
  h : vizardlaw13_ConnHello.vc key0 name0 nonce0 other0 p0 (fun r0_0 H => ∃ H', Heap.Le H' H ∧ K r0_0 H') E H
def vizardlaw13_ConnHello.F : FT := fun args K E H => match args with
  | [(.string key0), (.string name0), (.string nonce0), (.string other0), (.string p0)] => vizardlaw13_ConnHello.c key0 name0 nonce0 other0 p0 (fun r0_0 H => K (.bool r0_0) H) E H
  | _ => False
noncomputable def vizardlaw13_ConnHello.Γ : FuncId → Option FT := Γof [(8, conn_Hello.F), (9, vizardref13_Hello.F), (10, conn_Dial.F), (11, vizardref13_Dial.F), (12, conn_Accept.F), (13, vizardref13_Accept.F), (14, conn_Conn_Send.F), (15, vizardref13_Conn_Send.F)]
theorem vizardlaw13_ConnHello.hΓ : ∀ f F, vizardlaw13_ConnHello.Γ f = some F → CalleeOk Tryz.prog f F := Γof_ok (List.forall_mem_cons.2 ⟨conn_Hello.ok, List.forall_mem_cons.2 ⟨vizardref13_Hello.ok, List.forall_mem_cons.2 ⟨conn_Dial.ok, List.forall_mem_cons.2 ⟨vizardref13_Dial.ok, List.forall_mem_cons.2 ⟨conn_Accept.ok, List.forall_mem_cons.2 ⟨vizardref13_Accept.ok, List.forall_mem_cons.2 ⟨conn_Conn_Send.ok, List.forall_mem_cons.2 ⟨vizardref13_Conn_Send.ok, fun _ h => nomatch h⟩⟩⟩⟩⟩⟩⟩⟩)
def vizardlaw13_ConnHello.J1.t : CT := fun Q E fr H => lenIs 162 fr (slS fr 0 fun key0 => slS fr 1 fun name0 => slS fr 2 fun nonce0 => slS fr 3 fun other0 => slS fr 4 fun p0 => slB fr 39 fun x0 => vizardlaw13_ConnHello.J1 key0 name0 nonce0 other0 p0 x0 (fun  H => Q .normal (mkF 162 [(0, (.string key0)), (1, (.string name0)), (2, (.string nonce0)), (3, (.string other0)), (4, (.string p0))]) H) (fun y10_0 H => Q .ret (mkF 162 [(10, (.bool y10_0))]) H) E H)
noncomputable def vizardlaw13_ConnHello.J1.plan : Plan := .go
theorem vizardlaw13_ConnHello.J1.pok : PlanOk Tryz.prog vizardlaw13_ConnHello.J1.plan (sub [1, 0, 1] vizardlaw13_ConnHello.body) := by
  have e : PlanOk Tryz.prog vizardlaw13_ConnHello.J1.plan (sub [1, 0, 1] vizardlaw13_ConnHello.body) = (True) := by kernel_rfl
  exact e.mpr trivial
theorem vizardlaw13_ConnHello.J1.eq (key0 : ByteArray) (name0 : ByteArray) (nonce0 : ByteArray) (other0 : ByteArray) (p0 : ByteArray) (x0 : Bool) (Q : Ex → Fr → Heap → Prop) (E : Value → Heap → Prop) (H : Heap) :
    vizardlaw13_ConnHello.J1.vc key0 name0 nonce0 other0 p0 x0 (fun  H => Q .normal (mkF 162 [(0, (.string key0)), (1, (.string name0)), (2, (.string nonce0)), (3, (.string other0)), (4, (.string p0))]) H) (fun y10_0 H => Q .ret (mkF 162 [(10, (.bool y10_0))]) H) E H = keepT [0, 1, 2, 3, 4] [10] (fun i => []) (wC Tryz.prog vizardlaw13_ConnHello.Γ vizardlaw13_ConnHello.J1.plan (sub [1, 0, 1] vizardlaw13_ConnHello.body)) Q E (mkF 162 [(0, (.string key0)), (1, (.string name0)), (2, (.string nonce0)), (3, (.string other0)), (4, (.string p0)), (39, (.bool x0))]) H := by
  kernel_rfl
theorem vizardlaw13_ConnHello.J1.ok : SoundCode Tryz.prog (sub [1, 0, 1] vizardlaw13_ConnHello.body) vizardlaw13_ConnHello.J1.t := by
  refine piece_sound (keepT_sound [0, 1, 2, 3, 4] [10] (fun i => []) (wC_sound vizardlaw13_ConnHello.hΓ Tryz.hm vizardlaw13_ConnHello.J1.plan _ vizardlaw13_ConnHello.J1.pok)) ?_
  intro Q E fr H h
  unfold vizardlaw13_ConnHello.J1.t at h
  obtain ⟨hl, h⟩ := lenIs_elim h
  obtain ⟨key0, q0, h⟩ := slS_elim h
  obtain ⟨name0, q1, h⟩ := slS_elim h
  obtain ⟨nonce0, q2, h⟩ := slS_elim h
  obtain ⟨other0, q3, h⟩ := slS_elim h
  obtain ⟨p0, q4, h⟩ := slS_elim h
  obtain ⟨x0, q39, h⟩ := slB_elim h
  refine ⟨(mkF 162 [(0, (.string key0)), (1, (.string name0)), (2, (.string nonce0)), (3, (.string other0)), (4, (.string p0)), (39, (.bool x0))]), fun a ha => ha.mk (Nat.le_of_eq hl.symm) (List.forall_mem_cons.2 ⟨q0, List.forall_mem_cons.2 ⟨q1, List.forall_mem_cons.2 ⟨q2, List.forall_mem_cons.2 ⟨q3, List.forall_mem_cons.2 ⟨q4, List.forall_mem_cons.2 ⟨q39, fun _ h => nomatch h⟩⟩⟩⟩⟩⟩), ?_⟩
  have e := vizardlaw13_ConnHello.J1.eq key0 name0 nonce0 other0 p0 x0 Q E H
  rw [← e]
  exact h.h
def vizardlaw13_ConnHello.J3.t : CT := fun Q E fr H => lenIs 162 fr (slS fr 0 fun key0 => slS fr 1 fun name0 => slS fr 2 fun nonce0 => slP fr 17 fun c0 => slP fr 19 fun r0 => slB fr 120 fun x0 => vizardlaw13_ConnHello.J3 key0 name0 nonce0 c0 r0 x0 (fun  H => Q .normal (mkF 162 [(0, (.string key0)), (1, (.string name0)), (2, (.string nonce0)), (17, (.pointer c0)), (19, (.pointer r0))]) H) (fun y10_0 H => Q .ret (mkF 162 [(10, (.bool y10_0))]) H) E H)
noncomputable def vizardlaw13_ConnHello.J3.plan : Plan := .go
theorem vizardlaw13_ConnHello.J3.pok : PlanOk Tryz.prog vizardlaw13_ConnHello.J3.plan (sub [1, 1, 1, 1, 1, 1, 1, 1, 0, 1] vizardlaw13_ConnHello.body) := by
  have e : PlanOk Tryz.prog vizardlaw13_ConnHello.J3.plan (sub [1, 1, 1, 1, 1, 1, 1, 1, 0, 1] vizardlaw13_ConnHello.body) = (True) := by kernel_rfl
  exact e.mpr trivial
theorem vizardlaw13_ConnHello.J3.eq (key0 : ByteArray) (name0 : ByteArray) (nonce0 : ByteArray) (c0 : Option Addr) (r0 : Option Addr) (x0 : Bool) (Q : Ex → Fr → Heap → Prop) (E : Value → Heap → Prop) (H : Heap) :
    vizardlaw13_ConnHello.J3.vc key0 name0 nonce0 c0 r0 x0 (fun  H => Q .normal (mkF 162 [(0, (.string key0)), (1, (.string name0)), (2, (.string nonce0)), (17, (.pointer c0)), (19, (.pointer r0))]) H) (fun y10_0 H => Q .ret (mkF 162 [(10, (.bool y10_0))]) H) E H = keepT [0, 1, 2, 17, 19] [10] (fun i => []) (wC Tryz.prog vizardlaw13_ConnHello.Γ vizardlaw13_ConnHello.J3.plan (sub [1, 1, 1, 1, 1, 1, 1, 1, 0, 1] vizardlaw13_ConnHello.body)) Q E (mkF 162 [(0, (.string key0)), (1, (.string name0)), (2, (.string nonce0)), (17, (.pointer c0)), (19, (.pointer r0)), (120, (.bool x0))]) H := by
  kernel_rfl
theorem vizardlaw13_ConnHello.J3.ok : SoundCode Tryz.prog (sub [1, 1, 1, 1, 1, 1, 1, 1, 0, 1] vizardlaw13_ConnHello.body) vizardlaw13_ConnHello.J3.t := by
  refine piece_sound (keepT_sound [0, 1, 2, 17, 19] [10] (fun i => []) (wC_sound vizardlaw13_ConnHello.hΓ Tryz.hm vizardlaw13_ConnHello.J3.plan _ vizardlaw13_ConnHello.J3.pok)) ?_
  intro Q E fr H h
  unfold vizardlaw13_ConnHello.J3.t at h
  obtain ⟨hl, h⟩ := lenIs_elim h
  obtain ⟨key0, q0, h⟩ := slS_elim h
  obtain ⟨name0, q1, h⟩ := slS_elim h
  obtain ⟨nonce0, q2, h⟩ := slS_elim h
  obtain ⟨c0, q17, h⟩ := slP_elim h
  obtain ⟨r0, q19, h⟩ := slP_elim h
  obtain ⟨x0, q120, h⟩ := slB_elim h
  refine ⟨(mkF 162 [(0, (.string key0)), (1, (.string name0)), (2, (.string nonce0)), (17, (.pointer c0)), (19, (.pointer r0)), (120, (.bool x0))]), fun a ha => ha.mk (Nat.le_of_eq hl.symm) (List.forall_mem_cons.2 ⟨q0, List.forall_mem_cons.2 ⟨q1, List.forall_mem_cons.2 ⟨q2, List.forall_mem_cons.2 ⟨q17, List.forall_mem_cons.2 ⟨q19, List.forall_mem_cons.2 ⟨q120, fun _ h => nomatch h⟩⟩⟩⟩⟩⟩), ?_⟩
  have e := vizardlaw13_ConnHello.J3.eq key0 name0 nonce0 c0 r0 x0 Q E H
  rw [← e]
  exact h.h
def vizardlaw13_ConnHello.J4.t : CT := fun Q E fr H => lenIs 162 fr (slS fr 0 fun key0 => slS fr 1 fun name0 => slS fr 2 fun nonce0 => slP fr 17 fun c0 => slP fr 19 fun r0 => vizardlaw13_ConnHello.J4 key0 name0 nonce0 c0 r0 (fun y10_0 H => Q .ret (mkF 162 [(10, (.bool y10_0))]) H) E H)
noncomputable def vizardlaw13_ConnHello.J4.plan : Plan := .go
theorem vizardlaw13_ConnHello.J4.pok : PlanOk Tryz.prog vizardlaw13_ConnHello.J4.plan (sub [1, 1, 1, 1, 1, 1, 1, 1, 1] vizardlaw13_ConnHello.body) := by
  have e : PlanOk Tryz.prog vizardlaw13_ConnHello.J4.plan (sub [1, 1, 1, 1, 1, 1, 1, 1, 1] vizardlaw13_ConnHello.body) = (True) := by kernel_rfl
  exact e.mpr trivial
theorem vizardlaw13_ConnHello.J4.eq (key0 : ByteArray) (name0 : ByteArray) (nonce0 : ByteArray) (c0 : Option Addr) (r0 : Option Addr) (Q : Ex → Fr → Heap → Prop) (E : Value → Heap → Prop) (H : Heap) :
    vizardlaw13_ConnHello.J4.vc key0 name0 nonce0 c0 r0 (fun y10_0 H => Q .ret (mkF 162 [(10, (.bool y10_0))]) H) E H = keepT [] [10] (fun i => []) (wC Tryz.prog vizardlaw13_ConnHello.Γ vizardlaw13_ConnHello.J4.plan (sub [1, 1, 1, 1, 1, 1, 1, 1, 1] vizardlaw13_ConnHello.body)) Q E (mkF 162 [(0, (.string key0)), (1, (.string name0)), (2, (.string nonce0)), (17, (.pointer c0)), (19, (.pointer r0))]) H := by
  kernel_rfl
theorem vizardlaw13_ConnHello.J4.ok : SoundCode Tryz.prog (sub [1, 1, 1, 1, 1, 1, 1, 1, 1] vizardlaw13_ConnHello.body) vizardlaw13_ConnHello.J4.t := by
  refine piece_sound (keepT_sound [] [10] (fun i => []) (wC_sound vizardlaw13_ConnHello.hΓ Tryz.hm vizardlaw13_ConnHello.J4.plan _ vizardlaw13_ConnHello.J4.pok)) ?_
  intro Q E fr H h
  unfold vizardlaw13_ConnHello.J4.t at h
  obtain ⟨hl, h⟩ := lenIs_elim h
  obtain ⟨key0, q0, h⟩ := slS_elim h
  obtain ⟨name0, q1, h⟩ := slS_elim h
  obtain ⟨nonce0, q2, h⟩ := slS_elim h
  obtain ⟨c0, q17, h⟩ := slP_elim h
  obtain ⟨r0, q19, h⟩ := slP_elim h
  refine ⟨(mkF 162 [(0, (.string key0)), (1, (.string name0)), (2, (.string nonce0)), (17, (.pointer c0)), (19, (.pointer r0))]), fun a ha => ha.mk (Nat.le_of_eq hl.symm) (List.forall_mem_cons.2 ⟨q0, List.forall_mem_cons.2 ⟨q1, List.forall_mem_cons.2 ⟨q2, List.forall_mem_cons.2 ⟨q17, List.forall_mem_cons.2 ⟨q19, fun _ h => nomatch h⟩⟩⟩⟩⟩), ?_⟩
  have e := vizardlaw13_ConnHello.J4.eq key0 name0 nonce0 c0 r0 Q E H
  rw [← e]
  exact h.h
def vizardlaw13_ConnHello.J2.t : CT := fun Q E fr H => lenIs 162 fr (slS fr 0 fun key0 => slS fr 1 fun name0 => slS fr 2 fun nonce0 => slS fr 3 fun other0 => slS fr 4 fun p0 => vizardlaw13_ConnHello.J2 key0 name0 nonce0 other0 p0 (fun y10_0 H => Q .ret (mkF 162 [(10, (.bool y10_0))]) H) E H)
noncomputable def vizardlaw13_ConnHello.J2.plan : Plan := .seq (.go) (.seq (.go) (.seq (.go) (.seq (.go) (.seq (.go) (.seq (.go) (.seq (.seq (.go) (.use vizardlaw13_ConnHello.J3.t)) (.use vizardlaw13_ConnHello.J4.t)))))))
theorem vizardlaw13_ConnHello.J2.pok : PlanOk Tryz.prog vizardlaw13_ConnHello.J2.plan (sub [1, 1] vizardlaw13_ConnHello.body) := by
  have e : PlanOk Tryz.prog vizardlaw13_ConnHello.J2.plan (sub [1, 1] vizardlaw13_ConnHello.body) = ((True) ∧ ((True) ∧ ((True) ∧ ((True) ∧ ((True) ∧ ((True) ∧ (((True) ∧ (SoundCode Tryz.prog (sub [1, 1, 1, 1, 1, 1, 1, 1, 0, 1] vizardlaw13_ConnHello.body) vizardlaw13_ConnHello.J3.t)) ∧ (SoundCode Tryz.prog (sub [1, 1, 1, 1, 1, 1, 1, 1, 1] vizardlaw13_ConnHello.body) vizardlaw13_ConnHello.J4.t)))))))) := by kernel_rfl
  exact e.mpr ⟨trivial, ⟨trivial, ⟨trivial, ⟨trivial, ⟨trivial, ⟨trivial, ⟨⟨trivial, vizardlaw13_ConnHello.J3.ok⟩, vizardlaw13_ConnHello.J4.ok⟩⟩⟩⟩⟩⟩⟩
theorem vizardlaw13_ConnHello.J2.eq (key0 : ByteArray) (name0 : ByteArray) (nonce0 : ByteArray) (other0 : ByteArray) (p0 : ByteArray) (Q : Ex → Fr → Heap → Prop) (E : Value → Heap → Prop) (H : Heap) :
    vizardlaw13_ConnHello.J2.vc key0 name0 nonce0 other0 p0 (fun y10_0 H => Q .ret (mkF 162 [(10, (.bool y10_0))]) H) E H = keepT [] [10] (fun i => []) (wC Tryz.prog vizardlaw13_ConnHello.Γ vizardlaw13_ConnHello.J2.plan (sub [1, 1] vizardlaw13_ConnHello.body)) Q E (mkF 162 [(0, (.string key0)), (1, (.string name0)), (2, (.string nonce0)), (3, (.string other0)), (4, (.string p0))]) H := by
  kernel_rfl
theorem vizardlaw13_ConnHello.J2.ok : SoundCode Tryz.prog (sub [1, 1] vizardlaw13_ConnHello.body) vizardlaw13_ConnHello.J2.t := by
  refine piece_sound (keepT_sound [] [10] (fun i => []) (wC_sound vizardlaw13_ConnHello.hΓ Tryz.hm vizardlaw13_ConnHello.J2.plan _ vizardlaw13_ConnHello.J2.pok)) ?_
  intro Q E fr H h
  unfold vizardlaw13_ConnHello.J2.t at h
  obtain ⟨hl, h⟩ := lenIs_elim h
  obtain ⟨key0, q0, h⟩ := slS_elim h
  obtain ⟨name0, q1, h⟩ := slS_elim h
  obtain ⟨nonce0, q2, h⟩ := slS_elim h
  obtain ⟨other0, q3, h⟩ := slS_elim h
  obtain ⟨p0, q4, h⟩ := slS_elim h
  refine ⟨(mkF 162 [(0, (.string key0)), (1, (.string name0)), (2, (.string nonce0)), (3, (.string other0)), (4, (.string p0))]), fun a ha => ha.mk (Nat.le_of_eq hl.symm) (List.forall_mem_cons.2 ⟨q0, List.forall_mem_cons.2 ⟨q1, List.forall_mem_cons.2 ⟨q2, List.forall_mem_cons.2 ⟨q3, List.forall_mem_cons.2 ⟨q4, fun _ h => nomatch h⟩⟩⟩⟩⟩), ?_⟩
  have e := vizardlaw13_ConnHello.J2.eq key0 name0 nonce0 other0 p0 Q E H
  rw [← e]
  exact h.h
noncomputable def vizardlaw13_ConnHello.plan : Plan := .seq (.go) (.seq (.seq (.go) (.use vizardlaw13_ConnHello.J1.t)) (.use vizardlaw13_ConnHello.J2.t))
theorem vizardlaw13_ConnHello.pok : PlanOk Tryz.prog vizardlaw13_ConnHello.plan vizardlaw13_ConnHello.body := by
  have e : PlanOk Tryz.prog vizardlaw13_ConnHello.plan vizardlaw13_ConnHello.body = ((True) ∧ (((True) ∧ (SoundCode Tryz.prog (sub [1, 0, 1] vizardlaw13_ConnHello.body) vizardlaw13_ConnHello.J1.t)) ∧ (SoundCode Tryz.prog (sub [1, 1] vizardlaw13_ConnHello.body) vizardlaw13_ConnHello.J2.t))) := by kernel_rfl
  exact e.mpr ⟨trivial, ⟨⟨trivial, vizardlaw13_ConnHello.J1.ok⟩, vizardlaw13_ConnHello.J2.ok⟩⟩
theorem vizardlaw13_ConnHello.eq (key0 : ByteArray) (name0 : ByteArray) (nonce0 : ByteArray) (other0 : ByteArray) (p0 : ByteArray) (K : Value → Heap → Prop) (E : Value → Heap → Prop) (H : Heap) :
    fnT Tryz.prog Tryz.f3 (wC Tryz.prog vizardlaw13_ConnHello.Γ vizardlaw13_ConnHello.plan vizardlaw13_ConnHello.body) [(.string key0), (.string name0), (.string nonce0), (.string other0), (.string p0)] K E H = vizardlaw13_ConnHello.vc key0 name0 nonce0 other0 p0 (fun r0_0 H => K (.bool r0_0) H) E H := by
  kernel_rfl
theorem vizardlaw13_ConnHello.Fe {args : List Value} {K E : Value → Heap → Prop} {H : Heap} (h : vizardlaw13_ConnHello.F args K E H) : ∃ key0 name0 nonce0 other0 p0, args = [(.string key0), (.string name0), (.string nonce0), (.string other0), (.string p0)] ∧ vizardlaw13_ConnHello.c key0 name0 nonce0 other0 p0 (fun r0_0 H => K (.bool r0_0) H) E H := by
  unfold vizardlaw13_ConnHello.F at h
  split at h
  · exact ⟨_, _, _, _, _, rfl, h⟩
  · exact h.elim
theorem vizardlaw13_ConnHello.ok : CalleeOk Tryz.prog 3 vizardlaw13_ConnHello.F :=
  callee_ok vizardlaw13_ConnHello.hΓ (fn := Tryz.f3) (c := vizardlaw13_ConnHello.body) (T := wC Tryz.prog vizardlaw13_ConnHello.Γ vizardlaw13_ConnHello.plan vizardlaw13_ConnHello.body) (by kernel_rfl) (by kernel_rfl) (by kernel_rfl) (wC_sound vizardlaw13_ConnHello.hΓ Tryz.hm vizardlaw13_ConnHello.plan _ vizardlaw13_ConnHello.pok) fun _ K E H h => by
    obtain ⟨z0, z1, z2, z3, z4, e, h⟩ := vizardlaw13_ConnHello.Fe h
    subst e
    have h2 : vizardlaw13_ConnHello.vc z0 z1 z2 z3 z4 (fun r0_0 H => ∃ H', Heap.Le H' H ∧ K (.bool r0_0) H') E H := h.h
    rw [vizardlaw13_ConnHello.eq z0 z1 z2 z3 z4 (Fg K) E H]
    exact h2
end Go.Sh
