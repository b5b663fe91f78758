/- PRINTED by a program (sh.py): what the walk over each function asks, and that it asks just that. -/
import Derived.Test.YtjbfpeeigjjbdaaGin
namespace Go.Sh
open Go.Proofs
set_option linter.unusedVariables false
set_option maxRecDepth 8000
/-! vizard/outbox.New -/
noncomputable def outbox_New.body : Code := Try.f41.body.getD .skip
def outbox_New.vc (K : Option Addr → Heap → Prop) (E : Value → Heap → Prop) (h0 : Heap) : Prop :=
  newB (.cells #[(.slice none 0 0), (.slice none 0 0), (.int .u8 3), (.int .i64 4096), (.int .i64 0)] 101) (fun b0 h1 =>
  K (some (⟨b0, 0, none⟩ : Addr)) h1) h0
structure outbox_New.c (K : Option Addr → Heap → Prop) (E : Value → Heap → Prop) (H : Heap) : Prop where
  h : outbox_New.vc  (fun r0_0 H => ∃ H', Heap.Le H' H ∧ K r0_0 H') E H
def outbox_New.F : FT := fun args K E H => match args with
  | [] => outbox_New.c  (fun r0_0 H => K (.pointer r0_0) H) E H
  | _ => False
noncomputable def outbox_New.Γ : FuncId → Option FT := Γof []
theorem outbox_New.hΓ : ∀ f F, outbox_New.Γ f = some F → CalleeOk Try.prog f F := Γof_ok (fun _ h => nomatch h)
noncomputable def outbox_New.plan : Plan := .go
theorem outbox_New.pok : PlanOk Try.prog outbox_New.plan outbox_New.body := by
  have e : PlanOk Try.prog outbox_New.plan outbox_New.body = (True) := by kernel_rfl
  exact e.mpr trivial
theorem outbox_New.eq (K : Value → Heap → Prop) (E : Value → Heap → Prop) (H : Heap) :
    fnT Try.prog Try.f41 (wC Try.prog outbox_New.Γ outbox_New.plan outbox_New.body) [] K E H = outbox_New.vc  (fun r0_0 H => K (.pointer r0_0) H) E H := by
  kernel_rfl
theorem outbox_New.Fe {args : List Value} {K E : Value → Heap → Prop} {H : Heap} (h : outbox_New.F args K E H) : args = [] ∧ outbox_New.c  (fun r0_0 H => K (.pointer r0_0) H) E H := by
  unfold outbox_New.F at h
  split at h
  · exact ⟨rfl, h⟩
  · exact h.elim
theorem outbox_New.ok : CalleeOk Try.prog 41 outbox_New.F :=
  callee_ok outbox_New.hΓ (fn := Try.f41) (c := outbox_New.body) (T := wC Try.prog outbox_New.Γ outbox_New.plan outbox_New.body) (by kernel_rfl) (by kernel_rfl) (by kernel_rfl) (wC_sound outbox_New.hΓ Try.hm outbox_New.plan _ outbox_New.pok) fun _ K E H h => by
    obtain ⟨e, h⟩ := outbox_New.Fe h
    subst e
    have h2 : outbox_New.vc (fun r0_0 H => ∃ H', Heap.Le H' H ∧ K (.pointer r0_0) H') E H := h.h
    rw [outbox_New.eq (Fg K) E H]
    exact h2

/-! (*vizard/outbox.Box).Write -/
noncomputable def outbox_Box_Write.body : Code := Try.f42.body.getD .skip
def outbox_Box_Write.J2.vc (b0 : Option Addr) (s0 : ByteArray) (fin0 : Bool) (Kr : Int → Heap → Prop) (E : Value → Heap → Prop) (h0 : Heap) : Prop :=
  nilc b0 fun a0 =>
  ldI h0 .i64 (a0.add 4) fun x0 =>
  nilc b0 fun a1 =>
  stc h0 (a1.add 4) (.int .i64 (IntKind.i64.wrap (x0 + (s0.size : Int)))) fun h1 =>
  (if fin0 = true then
  nilc b0 fun a2 =>
  stc h1 (a2.add 2) (.int .u8 0) fun h2 =>
  Kr 0 h2
  else
  Kr 0 h1)
structure outbox_Box_Write.J2 (b0 : Option Addr) (s0 : ByteArray) (fin0 : Bool) (Kr : Int → Heap → Prop) (E : Value → Heap → Prop) (H : Heap) : Prop where
  h : outbox_Box_Write.J2.vc b0 s0 fin0 Kr E H
def outbox_Box_Write.J1.vc (b0 : Option Addr) (s0 : ByteArray) (fin0 : Bool) (Kr : Int → Heap → Prop) (E : Value → Heap → Prop) (h0 : Heap) : Prop :=
  nilc b0 fun a0 =>
  ldSl h0 (a0.add 1) fun x0 x1 x2 =>
  (0 : Int) ≤ (s0.size : Int) ∧ ((s0.size : Int) : Int) ≤ 9223372036854775807 ∧ ((s0.size : Int) : Int) * 1 ≤ 281474976710656 ∧
  appT 98 (.int .u8 0) x0 x1 (s0.size : Int).toNat x2 1 1 (zerosOf (.int .u8 0) (s0.size : Int).toNat) (fun p0 n0 c0 h1 =>
  nilc b0 fun a1 =>
  stc h1 (a1.add 1) (.slice p0 n0 c0) fun h2 =>
  outbox_Box_Write.J2 b0 s0 fin0 Kr E h2) h0
structure outbox_Box_Write.J1 (b0 : Option Addr) (s0 : ByteArray) (fin0 : Bool) (Kr : Int → Heap → Prop) (E : Value → Heap → Prop) (H : Heap) : Prop where
  h : outbox_Box_Write.J1.vc b0 s0 fin0 Kr E H
def outbox_Box_Write.vc (b0 : Option Addr) (s0 : ByteArray) (fin0 : Bool) (K : Int → Heap → Prop) (E : Value → Heap → Prop) (h0 : Heap) : Prop :=
  nilc b0 fun a0 =>
  ldI h0 .u8 (a0.add 2) fun x0 =>
  (if (x0 != 3) = true then
  K 7 h0
  else
  nilc b0 fun a1 =>
  ldI h0 .i64 (a1.add 4) fun x1 =>
  (if (decide ((s0.size : Int) > (IntKind.i64.wrap (16384 - x1)))) = true then
  K 4 h0
  else
  nilc b0 fun a2 =>
  ldSl h0 (a2.add 0) fun x2 x3 x4 =>
  appT 5 (.int .u8 0) x2 x3 s0.size x4 1 1 (byteVals s0) (fun p0 n0 c0 h1 =>
  nilc b0 fun a3 =>
  stc h1 (a3.add 0) (.slice p0 n0 c0) fun h2 =>
  outbox_Box_Write.J1 b0 s0 fin0 K E h2) h0))
structure outbox_Box_Write.c (b0 : Option Addr) (s0 : ByteArray) (fin0 : Bool) (K : Int → Heap → Prop) (E : Value → Heap → Prop) (H : Heap) : Prop where
  h : outbox_Box_Write.vc b0 s0 fin0 (fun r0_0 H => ∃ H', Heap.Le H' H ∧ K r0_0 H') E H
def outbox_Box_Write.F : FT := fun args K E H => match args with
  | [(.pointer b0), (.string s0), (.bool fin0)] => outbox_Box_Write.c b0 s0 fin0 (fun r0_0 H => K (.int .i64 r0_0) H) E H
  | _ => False
noncomputable def outbox_Box_Write.Γ : FuncId → Option FT := Γof []
theorem outbox_Box_Write.hΓ : ∀ f F, outbox_Box_Write.Γ f = some F → CalleeOk Try.prog f F := Γof_ok (fun _ h => nomatch h)
def outbox_Box_Write.J2.t : CT := fun Q E fr H => lenIs 54 fr (slP fr 0 fun b0 => slS fr 1 fun s0 => slB fr 2 fun fin0 => outbox_Box_Write.J2 b0 s0 fin0 (fun y6_0 H => Q .ret (mkF 54 [(6, (.int .i64 y6_0))]) H) E H)
noncomputable def outbox_Box_Write.J2.plan : Plan := .go
theorem outbox_Box_Write.J2.pok : PlanOk Try.prog outbox_Box_Write.J2.plan (sub [1, 1, 1, 1] outbox_Box_Write.body) := by
  have e : PlanOk Try.prog outbox_Box_Write.J2.plan (sub [1, 1, 1, 1] outbox_Box_Write.body) = (True) := by kernel_rfl
  exact e.mpr trivial
theorem outbox_Box_Write.J2.eq (b0 : Option Addr) (s0 : ByteArray) (fin0 : Bool) (Q : Ex → Fr → Heap → Prop) (E : Value → Heap → Prop) (H : Heap) :
    outbox_Box_Write.J2.vc b0 s0 fin0 (fun y6_0 H => Q .ret (mkF 54 [(6, (.int .i64 y6_0))]) H) E H = keepT [] [6] (fun i => []) (wC Try.prog outbox_Box_Write.Γ outbox_Box_Write.J2.plan (sub [1, 1, 1, 1] outbox_Box_Write.body)) Q E (mkF 54 [(0, (.pointer b0)), (1, (.string s0)), (2, (.bool fin0))]) H := by
  kernel_rfl
theorem outbox_Box_Write.J2.ok : SoundCode Try.prog (sub [1, 1, 1, 1] outbox_Box_Write.body) outbox_Box_Write.J2.t := by
  refine piece_sound (keepT_sound [] [6] (fun i => []) (wC_sound outbox_Box_Write.hΓ Try.hm outbox_Box_Write.J2.plan _ outbox_Box_Write.J2.pok)) ?_
  intro Q E fr H h
  unfold outbox_Box_Write.J2.t at h
  obtain ⟨hl, h⟩ := lenIs_elim h
  obtain ⟨b0, q0, h⟩ := slP_elim h
  obtain ⟨s0, q1, h⟩ := slS_elim h
  obtain ⟨fin0, q2, h⟩ := slB_elim h
  refine ⟨(mkF 54 [(0, (.pointer b0)), (1, (.string s0)), (2, (.bool fin0))]), fun a ha => ha.mk (Nat.le_of_eq hl.symm) (List.forall_mem_cons.2 ⟨q0, List.forall_mem_cons.2 ⟨q1, List.forall_mem_cons.2 ⟨q2, fun _ h => nomatch h⟩⟩⟩), ?_⟩
  have e := outbox_Box_Write.J2.eq b0 s0 fin0 Q E H
  rw [← e]
  exact h.h
def outbox_Box_Write.J1.t : CT := fun Q E fr H => lenIs 54 fr (slP fr 0 fun b0 => slS fr 1 fun s0 => slB fr 2 fun fin0 => outbox_Box_Write.J1 b0 s0 fin0 (fun y6_0 H => Q .ret (mkF 54 [(6, (.int .i64 y6_0))]) H) E H)
noncomputable def outbox_Box_Write.J1.plan : Plan := .seq (.go) (.use outbox_Box_Write.J2.t)
theorem outbox_Box_Write.J1.pok : PlanOk Try.prog outbox_Box_Write.J1.plan (sub [1, 1, 1] outbox_Box_Write.body) := by
  have e : PlanOk Try.prog outbox_Box_Write.J1.plan (sub [1, 1, 1] outbox_Box_Write.body) = ((True) ∧ (SoundCode Try.prog (sub [1, 1, 1, 1] outbox_Box_Write.body) outbox_Box_Write.J2.t)) := by kernel_rfl
  exact e.mpr ⟨trivial, outbox_Box_Write.J2.ok⟩
theorem outbox_Box_Write.J1.eq (b0 : Option Addr) (s0 : ByteArray) (fin0 : Bool) (Q : Ex → Fr → Heap → Prop) (E : Value → Heap → Prop) (H : Heap) :
    outbox_Box_Write.J1.vc b0 s0 fin0 (fun y6_0 H => Q .ret (mkF 54 [(6, (.int .i64 y6_0))]) H) E H = keepT [] [6] (fun i => []) (wC Try.prog outbox_Box_Write.Γ outbox_Box_Write.J1.plan (sub [1, 1, 1] outbox_Box_Write.body)) Q E (mkF 54 [(0, (.pointer b0)), (1, (.string s0)), (2, (.bool fin0))]) H := by
  kernel_rfl
theorem outbox_Box_Write.J1.ok : SoundCode Try.prog (sub [1, 1, 1] outbox_Box_Write.body) outbox_Box_Write.J1.t := by
  refine piece_sound (keepT_sound [] [6] (fun i => []) (wC_sound outbox_Box_Write.hΓ Try.hm outbox_Box_Write.J1.plan _ outbox_Box_Write.J1.pok)) ?_
  intro Q E fr H h
  unfold outbox_Box_Write.J1.t at h
  obtain ⟨hl, h⟩ := lenIs_elim h
  obtain ⟨b0, q0, h⟩ := slP_elim h
  obtain ⟨s0, q1, h⟩ := slS_elim h
  obtain ⟨fin0, q2, h⟩ := slB_elim h
  refine ⟨(mkF 54 [(0, (.pointer b0)), (1, (.string s0)), (2, (.bool fin0))]), fun a ha => ha.mk (Nat.le_of_eq hl.symm) (List.forall_mem_cons.2 ⟨q0, List.forall_mem_cons.2 ⟨q1, List.forall_mem_cons.2 ⟨q2, fun _ h => nomatch h⟩⟩⟩), ?_⟩
  have e := outbox_Box_Write.J1.eq b0 s0 fin0 Q E H
  rw [← e]
  exact h.h
noncomputable def outbox_Box_Write.plan : Plan := .seq (.go) (.seq (.go) (.seq (.go) (.use outbox_Box_Write.J1.t)))
theorem outbox_Box_Write.pok : PlanOk Try.prog outbox_Box_Write.plan outbox_Box_Write.body := by
  have e : PlanOk Try.prog outbox_Box_Write.plan outbox_Box_Write.body = ((True) ∧ ((True) ∧ ((True) ∧ (SoundCode Try.prog (sub [1, 1, 1] outbox_Box_Write.body) outbox_Box_Write.J1.t)))) := by kernel_rfl
  exact e.mpr ⟨trivial, ⟨trivial, ⟨trivial, outbox_Box_Write.J1.ok⟩⟩⟩
theorem outbox_Box_Write.eq (b0 : Option Addr) (s0 : ByteArray) (fin0 : Bool) (K : Value → Heap → Prop) (E : Value → Heap → Prop) (H : Heap) :
    fnT Try.prog Try.f42 (wC Try.prog outbox_Box_Write.Γ outbox_Box_Write.plan outbox_Box_Write.body) [(.pointer b0), (.string s0), (.bool fin0)] K E H = outbox_Box_Write.vc b0 s0 fin0 (fun r0_0 H => K (.int .i64 r0_0) H) E H := by
  kernel_rfl
theorem outbox_Box_Write.Fe {args : List Value} {K E : Value → Heap → Prop} {H : Heap} (h : outbox_Box_Write.F args K E H) : ∃ b0 s0 fin0, args = [(.pointer b0), (.string s0), (.bool fin0)] ∧ outbox_Box_Write.c b0 s0 fin0 (fun r0_0 H => K (.int .i64 r0_0) H) E H := by
  unfold outbox_Box_Write.F at h
  split at h
  · exact ⟨_, _, _, rfl, h⟩
  · exact h.elim
theorem outbox_Box_Write.ok : CalleeOk Try.prog 42 outbox_Box_Write.F :=
  callee_ok outbox_Box_Write.hΓ (fn := Try.f42) (c := outbox_Box_Write.body) (T := wC Try.prog outbox_Box_Write.Γ outbox_Box_Write.plan outbox_Box_Write.body) (by kernel_rfl) (by kernel_rfl) (by kernel_rfl) (wC_sound outbox_Box_Write.hΓ Try.hm outbox_Box_Write.plan _ outbox_Box_Write.pok) fun _ K E H h => by
    obtain ⟨z0, z1, z2, e, h⟩ := outbox_Box_Write.Fe h
    subst e
    have h2 : outbox_Box_Write.vc z0 z1 z2 (fun r0_0 H => ∃ H', Heap.Le H' H ∧ K (.int .i64 r0_0) H') E H := h.h
    rw [outbox_Box_Write.eq z0 z1 z2 (Fg K) E H]
    exact h2

/-! (*vizard/outbox.Box).first -/
noncomputable def outbox_Box_first.body : Code := Try.f60.body.getD .skip
def outbox_Box_first.W1.vc (b0 : Option Addr) (x0 : Option Addr) (x1 : Nat) (x2 : Nat) (x3 : Int) (x4 : Int) (Kx0 : Heap → Prop) (Kr : Int → Heap → Prop) (RR : Int → Heap → Prop) (E : Value → Heap → Prop) (h0 : Heap) : Prop :=
  (if (decide (x4 < x3)) = true then
  nilc x0 fun a0 => (0 : Int) ≤ x4 ∧ x4 < (x1 : Int) ∧
  ldI h0 .u8 (a0.add (x4.toNat * 1)) fun x5 =>
  (if (x5 == 0) = true then
  Kr x4 h0
  else
  RR (IntKind.i64.wrap (x4 + 1)) h0)
  else
  Kx0 h0)
structure outbox_Box_first.W1 (b0 : Option Addr) (x0 : Option Addr) (x1 : Nat) (x2 : Nat) (x3 : Int) (x4 : Int) (Kx0 : Heap → Prop) (Kr : Int → Heap → Prop) (E : Value → Heap → Prop) (H : Heap) : Prop where
  h : Loop (fun (RR : Int → Heap → Prop) (s : Int) (H : Heap) => outbox_Box_first.W1.vc b0 x0 x1 x2 x3 s Kx0 Kr (fun x4 H => RR (x4) H) E H) (x4) H
def outbox_Box_first.vc (b0 : Option Addr) (K : Int → Heap → Prop) (E : Value → Heap → Prop) (h0 : Heap) : Prop :=
  nilc b0 fun a0 =>
  ldSl h0 (a0.add 1) fun x0 x1 x2 =>
  outbox_Box_first.W1 b0 x0 x1 x2 (x1 : Int) 0 (fun h1 =>
  nilc b0 fun a1 =>
  ldSl h1 (a1.add 1) fun x3 x4 x5 =>
  K (x4 : Int) h1) K E h0
structure outbox_Box_first.c (b0 : Option Addr) (K : Int → Heap → Prop) (E : Value → Heap → Prop) (H : Heap) : Prop where
  h : outbox_Box_first.vc b0 (fun r0_0 H => ∃ H', Heap.Le H' H ∧ K r0_0 H') E H
def outbox_Box_first.F : FT := fun args K E H => match args with
  | [(.pointer b0)] => outbox_Box_first.c b0 (fun r0_0 H => K (.int .i64 r0_0) H) E H
  | _ => False
noncomputable def outbox_Box_first.Γ : FuncId → Option FT := Γof []
theorem outbox_Box_first.hΓ : ∀ f F, outbox_Box_first.Γ f = some F → CalleeOk Try.prog f F := Γof_ok (fun _ h => nomatch h)
def outbox_Box_first.W1.t : CT := fun Q E fr H => lenIs 24 fr (slP fr 0 fun b0 => slSl fr 8 fun x0 x1 x2 => slI fr 9 .i64 fun x3 => slI fr 10 .i64 fun x4 => outbox_Box_first.W1 b0 x0 x1 x2 x3 x4 (fun  H => Q (.exit 0) (mkF 24 [(0, (.pointer b0))]) H) (fun y2_0 H => Q .ret (mkF 24 [(2, (.int .i64 y2_0))]) H) E H)
noncomputable def outbox_Box_first.W1.plan : Plan := .go
theorem outbox_Box_first.W1.pok : PlanOk Try.prog outbox_Box_first.W1.plan (sub [1, 0, 1, 0, 0] outbox_Box_first.body) := by
  have e : PlanOk Try.prog outbox_Box_first.W1.plan (sub [1, 0, 1, 0, 0] outbox_Box_first.body) = (True) := by kernel_rfl
  exact e.mpr trivial
theorem outbox_Box_first.W1.eq (b0 : Option Addr) (x0 : Option Addr) (x1 : Nat) (x2 : Nat) (x3 : Int) (Q : Ex → Fr → Heap → Prop) (E : Value → Heap → Prop) (RR : Fr → Heap → Prop) (s : Int) (H : Heap) :
    (fun (RR : Int → Heap → Prop) (s : Int) (H : Heap) => outbox_Box_first.W1.vc b0 x0 x1 x2 x3 s (fun  H => Q (.exit 0) (mkF 24 [(0, (.pointer b0))]) H) (fun y2_0 H => Q .ret (mkF 24 [(2, (.int .i64 y2_0))]) H) (fun x4 H => RR (x4) H) E H) (fun s' H' => RR ((fun (s : Int) => (mkF 24 [(0, (.pointer b0)), (8, (.slice x0 x1 x2)), (9, (.int .i64 x3)), (10, (.int .i64 s))])) s') H') s H = keepT [0, 8, 9, 10] [2] (fun i => if i = 0 then [0] else []) (wC Try.prog outbox_Box_first.Γ outbox_Box_first.W1.plan (sub [1, 0, 1, 0, 0] outbox_Box_first.body)) (fun e fr' H' => match e with | .normal => RR fr' H' | .exit id => Q (.exit id) fr' H' | .ret => Q .ret fr' H') E ((fun (s : Int) => (mkF 24 [(0, (.pointer b0)), (8, (.slice x0 x1 x2)), (9, (.int .i64 x3)), (10, (.int .i64 s))])) s) H := by
  kernel_rfl
theorem outbox_Box_first.W1.ok : SoundCode Try.prog (sub [1, 0, 1, 0] outbox_Box_first.body) outbox_Box_first.W1.t := by
  have e : (sub [1, 0, 1, 0] outbox_Box_first.body) = .loop (sub [1, 0, 1, 0, 0] outbox_Box_first.body) := by kernel_rfl
  rw [e]
  refine piece_sound (loopN_sound (keepT_sound [0, 8, 9, 10] [2] (fun i => if i = 0 then [0] else []) (wC_sound outbox_Box_first.hΓ Try.hm outbox_Box_first.W1.plan _ outbox_Box_first.W1.pok))) ?_
  intro Q E fr H h
  unfold outbox_Box_first.W1.t at h
  obtain ⟨hl, h⟩ := lenIs_elim h
  obtain ⟨b0, q0, h⟩ := slP_elim h
  obtain ⟨x0, x1, x2, q8, h⟩ := slSl_elim h
  obtain ⟨x3, q9, h⟩ := slI_elim h
  obtain ⟨x4, q10, h⟩ := slI_elim h
  obtain ⟨m, h⟩ := h.h
  refine ⟨(mkF 24 [(0, (.pointer b0)), (8, (.slice x0 x1 x2)), (9, (.int .i64 x3)), (10, (.int .i64 x4))]), fun a ha => ha.mk (Nat.le_of_eq hl.symm) (List.forall_mem_cons.2 ⟨q0, List.forall_mem_cons.2 ⟨q8, List.forall_mem_cons.2 ⟨q9, List.forall_mem_cons.2 ⟨q10, fun _ h => nomatch h⟩⟩⟩⟩), m, ?_⟩
  have e := loopS_eq (B := (fun (RR : Int → Heap → Prop) (s : Int) (H : Heap) => outbox_Box_first.W1.vc b0 x0 x1 x2 x3 s (fun  H => Q (.exit 0) (mkF 24 [(0, (.pointer b0))]) H) (fun y2_0 H => Q .ret (mkF 24 [(2, (.int .i64 y2_0))]) H) (fun x4 H => RR (x4) H) E H)) (A := keepT [0, 8, 9, 10] [2] (fun i => if i = 0 then [0] else []) (wC Try.prog outbox_Box_first.Γ outbox_Box_first.W1.plan (sub [1, 0, 1, 0, 0] outbox_Box_first.body))) (m := (fun (s : Int) => (mkF 24 [(0, (.pointer b0)), (8, (.slice x0 x1 x2)), (9, (.int .i64 x3)), (10, (.int .i64 s))]))) (Q := Q) (E := E) (fun RR s H => outbox_Box_first.W1.eq b0 x0 x1 x2 x3 Q E RR s H) m (x4) H
  exact cast e h
noncomputable def outbox_Box_first.plan : Plan := .seq (.go) (.seq (.seq (.go) (.block (.use outbox_Box_first.W1.t))) (.go))
theorem outbox_Box_first.pok : PlanOk Try.prog outbox_Box_first.plan outbox_Box_first.body := by
  have e : PlanOk Try.prog outbox_Box_first.plan outbox_Box_first.body = ((True) ∧ (((True) ∧ (SoundCode Try.prog (sub [1, 0, 1, 0] outbox_Box_first.body) outbox_Box_first.W1.t)) ∧ (True))) := by kernel_rfl
  exact e.mpr ⟨trivial, ⟨⟨trivial, outbox_Box_first.W1.ok⟩, trivial⟩⟩
theorem outbox_Box_first.eq (b0 : Option Addr) (K : Value → Heap → Prop) (E : Value → Heap → Prop) (H : Heap) :
    fnT Try.prog Try.f60 (wC Try.prog outbox_Box_first.Γ outbox_Box_first.plan outbox_Box_first.body) [(.pointer b0)] K E H = outbox_Box_first.vc b0 (fun r0_0 H => K (.int .i64 r0_0) H) E H := by
  kernel_rfl
theorem outbox_Box_first.Fe {args : List Value} {K E : Value → Heap → Prop} {H : Heap} (h : outbox_Box_first.F args K E H) : ∃ b0, args = [(.pointer b0)] ∧ outbox_Box_first.c b0 (fun r0_0 H => K (.int .i64 r0_0) H) E H := by
  unfold outbox_Box_first.F at h
  split at h
  · exact ⟨_, rfl, h⟩
  · exact h.elim
theorem outbox_Box_first.ok : CalleeOk Try.prog 60 outbox_Box_first.F :=
  callee_ok outbox_Box_first.hΓ (fn := Try.f60) (c := outbox_Box_first.body) (T := wC Try.prog outbox_Box_first.Γ outbox_Box_first.plan outbox_Box_first.body) (by kernel_rfl) (by kernel_rfl) (by kernel_rfl) (wC_sound outbox_Box_first.hΓ Try.hm outbox_Box_first.plan _ outbox_Box_first.pok) fun _ K E H h => by
    obtain ⟨z0, e, h⟩ := outbox_Box_first.Fe h
    subst e
    have h2 : outbox_Box_first.vc z0 (fun r0_0 H => ∃ H', Heap.Le H' H ∧ K (.int .i64 r0_0) H') E H := h.h
    rw [outbox_Box_first.eq z0 (Fg K) E H]
    exact h2

/-! (*vizard/outbox.Box).Next -/
noncomputable def outbox_Box_Next.body : Code := Try.f43.body.getD .skip
def outbox_Box_Next.J1.vc (b0 : Option Addr) (x0 : Addr) (size0 : Int) (x1 : Bool) (Kn : Heap → Prop) (Kr : Bool → Heap → Prop) (E : Value → Heap → Prop) (h0 : Heap) : Prop :=
  (if x1 = true then
  stc h0 (x0.add 0) (.int .i64 0) fun h1 =>
  stc h1 (x0.add 1) (.string (⟨#[]⟩ : ByteArray)) fun h2 =>
  stc h2 (x0.add 2) (.bool false) fun h3 =>
  Kr false h3
  else
  Kn h0)
structure outbox_Box_Next.J1 (b0 : Option Addr) (x0 : Addr) (size0 : Int) (x1 : Bool) (Kn : Heap → Prop) (Kr : Bool → Heap → Prop) (E : Value → Heap → Prop) (H : Heap) : Prop where
  h : outbox_Box_Next.J1.vc b0 x0 size0 x1 Kn Kr E H
def outbox_Box_Next.J2.vc (b0 : Option Addr) (x0 : Addr) (size0 : Int) (Kr : Bool → Heap → Prop) (E : Value → Heap → Prop) (h0 : Heap) : Prop :=
  nilc b0 fun a0 =>
  stc h0 (a0.add 2) (.int .u8 1) fun h1 =>
  stc h1 (x0.add 0) (.int .i64 size0) fun h2 =>
  stc h2 (x0.add 1) (.string (⟨#[]⟩ : ByteArray)) fun h3 =>
  stc h3 (x0.add 2) (.bool true) fun h4 =>
  Kr true h4
structure outbox_Box_Next.J2 (b0 : Option Addr) (x0 : Addr) (size0 : Int) (Kr : Bool → Heap → Prop) (E : Value → Heap → Prop) (H : Heap) : Prop where
  h : outbox_Box_Next.J2.vc b0 x0 size0 Kr E H
def outbox_Box_Next.J4.vc (b0 : Option Addr) (most0 : Int) (x0 : Addr) (at0 : Int) (size0 : Int) (end0 : Int) (Kn : Int → Heap → Prop) (E : Value → Heap → Prop) (h0 : Heap) : Prop :=
  nilc b0 fun a0 =>
  ldSl h0 (a0.add 1) fun x1 x2 x3 =>
  nilc x1 fun a1 => (0 : Int) ≤ end0 ∧ end0 < (x2 : Int) ∧
  stc h0 (a1.add (end0.toNat * 1)) (.int .u8 1) fun h1 =>
  Kn (IntKind.i64.wrap (end0 + 1)) h1
structure outbox_Box_Next.J4 (b0 : Option Addr) (most0 : Int) (x0 : Addr) (at0 : Int) (size0 : Int) (end0 : Int) (Kn : Int → Heap → Prop) (E : Value → Heap → Prop) (H : Heap) : Prop where
  h : outbox_Box_Next.J4.vc b0 most0 x0 at0 size0 end0 Kn E H
def outbox_Box_Next.W3.vc (b0 : Option Addr) (most0 : Int) (x0 : Addr) (at0 : Int) (size0 : Int) (end0 : Int) (Kx0 : Int → Heap → Prop) (RR : Int → Heap → Prop) (E : Value → Heap → Prop) (h0 : Heap) : Prop :=
  (if (decide (end0 < size0)) = true then
  nilc b0 fun a0 =>
  ldI h0 .i64 (a0.add 3) fun x1 =>
  (if (decide (end0 < x1)) = true then
  (if (decide ((IntKind.i64.wrap (end0 - at0)) < most0)) = true then
  nilc b0 fun a1 =>
  ldSl h0 (a1.add 1) fun x2 x3 x4 =>
  nilc x2 fun a2 => (0 : Int) ≤ end0 ∧ end0 < (x3 : Int) ∧
  ldI h0 .u8 (a2.add (end0.toNat * 1)) fun x5 =>
  (if (x5 == 0) = true then
  outbox_Box_Next.J4 b0 most0 x0 at0 size0 end0 RR E h0
  else
  Kx0 end0 h0)
  else
  Kx0 end0 h0)
  else
  Kx0 end0 h0)
  else
  Kx0 end0 h0)
structure outbox_Box_Next.W3 (b0 : Option Addr) (most0 : Int) (x0 : Addr) (at0 : Int) (size0 : Int) (end0 : Int) (Kx0 : Int → Heap → Prop) (E : Value → Heap → Prop) (H : Heap) : Prop where
  h : Loop (fun (RR : Int → Heap → Prop) (s : Int) (H : Heap) => outbox_Box_Next.W3.vc b0 most0 x0 at0 size0 s Kx0 (fun end0 H => RR (end0) H) E H) (end0) H
def outbox_Box_Next.J6.vc (b0 : Option Addr) (x0 : Addr) (p0 : Addr) (x1 : Bool) (Kn : Heap → Prop) (E : Value → Heap → Prop) (h0 : Heap) : Prop :=
  (if x1 = true then
  nilc b0 fun a0 =>
  stc h0 (a0.add 2) (.int .u8 1) fun h1 =>
  Kn h1
  else
  Kn h0)
structure outbox_Box_Next.J6 (b0 : Option Addr) (x0 : Addr) (p0 : Addr) (x1 : Bool) (Kn : Heap → Prop) (E : Value → Heap → Prop) (H : Heap) : Prop where
  h : outbox_Box_Next.J6.vc b0 x0 p0 x1 Kn E H
def outbox_Box_Next.J7.vc (x0 : Addr) (p0 : Addr) (Kr : Bool → Heap → Prop) (E : Value → Heap → Prop) (h0 : Heap) : Prop :=
  ldI h0 .i64 (p0.add 0) fun x1 => ldS h0 (p0.add 1) fun x2 => ldB h0 (p0.add 2) fun x3 =>
  stc h0 (x0.add 0) (.int .i64 x1) fun h1 =>
  stc h1 (x0.add 1) (.string x2) fun h2 =>
  stc h2 (x0.add 2) (.bool x3) fun h3 =>
  Kr true h3
structure outbox_Box_Next.J7 (x0 : Addr) (p0 : Addr) (Kr : Bool → Heap → Prop) (E : Value → Heap → Prop) (H : Heap) : Prop where
  h : outbox_Box_Next.J7.vc x0 p0 Kr E H
def outbox_Box_Next.J5.vc (b0 : Option Addr) (x0 : Addr) (p0 : Addr) (Kr : Bool → Heap → Prop) (E : Value → Heap → Prop) (h0 : Heap) : Prop :=
  ldB h0 (p0.add 2) fun x1 =>
  (if x1 = true then
  nilc b0 fun a0 =>
  ldI h0 .u8 (a0.add 2) fun x2 =>
  outbox_Box_Next.J6 b0 x0 p0 (x2 == 0) (fun h1 =>
  outbox_Box_Next.J7 x0 p0 Kr E h1) E h0
  else
  outbox_Box_Next.J6 b0 x0 p0 false (fun h3 =>
  outbox_Box_Next.J7 x0 p0 Kr E h3) E h0)
structure outbox_Box_Next.J5 (b0 : Option Addr) (x0 : Addr) (p0 : Addr) (Kr : Bool → Heap → Prop) (E : Value → Heap → Prop) (H : Heap) : Prop where
  h : outbox_Box_Next.J5.vc b0 x0 p0 Kr E H
def outbox_Box_Next.vc (b0 : Option Addr) (most0 : Int) (K : Int → ByteArray → Bool → Bool → Heap → Prop) (E : Value → Heap → Prop) (h0 : Heap) : Prop :=
  newB (.cells #[(.int .i64 0), (.string (⟨#[]⟩ : ByteArray)), (.bool false)] 72) (fun b1 h1 =>
  nilc b0 fun a0 =>
  ldSl h1 (a0.add 0) fun x0 x1 x2 =>
  outbox_Box_first.c b0 (fun x3 h2 =>
  (eqv h2 h2 (some (.int .i64 (x1 : Int))) (.int .i64 (x1 : Int))) ∧
  (ldSl h2 (a0.add 0) fun x4 x5 x6 =>
  eqv h2 h2 (some (.slice x0 x1 x2)) (.slice x4 x5 x6)) ∧
  (if (x3 == (x1 : Int)) = true then
  nilc b0 fun a1 =>
  ldI h2 .u8 (a1.add 2) fun x7 =>
  (if (x7 != 0) = true then
  outbox_Box_Next.J1 b0 (⟨b1, 0, none⟩ : Addr) (x1 : Int) true (fun h3 =>
  outbox_Box_Next.J2 b0 (⟨b1, 0, none⟩ : Addr) (x1 : Int) (fun x8 h4 =>
  ldI h4 .i64 ((⟨b1, 0, none⟩ : Addr).add 0) fun r0 => ldS h4 ((⟨b1, 0, none⟩ : Addr).add 1) fun r1 => ldB h4 ((⟨b1, 0, none⟩ : Addr).add 2) fun r2 =>
  K r0 r1 r2 x8 h4) E h3) (fun x9 h5 =>
  ldI h5 .i64 ((⟨b1, 0, none⟩ : Addr).add 0) fun r3 => ldS h5 ((⟨b1, 0, none⟩ : Addr).add 1) fun r4 => ldB h5 ((⟨b1, 0, none⟩ : Addr).add 2) fun r5 =>
  K r3 r4 r5 x9 h5) E h2
  else
  nilc b0 fun a2 =>
  ldI h2 .i64 (a2.add 3) fun x10 =>
  outbox_Box_Next.J1 b0 (⟨b1, 0, none⟩ : Addr) (x1 : Int) (decide (x10 < (x1 : Int))) (fun h6 =>
  outbox_Box_Next.J2 b0 (⟨b1, 0, none⟩ : Addr) (x1 : Int) (fun x11 h7 =>
  ldI h7 .i64 ((⟨b1, 0, none⟩ : Addr).add 0) fun r6 => ldS h7 ((⟨b1, 0, none⟩ : Addr).add 1) fun r7 => ldB h7 ((⟨b1, 0, none⟩ : Addr).add 2) fun r8 =>
  K r6 r7 r8 x11 h7) E h6) (fun x12 h8 =>
  ldI h8 .i64 ((⟨b1, 0, none⟩ : Addr).add 0) fun r9 => ldS h8 ((⟨b1, 0, none⟩ : Addr).add 1) fun r10 => ldB h8 ((⟨b1, 0, none⟩ : Addr).add 2) fun r11 =>
  K r9 r10 r11 x12 h8) E h2)
  else
  outbox_Box_Next.W3 b0 most0 (⟨b1, 0, none⟩ : Addr) x3 (x1 : Int) x3 (fun end0 h9 =>
  (if (end0 == x3) = true then
  stc h9 ((⟨b1, 0, none⟩ : Addr).add 0) (.int .i64 0) fun h10 =>
  stc h10 ((⟨b1, 0, none⟩ : Addr).add 1) (.string (⟨#[]⟩ : ByteArray)) fun h11 =>
  stc h11 ((⟨b1, 0, none⟩ : Addr).add 2) (.bool false) fun h12 =>
  ldI h12 .i64 ((⟨b1, 0, none⟩ : Addr).add 0) fun r12 => ldS h12 ((⟨b1, 0, none⟩ : Addr).add 1) fun r13 => ldB h12 ((⟨b1, 0, none⟩ : Addr).add 2) fun r14 =>
  K r12 r13 r14 false h12
  else
  nilc b0 fun a3 =>
  ldSl h9 (a3.add 0) fun x13 x14 x15 =>
  (0 : Int) ≤ x3 ∧ x3 ≤ (end0 : Int) ∧ end0 ≤ (x15 : Int) ∧
  rdBytes h9 (slA x13 x15 x3.toNat 1) (end0.toNat - x3.toNat) fun x16 =>
  (if (end0 == (x1 : Int)) = true then
  nilc b0 fun a4 =>
  ldI h9 .u8 (a4.add 2) fun x17 =>
  newB (.cells #[(.int .i64 0), (.string (⟨#[]⟩ : ByteArray)), (.bool false)] 72) (fun b2 h13 =>
  (ldI h13 .u8 (a4.add 2) fun x18 =>
  eqv h13 h13 (some (.int .u8 x17)) (.int .u8 x18)) ∧
  (rdBytes h13 (slA x13 x15 x3.toNat 1) (end0.toNat - x3.toNat) fun x19 =>
  eqv h13 h13 (some (.string x16)) (.string x19)) ∧
  (ldSl h13 (a3.add 0) fun x20 x21 x22 =>
  eqv h13 h13 (some (.slice x13 x14 x15)) (.slice x20 x21 x22)) ∧
  stc h13 ((⟨b2, 0, none⟩ : Addr).add 0) (.int .i64 x3) fun h14 =>
  stc h14 ((⟨b2, 0, none⟩ : Addr).add 1) (.string x16) fun h15 =>
  stc h15 ((⟨b2, 0, none⟩ : Addr).add 2) (.bool (x17 != 3)) fun h16 =>
  outbox_Box_Next.J5 b0 (⟨b1, 0, none⟩ : Addr) (⟨b2, 0, none⟩ : Addr) (fun x23 h17 =>
  ldI h17 .i64 ((⟨b1, 0, none⟩ : Addr).add 0) fun r15 => ldS h17 ((⟨b1, 0, none⟩ : Addr).add 1) fun r16 => ldB h17 ((⟨b1, 0, none⟩ : Addr).add 2) fun r17 =>
  K r15 r16 r17 x23 h17) E h16) h9
  else
  newB (.cells #[(.int .i64 0), (.string (⟨#[]⟩ : ByteArray)), (.bool false)] 72) (fun b3 h18 =>
  True ∧
  (rdBytes h18 (slA x13 x15 x3.toNat 1) (end0.toNat - x3.toNat) fun x24 =>
  eqv h18 h18 (some (.string x16)) (.string x24)) ∧
  (ldSl h18 (a3.add 0) fun x25 x26 x27 =>
  eqv h18 h18 (some (.slice x13 x14 x15)) (.slice x25 x26 x27)) ∧
  stc h18 ((⟨b3, 0, none⟩ : Addr).add 0) (.int .i64 x3) fun h19 =>
  stc h19 ((⟨b3, 0, none⟩ : Addr).add 1) (.string x16) fun h20 =>
  stc h20 ((⟨b3, 0, none⟩ : Addr).add 2) (.bool false) fun h21 =>
  outbox_Box_Next.J5 b0 (⟨b1, 0, none⟩ : Addr) (⟨b3, 0, none⟩ : Addr) (fun x28 h22 =>
  ldI h22 .i64 ((⟨b1, 0, none⟩ : Addr).add 0) fun r18 => ldS h22 ((⟨b1, 0, none⟩ : Addr).add 1) fun r19 => ldB h22 ((⟨b1, 0, none⟩ : Addr).add 2) fun r20 =>
  K r18 r19 r20 x28 h22) E h21) h9))) E h2)) E h1) h0
structure outbox_Box_Next.c (b0 : Option Addr) (most0 : Int) (K : Int → ByteArray → Bool → Bool → Heap → Prop) (E : Value → Heap → Prop) (H : Heap) : Prop where
  h : outbox_Box_Next.vc b0 most0 (fun r0_0 r0_1 r0_2 r1_0 H => ∃ H', Heap.Le H' H ∧ K r0_0 r0_1 r0_2 r1_0 H') E H
def outbox_Box_Next.F : FT := fun args K E H => match args with
  | [(.pointer b0), (.int .i64 most0)] => outbox_Box_Next.c b0 most0 (fun r0_0 r0_1 r0_2 r1_0 H => K (.tuple #[(.agg #[(.int .i64 r0_0), (.string r0_1), (.bool r0_2)]), (.bool r1_0)]) H) E H
  | _ => False
noncomputable def outbox_Box_Next.Γ : FuncId → Option FT := Γof [(60, outbox_Box_first.F)]
theorem outbox_Box_Next.hΓ : ∀ f F, outbox_Box_Next.Γ f = some F → CalleeOk Try.prog f F := Γof_ok (List.forall_mem_cons.2 ⟨outbox_Box_first.ok, fun _ h => nomatch h⟩)
def outbox_Box_Next.J1.t : CT := fun Q E fr H => lenIs 113 fr (slP fr 0 fun b0 => slPA fr 4 fun x0 => slI fr 7 .i64 fun size0 => slB fr 32 fun x1 => outbox_Box_Next.J1 b0 x0 size0 x1 (fun  H => Q .normal (mkF 113 [(0, (.pointer b0)), (4, (.pointer (some x0))), (7, (.int .i64 size0))]) H) (fun y5_0 H => Q .ret (mkF 113 [(4, (.pointer (some x0))), (5, (.bool y5_0))]) H) E H)
noncomputable def outbox_Box_Next.J1.plan : Plan := .go
theorem outbox_Box_Next.J1.pok : PlanOk Try.prog outbox_Box_Next.J1.plan (sub [1, 1, 0, 1, 0, 0, 1] outbox_Box_Next.body) := by
  have e : PlanOk Try.prog outbox_Box_Next.J1.plan (sub [1, 1, 0, 1, 0, 0, 1] outbox_Box_Next.body) = (True) := by kernel_rfl
  exact e.mpr trivial
theorem outbox_Box_Next.J1.eq (b0 : Option Addr) (x0 : Addr) (size0 : Int) (x1 : Bool) (Q : Ex → Fr → Heap → Prop) (E : Value → Heap → Prop) (H : Heap) :
    outbox_Box_Next.J1.vc b0 x0 size0 x1 (fun  H => Q .normal (mkF 113 [(0, (.pointer b0)), (4, (.pointer (some x0))), (7, (.int .i64 size0))]) H) (fun y5_0 H => Q .ret (mkF 113 [(4, (.pointer (some x0))), (5, (.bool y5_0))]) H) E H = keepT [0, 4, 7] [4, 5] (fun i => []) (wC Try.prog outbox_Box_Next.Γ outbox_Box_Next.J1.plan (sub [1, 1, 0, 1, 0, 0, 1] outbox_Box_Next.body)) Q E (mkF 113 [(0, (.pointer b0)), (4, (.pointer (some x0))), (7, (.int .i64 size0)), (32, (.bool x1))]) H := by
  kernel_rfl
theorem outbox_Box_Next.J1.ok : SoundCode Try.prog (sub [1, 1, 0, 1, 0, 0, 1] outbox_Box_Next.body) outbox_Box_Next.J1.t := by
  refine piece_sound (keepT_sound [0, 4, 7] [4, 5] (fun i => []) (wC_sound outbox_Box_Next.hΓ Try.hm outbox_Box_Next.J1.plan _ outbox_Box_Next.J1.pok)) ?_
  intro Q E fr H h
  unfold outbox_Box_Next.J1.t at h
  obtain ⟨hl, h⟩ := lenIs_elim h
  obtain ⟨b0, q0, h⟩ := slP_elim h
  obtain ⟨x0, q4, h⟩ := slPA_elim h
  obtain ⟨size0, q7, h⟩ := slI_elim h
  obtain ⟨x1, q32, h⟩ := slB_elim h
  refine ⟨(mkF 113 [(0, (.pointer b0)), (4, (.pointer (some x0))), (7, (.int .i64 size0)), (32, (.bool x1))]), fun a ha => ha.mk (Nat.le_of_eq hl.symm) (List.forall_mem_cons.2 ⟨q0, List.forall_mem_cons.2 ⟨q4, List.forall_mem_cons.2 ⟨q7, List.forall_mem_cons.2 ⟨q32, fun _ h => nomatch h⟩⟩⟩⟩), ?_⟩
  have e := outbox_Box_Next.J1.eq b0 x0 size0 x1 Q E H
  rw [← e]
  exact h.h
def outbox_Box_Next.J2.t : CT := fun Q E fr H => lenIs 113 fr (slP fr 0 fun b0 => slPA fr 4 fun x0 => slI fr 7 .i64 fun size0 => outbox_Box_Next.J2 b0 x0 size0 (fun y5_0 H => Q .ret (mkF 113 [(4, (.pointer (some x0))), (5, (.bool y5_0))]) H) E H)
noncomputable def outbox_Box_Next.J2.plan : Plan := .go
theorem outbox_Box_Next.J2.pok : PlanOk Try.prog outbox_Box_Next.J2.plan (sub [1, 1, 0, 1, 0, 1] outbox_Box_Next.body) := by
  have e : PlanOk Try.prog outbox_Box_Next.J2.plan (sub [1, 1, 0, 1, 0, 1] outbox_Box_Next.body) = (True) := by kernel_rfl
  exact e.mpr trivial
theorem outbox_Box_Next.J2.eq (b0 : Option Addr) (x0 : Addr) (size0 : Int) (Q : Ex → Fr → Heap → Prop) (E : Value → Heap → Prop) (H : Heap) :
    outbox_Box_Next.J2.vc b0 x0 size0 (fun y5_0 H => Q .ret (mkF 113 [(4, (.pointer (some x0))), (5, (.bool y5_0))]) H) E H = keepT [] [4, 5] (fun i => []) (wC Try.prog outbox_Box_Next.Γ outbox_Box_Next.J2.plan (sub [1, 1, 0, 1, 0, 1] outbox_Box_Next.body)) Q E (mkF 113 [(0, (.pointer b0)), (4, (.pointer (some x0))), (7, (.int .i64 size0))]) H := by
  kernel_rfl
theorem outbox_Box_Next.J2.ok : SoundCode Try.prog (sub [1, 1, 0, 1, 0, 1] outbox_Box_Next.body) outbox_Box_Next.J2.t := by
  refine piece_sound (keepT_sound [] [4, 5] (fun i => []) (wC_sound outbox_Box_Next.hΓ Try.hm outbox_Box_Next.J2.plan _ outbox_Box_Next.J2.pok)) ?_
  intro Q E fr H h
  unfold outbox_Box_Next.J2.t at h
  obtain ⟨hl, h⟩ := lenIs_elim h
  obtain ⟨b0, q0, h⟩ := slP_elim h
  obtain ⟨x0, q4, h⟩ := slPA_elim h
  obtain ⟨size0, q7, h⟩ := slI_elim h
  refine ⟨(mkF 113 [(0, (.pointer b0)), (4, (.pointer (some x0))), (7, (.int .i64 size0))]), fun a ha => ha.mk (Nat.le_of_eq hl.symm) (List.forall_mem_cons.2 ⟨q0, List.forall_mem_cons.2 ⟨q4, List.forall_mem_cons.2 ⟨q7, fun _ h => nomatch h⟩⟩⟩), ?_⟩
  have e := outbox_Box_Next.J2.eq b0 x0 size0 Q E H
  rw [← e]
  exact h.h
def outbox_Box_Next.J4.t : CT := fun Q E fr H => lenIs 113 fr (slP fr 0 fun b0 => slI fr 1 .i64 fun most0 => slPA fr 4 fun x0 => slI fr 6 .i64 fun at0 => slI fr 7 .i64 fun size0 => slI fr 8 .i64 fun end0 => outbox_Box_Next.J4 b0 most0 x0 at0 size0 end0 (fun y8_0 H => Q .normal (mkF 113 [(0, (.pointer b0)), (1, (.int .i64 most0)), (4, (.pointer (some x0))), (6, (.int .i64 at0)), (7, (.int .i64 size0)), (8, (.int .i64 y8_0))]) H) E H)
noncomputable def outbox_Box_Next.J4.plan : Plan := .go
theorem outbox_Box_Next.J4.pok : PlanOk Try.prog outbox_Box_Next.J4.plan (sub [1, 1, 1, 1, 0, 0, 0, 1] outbox_Box_Next.body) := by
  have e : PlanOk Try.prog outbox_Box_Next.J4.plan (sub [1, 1, 1, 1, 0, 0, 0, 1] outbox_Box_Next.body) = (True) := by kernel_rfl
  exact e.mpr trivial
theorem outbox_Box_Next.J4.eq (b0 : Option Addr) (most0 : Int) (x0 : Addr) (at0 : Int) (size0 : Int) (end0 : Int) (Q : Ex → Fr → Heap → Prop) (E : Value → Heap → Prop) (H : Heap) :
    outbox_Box_Next.J4.vc b0 most0 x0 at0 size0 end0 (fun y8_0 H => Q .normal (mkF 113 [(0, (.pointer b0)), (1, (.int .i64 most0)), (4, (.pointer (some x0))), (6, (.int .i64 at0)), (7, (.int .i64 size0)), (8, (.int .i64 y8_0))]) H) E H = keepT [0, 1, 4, 6, 7, 8] [] (fun i => []) (wC Try.prog outbox_Box_Next.Γ outbox_Box_Next.J4.plan (sub [1, 1, 1, 1, 0, 0, 0, 1] outbox_Box_Next.body)) Q E (mkF 113 [(0, (.pointer b0)), (1, (.int .i64 most0)), (4, (.pointer (some x0))), (6, (.int .i64 at0)), (7, (.int .i64 size0)), (8, (.int .i64 end0))]) H := by
  kernel_rfl
theorem outbox_Box_Next.J4.ok : SoundCode Try.prog (sub [1, 1, 1, 1, 0, 0, 0, 1] outbox_Box_Next.body) outbox_Box_Next.J4.t := by
  refine piece_sound (keepT_sound [0, 1, 4, 6, 7, 8] [] (fun i => []) (wC_sound outbox_Box_Next.hΓ Try.hm outbox_Box_Next.J4.plan _ outbox_Box_Next.J4.pok)) ?_
  intro Q E fr H h
  unfold outbox_Box_Next.J4.t at h
  obtain ⟨hl, h⟩ := lenIs_elim h
  obtain ⟨b0, q0, h⟩ := slP_elim h
  obtain ⟨most0, q1, h⟩ := slI_elim h
  obtain ⟨x0, q4, h⟩ := slPA_elim h
  obtain ⟨at0, q6, h⟩ := slI_elim h
  obtain ⟨size0, q7, h⟩ := slI_elim h
  obtain ⟨end0, q8, h⟩ := slI_elim h
  refine ⟨(mkF 113 [(0, (.pointer b0)), (1, (.int .i64 most0)), (4, (.pointer (some x0))), (6, (.int .i64 at0)), (7, (.int .i64 size0)), (8, (.int .i64 end0))]), fun a ha => ha.mk (Nat.le_of_eq hl.symm) (List.forall_mem_cons.2 ⟨q0, List.forall_mem_cons.2 ⟨q1, List.forall_mem_cons.2 ⟨q4, List.forall_mem_cons.2 ⟨q6, List.forall_mem_cons.2 ⟨q7, List.forall_mem_cons.2 ⟨q8, fun _ h => nomatch h⟩⟩⟩⟩⟩⟩), ?_⟩
  have e := outbox_Box_Next.J4.eq b0 most0 x0 at0 size0 end0 Q E H
  rw [← e]
  exact h.h
def outbox_Box_Next.W3.t : CT := fun Q E fr H => lenIs 113 fr (slP fr 0 fun b0 => slI fr 1 .i64 fun most0 => slPA fr 4 fun x0 => slI fr 6 .i64 fun at0 => slI fr 7 .i64 fun size0 => slI fr 8 .i64 fun end0 => outbox_Box_Next.W3 b0 most0 x0 at0 size0 end0 (fun y8_0 H => Q (.exit 0) (mkF 113 [(0, (.pointer b0)), (4, (.pointer (some x0))), (6, (.int .i64 at0)), (7, (.int .i64 size0)), (8, (.int .i64 y8_0))]) H) E H)
noncomputable def outbox_Box_Next.W3.plan : Plan := .seq (.go) (.use outbox_Box_Next.J4.t)
theorem outbox_Box_Next.W3.pok : PlanOk Try.prog outbox_Box_Next.W3.plan (sub [1, 1, 1, 1, 0, 0, 0] outbox_Box_Next.body) := by
  have e : PlanOk Try.prog outbox_Box_Next.W3.plan (sub [1, 1, 1, 1, 0, 0, 0] outbox_Box_Next.body) = ((True) ∧ (SoundCode Try.prog (sub [1, 1, 1, 1, 0, 0, 0, 1] outbox_Box_Next.body) outbox_Box_Next.J4.t)) := by kernel_rfl
  exact e.mpr ⟨trivial, outbox_Box_Next.J4.ok⟩
theorem outbox_Box_Next.W3.eq (b0 : Option Addr) (most0 : Int) (x0 : Addr) (at0 : Int) (size0 : Int) (Q : Ex → Fr → Heap → Prop) (E : Value → Heap → Prop) (RR : Fr → Heap → Prop) (s : Int) (H : Heap) :
    (fun (RR : Int → Heap → Prop) (s : Int) (H : Heap) => outbox_Box_Next.W3.vc b0 most0 x0 at0 size0 s (fun y8_0 H => Q (.exit 0) (mkF 113 [(0, (.pointer b0)), (4, (.pointer (some x0))), (6, (.int .i64 at0)), (7, (.int .i64 size0)), (8, (.int .i64 y8_0))]) H) (fun end0 H => RR (end0) H) E H) (fun s' H' => RR ((fun (s : Int) => (mkF 113 [(0, (.pointer b0)), (1, (.int .i64 most0)), (4, (.pointer (some x0))), (6, (.int .i64 at0)), (7, (.int .i64 size0)), (8, (.int .i64 s))])) s') H') s H = keepT [0, 1, 4, 6, 7, 8] [] (fun i => if i = 0 then [0, 4, 6, 7, 8] else []) (wC Try.prog outbox_Box_Next.Γ outbox_Box_Next.W3.plan (sub [1, 1, 1, 1, 0, 0, 0] outbox_Box_Next.body)) (fun e fr' H' => match e with | .normal => RR fr' H' | .exit id => Q (.exit id) fr' H' | .ret => Q .ret fr' H') E ((fun (s : Int) => (mkF 113 [(0, (.pointer b0)), (1, (.int .i64 most0)), (4, (.pointer (some x0))), (6, (.int .i64 at0)), (7, (.int .i64 size0)), (8, (.int .i64 s))])) s) H := by
  kernel_rfl
theorem outbox_Box_Next.W3.ok : SoundCode Try.prog (sub [1, 1, 1, 1, 0, 0] outbox_Box_Next.body) outbox_Box_Next.W3.t := by
  have e : (sub [1, 1, 1, 1, 0, 0] outbox_Box_Next.body) = .loop (sub [1, 1, 1, 1, 0, 0, 0] outbox_Box_Next.body) := by kernel_rfl
  rw [e]
  refine piece_sound (loopN_sound (keepT_sound [0, 1, 4, 6, 7, 8] [] (fun i => if i = 0 then [0, 4, 6, 7, 8] else []) (wC_sound outbox_Box_Next.hΓ Try.hm outbox_Box_Next.W3.plan _ outbox_Box_Next.W3.pok))) ?_
  intro Q E fr H h
  unfold outbox_Box_Next.W3.t at h
  obtain ⟨hl, h⟩ := lenIs_elim h
  obtain ⟨b0, q0, h⟩ := slP_elim h
  obtain ⟨most0, q1, h⟩ := slI_elim h
  obtain ⟨x0, q4, h⟩ := slPA_elim h
  obtain ⟨at0, q6, h⟩ := slI_elim h
  obtain ⟨size0, q7, h⟩ := slI_elim h
  obtain ⟨end0, q8, h⟩ := slI_elim h
  obtain ⟨m, h⟩ := h.h
  refine ⟨(mkF 113 [(0, (.pointer b0)), (1, (.int .i64 most0)), (4, (.pointer (some x0))), (6, (.int .i64 at0)), (7, (.int .i64 size0)), (8, (.int .i64 end0))]), fun a ha => ha.mk (Nat.le_of_eq hl.symm) (List.forall_mem_cons.2 ⟨q0, List.forall_mem_cons.2 ⟨q1, List.forall_mem_cons.2 ⟨q4, List.forall_mem_cons.2 ⟨q6, List.forall_mem_cons.2 ⟨q7, List.forall_mem_cons.2 ⟨q8, fun _ h => nomatch h⟩⟩⟩⟩⟩⟩), m, ?_⟩
  have e := loopS_eq (B := (fun (RR : Int → Heap → Prop) (s : Int) (H : Heap) => outbox_Box_Next.W3.vc b0 most0 x0 at0 size0 s (fun y8_0 H => Q (.exit 0) (mkF 113 [(0, (.pointer b0)), (4, (.pointer (some x0))), (6, (.int .i64 at0)), (7, (.int .i64 size0)), (8, (.int .i64 y8_0))]) H) (fun end0 H => RR (end0) H) E H)) (A := keepT [0, 1, 4, 6, 7, 8] [] (fun i => if i = 0 then [0, 4, 6, 7, 8] else []) (wC Try.prog outbox_Box_Next.Γ outbox_Box_Next.W3.plan (sub [1, 1, 1, 1, 0, 0, 0] outbox_Box_Next.body))) (m := (fun (s : Int) => (mkF 113 [(0, (.pointer b0)), (1, (.int .i64 most0)), (4, (.pointer (some x0))), (6, (.int .i64 at0)), (7, (.int .i64 size0)), (8, (.int .i64 s))]))) (Q := Q) (E := E) (fun RR s H => outbox_Box_Next.W3.eq b0 most0 x0 at0 size0 Q E RR s H) m (end0) H
  exact cast e h
def outbox_Box_Next.J6.t : CT := fun Q E fr H => lenIs 113 fr (slP fr 0 fun b0 => slPA fr 4 fun x0 => slPA fr 9 fun p0 => slB fr 108 fun x1 => outbox_Box_Next.J6 b0 x0 p0 x1 (fun  H => Q .normal (mkF 113 [(4, (.pointer (some x0))), (9, (.pointer (some p0)))]) H) E H)
noncomputable def outbox_Box_Next.J6.plan : Plan := .go
theorem outbox_Box_Next.J6.pok : PlanOk Try.prog outbox_Box_Next.J6.plan (sub [1, 1, 1, 1, 1, 1, 1, 0, 1] outbox_Box_Next.body) := by
  have e : PlanOk Try.prog outbox_Box_Next.J6.plan (sub [1, 1, 1, 1, 1, 1, 1, 0, 1] outbox_Box_Next.body) = (True) := by kernel_rfl
  exact e.mpr trivial
theorem outbox_Box_Next.J6.eq (b0 : Option Addr) (x0 : Addr) (p0 : Addr) (x1 : Bool) (Q : Ex → Fr → Heap → Prop) (E : Value → Heap → Prop) (H : Heap) :
    outbox_Box_Next.J6.vc b0 x0 p0 x1 (fun  H => Q .normal (mkF 113 [(4, (.pointer (some x0))), (9, (.pointer (some p0)))]) H) E H = keepT [4, 9] [] (fun i => []) (wC Try.prog outbox_Box_Next.Γ outbox_Box_Next.J6.plan (sub [1, 1, 1, 1, 1, 1, 1, 0, 1] outbox_Box_Next.body)) Q E (mkF 113 [(0, (.pointer b0)), (4, (.pointer (some x0))), (9, (.pointer (some p0))), (108, (.bool x1))]) H := by
  kernel_rfl
theorem outbox_Box_Next.J6.ok : SoundCode Try.prog (sub [1, 1, 1, 1, 1, 1, 1, 0, 1] outbox_Box_Next.body) outbox_Box_Next.J6.t := by
  refine piece_sound (keepT_sound [4, 9] [] (fun i => []) (wC_sound outbox_Box_Next.hΓ Try.hm outbox_Box_Next.J6.plan _ outbox_Box_Next.J6.pok)) ?_
  intro Q E fr H h
  unfold outbox_Box_Next.J6.t at h
  obtain ⟨hl, h⟩ := lenIs_elim h
  obtain ⟨b0, q0, h⟩ := slP_elim h
  obtain ⟨x0, q4, h⟩ := slPA_elim h
  obtain ⟨p0, q9, h⟩ := slPA_elim h
  obtain ⟨x1, q108, h⟩ := slB_elim h
  refine ⟨(mkF 113 [(0, (.pointer b0)), (4, (.pointer (some x0))), (9, (.pointer (some p0))), (108, (.bool x1))]), fun a ha => ha.mk (Nat.le_of_eq hl.symm) (List.forall_mem_cons.2 ⟨q0, List.forall_mem_cons.2 ⟨q4, List.forall_mem_cons.2 ⟨q9, List.forall_mem_cons.2 ⟨q108, fun _ h => nomatch h⟩⟩⟩⟩), ?_⟩
  have e := outbox_Box_Next.J6.eq b0 x0 p0 x1 Q E H
  rw [← e]
  exact h.h
def outbox_Box_Next.J7.t : CT := fun Q E fr H => lenIs 113 fr (slPA fr 4 fun x0 => slPA fr 9 fun p0 => outbox_Box_Next.J7 x0 p0 (fun y5_0 H => Q .ret (mkF 113 [(4, (.pointer (some x0))), (5, (.bool y5_0))]) H) E H)
noncomputable def outbox_Box_Next.J7.plan : Plan := .go
theorem outbox_Box_Next.J7.pok : PlanOk Try.prog outbox_Box_Next.J7.plan (sub [1, 1, 1, 1, 1, 1, 1, 1] outbox_Box_Next.body) := by
  have e : PlanOk Try.prog outbox_Box_Next.J7.plan (sub [1, 1, 1, 1, 1, 1, 1, 1] outbox_Box_Next.body) = (True) := by kernel_rfl
  exact e.mpr trivial
theorem outbox_Box_Next.J7.eq (x0 : Addr) (p0 : Addr) (Q : Ex → Fr → Heap → Prop) (E : Value → Heap → Prop) (H : Heap) :
    outbox_Box_Next.J7.vc x0 p0 (fun y5_0 H => Q .ret (mkF 113 [(4, (.pointer (some x0))), (5, (.bool y5_0))]) H) E H = keepT [] [4, 5] (fun i => []) (wC Try.prog outbox_Box_Next.Γ outbox_Box_Next.J7.plan (sub [1, 1, 1, 1, 1, 1, 1, 1] outbox_Box_Next.body)) Q E (mkF 113 [(4, (.pointer (some x0))), (9, (.pointer (some p0)))]) H := by
  kernel_rfl
theorem outbox_Box_Next.J7.ok : SoundCode Try.prog (sub [1, 1, 1, 1, 1, 1, 1, 1] outbox_Box_Next.body) outbox_Box_Next.J7.t := by
  refine piece_sound (keepT_sound [] [4, 5] (fun i => []) (wC_sound outbox_Box_Next.hΓ Try.hm outbox_Box_Next.J7.plan _ outbox_Box_Next.J7.pok)) ?_
  intro Q E fr H h
  unfold outbox_Box_Next.J7.t at h
  obtain ⟨hl, h⟩ := lenIs_elim h
  obtain ⟨x0, q4, h⟩ := slPA_elim h
  obtain ⟨p0, q9, h⟩ := slPA_elim h
  refine ⟨(mkF 113 [(4, (.pointer (some x0))), (9, (.pointer (some p0)))]), fun a ha => ha.mk (Nat.le_of_eq hl.symm) (List.forall_mem_cons.2 ⟨q4, List.forall_mem_cons.2 ⟨q9, fun _ h => nomatch h⟩⟩), ?_⟩
  have e := outbox_Box_Next.J7.eq x0 p0 Q E H
  rw [← e]
  exact h.h
def outbox_Box_Next.J5.t : CT := fun Q E fr H => lenIs 113 fr (slP fr 0 fun b0 => slPA fr 4 fun x0 => slPA fr 9 fun p0 => outbox_Box_Next.J5 b0 x0 p0 (fun y5_0 H => Q .ret (mkF 113 [(4, (.pointer (some x0))), (5, (.bool y5_0))]) H) E H)
noncomputable def outbox_Box_Next.J5.plan : Plan := .seq (.seq (.go) (.use outbox_Box_Next.J6.t)) (.use outbox_Box_Next.J7.t)
theorem outbox_Box_Next.J5.pok : PlanOk Try.prog outbox_Box_Next.J5.plan (sub [1, 1, 1, 1, 1, 1, 1] outbox_Box_Next.body) := by
  have e : PlanOk Try.prog outbox_Box_Next.J5.plan (sub [1, 1, 1, 1, 1, 1, 1] outbox_Box_Next.body) = (((True) ∧ (SoundCode Try.prog (sub [1, 1, 1, 1, 1, 1, 1, 0, 1] outbox_Box_Next.body) outbox_Box_Next.J6.t)) ∧ (SoundCode Try.prog (sub [1, 1, 1, 1, 1, 1, 1, 1] outbox_Box_Next.body) outbox_Box_Next.J7.t)) := by kernel_rfl
  exact e.mpr ⟨⟨trivial, outbox_Box_Next.J6.ok⟩, outbox_Box_Next.J7.ok⟩
theorem outbox_Box_Next.J5.eq (b0 : Option Addr) (x0 : Addr) (p0 : Addr) (Q : Ex → Fr → Heap → Prop) (E : Value → Heap → Prop) (H : Heap) :
    outbox_Box_Next.J5.vc b0 x0 p0 (fun y5_0 H => Q .ret (mkF 113 [(4, (.pointer (some x0))), (5, (.bool y5_0))]) H) E H = keepT [] [4, 5] (fun i => []) (wC Try.prog outbox_Box_Next.Γ outbox_Box_Next.J5.plan (sub [1, 1, 1, 1, 1, 1, 1] outbox_Box_Next.body)) Q E (mkF 113 [(0, (.pointer b0)), (4, (.pointer (some x0))), (9, (.pointer (some p0)))]) H := by
  kernel_rfl
theorem outbox_Box_Next.J5.ok : SoundCode Try.prog (sub [1, 1, 1, 1, 1, 1, 1] outbox_Box_Next.body) outbox_Box_Next.J5.t := by
  refine piece_sound (keepT_sound [] [4, 5] (fun i => []) (wC_sound outbox_Box_Next.hΓ Try.hm outbox_Box_Next.J5.plan _ outbox_Box_Next.J5.pok)) ?_
  intro Q E fr H h
  unfold outbox_Box_Next.J5.t at h
  obtain ⟨hl, h⟩ := lenIs_elim h
  obtain ⟨b0, q0, h⟩ := slP_elim h
  obtain ⟨x0, q4, h⟩ := slPA_elim h
  obtain ⟨p0, q9, h⟩ := slPA_elim h
  refine ⟨(mkF 113 [(0, (.pointer b0)), (4, (.pointer (some x0))), (9, (.pointer (some p0)))]), fun a ha => ha.mk (Nat.le_of_eq hl.symm) (List.forall_mem_cons.2 ⟨q0, List.forall_mem_cons.2 ⟨q4, List.forall_mem_cons.2 ⟨q9, fun _ h => nomatch h⟩⟩⟩), ?_⟩
  have e := outbox_Box_Next.J5.eq b0 x0 p0 Q E H
  rw [← e]
  exact h.h
noncomputable def outbox_Box_Next.plan : Plan := .seq (.go) (.seq (.draw ⟨[0, 1, 2, 3, 4, 5, 6, 7], (dl [(0, []), (2, []), (3, []), (4, []), (5, []), (6, []), (1, [0]), (7, [])] .fin), [8]⟩) (.seq (.seq (.go) (.cond (.seq (.seq (.go) (.use outbox_Box_Next.J1.t)) (.use outbox_Box_Next.J2.t)) (.go))) (.seq (.go) (.seq (.block (.use outbox_Box_Next.W3.t)) (.seq (.go) (.seq (.draw ⟨[0, 1, 2, 3, 4, 5, 6, 7, 8, 9, 10, 11, 12, 13, 14, 15, 16, 17, 18, 19, 20, 21], (dl [(0, []), (1, []), (2, []), (3, []), (4, []), (5, []), (6, []), (7, []), (8, []), (9, []), (10, []), (11, []), (12, []), (13, []), (14, []), (15, []), (16, []), (17, []), (18, []), (19, []), (20, []), (21, [20, 19, 12, 0, 1, 2, 3, 4, 5, 6, 7, 8, 9, 10, 11, 13, 14, 15, 16, 17, 18])] .fin), []⟩) (.use outbox_Box_Next.J5.t)))))))
theorem outbox_Box_Next.pok : PlanOk Try.prog outbox_Box_Next.plan outbox_Box_Next.body := by
  have e : PlanOk Try.prog outbox_Box_Next.plan outbox_Box_Next.body = ((True) ∧ ((True) ∧ (((True) ∧ ((((True) ∧ (SoundCode Try.prog (sub [1, 1, 0, 1, 0, 0, 1] outbox_Box_Next.body) outbox_Box_Next.J1.t)) ∧ (SoundCode Try.prog (sub [1, 1, 0, 1, 0, 1] outbox_Box_Next.body) outbox_Box_Next.J2.t)) ∧ (True))) ∧ ((True) ∧ ((SoundCode Try.prog (sub [1, 1, 1, 1, 0, 0] outbox_Box_Next.body) outbox_Box_Next.W3.t) ∧ ((True) ∧ ((True) ∧ (SoundCode Try.prog (sub [1, 1, 1, 1, 1, 1, 1] outbox_Box_Next.body) outbox_Box_Next.J5.t)))))))) := by kernel_rfl
  exact e.mpr ⟨trivial, ⟨trivial, ⟨⟨trivial, ⟨⟨⟨trivial, outbox_Box_Next.J1.ok⟩, outbox_Box_Next.J2.ok⟩, trivial⟩⟩, ⟨trivial, ⟨outbox_Box_Next.W3.ok, ⟨trivial, ⟨trivial, outbox_Box_Next.J5.ok⟩⟩⟩⟩⟩⟩⟩
theorem outbox_Box_Next.eq (b0 : Option Addr) (most0 : Int) (K : Value → Heap → Prop) (E : Value → Heap → Prop) (H : Heap) :
    fnT Try.prog Try.f43 (wC Try.prog outbox_Box_Next.Γ outbox_Box_Next.plan outbox_Box_Next.body) [(.pointer b0), (.int .i64 most0)] K E H = outbox_Box_Next.vc b0 most0 (fun r0_0 r0_1 r0_2 r1_0 H => K (.tuple #[(.agg #[(.int .i64 r0_0), (.string r0_1), (.bool r0_2)]), (.bool r1_0)]) H) E H := by
  kernel_rfl
theorem outbox_Box_Next.Fe {args : List Value} {K E : Value → Heap → Prop} {H : Heap} (h : outbox_Box_Next.F args K E H) : ∃ b0 most0, args = [(.pointer b0), (.int .i64 most0)] ∧ outbox_Box_Next.c b0 most0 (fun r0_0 r0_1 r0_2 r1_0 H => K (.tuple #[(.agg #[(.int .i64 r0_0), (.string r0_1), (.bool r0_2)]), (.bool r1_0)]) H) E H := by
  unfold outbox_Box_Next.F at h
  split at h
  · exact ⟨_, _, rfl, h⟩
  · exact h.elim
theorem outbox_Box_Next.ok : CalleeOk Try.prog 43 outbox_Box_Next.F :=
  callee_ok outbox_Box_Next.hΓ (fn := Try.f43) (c := outbox_Box_Next.body) (T := wC Try.prog outbox_Box_Next.Γ outbox_Box_Next.plan outbox_Box_Next.body) (by kernel_rfl) (by kernel_rfl) (by kernel_rfl) (wC_sound outbox_Box_Next.hΓ Try.hm outbox_Box_Next.plan _ outbox_Box_Next.pok) fun _ K E H h => by
    obtain ⟨z0, z1, e, h⟩ := outbox_Box_Next.Fe h
    subst e
    have h2 : outbox_Box_Next.vc z0 z1 (fun r0_0 r0_1 r0_2 r1_0 H => ∃ H', Heap.Le H' H ∧ K (.tuple #[(.agg #[(.int .i64 r0_0), (.string r0_1), (.bool r0_2)]), (.bool r1_0)]) H') E H := h.h
    rw [outbox_Box_Next.eq z0 z1 (Fg K) E H]
    exact h2

/-! (*vizard/outbox.Box).Lost -/
noncomputable def outbox_Box_Lost.body : Code := Try.f44.body.getD .skip
def outbox_Box_Lost.J2.vc (b0 : Option Addr) (p0 : Addr) (x0 : Int) (x1 : Int) (Kn : Int → Heap → Prop) (E : Value → Heap → Prop) (h0 : Heap) : Prop :=
  Kn (IntKind.i64.wrap (x1 + 1)) h0
structure outbox_Box_Lost.J2 (b0 : Option Addr) (p0 : Addr) (x0 : Int) (x1 : Int) (Kn : Int → Heap → Prop) (E : Value → Heap → Prop) (H : Heap) : Prop where
  h : outbox_Box_Lost.J2.vc b0 p0 x0 x1 Kn E H
def outbox_Box_Lost.W1.vc (b0 : Option Addr) (p0 : Addr) (x0 : Int) (x1 : Int) (Kx0 : Heap → Prop) (RR : Int → Heap → Prop) (E : Value → Heap → Prop) (h0 : Heap) : Prop :=
  (if (decide (x1 < x0)) = true then
  nilc b0 fun a0 =>
  ldSl h0 (a0.add 1) fun x2 x3 x4 =>
  ldI h0 .i64 (p0.add 0) fun x5 =>
  nilc x2 fun a1 => (0 : Int) ≤ (IntKind.i64.wrap (x5 + x1)) ∧ (IntKind.i64.wrap (x5 + x1)) < (x3 : Int) ∧
  nilc (some (a1.add ((IntKind.i64.wrap (x5 + x1)).toNat * 1))) fun a2 =>
  ldI h0 .u8 a2 fun x6 =>
  (if (x6 != 2) = true then
  nilc (some (a1.add ((IntKind.i64.wrap (x5 + x1)).toNat * 1))) fun a3 =>
  stc h0 a3 (.int .u8 0) fun h1 =>
  outbox_Box_Lost.J2 b0 p0 x0 x1 RR E h1
  else
  outbox_Box_Lost.J2 b0 p0 x0 x1 RR E h0)
  else
  Kx0 h0)
structure outbox_Box_Lost.W1 (b0 : Option Addr) (p0 : Addr) (x0 : Int) (x1 : Int) (Kx0 : Heap → Prop) (E : Value → Heap → Prop) (H : Heap) : Prop where
  h : Loop (fun (RR : Int → Heap → Prop) (s : Int) (H : Heap) => outbox_Box_Lost.W1.vc b0 p0 x0 s Kx0 (fun x1 H => RR (x1) H) E H) (x1) H
def outbox_Box_Lost.J3.vc (b0 : Option Addr) (x0 : Bool) (Kn : Heap → Prop) (E : Value → Heap → Prop) (h0 : Heap) : Prop :=
  (if x0 = true then
  nilc b0 fun a0 =>
  stc h0 (a0.add 2) (.int .u8 0) fun h1 =>
  Kn h1
  else
  Kn h0)
structure outbox_Box_Lost.J3 (b0 : Option Addr) (x0 : Bool) (Kn : Heap → Prop) (E : Value → Heap → Prop) (H : Heap) : Prop where
  h : outbox_Box_Lost.J3.vc b0 x0 Kn E H
def outbox_Box_Lost.vc (b0 : Option Addr) (p0 : Int) (p1 : ByteArray) (p2 : Bool) (K : Heap → Prop) (E : Value → Heap → Prop) (h0 : Heap) : Prop :=
  newB (.cells #[(.int .i64 p0), (.string p1), (.bool p2)] 72) (fun b1 h1 =>
  ldS h1 ((⟨b1, 0, none⟩ : Addr).add 1) fun x0 =>
  outbox_Box_Lost.W1 b0 (⟨b1, 0, none⟩ : Addr) (x0.size : Int) 0 (fun h2 =>
  ldB h2 ((⟨b1, 0, none⟩ : Addr).add 2) fun x1 =>
  (if x1 = true then
  nilc b0 fun a0 =>
  ldI h2 .u8 (a0.add 2) fun x2 =>
  outbox_Box_Lost.J3 b0 (x2 != 2) K E h2
  else
  outbox_Box_Lost.J3 b0 false K E h2)) E h1) h0
structure outbox_Box_Lost.c (b0 : Option Addr) (p0 : Int) (p1 : ByteArray) (p2 : Bool) (K : Heap → Prop) (E : Value → Heap → Prop) (H : Heap) : Prop where
  h : outbox_Box_Lost.vc b0 p0 p1 p2 (fun  H => ∃ H', Heap.Le H' H ∧ K  H') E H
def outbox_Box_Lost.F : FT := fun args K E H => match args with
  | [(.pointer b0), (.agg ⟨[(.int .i64 p0), (.string p1), (.bool p2)]⟩)] => outbox_Box_Lost.c b0 p0 p1 p2 (fun  H => K (.tuple #[]) H) E H
  | _ => False
noncomputable def outbox_Box_Lost.Γ : FuncId → Option FT := Γof []
theorem outbox_Box_Lost.hΓ : ∀ f F, outbox_Box_Lost.Γ f = some F → CalleeOk Try.prog f F := Γof_ok (fun _ h => nomatch h)
def outbox_Box_Lost.J2.t : CT := fun Q E fr H => lenIs 40 fr (slP fr 0 fun b0 => slPA fr 3 fun p0 => slI fr 8 .i64 fun x0 => slI fr 9 .i64 fun x1 => outbox_Box_Lost.J2 b0 p0 x0 x1 (fun y9_0 H => Q .normal (mkF 40 [(0, (.pointer b0)), (3, (.pointer (some p0))), (8, (.int .i64 x0)), (9, (.int .i64 y9_0))]) H) E H)
noncomputable def outbox_Box_Lost.J2.plan : Plan := .go
theorem outbox_Box_Lost.J2.pok : PlanOk Try.prog outbox_Box_Lost.J2.plan (sub [1, 0, 1, 0, 0, 1, 1, 1] outbox_Box_Lost.body) := by
  have e : PlanOk Try.prog outbox_Box_Lost.J2.plan (sub [1, 0, 1, 0, 0, 1, 1, 1] outbox_Box_Lost.body) = (True) := by kernel_rfl
  exact e.mpr trivial
theorem outbox_Box_Lost.J2.eq (b0 : Option Addr) (p0 : Addr) (x0 : Int) (x1 : Int) (Q : Ex → Fr → Heap → Prop) (E : Value → Heap → Prop) (H : Heap) :
    outbox_Box_Lost.J2.vc b0 p0 x0 x1 (fun y9_0 H => Q .normal (mkF 40 [(0, (.pointer b0)), (3, (.pointer (some p0))), (8, (.int .i64 x0)), (9, (.int .i64 y9_0))]) H) E H = keepT [0, 3, 8, 9] [] (fun i => []) (wC Try.prog outbox_Box_Lost.Γ outbox_Box_Lost.J2.plan (sub [1, 0, 1, 0, 0, 1, 1, 1] outbox_Box_Lost.body)) Q E (mkF 40 [(0, (.pointer b0)), (3, (.pointer (some p0))), (8, (.int .i64 x0)), (9, (.int .i64 x1))]) H := by
  kernel_rfl
theorem outbox_Box_Lost.J2.ok : SoundCode Try.prog (sub [1, 0, 1, 0, 0, 1, 1, 1] outbox_Box_Lost.body) outbox_Box_Lost.J2.t := by
  refine piece_sound (keepT_sound [0, 3, 8, 9] [] (fun i => []) (wC_sound outbox_Box_Lost.hΓ Try.hm outbox_Box_Lost.J2.plan _ outbox_Box_Lost.J2.pok)) ?_
  intro Q E fr H h
  unfold outbox_Box_Lost.J2.t at h
  obtain ⟨hl, h⟩ := lenIs_elim h
  obtain ⟨b0, q0, h⟩ := slP_elim h
  obtain ⟨p0, q3, h⟩ := slPA_elim h
  obtain ⟨x0, q8, h⟩ := slI_elim h
  obtain ⟨x1, q9, h⟩ := slI_elim h
  refine ⟨(mkF 40 [(0, (.pointer b0)), (3, (.pointer (some p0))), (8, (.int .i64 x0)), (9, (.int .i64 x1))]), fun a ha => ha.mk (Nat.le_of_eq hl.symm) (List.forall_mem_cons.2 ⟨q0, List.forall_mem_cons.2 ⟨q3, List.forall_mem_cons.2 ⟨q8, List.forall_mem_cons.2 ⟨q9, fun _ h => nomatch h⟩⟩⟩⟩), ?_⟩
  have e := outbox_Box_Lost.J2.eq b0 p0 x0 x1 Q E H
  rw [← e]
  exact h.h
def outbox_Box_Lost.W1.t : CT := fun Q E fr H => lenIs 40 fr (slP fr 0 fun b0 => slPA fr 3 fun p0 => slI fr 8 .i64 fun x0 => slI fr 9 .i64 fun x1 => outbox_Box_Lost.W1 b0 p0 x0 x1 (fun  H => Q (.exit 0) (mkF 40 [(0, (.pointer b0)), (3, (.pointer (some p0)))]) H) E H)
noncomputable def outbox_Box_Lost.W1.plan : Plan := .seq (.go) (.seq (.go) (.seq (.block (.seq (.go) (.seq (.draw ⟨[0, 1, 2, 3, 4, 5, 6, 7, 8], (dl [(0, []), (1, []), (2, []), (3, []), (4, []), (5, []), (6, []), (7, []), (8, [])] .fin), [9]⟩) (.go)))) (.use outbox_Box_Lost.J2.t)))
theorem outbox_Box_Lost.W1.pok : PlanOk Try.prog outbox_Box_Lost.W1.plan (sub [1, 0, 1, 0, 0] outbox_Box_Lost.body) := by
  have e : PlanOk Try.prog outbox_Box_Lost.W1.plan (sub [1, 0, 1, 0, 0] outbox_Box_Lost.body) = ((True) ∧ ((True) ∧ (((True) ∧ ((True) ∧ (True))) ∧ (SoundCode Try.prog (sub [1, 0, 1, 0, 0, 1, 1, 1] outbox_Box_Lost.body) outbox_Box_Lost.J2.t)))) := by kernel_rfl
  exact e.mpr ⟨trivial, ⟨trivial, ⟨⟨trivial, ⟨trivial, trivial⟩⟩, outbox_Box_Lost.J2.ok⟩⟩⟩
theorem outbox_Box_Lost.W1.eq (b0 : Option Addr) (p0 : Addr) (x0 : Int) (Q : Ex → Fr → Heap → Prop) (E : Value → Heap → Prop) (RR : Fr → Heap → Prop) (s : Int) (H : Heap) :
    (fun (RR : Int → Heap → Prop) (s : Int) (H : Heap) => outbox_Box_Lost.W1.vc b0 p0 x0 s (fun  H => Q (.exit 0) (mkF 40 [(0, (.pointer b0)), (3, (.pointer (some p0)))]) H) (fun x1 H => RR (x1) H) E H) (fun s' H' => RR ((fun (s : Int) => (mkF 40 [(0, (.pointer b0)), (3, (.pointer (some p0))), (8, (.int .i64 x0)), (9, (.int .i64 s))])) s') H') s H = keepT [0, 3, 8, 9] [] (fun i => if i = 0 then [0, 3] else []) (wC Try.prog outbox_Box_Lost.Γ outbox_Box_Lost.W1.plan (sub [1, 0, 1, 0, 0] outbox_Box_Lost.body)) (fun e fr' H' => match e with | .normal => RR fr' H' | .exit id => Q (.exit id) fr' H' | .ret => Q .ret fr' H') E ((fun (s : Int) => (mkF 40 [(0, (.pointer b0)), (3, (.pointer (some p0))), (8, (.int .i64 x0)), (9, (.int .i64 s))])) s) H := by
  kernel_rfl
theorem outbox_Box_Lost.W1.ok : SoundCode Try.prog (sub [1, 0, 1, 0] outbox_Box_Lost.body) outbox_Box_Lost.W1.t := by
  have e : (sub [1, 0, 1, 0] outbox_Box_Lost.body) = .loop (sub [1, 0, 1, 0, 0] outbox_Box_Lost.body) := by kernel_rfl
  rw [e]
  refine piece_sound (loopN_sound (keepT_sound [0, 3, 8, 9] [] (fun i => if i = 0 then [0, 3] else []) (wC_sound outbox_Box_Lost.hΓ Try.hm outbox_Box_Lost.W1.plan _ outbox_Box_Lost.W1.pok))) ?_
  intro Q E fr H h
  unfold outbox_Box_Lost.W1.t at h
  obtain ⟨hl, h⟩ := lenIs_elim h
  obtain ⟨b0, q0, h⟩ := slP_elim h
  obtain ⟨p0, q3, h⟩ := slPA_elim h
  obtain ⟨x0, q8, h⟩ := slI_elim h
  obtain ⟨x1, q9, h⟩ := slI_elim h
  obtain ⟨m, h⟩ := h.h
  refine ⟨(mkF 40 [(0, (.pointer b0)), (3, (.pointer (some p0))), (8, (.int .i64 x0)), (9, (.int .i64 x1))]), fun a ha => ha.mk (Nat.le_of_eq hl.symm) (List.forall_mem_cons.2 ⟨q0, List.forall_mem_cons.2 ⟨q3, List.forall_mem_cons.2 ⟨q8, List.forall_mem_cons.2 ⟨q9, fun _ h => nomatch h⟩⟩⟩⟩), m, ?_⟩
  have e := loopS_eq (B := (fun (RR : Int → Heap → Prop) (s : Int) (H : Heap) => outbox_Box_Lost.W1.vc b0 p0 x0 s (fun  H => Q (.exit 0) (mkF 40 [(0, (.pointer b0)), (3, (.pointer (some p0)))]) H) (fun x1 H => RR (x1) H) E H)) (A := keepT [0, 3, 8, 9] [] (fun i => if i = 0 then [0, 3] else []) (wC Try.prog outbox_Box_Lost.Γ outbox_Box_Lost.W1.plan (sub [1, 0, 1, 0, 0] outbox_Box_Lost.body))) (m := (fun (s : Int) => (mkF 40 [(0, (.pointer b0)), (3, (.pointer (some p0))), (8, (.int .i64 x0)), (9, (.int .i64 s))]))) (Q := Q) (E := E) (fun RR s H => outbox_Box_Lost.W1.eq b0 p0 x0 Q E RR s H) m (x1) H
  exact cast e h
def outbox_Box_Lost.J3.t : CT := fun Q E fr H => lenIs 40 fr (slP fr 0 fun b0 => slB fr 36 fun x0 => outbox_Box_Lost.J3 b0 x0 (fun  H => Q .normal (mkF 40 []) H) E H)
noncomputable def outbox_Box_Lost.J3.plan : Plan := .go
theorem outbox_Box_Lost.J3.pok : PlanOk Try.prog outbox_Box_Lost.J3.plan (sub [1, 1, 1] outbox_Box_Lost.body) := by
  have e : PlanOk Try.prog outbox_Box_Lost.J3.plan (sub [1, 1, 1] outbox_Box_Lost.body) = (True) := by kernel_rfl
  exact e.mpr trivial
theorem outbox_Box_Lost.J3.eq (b0 : Option Addr) (x0 : Bool) (Q : Ex → Fr → Heap → Prop) (E : Value → Heap → Prop) (H : Heap) :
    outbox_Box_Lost.J3.vc b0 x0 (fun  H => Q .normal (mkF 40 []) H) E H = keepT [] [] (fun i => []) (wC Try.prog outbox_Box_Lost.Γ outbox_Box_Lost.J3.plan (sub [1, 1, 1] outbox_Box_Lost.body)) Q E (mkF 40 [(0, (.pointer b0)), (36, (.bool x0))]) H := by
  kernel_rfl
theorem outbox_Box_Lost.J3.ok : SoundCode Try.prog (sub [1, 1, 1] outbox_Box_Lost.body) outbox_Box_Lost.J3.t := by
  refine piece_sound (keepT_sound [] [] (fun i => []) (wC_sound outbox_Box_Lost.hΓ Try.hm outbox_Box_Lost.J3.plan _ outbox_Box_Lost.J3.pok)) ?_
  intro Q E fr H h
  unfold outbox_Box_Lost.J3.t at h
  obtain ⟨hl, h⟩ := lenIs_elim h
  obtain ⟨b0, q0, h⟩ := slP_elim h
  obtain ⟨x0, q36, h⟩ := slB_elim h
  refine ⟨(mkF 40 [(0, (.pointer b0)), (36, (.bool x0))]), fun a ha => ha.mk (Nat.le_of_eq hl.symm) (List.forall_mem_cons.2 ⟨q0, List.forall_mem_cons.2 ⟨q36, fun _ h => nomatch h⟩⟩), ?_⟩
  have e := outbox_Box_Lost.J3.eq b0 x0 Q E H
  rw [← e]
  exact h.h
noncomputable def outbox_Box_Lost.plan : Plan := .seq (.go) (.seq (.seq (.go) (.block (.use outbox_Box_Lost.W1.t))) (.seq (.go) (.use outbox_Box_Lost.J3.t)))
theorem outbox_Box_Lost.pok : PlanOk Try.prog outbox_Box_Lost.plan outbox_Box_Lost.body := by
  have e : PlanOk Try.prog outbox_Box_Lost.plan outbox_Box_Lost.body = ((True) ∧ (((True) ∧ (SoundCode Try.prog (sub [1, 0, 1, 0] outbox_Box_Lost.body) outbox_Box_Lost.W1.t)) ∧ ((True) ∧ (SoundCode Try.prog (sub [1, 1, 1] outbox_Box_Lost.body) outbox_Box_Lost.J3.t)))) := by kernel_rfl
  exact e.mpr ⟨trivial, ⟨⟨trivial, outbox_Box_Lost.W1.ok⟩, ⟨trivial, outbox_Box_Lost.J3.ok⟩⟩⟩
theorem outbox_Box_Lost.eq (b0 : Option Addr) (p0 : Int) (p1 : ByteArray) (p2 : Bool) (K : Value → Heap → Prop) (E : Value → Heap → Prop) (H : Heap) :
    fnT Try.prog Try.f44 (wC Try.prog outbox_Box_Lost.Γ outbox_Box_Lost.plan outbox_Box_Lost.body) [(.pointer b0), (.agg #[(.int .i64 p0), (.string p1), (.bool p2)])] K E H = outbox_Box_Lost.vc b0 p0 p1 p2 (fun  H => K (.tuple #[]) H) E H := by
  kernel_rfl
theorem outbox_Box_Lost.Fe {args : List Value} {K E : Value → Heap → Prop} {H : Heap} (h : outbox_Box_Lost.F args K E H) : ∃ b0 p0 p1 p2, args = [(.pointer b0), (.agg #[(.int .i64 p0), (.string p1), (.bool p2)])] ∧ outbox_Box_Lost.c b0 p0 p1 p2 (fun  H => K (.tuple #[]) H) E H := by
  unfold outbox_Box_Lost.F at h
  split at h
  · exact ⟨_, _, _, _, rfl, h⟩
  · exact h.elim
theorem outbox_Box_Lost.ok : CalleeOk Try.prog 44 outbox_Box_Lost.F :=
  callee_ok outbox_Box_Lost.hΓ (fn := Try.f44) (c := outbox_Box_Lost.body) (T := wC Try.prog outbox_Box_Lost.Γ outbox_Box_Lost.plan outbox_Box_Lost.body) (by kernel_rfl) (by kernel_rfl) (by kernel_rfl) (wC_sound outbox_Box_Lost.hΓ Try.hm outbox_Box_Lost.plan _ outbox_Box_Lost.pok) fun _ K E H h => by
    obtain ⟨z0, z1, z2, z3, e, h⟩ := outbox_Box_Lost.Fe h
    subst e
    have h2 : outbox_Box_Lost.vc z0 z1 z2 z3 (fun  H => ∃ H', Heap.Le H' H ∧ K (.tuple #[]) H') E H := h.h
    rw [outbox_Box_Lost.eq z0 z1 z2 z3 (Fg K) E H]
    exact h2

/-! (*vizard/outbox.Box).Acked -/
noncomputable def outbox_Box_Acked.body : Code := Try.f45.body.getD .skip
def outbox_Box_Acked.J2.vc (b0 : Option Addr) (p0 : Addr) (h0 : Addr) (x0 : Int) (x1 : Int) (Kn : Heap → Prop) (E : Value → Heap → Prop) (h1 : Heap) : Prop :=
  nilc (some h0) fun a0 =>
  stc h1 a0 (.int .u8 2) fun h2 =>
  Kn h2
structure outbox_Box_Acked.J2 (b0 : Option Addr) (p0 : Addr) (h0 : Addr) (x0 : Int) (x1 : Int) (Kn : Heap → Prop) (E : Value → Heap → Prop) (H : Heap) : Prop where
  h : outbox_Box_Acked.J2.vc b0 p0 h0 x0 x1 Kn E H
def outbox_Box_Acked.J3.vc (b0 : Option Addr) (p0 : Addr) (x0 : Int) (x1 : Int) (Kn : Int → Heap → Prop) (E : Value → Heap → Prop) (h0 : Heap) : Prop :=
  Kn (IntKind.i64.wrap (x1 + 1)) h0
structure outbox_Box_Acked.J3 (b0 : Option Addr) (p0 : Addr) (x0 : Int) (x1 : Int) (Kn : Int → Heap → Prop) (E : Value → Heap → Prop) (H : Heap) : Prop where
  h : outbox_Box_Acked.J3.vc b0 p0 x0 x1 Kn E H
def outbox_Box_Acked.W1.vc (b0 : Option Addr) (p0 : Addr) (x0 : Int) (x1 : Int) (Kx0 : Heap → Prop) (RR : Int → Heap → Prop) (E : Value → Heap → Prop) (h0 : Heap) : Prop :=
  (if (decide (x1 < x0)) = true then
  nilc b0 fun a0 =>
  ldSl h0 (a0.add 1) fun x2 x3 x4 =>
  ldI h0 .i64 (p0.add 0) fun x5 =>
  nilc x2 fun a1 => (0 : Int) ≤ (IntKind.i64.wrap (x5 + x1)) ∧ (IntKind.i64.wrap (x5 + x1)) < (x3 : Int) ∧
  nilc (some (a1.add ((IntKind.i64.wrap (x5 + x1)).toNat * 1))) fun a2 =>
  ldI h0 .u8 a2 fun x6 =>
  (if (x6 != 2) = true then
  nilc b0 fun a3 =>
  ldI h0 .i64 (a3.add 4) fun x7 =>
  nilc b0 fun a4 =>
  stc h0 (a4.add 4) (.int .i64 (IntKind.i64.wrap (x7 - 1))) fun h1 =>
  outbox_Box_Acked.J2 b0 p0 (a1.add ((IntKind.i64.wrap (x5 + x1)).toNat * 1)) x0 x1 (fun h2 =>
  outbox_Box_Acked.J3 b0 p0 x0 x1 RR E h2) E h1
  else
  outbox_Box_Acked.J2 b0 p0 (a1.add ((IntKind.i64.wrap (x5 + x1)).toNat * 1)) x0 x1 (fun h4 =>
  outbox_Box_Acked.J3 b0 p0 x0 x1 RR E h4) E h0)
  else
  Kx0 h0)
structure outbox_Box_Acked.W1 (b0 : Option Addr) (p0 : Addr) (x0 : Int) (x1 : Int) (Kx0 : Heap → Prop) (E : Value → Heap → Prop) (H : Heap) : Prop where
  h : Loop (fun (RR : Int → Heap → Prop) (s : Int) (H : Heap) => outbox_Box_Acked.W1.vc b0 p0 x0 s Kx0 (fun x1 H => RR (x1) H) E H) (x1) H
def outbox_Box_Acked.vc (b0 : Option Addr) (p0 : Int) (p1 : ByteArray) (p2 : Bool) (K : Heap → Prop) (E : Value → Heap → Prop) (h0 : Heap) : Prop :=
  newB (.cells #[(.int .i64 p0), (.string p1), (.bool p2)] 72) (fun b1 h1 =>
  ldS h1 ((⟨b1, 0, none⟩ : Addr).add 1) fun x0 =>
  outbox_Box_Acked.W1 b0 (⟨b1, 0, none⟩ : Addr) (x0.size : Int) 0 (fun h2 =>
  ldB h2 ((⟨b1, 0, none⟩ : Addr).add 2) fun x1 =>
  (if x1 = true then
  nilc b0 fun a0 =>
  stc h2 (a0.add 2) (.int .u8 2) fun h3 =>
  K h3
  else
  K h2)) E h1) h0
structure outbox_Box_Acked.c (b0 : Option Addr) (p0 : Int) (p1 : ByteArray) (p2 : Bool) (K : Heap → Prop) (E : Value → Heap → Prop) (H : Heap) : Prop where
  h : outbox_Box_Acked.vc b0 p0 p1 p2 (fun  H => ∃ H', Heap.Le H' H ∧ K  H') E H
def outbox_Box_Acked.F : FT := fun args K E H => match args with
  | [(.pointer b0), (.agg ⟨[(.int .i64 p0), (.string p1), (.bool p2)]⟩)] => outbox_Box_Acked.c b0 p0 p1 p2 (fun  H => K (.tuple #[]) H) E H
  | _ => False
noncomputable def outbox_Box_Acked.Γ : FuncId → Option FT := Γof []
theorem outbox_Box_Acked.hΓ : ∀ f F, outbox_Box_Acked.Γ f = some F → CalleeOk Try.prog f F := Γof_ok (fun _ h => nomatch h)
def outbox_Box_Acked.J2.t : CT := fun Q E fr H => lenIs 40 fr (slP fr 0 fun b0 => slPA fr 3 fun p0 => slPA fr 5 fun h0 => slI fr 8 .i64 fun x0 => slI fr 9 .i64 fun x1 => outbox_Box_Acked.J2 b0 p0 h0 x0 x1 (fun  H => Q .normal (mkF 40 [(0, (.pointer b0)), (3, (.pointer (some p0))), (8, (.int .i64 x0)), (9, (.int .i64 x1))]) H) E H)
noncomputable def outbox_Box_Acked.J2.plan : Plan := .go
theorem outbox_Box_Acked.J2.pok : PlanOk Try.prog outbox_Box_Acked.J2.plan (sub [1, 0, 1, 0, 0, 1, 1, 0, 0, 1, 1, 1] outbox_Box_Acked.body) := by
  have e : PlanOk Try.prog outbox_Box_Acked.J2.plan (sub [1, 0, 1, 0, 0, 1, 1, 0, 0, 1, 1, 1] outbox_Box_Acked.body) = (True) := by kernel_rfl
  exact e.mpr trivial
theorem outbox_Box_Acked.J2.eq (b0 : Option Addr) (p0 : Addr) (h0 : Addr) (x0 : Int) (x1 : Int) (Q : Ex → Fr → Heap → Prop) (E : Value → Heap → Prop) (H : Heap) :
    outbox_Box_Acked.J2.vc b0 p0 h0 x0 x1 (fun  H => Q .normal (mkF 40 [(0, (.pointer b0)), (3, (.pointer (some p0))), (8, (.int .i64 x0)), (9, (.int .i64 x1))]) H) E H = keepT [0, 3, 8, 9] [] (fun i => []) (wC Try.prog outbox_Box_Acked.Γ outbox_Box_Acked.J2.plan (sub [1, 0, 1, 0, 0, 1, 1, 0, 0, 1, 1, 1] outbox_Box_Acked.body)) Q E (mkF 40 [(0, (.pointer b0)), (3, (.pointer (some p0))), (5, (.pointer (some h0))), (8, (.int .i64 x0)), (9, (.int .i64 x1))]) H := by
  kernel_rfl
theorem outbox_Box_Acked.J2.ok : SoundCode Try.prog (sub [1, 0, 1, 0, 0, 1, 1, 0, 0, 1, 1, 1] outbox_Box_Acked.body) outbox_Box_Acked.J2.t := by
  refine piece_sound (keepT_sound [0, 3, 8, 9] [] (fun i => []) (wC_sound outbox_Box_Acked.hΓ Try.hm outbox_Box_Acked.J2.plan _ outbox_Box_Acked.J2.pok)) ?_
  intro Q E fr H h
  unfold outbox_Box_Acked.J2.t at h
  obtain ⟨hl, h⟩ := lenIs_elim h
  obtain ⟨b0, q0, h⟩ := slP_elim h
  obtain ⟨p0, q3, h⟩ := slPA_elim h
  obtain ⟨h0, q5, h⟩ := slPA_elim h
  obtain ⟨x0, q8, h⟩ := slI_elim h
  obtain ⟨x1, q9, h⟩ := slI_elim h
  refine ⟨(mkF 40 [(0, (.pointer b0)), (3, (.pointer (some p0))), (5, (.pointer (some h0))), (8, (.int .i64 x0)), (9, (.int .i64 x1))]), fun a ha => ha.mk (Nat.le_of_eq hl.symm) (List.forall_mem_cons.2 ⟨q0, List.forall_mem_cons.2 ⟨q3, List.forall_mem_cons.2 ⟨q5, List.forall_mem_cons.2 ⟨q8, List.forall_mem_cons.2 ⟨q9, fun _ h => nomatch h⟩⟩⟩⟩⟩), ?_⟩
  have e := outbox_Box_Acked.J2.eq b0 p0 h0 x0 x1 Q E H
  rw [← e]
  exact h.h
def outbox_Box_Acked.J3.t : CT := fun Q E fr H => lenIs 40 fr (slP fr 0 fun b0 => slPA fr 3 fun p0 => slI fr 8 .i64 fun x0 => slI fr 9 .i64 fun x1 => outbox_Box_Acked.J3 b0 p0 x0 x1 (fun y9_0 H => Q .normal (mkF 40 [(0, (.pointer b0)), (3, (.pointer (some p0))), (8, (.int .i64 x0)), (9, (.int .i64 y9_0))]) H) E H)
noncomputable def outbox_Box_Acked.J3.plan : Plan := .go
theorem outbox_Box_Acked.J3.pok : PlanOk Try.prog outbox_Box_Acked.J3.plan (sub [1, 0, 1, 0, 0, 1, 1, 1] outbox_Box_Acked.body) := by
  have e : PlanOk Try.prog outbox_Box_Acked.J3.plan (sub [1, 0, 1, 0, 0, 1, 1, 1] outbox_Box_Acked.body) = (True) := by kernel_rfl
  exact e.mpr trivial
theorem outbox_Box_Acked.J3.eq (b0 : Option Addr) (p0 : Addr) (x0 : Int) (x1 : Int) (Q : Ex → Fr → Heap → Prop) (E : Value → Heap → Prop) (H : Heap) :
    outbox_Box_Acked.J3.vc b0 p0 x0 x1 (fun y9_0 H => Q .normal (mkF 40 [(0, (.pointer b0)), (3, (.pointer (some p0))), (8, (.int .i64 x0)), (9, (.int .i64 y9_0))]) H) E H = keepT [0, 3, 8, 9] [] (fun i => []) (wC Try.prog outbox_Box_Acked.Γ outbox_Box_Acked.J3.plan (sub [1, 0, 1, 0, 0, 1, 1, 1] outbox_Box_Acked.body)) Q E (mkF 40 [(0, (.pointer b0)), (3, (.pointer (some p0))), (8, (.int .i64 x0)), (9, (.int .i64 x1))]) H := by
  kernel_rfl
theorem outbox_Box_Acked.J3.ok : SoundCode Try.prog (sub [1, 0, 1, 0, 0, 1, 1, 1] outbox_Box_Acked.body) outbox_Box_Acked.J3.t := by
  refine piece_sound (keepT_sound [0, 3, 8, 9] [] (fun i => []) (wC_sound outbox_Box_Acked.hΓ Try.hm outbox_Box_Acked.J3.plan _ outbox_Box_Acked.J3.pok)) ?_
  intro Q E fr H h
  unfold outbox_Box_Acked.J3.t at h
  obtain ⟨hl, h⟩ := lenIs_elim h
  obtain ⟨b0, q0, h⟩ := slP_elim h
  obtain ⟨p0, q3, h⟩ := slPA_elim h
  obtain ⟨x0, q8, h⟩ := slI_elim h
  obtain ⟨x1, q9, h⟩ := slI_elim h
  refine ⟨(mkF 40 [(0, (.pointer b0)), (3, (.pointer (some p0))), (8, (.int .i64 x0)), (9, (.int .i64 x1))]), fun a ha => ha.mk (Nat.le_of_eq hl.symm) (List.forall_mem_cons.2 ⟨q0, List.forall_mem_cons.2 ⟨q3, List.forall_mem_cons.2 ⟨q8, List.forall_mem_cons.2 ⟨q9, fun _ h => nomatch h⟩⟩⟩⟩), ?_⟩
  have e := outbox_Box_Acked.J3.eq b0 p0 x0 x1 Q E H
  rw [← e]
  exact h.h
def outbox_Box_Acked.W1.t : CT := fun Q E fr H => lenIs 40 fr (slP fr 0 fun b0 => slPA fr 3 fun p0 => slI fr 8 .i64 fun x0 => slI fr 9 .i64 fun x1 => outbox_Box_Acked.W1 b0 p0 x0 x1 (fun  H => Q (.exit 0) (mkF 40 [(0, (.pointer b0)), (3, (.pointer (some p0)))]) H) E H)
noncomputable def outbox_Box_Acked.W1.plan : Plan := .seq (.go) (.seq (.go) (.seq (.block (.seq (.go) (.seq (.draw ⟨[0, 1, 2, 3, 4, 5, 6, 7, 8], (dl [(0, []), (1, []), (2, []), (3, []), (4, []), (5, []), (6, []), (7, []), (8, [])] .fin), [9]⟩) (.seq (.go) (.use outbox_Box_Acked.J2.t))))) (.use outbox_Box_Acked.J3.t)))
theorem outbox_Box_Acked.W1.pok : PlanOk Try.prog outbox_Box_Acked.W1.plan (sub [1, 0, 1, 0, 0] outbox_Box_Acked.body) := by
  have e : PlanOk Try.prog outbox_Box_Acked.W1.plan (sub [1, 0, 1, 0, 0] outbox_Box_Acked.body) = ((True) ∧ ((True) ∧ (((True) ∧ ((True) ∧ ((True) ∧ (SoundCode Try.prog (sub [1, 0, 1, 0, 0, 1, 1, 0, 0, 1, 1, 1] outbox_Box_Acked.body) outbox_Box_Acked.J2.t)))) ∧ (SoundCode Try.prog (sub [1, 0, 1, 0, 0, 1, 1, 1] outbox_Box_Acked.body) outbox_Box_Acked.J3.t)))) := by kernel_rfl
  exact e.mpr ⟨trivial, ⟨trivial, ⟨⟨trivial, ⟨trivial, ⟨trivial, outbox_Box_Acked.J2.ok⟩⟩⟩, outbox_Box_Acked.J3.ok⟩⟩⟩
theorem outbox_Box_Acked.W1.eq (b0 : Option Addr) (p0 : Addr) (x0 : Int) (Q : Ex → Fr → Heap → Prop) (E : Value → Heap → Prop) (RR : Fr → Heap → Prop) (s : Int) (H : Heap) :
    (fun (RR : Int → Heap → Prop) (s : Int) (H : Heap) => outbox_Box_Acked.W1.vc b0 p0 x0 s (fun  H => Q (.exit 0) (mkF 40 [(0, (.pointer b0)), (3, (.pointer (some p0)))]) H) (fun x1 H => RR (x1) H) E H) (fun s' H' => RR ((fun (s : Int) => (mkF 40 [(0, (.pointer b0)), (3, (.pointer (some p0))), (8, (.int .i64 x0)), (9, (.int .i64 s))])) s') H') s H = keepT [0, 3, 8, 9] [] (fun i => if i = 0 then [0, 3] else []) (wC Try.prog outbox_Box_Acked.Γ outbox_Box_Acked.W1.plan (sub [1, 0, 1, 0, 0] outbox_Box_Acked.body)) (fun e fr' H' => match e with | .normal => RR fr' H' | .exit id => Q (.exit id) fr' H' | .ret => Q .ret fr' H') E ((fun (s : Int) => (mkF 40 [(0, (.pointer b0)), (3, (.pointer (some p0))), (8, (.int .i64 x0)), (9, (.int .i64 s))])) s) H := by
  kernel_rfl
theorem outbox_Box_Acked.W1.ok : SoundCode Try.prog (sub [1, 0, 1, 0] outbox_Box_Acked.body) outbox_Box_Acked.W1.t := by
  have e : (sub [1, 0, 1, 0] outbox_Box_Acked.body) = .loop (sub [1, 0, 1, 0, 0] outbox_Box_Acked.body) := by kernel_rfl
  rw [e]
  refine piece_sound (loopN_sound (keepT_sound [0, 3, 8, 9] [] (fun i => if i = 0 then [0, 3] else []) (wC_sound outbox_Box_Acked.hΓ Try.hm outbox_Box_Acked.W1.plan _ outbox_Box_Acked.W1.pok))) ?_
  intro Q E fr H h
  unfold outbox_Box_Acked.W1.t at h
  obtain ⟨hl, h⟩ := lenIs_elim h
  obtain ⟨b0, q0, h⟩ := slP_elim h
  obtain ⟨p0, q3, h⟩ := slPA_elim h
  obtain ⟨x0, q8, h⟩ := slI_elim h
  obtain ⟨x1, q9, h⟩ := slI_elim h
  obtain ⟨m, h⟩ := h.h
  refine ⟨(mkF 40 [(0, (.pointer b0)), (3, (.pointer (some p0))), (8, (.int .i64 x0)), (9, (.int .i64 x1))]), fun a ha => ha.mk (Nat.le_of_eq hl.symm) (List.forall_mem_cons.2 ⟨q0, List.forall_mem_cons.2 ⟨q3, List.forall_mem_cons.2 ⟨q8, List.forall_mem_cons.2 ⟨q9, fun _ h => nomatch h⟩⟩⟩⟩), m, ?_⟩
  have e := loopS_eq (B := (fun (RR : Int → Heap → Prop) (s : Int) (H : Heap) => outbox_Box_Acked.W1.vc b0 p0 x0 s (fun  H => Q (.exit 0) (mkF 40 [(0, (.pointer b0)), (3, (.pointer (some p0)))]) H) (fun x1 H => RR (x1) H) E H)) (A := keepT [0, 3, 8, 9] [] (fun i => if i = 0 then [0, 3] else []) (wC Try.prog outbox_Box_Acked.Γ outbox_Box_Acked.W1.plan (sub [1, 0, 1, 0, 0] outbox_Box_Acked.body))) (m := (fun (s : Int) => (mkF 40 [(0, (.pointer b0)), (3, (.pointer (some p0))), (8, (.int .i64 x0)), (9, (.int .i64 s))]))) (Q := Q) (E := E) (fun RR s H => outbox_Box_Acked.W1.eq b0 p0 x0 Q E RR s H) m (x1) H
  exact cast e h
noncomputable def outbox_Box_Acked.plan : Plan := .seq (.go) (.seq (.seq (.go) (.block (.use outbox_Box_Acked.W1.t))) (.go))
theorem outbox_Box_Acked.pok : PlanOk Try.prog outbox_Box_Acked.plan outbox_Box_Acked.body := by
  have e : PlanOk Try.prog outbox_Box_Acked.plan outbox_Box_Acked.body = ((True) ∧ (((True) ∧ (SoundCode Try.prog (sub [1, 0, 1, 0] outbox_Box_Acked.body) outbox_Box_Acked.W1.t)) ∧ (True))) := by kernel_rfl
  exact e.mpr ⟨trivial, ⟨⟨trivial, outbox_Box_Acked.W1.ok⟩, trivial⟩⟩
theorem outbox_Box_Acked.eq (b0 : Option Addr) (p0 : Int) (p1 : ByteArray) (p2 : Bool) (K : Value → Heap → Prop) (E : Value → Heap → Prop) (H : Heap) :
    fnT Try.prog Try.f45 (wC Try.prog outbox_Box_Acked.Γ outbox_Box_Acked.plan outbox_Box_Acked.body) [(.pointer b0), (.agg #[(.int .i64 p0), (.string p1), (.bool p2)])] K E H = outbox_Box_Acked.vc b0 p0 p1 p2 (fun  H => K (.tuple #[]) H) E H := by
  kernel_rfl
theorem outbox_Box_Acked.Fe {args : List Value} {K E : Value → Heap → Prop} {H : Heap} (h : outbox_Box_Acked.F args K E H) : ∃ b0 p0 p1 p2, args = [(.pointer b0), (.agg #[(.int .i64 p0), (.string p1), (.bool p2)])] ∧ outbox_Box_Acked.c b0 p0 p1 p2 (fun  H => K (.tuple #[]) H) E H := by
  unfold outbox_Box_Acked.F at h
  split at h
  · exact ⟨_, _, _, _, rfl, h⟩
  · exact h.elim
theorem outbox_Box_Acked.ok : CalleeOk Try.prog 45 outbox_Box_Acked.F :=
  callee_ok outbox_Box_Acked.hΓ (fn := Try.f45) (c := outbox_Box_Acked.body) (T := wC Try.prog outbox_Box_Acked.Γ outbox_Box_Acked.plan outbox_Box_Acked.body) (by kernel_rfl) (by kernel_rfl) (by kernel_rfl) (wC_sound outbox_Box_Acked.hΓ Try.hm outbox_Box_Acked.plan _ outbox_Box_Acked.pok) fun _ K E H h => by
    obtain ⟨z0, z1, z2, z3, e, h⟩ := outbox_Box_Acked.Fe h
    subst e
    have h2 : outbox_Box_Acked.vc z0 z1 z2 z3 (fun  H => ∃ H', Heap.Le H' H ∧ K (.tuple #[]) H') E H := h.h
    rw [outbox_Box_Acked.eq z0 z1 z2 z3 (Fg K) E H]
    exact h2

/-! (*vizard/outbox.Box).State -/
noncomputable def outbox_Box_State.body : Code := Try.f46.body.getD .skip
def outbox_Box_State.J2.vc (b0 : Option Addr) (n0 : Int) (Kn : Int → Heap → Prop) (E : Value → Heap → Prop) (h0 : Heap) : Prop :=
  Kn (IntKind.i64.wrap (n0 + 1)) h0
structure outbox_Box_State.J2 (b0 : Option Addr) (n0 : Int) (Kn : Int → Heap → Prop) (E : Value → Heap → Prop) (H : Heap) : Prop where
  h : outbox_Box_State.J2.vc b0 n0 Kn E H
def outbox_Box_State.W1.vc (b0 : Option Addr) (n0 : Int) (Kx0 : Int → Heap → Prop) (RR : Int → Heap → Prop) (E : Value → Heap → Prop) (h0 : Heap) : Prop :=
  nilc b0 fun a0 =>
  ldSl h0 (a0.add 1) fun x0 x1 x2 =>
  (if (decide (n0 < (x1 : Int))) = true then
  nilc b0 fun a1 =>
  ldSl h0 (a1.add 1) fun x3 x4 x5 =>
  nilc x3 fun a2 => (0 : Int) ≤ n0 ∧ n0 < (x4 : Int) ∧
  ldI h0 .u8 (a2.add (n0.toNat * 1)) fun x6 =>
  (if (x6 == 2) = true then
  outbox_Box_State.J2 b0 n0 RR E h0
  else
  Kx0 n0 h0)
  else
  Kx0 n0 h0)
structure outbox_Box_State.W1 (b0 : Option Addr) (n0 : Int) (Kx0 : Int → Heap → Prop) (E : Value → Heap → Prop) (H : Heap) : Prop where
  h : Loop (fun (RR : Int → Heap → Prop) (s : Int) (H : Heap) => outbox_Box_State.W1.vc b0 s Kx0 (fun n0 H => RR (n0) H) E H) (n0) H
def outbox_Box_State.vc (b0 : Option Addr) (K : Int → Int → Bool → Heap → Prop) (E : Value → Heap → Prop) (h0 : Heap) : Prop :=
  outbox_Box_State.W1 b0 0 (fun n0 h1 =>
  nilc b0 fun a0 =>
  ldSl h1 (a0.add 1) fun x0 x1 x2 =>
  nilc b0 fun a1 =>
  ldSl h1 (a1.add 1) fun x3 x4 x5 =>
  (if (n0 == (x4 : Int)) = true then
  nilc b0 fun a2 =>
  ldI h1 .u8 (a2.add 2) fun x6 =>
  K (x1 : Int) n0 (x6 == 2) h1
  else
  K (x1 : Int) n0 false h1)) E h0
structure outbox_Box_State.c (b0 : Option Addr) (K : Int → Int → Bool → Heap → Prop) (E : Value → Heap → Prop) (H : Heap) : Prop where
  h : outbox_Box_State.vc b0 (fun r0_0 r1_0 r2_0 H => ∃ H', Heap.Le H' H ∧ K r0_0 r1_0 r2_0 H') E H
def outbox_Box_State.F : FT := fun args K E H => match args with
  | [(.pointer b0)] => outbox_Box_State.c b0 (fun r0_0 r1_0 r2_0 H => K (.tuple #[(.int .i64 r0_0), (.int .i64 r1_0), (.bool r2_0)]) H) E H
  | _ => False
noncomputable def outbox_Box_State.Γ : FuncId → Option FT := Γof []
theorem outbox_Box_State.hΓ : ∀ f F, outbox_Box_State.Γ f = some F → CalleeOk Try.prog f F := Γof_ok (fun _ h => nomatch h)
def outbox_Box_State.J2.t : CT := fun Q E fr H => lenIs 45 fr (slP fr 0 fun b0 => slI fr 5 .i64 fun n0 => outbox_Box_State.J2 b0 n0 (fun y5_0 H => Q .normal (mkF 45 [(0, (.pointer b0)), (5, (.int .i64 y5_0))]) H) E H)
noncomputable def outbox_Box_State.J2.plan : Plan := .go
theorem outbox_Box_State.J2.pok : PlanOk Try.prog outbox_Box_State.J2.plan (sub [1, 1, 0, 0, 0, 1] outbox_Box_State.body) := by
  have e : PlanOk Try.prog outbox_Box_State.J2.plan (sub [1, 1, 0, 0, 0, 1] outbox_Box_State.body) = (True) := by kernel_rfl
  exact e.mpr trivial
theorem outbox_Box_State.J2.eq (b0 : Option Addr) (n0 : Int) (Q : Ex → Fr → Heap → Prop) (E : Value → Heap → Prop) (H : Heap) :
    outbox_Box_State.J2.vc b0 n0 (fun y5_0 H => Q .normal (mkF 45 [(0, (.pointer b0)), (5, (.int .i64 y5_0))]) H) E H = keepT [0, 5] [] (fun i => []) (wC Try.prog outbox_Box_State.Γ outbox_Box_State.J2.plan (sub [1, 1, 0, 0, 0, 1] outbox_Box_State.body)) Q E (mkF 45 [(0, (.pointer b0)), (5, (.int .i64 n0))]) H := by
  kernel_rfl
theorem outbox_Box_State.J2.ok : SoundCode Try.prog (sub [1, 1, 0, 0, 0, 1] outbox_Box_State.body) outbox_Box_State.J2.t := by
  refine piece_sound (keepT_sound [0, 5] [] (fun i => []) (wC_sound outbox_Box_State.hΓ Try.hm outbox_Box_State.J2.plan _ outbox_Box_State.J2.pok)) ?_
  intro Q E fr H h
  unfold outbox_Box_State.J2.t at h
  obtain ⟨hl, h⟩ := lenIs_elim h
  obtain ⟨b0, q0, h⟩ := slP_elim h
  obtain ⟨n0, q5, h⟩ := slI_elim h
  refine ⟨(mkF 45 [(0, (.pointer b0)), (5, (.int .i64 n0))]), fun a ha => ha.mk (Nat.le_of_eq hl.symm) (List.forall_mem_cons.2 ⟨q0, List.forall_mem_cons.2 ⟨q5, fun _ h => nomatch h⟩⟩), ?_⟩
  have e := outbox_Box_State.J2.eq b0 n0 Q E H
  rw [← e]
  exact h.h
def outbox_Box_State.W1.t : CT := fun Q E fr H => lenIs 45 fr (slP fr 0 fun b0 => slI fr 5 .i64 fun n0 => outbox_Box_State.W1 b0 n0 (fun y5_0 H => Q (.exit 0) (mkF 45 [(0, (.pointer b0)), (5, (.int .i64 y5_0))]) H) E H)
noncomputable def outbox_Box_State.W1.plan : Plan := .seq (.go) (.use outbox_Box_State.J2.t)
theorem outbox_Box_State.W1.pok : PlanOk Try.prog outbox_Box_State.W1.plan (sub [1, 1, 0, 0, 0] outbox_Box_State.body) := by
  have e : PlanOk Try.prog outbox_Box_State.W1.plan (sub [1, 1, 0, 0, 0] outbox_Box_State.body) = ((True) ∧ (SoundCode Try.prog (sub [1, 1, 0, 0, 0, 1] outbox_Box_State.body) outbox_Box_State.J2.t)) := by kernel_rfl
  exact e.mpr ⟨trivial, outbox_Box_State.J2.ok⟩
theorem outbox_Box_State.W1.eq (b0 : Option Addr) (Q : Ex → Fr → Heap → Prop) (E : Value → Heap → Prop) (RR : Fr → Heap → Prop) (s : Int) (H : Heap) :
    (fun (RR : Int → Heap → Prop) (s : Int) (H : Heap) => outbox_Box_State.W1.vc b0 s (fun y5_0 H => Q (.exit 0) (mkF 45 [(0, (.pointer b0)), (5, (.int .i64 y5_0))]) H) (fun n0 H => RR (n0) H) E H) (fun s' H' => RR ((fun (s : Int) => (mkF 45 [(0, (.pointer b0)), (5, (.int .i64 s))])) s') H') s H = keepT [0, 5] [] (fun i => if i = 0 then [0, 5] else []) (wC Try.prog outbox_Box_State.Γ outbox_Box_State.W1.plan (sub [1, 1, 0, 0, 0] outbox_Box_State.body)) (fun e fr' H' => match e with | .normal => RR fr' H' | .exit id => Q (.exit id) fr' H' | .ret => Q .ret fr' H') E ((fun (s : Int) => (mkF 45 [(0, (.pointer b0)), (5, (.int .i64 s))])) s) H := by
  kernel_rfl
theorem outbox_Box_State.W1.ok : SoundCode Try.prog (sub [1, 1, 0, 0] outbox_Box_State.body) outbox_Box_State.W1.t := by
  have e : (sub [1, 1, 0, 0] outbox_Box_State.body) = .loop (sub [1, 1, 0, 0, 0] outbox_Box_State.body) := by kernel_rfl
  rw [e]
  refine piece_sound (loopN_sound (keepT_sound [0, 5] [] (fun i => if i = 0 then [0, 5] else []) (wC_sound outbox_Box_State.hΓ Try.hm outbox_Box_State.W1.plan _ outbox_Box_State.W1.pok))) ?_
  intro Q E fr H h
  unfold outbox_Box_State.W1.t at h
  obtain ⟨hl, h⟩ := lenIs_elim h
  obtain ⟨b0, q0, h⟩ := slP_elim h
  obtain ⟨n0, q5, h⟩ := slI_elim h
  obtain ⟨m, h⟩ := h.h
  refine ⟨(mkF 45 [(0, (.pointer b0)), (5, (.int .i64 n0))]), fun a ha => ha.mk (Nat.le_of_eq hl.symm) (List.forall_mem_cons.2 ⟨q0, List.forall_mem_cons.2 ⟨q5, fun _ h => nomatch h⟩⟩), m, ?_⟩
  have e := loopS_eq (B := (fun (RR : Int → Heap → Prop) (s : Int) (H : Heap) => outbox_Box_State.W1.vc b0 s (fun y5_0 H => Q (.exit 0) (mkF 45 [(0, (.pointer b0)), (5, (.int .i64 y5_0))]) H) (fun n0 H => RR (n0) H) E H)) (A := keepT [0, 5] [] (fun i => if i = 0 then [0, 5] else []) (wC Try.prog outbox_Box_State.Γ outbox_Box_State.W1.plan (sub [1, 1, 0, 0, 0] outbox_Box_State.body))) (m := (fun (s : Int) => (mkF 45 [(0, (.pointer b0)), (5, (.int .i64 s))]))) (Q := Q) (E := E) (fun RR s H => outbox_Box_State.W1.eq b0 Q E RR s H) m (n0) H
  exact cast e h
noncomputable def outbox_Box_State.plan : Plan := .seq (.go) (.seq (.go) (.seq (.block (.use outbox_Box_State.W1.t)) (.seq (.draw ⟨[0, 1, 2, 3, 4, 5, 6, 7, 8, 9, 10, 11, 12, 13, 14, 15, 16, 17, 18, 19, 20, 21], (dl [(0, []), (1, []), (2, []), (3, []), (4, []), (5, []), (6, []), (7, []), (8, []), (9, []), (10, []), (11, []), (12, []), (13, []), (14, []), (15, []), (16, []), (17, []), (18, []), (19, []), (20, []), (21, [])] .fin), [22]⟩) (.go))))
theorem outbox_Box_State.pok : PlanOk Try.prog outbox_Box_State.plan outbox_Box_State.body := by
  have e : PlanOk Try.prog outbox_Box_State.plan outbox_Box_State.body = ((True) ∧ ((True) ∧ ((SoundCode Try.prog (sub [1, 1, 0, 0] outbox_Box_State.body) outbox_Box_State.W1.t) ∧ ((True) ∧ (True))))) := by kernel_rfl
  exact e.mpr ⟨trivial, ⟨trivial, ⟨outbox_Box_State.W1.ok, ⟨trivial, trivial⟩⟩⟩⟩
theorem outbox_Box_State.eq (b0 : Option Addr) (K : Value → Heap → Prop) (E : Value → Heap → Prop) (H : Heap) :
    fnT Try.prog Try.f46 (wC Try.prog outbox_Box_State.Γ outbox_Box_State.plan outbox_Box_State.body) [(.pointer b0)] K E H = outbox_Box_State.vc b0 (fun r0_0 r1_0 r2_0 H => K (.tuple #[(.int .i64 r0_0), (.int .i64 r1_0), (.bool r2_0)]) H) E H := by
  kernel_rfl
theorem outbox_Box_State.Fe {args : List Value} {K E : Value → Heap → Prop} {H : Heap} (h : outbox_Box_State.F args K E H) : ∃ b0, args = [(.pointer b0)] ∧ outbox_Box_State.c b0 (fun r0_0 r1_0 r2_0 H => K (.tuple #[(.int .i64 r0_0), (.int .i64 r1_0), (.bool r2_0)]) H) E H := by
  unfold outbox_Box_State.F at h
  split at h
  · exact ⟨_, rfl, h⟩
  · exact h.elim
theorem outbox_Box_State.ok : CalleeOk Try.prog 46 outbox_Box_State.F :=
  callee_ok outbox_Box_State.hΓ (fn := Try.f46) (c := outbox_Box_State.body) (T := wC Try.prog outbox_Box_State.Γ outbox_Box_State.plan outbox_Box_State.body) (by kernel_rfl) (by kernel_rfl) (by kernel_rfl) (wC_sound outbox_Box_State.hΓ Try.hm outbox_Box_State.plan _ outbox_Box_State.pok) fun _ K E H h => by
    obtain ⟨z0, e, h⟩ := outbox_Box_State.Fe h
    subst e
    have h2 : outbox_Box_State.vc z0 (fun r0_0 r1_0 r2_0 H => ∃ H', Heap.Le H' H ∧ K (.tuple #[(.int .i64 r0_0), (.int .i64 r1_0), (.bool r2_0)]) H') E H := h.h
    rw [outbox_Box_State.eq z0 (Fg K) E H]
    exact h2

/-! vizard/vizardlaw12.works -/
noncomputable def vizardlaw12_works.body : Code := Try.f40.body.getD .skip
def vizardlaw12_works.vc (K : Bool → Heap → Prop) (E : Value → Heap → Prop) (h0 : Heap) : Prop :=
  outbox_New.c (fun x0 h1 =>
  (if (Option.isNone x0) = true then
  K false h1
  else
  outbox_Box_Write.c x0 (⟨#[104, 101, 108, 108, 111]⟩ : ByteArray) true (fun x1 h2 =>
  outbox_Box_Next.c x0 3 (fun x2 x3 x4 x5 h3 =>
  newB (.cells #[(.int .i64 0), (.string (⟨#[]⟩ : ByteArray)), (.bool false)] 72) (fun b0 h4 =>
  stc h4 ((⟨b0, 0, none⟩ : Addr).add 0) (.int .i64 x2) fun h5 =>
  stc h5 ((⟨b0, 0, none⟩ : Addr).add 1) (.string x3) fun h6 =>
  stc h6 ((⟨b0, 0, none⟩ : Addr).add 2) (.bool x4) fun h7 =>
  outbox_Box_Next.c x0 9 (fun x6 x7 x8 x9 h8 =>
  newB (.cells #[(.int .i64 0), (.string (⟨#[]⟩ : ByteArray)), (.bool false)] 72) (fun b1 h9 =>
  stc h9 ((⟨b1, 0, none⟩ : Addr).add 0) (.int .i64 x6) fun h10 =>
  stc h10 ((⟨b1, 0, none⟩ : Addr).add 1) (.string x7) fun h11 =>
  stc h11 ((⟨b1, 0, none⟩ : Addr).add 2) (.bool x8) fun h12 =>
  ldI h12 .i64 ((⟨b0, 0, none⟩ : Addr).add 0) fun x10 => ldS h12 ((⟨b0, 0, none⟩ : Addr).add 1) fun x11 => ldB h12 ((⟨b0, 0, none⟩ : Addr).add 2) fun x12 =>
  outbox_Box_Lost.c x0 x10 x11 x12 (fun h13 =>
  outbox_Box_Next.c x0 9 (fun x13 x14 x15 x16 h14 =>
  newB (.cells #[(.int .i64 0), (.string (⟨#[]⟩ : ByteArray)), (.bool false)] 72) (fun b2 h15 =>
  stc h15 ((⟨b2, 0, none⟩ : Addr).add 0) (.int .i64 x13) fun h16 =>
  stc h16 ((⟨b2, 0, none⟩ : Addr).add 1) (.string x14) fun h17 =>
  stc h17 ((⟨b2, 0, none⟩ : Addr).add 2) (.bool x15) fun h18 =>
  ldI h18 .i64 ((⟨b1, 0, none⟩ : Addr).add 0) fun x17 => ldS h18 ((⟨b1, 0, none⟩ : Addr).add 1) fun x18 => ldB h18 ((⟨b1, 0, none⟩ : Addr).add 2) fun x19 =>
  outbox_Box_Acked.c x0 x17 x18 x19 (fun h19 =>
  ldI h19 .i64 ((⟨b2, 0, none⟩ : Addr).add 0) fun x20 => ldS h19 ((⟨b2, 0, none⟩ : Addr).add 1) fun x21 => ldB h19 ((⟨b2, 0, none⟩ : Addr).add 2) fun x22 =>
  outbox_Box_Acked.c x0 x20 x21 x22 (fun h20 =>
  outbox_Box_State.c x0 (fun x23 x24 x25 h21 =>
  (if x5 = true then
  (if x9 = true then
  (if x16 = true then
  ldI h21 .i64 ((⟨b0, 0, none⟩ : Addr).add 0) fun x26 => ldS h21 ((⟨b0, 0, none⟩ : Addr).add 1) fun x27 => ldB h21 ((⟨b0, 0, none⟩ : Addr).add 2) fun x28 =>
  (if ((x26 == 0) && ((x27 == (⟨#[104, 101, 108]⟩ : ByteArray)) && ((x28 == false) && true))) = true then
  ldI h21 .i64 ((⟨b1, 0, none⟩ : Addr).add 0) fun x29 => ldS h21 ((⟨b1, 0, none⟩ : Addr).add 1) fun x30 => ldB h21 ((⟨b1, 0, none⟩ : Addr).add 2) fun x31 =>
  (if ((x29 == 3) && ((x30 == (⟨#[108, 111]⟩ : ByteArray)) && ((x31 == true) && true))) = true then
  ldI h21 .i64 ((⟨b2, 0, none⟩ : Addr).add 0) fun x32 => ldS h21 ((⟨b2, 0, none⟩ : Addr).add 1) fun x33 => ldB h21 ((⟨b2, 0, none⟩ : Addr).add 2) fun x34 =>
  ldI h21 .i64 ((⟨b0, 0, none⟩ : Addr).add 0) fun x35 => ldS h21 ((⟨b0, 0, none⟩ : Addr).add 1) fun x36 => ldB h21 ((⟨b0, 0, none⟩ : Addr).add 2) fun x37 =>
  (if ((x32 == x35) && ((x33 == x36) && ((x34 == x37) && true))) = true then
  (if (x23 == 5) = true then
  (if (x24 == 5) = true then
  K x25 h21
  else
  K false h21)
  else
  K false h21)
  else
  K false h21)
  else
  K false h21)
  else
  K false h21)
  else
  K false h21)
  else
  K false h21)
  else
  K false h21)) E h20) E h19) E h18) h14) E h13) E h12) h8) E h7) h3) E h2) E h1)) E h0
structure vizardlaw12_works.c (K : Bool → Heap → Prop) (E : Value → Heap → Prop) (H : Heap) : Prop where
  h : vizardlaw12_works.vc  (fun r0_0 H => ∃ H', Heap.Le H' H ∧ K r0_0 H') E H
def vizardlaw12_works.F : FT := fun args K E H => match args with
  | [] => vizardlaw12_works.c  (fun r0_0 H => K (.bool r0_0) H) E H
  | _ => False
noncomputable def vizardlaw12_works.Γ : FuncId → Option FT := Γof [(41, outbox_New.F), (42, outbox_Box_Write.F), (43, outbox_Box_Next.F), (44, outbox_Box_Lost.F), (45, outbox_Box_Acked.F), (46, outbox_Box_State.F)]
theorem vizardlaw12_works.hΓ : ∀ f F, vizardlaw12_works.Γ f = some F → CalleeOk Try.prog f F := Γof_ok (List.forall_mem_cons.2 ⟨outbox_New.ok, List.forall_mem_cons.2 ⟨outbox_Box_Write.ok, List.forall_mem_cons.2 ⟨outbox_Box_Next.ok, List.forall_mem_cons.2 ⟨outbox_Box_Lost.ok, List.forall_mem_cons.2 ⟨outbox_Box_Acked.ok, List.forall_mem_cons.2 ⟨outbox_Box_State.ok, fun _ h => nomatch h⟩⟩⟩⟩⟩⟩)
noncomputable def vizardlaw12_works.plan : Plan := .go
theorem vizardlaw12_works.pok : PlanOk Try.prog vizardlaw12_works.plan vizardlaw12_works.body := by
  have e : PlanOk Try.prog vizardlaw12_works.plan vizardlaw12_works.body = (True) := by kernel_rfl
  exact e.mpr trivial
theorem vizardlaw12_works.eq (K : Value → Heap → Prop) (E : Value → Heap → Prop) (H : Heap) :
    fnT Try.prog Try.f40 (wC Try.prog vizardlaw12_works.Γ vizardlaw12_works.plan vizardlaw12_works.body) [] K E H = vizardlaw12_works.vc  (fun r0_0 H => K (.bool r0_0) H) E H := by
  kernel_rfl
theorem vizardlaw12_works.Fe {args : List Value} {K E : Value → Heap → Prop} {H : Heap} (h : vizardlaw12_works.F args K E H) : args = [] ∧ vizardlaw12_works.c  (fun r0_0 H => K (.bool r0_0) H) E H := by
  unfold vizardlaw12_works.F at h
  split at h
  · exact ⟨rfl, h⟩
  · exact h.elim
theorem vizardlaw12_works.ok : CalleeOk Try.prog 40 vizardlaw12_works.F :=
  callee_ok vizardlaw12_works.hΓ (fn := Try.f40) (c := vizardlaw12_works.body) (T := wC Try.prog vizardlaw12_works.Γ vizardlaw12_works.plan vizardlaw12_works.body) (by kernel_rfl) (by kernel_rfl) (by kernel_rfl) (wC_sound vizardlaw12_works.hΓ Try.hm vizardlaw12_works.plan _ vizardlaw12_works.pok) fun _ K E H h => by
    obtain ⟨e, h⟩ := vizardlaw12_works.Fe h
    subst e
    have h2 : vizardlaw12_works.vc (fun r0_0 H => ∃ H', Heap.Le H' H ∧ K (.bool r0_0) H') E H := h.h
    rw [vizardlaw12_works.eq (Fg K) E H]
    exact h2

/-! vizard/vizardlaw12.OutboxEnd -/
noncomputable def vizardlaw12_OutboxEnd.body : Code := Try.f10.body.getD .skip
def vizardlaw12_OutboxEnd.J1.vc (text0 : ByteArray) (lost0 : Bool) (b0 : Option Addr) (p0 : Addr) (ok0 : Bool) (x0 : Bool) (Kn : Heap → Prop) (Kr : Bool → Heap → Prop) (E : Value → Heap → Prop) (h0 : Heap) : Prop :=
  (if x0 = true then
  Kr false h0
  else
  Kn h0)
structure vizardlaw12_OutboxEnd.J1 (text0 : ByteArray) (lost0 : Bool) (b0 : Option Addr) (p0 : Addr) (ok0 : Bool) (x0 : Bool) (Kn : Heap → Prop) (Kr : Bool → Heap → Prop) (E : Value → Heap → Prop) (H : Heap) : Prop where
  h : vizardlaw12_OutboxEnd.J1.vc text0 lost0 b0 p0 ok0 x0 Kn Kr E H
def vizardlaw12_OutboxEnd.J3.vc (lost0 : Bool) (b0 : Option Addr) (p0 : Addr) (ok0 : Bool) (q0 : Addr) (x0 : Bool) (Kn : Heap → Prop) (Kr : Bool → Heap → Prop) (E : Value → Heap → Prop) (h0 : Heap) : Prop :=
  (if x0 = true then
  Kr false h0
  else
  Kn h0)
structure vizardlaw12_OutboxEnd.J3 (lost0 : Bool) (b0 : Option Addr) (p0 : Addr) (ok0 : Bool) (q0 : Addr) (x0 : Bool) (Kn : Heap → Prop) (Kr : Bool → Heap → Prop) (E : Value → Heap → Prop) (H : Heap) : Prop where
  h : vizardlaw12_OutboxEnd.J3.vc lost0 b0 p0 ok0 q0 x0 Kn Kr E H
def vizardlaw12_OutboxEnd.J5.vc (b0 : Option Addr) (p0 : Addr) (ok0 : Bool) (q0 : Addr) (x0 : Bool) (Kn : Heap → Prop) (Kr : Bool → Heap → Prop) (E : Value → Heap → Prop) (h0 : Heap) : Prop :=
  (if x0 = true then
  Kr false h0
  else
  Kn h0)
structure vizardlaw12_OutboxEnd.J5 (b0 : Option Addr) (p0 : Addr) (ok0 : Bool) (q0 : Addr) (x0 : Bool) (Kn : Heap → Prop) (Kr : Bool → Heap → Prop) (E : Value → Heap → Prop) (H : Heap) : Prop where
  h : vizardlaw12_OutboxEnd.J5.vc b0 p0 ok0 q0 x0 Kn Kr E H
def vizardlaw12_OutboxEnd.J7.vc (b0 : Option Addr) (q0 : Addr) (again0 : Bool) (Kr : Bool → Heap → Prop) (E : Value → Heap → Prop) (h0 : Heap) : Prop :=
  ldI h0 .i64 (q0.add 0) fun x0 => ldS h0 (q0.add 1) fun x1 => ldB h0 (q0.add 2) fun x2 =>
  outbox_Box_Acked.c b0 x0 x1 x2 (fun h1 =>
  outbox_Box_State.c b0 (fun x3 x4 x5 h2 =>
  (if (!again0) = true then
  Kr x5 h2
  else
  Kr false h2)) E h1) E h0
structure vizardlaw12_OutboxEnd.J7 (b0 : Option Addr) (q0 : Addr) (again0 : Bool) (Kr : Bool → Heap → Prop) (E : Value → Heap → Prop) (H : Heap) : Prop where
  h : vizardlaw12_OutboxEnd.J7.vc b0 q0 again0 Kr E H
def vizardlaw12_OutboxEnd.J6.vc (b0 : Option Addr) (p0 : Addr) (ok0 : Bool) (q0 : Addr) (Kr : Bool → Heap → Prop) (E : Value → Heap → Prop) (h0 : Heap) : Prop :=
  outbox_Box_Next.c b0 2000 (fun x0 x1 x2 x3 h1 =>
  newB (.cells #[(.int .i64 0), (.string (⟨#[]⟩ : ByteArray)), (.bool false)] 72) (fun b1 h2 =>
  stc h2 ((⟨b1, 0, none⟩ : Addr).add 0) (.int .i64 x0) fun h3 =>
  stc h3 ((⟨b1, 0, none⟩ : Addr).add 1) (.string x1) fun h4 =>
  stc h4 ((⟨b1, 0, none⟩ : Addr).add 2) (.bool x2) fun h5 =>
  (if ok0 = true then
  ldI h5 .i64 (p0.add 0) fun x4 => ldS h5 (p0.add 1) fun x5 => ldB h5 (p0.add 2) fun x6 =>
  outbox_Box_Acked.c b0 x4 x5 x6 (fun h6 =>
  vizardlaw12_OutboxEnd.J7 b0 q0 x3 Kr E h6) E h5
  else
  vizardlaw12_OutboxEnd.J7 b0 q0 x3 Kr E h5)) h1) E h0
structure vizardlaw12_OutboxEnd.J6 (b0 : Option Addr) (p0 : Addr) (ok0 : Bool) (q0 : Addr) (Kr : Bool → Heap → Prop) (E : Value → Heap → Prop) (H : Heap) : Prop where
  h : vizardlaw12_OutboxEnd.J6.vc b0 p0 ok0 q0 Kr E H
def vizardlaw12_OutboxEnd.J4.vc (lost0 : Bool) (b0 : Option Addr) (p0 : Addr) (ok0 : Bool) (q0 : Addr) (Kr : Bool → Heap → Prop) (E : Value → Heap → Prop) (h0 : Heap) : Prop :=
  (if lost0 = true then
  ldI h0 .i64 (q0.add 0) fun x0 => ldS h0 (q0.add 1) fun x1 => ldB h0 (q0.add 2) fun x2 =>
  outbox_Box_Lost.c b0 x0 x1 x2 (fun h1 =>
  outbox_Box_Next.c b0 2000 (fun x3 x4 x5 x6 h2 =>
  newB (.cells #[(.int .i64 0), (.string (⟨#[]⟩ : ByteArray)), (.bool false)] 72) (fun b1 h3 =>
  stc h3 ((⟨b1, 0, none⟩ : Addr).add 0) (.int .i64 x3) fun h4 =>
  stc h4 ((⟨b1, 0, none⟩ : Addr).add 1) (.string x4) fun h5 =>
  stc h5 ((⟨b1, 0, none⟩ : Addr).add 2) (.bool x5) fun h6 =>
  (if (!x6) = true then
  vizardlaw12_OutboxEnd.J5 b0 p0 ok0 q0 true (fun h7 =>
  vizardlaw12_OutboxEnd.J6 b0 p0 ok0 q0 Kr E h7) Kr E h6
  else
  ldI h6 .i64 ((⟨b1, 0, none⟩ : Addr).add 0) fun x9 => ldS h6 ((⟨b1, 0, none⟩ : Addr).add 1) fun x10 => ldB h6 ((⟨b1, 0, none⟩ : Addr).add 2) fun x11 =>
  ldI h6 .i64 (q0.add 0) fun x12 => ldS h6 (q0.add 1) fun x13 => ldB h6 (q0.add 2) fun x14 =>
  vizardlaw12_OutboxEnd.J5 b0 p0 ok0 q0 (!((x9 == x12) && ((x10 == x13) && ((x11 == x14) && true)))) (fun h10 =>
  vizardlaw12_OutboxEnd.J6 b0 p0 ok0 q0 Kr E h10) Kr E h6)) h2) E h1) E h0
  else
  vizardlaw12_OutboxEnd.J6 b0 p0 ok0 q0 Kr E h0)
structure vizardlaw12_OutboxEnd.J4 (lost0 : Bool) (b0 : Option Addr) (p0 : Addr) (ok0 : Bool) (q0 : Addr) (Kr : Bool → Heap → Prop) (E : Value → Heap → Prop) (H : Heap) : Prop where
  h : vizardlaw12_OutboxEnd.J4.vc lost0 b0 p0 ok0 q0 Kr E H
def vizardlaw12_OutboxEnd.J2.vc (text0 : ByteArray) (lost0 : Bool) (b0 : Option Addr) (p0 : Addr) (ok0 : Bool) (Kr : Bool → Heap → Prop) (E : Value → Heap → Prop) (h0 : Heap) : Prop :=
  outbox_Box_Next.c b0 2000 (fun x0 x1 x2 x3 h1 =>
  newB (.cells #[(.int .i64 0), (.string (⟨#[]⟩ : ByteArray)), (.bool false)] 72) (fun b1 h2 =>
  stc h2 ((⟨b1, 0, none⟩ : Addr).add 0) (.int .i64 x0) fun h3 =>
  stc h3 ((⟨b1, 0, none⟩ : Addr).add 1) (.string x1) fun h4 =>
  stc h4 ((⟨b1, 0, none⟩ : Addr).add 2) (.bool x2) fun h5 =>
  (if (!x3) = true then
  vizardlaw12_OutboxEnd.J3 lost0 b0 p0 ok0 (⟨b1, 0, none⟩ : Addr) true (fun h6 =>
  vizardlaw12_OutboxEnd.J4 lost0 b0 p0 ok0 (⟨b1, 0, none⟩ : Addr) Kr E h6) Kr E h5
  else
  ldI h5 .i64 ((⟨b1, 0, none⟩ : Addr).add 0) fun x6 => ldS h5 ((⟨b1, 0, none⟩ : Addr).add 1) fun x7 => ldB h5 ((⟨b1, 0, none⟩ : Addr).add 2) fun x8 =>
  vizardlaw12_OutboxEnd.J3 lost0 b0 p0 ok0 (⟨b1, 0, none⟩ : Addr) (!((x6 == (text0.size : Int)) && ((x7 == (⟨#[]⟩ : ByteArray)) && ((x8 == true) && true)))) (fun h9 =>
  vizardlaw12_OutboxEnd.J4 lost0 b0 p0 ok0 (⟨b1, 0, none⟩ : Addr) Kr E h9) Kr E h5)) h1) E h0
structure vizardlaw12_OutboxEnd.J2 (text0 : ByteArray) (lost0 : Bool) (b0 : Option Addr) (p0 : Addr) (ok0 : Bool) (Kr : Bool → Heap → Prop) (E : Value → Heap → Prop) (H : Heap) : Prop where
  h : vizardlaw12_OutboxEnd.J2.vc text0 lost0 b0 p0 ok0 Kr E H
def vizardlaw12_OutboxEnd.vc (text0 : ByteArray) (lost0 : Bool) (K : Bool → Heap → Prop) (E : Value → Heap → Prop) (h0 : Heap) : Prop :=
  vizardlaw12_works.c (fun x0 h1 =>
  (if (!x0) = true then
  K false h1
  else
  (if (decide ((text0.size : Int) > 1000)) = true then
  K true h1
  else
  outbox_New.c (fun x1 h2 =>
  outbox_Box_Write.c x1 text0 false (fun x2 h3 =>
  (if (x2 != 0) = true then
  K false h3
  else
  outbox_Box_Next.c x1 2000 (fun x3 x4 x5 x6 h4 =>
  newB (.cells #[(.int .i64 0), (.string (⟨#[]⟩ : ByteArray)), (.bool false)] 72) (fun b0 h5 =>
  stc h5 ((⟨b0, 0, none⟩ : Addr).add 0) (.int .i64 x3) fun h6 =>
  stc h6 ((⟨b0, 0, none⟩ : Addr).add 1) (.string x4) fun h7 =>
  stc h7 ((⟨b0, 0, none⟩ : Addr).add 2) (.bool x5) fun h8 =>
  (if (!(x6 == (!(text0.toList == (⟨#[]⟩ : ByteArray).toList)))) = true then
  vizardlaw12_OutboxEnd.J1 text0 lost0 x1 (⟨b0, 0, none⟩ : Addr) x6 true (fun h9 =>
  vizardlaw12_OutboxEnd.J2 text0 lost0 x1 (⟨b0, 0, none⟩ : Addr) x6 K E h9) K E h8
  else
  outbox_Box_Write.c x1 (⟨#[]⟩ : ByteArray) true (fun x9 h12 =>
  (if (x9 != 0) = true then
  vizardlaw12_OutboxEnd.J1 text0 lost0 x1 (⟨b0, 0, none⟩ : Addr) x6 true (fun h13 =>
  vizardlaw12_OutboxEnd.J2 text0 lost0 x1 (⟨b0, 0, none⟩ : Addr) x6 K E h13) K E h12
  else
  outbox_Box_Write.c x1 (⟨#[120]⟩ : ByteArray) false (fun x12 h16 =>
  vizardlaw12_OutboxEnd.J1 text0 lost0 x1 (⟨b0, 0, none⟩ : Addr) x6 (x12 != 7) (fun h17 =>
  vizardlaw12_OutboxEnd.J2 text0 lost0 x1 (⟨b0, 0, none⟩ : Addr) x6 K E h17) K E h16) E h12)) E h8)) h4) E h3)) E h2) E h1))) E h0
structure vizardlaw12_OutboxEnd.c (text0 : ByteArray) (lost0 : Bool) (K : Bool → Heap → Prop) (E : Value → Heap → Prop) (H : Heap) : Prop where
  h : vizardlaw12_OutboxEnd.vc text0 lost0 (fun r0_0 H => ∃ H', Heap.Le H' H ∧ K r0_0 H') E H
def vizardlaw12_OutboxEnd.F : FT := fun args K E H => match args with
  | [(.string text0), (.bool lost0)] => vizardlaw12_OutboxEnd.c text0 lost0 (fun r0_0 H => K (.bool r0_0) H) E H
  | _ => False
noncomputable def vizardlaw12_OutboxEnd.Γ : FuncId → Option FT := Γof [(40, vizardlaw12_works.F), (41, outbox_New.F), (42, outbox_Box_Write.F), (43, outbox_Box_Next.F), (44, outbox_Box_Lost.F), (45, outbox_Box_Acked.F), (46, outbox_Box_State.F)]
theorem vizardlaw12_OutboxEnd.hΓ : ∀ f F, vizardlaw12_OutboxEnd.Γ f = some F → CalleeOk Try.prog f F := Γof_ok (List.forall_mem_cons.2 ⟨vizardlaw12_works.ok, List.forall_mem_cons.2 ⟨outbox_New.ok, List.forall_mem_cons.2 ⟨outbox_Box_Write.ok, List.forall_mem_cons.2 ⟨outbox_Box_Next.ok, List.forall_mem_cons.2 ⟨outbox_Box_Lost.ok, List.forall_mem_cons.2 ⟨outbox_Box_Acked.ok, List.forall_mem_cons.2 ⟨outbox_Box_State.ok, fun _ h => nomatch h⟩⟩⟩⟩⟩⟩⟩)
def vizardlaw12_OutboxEnd.J1.t : CT := fun Q E fr H => lenIs 99 fr (slS fr 0 fun text0 => slB fr 1 fun lost0 => slP fr 5 fun b0 => slPA fr 6 fun p0 => slB fr 7 fun ok0 => slB fr 45 fun x0 => vizardlaw12_OutboxEnd.J1 text0 lost0 b0 p0 ok0 x0 (fun  H => Q .normal (mkF 99 [(0, (.string text0)), (1, (.bool lost0)), (5, (.pointer b0)), (6, (.pointer (some p0))), (7, (.bool ok0))]) H) (fun y4_0 H => Q .ret (mkF 99 [(4, (.bool y4_0))]) H) E H)
noncomputable def vizardlaw12_OutboxEnd.J1.plan : Plan := .go
theorem vizardlaw12_OutboxEnd.J1.pok : PlanOk Try.prog vizardlaw12_OutboxEnd.J1.plan (sub [1, 1, 1, 1, 1, 1, 0, 1] vizardlaw12_OutboxEnd.body) := by
  have e : PlanOk Try.prog vizardlaw12_OutboxEnd.J1.plan (sub [1, 1, 1, 1, 1, 1, 0, 1] vizardlaw12_OutboxEnd.body) = (True) := by kernel_rfl
  exact e.mpr trivial
theorem vizardlaw12_OutboxEnd.J1.eq (text0 : ByteArray) (lost0 : Bool) (b0 : Option Addr) (p0 : Addr) (ok0 : Bool) (x0 : Bool) (Q : Ex → Fr → Heap → Prop) (E : Value → Heap → Prop) (H : Heap) :
    vizardlaw12_OutboxEnd.J1.vc text0 lost0 b0 p0 ok0 x0 (fun  H => Q .normal (mkF 99 [(0, (.string text0)), (1, (.bool lost0)), (5, (.pointer b0)), (6, (.pointer (some p0))), (7, (.bool ok0))]) H) (fun y4_0 H => Q .ret (mkF 99 [(4, (.bool y4_0))]) H) E H = keepT [0, 1, 5, 6, 7] [4] (fun i => []) (wC Try.prog vizardlaw12_OutboxEnd.Γ vizardlaw12_OutboxEnd.J1.plan (sub [1, 1, 1, 1, 1, 1, 0, 1] vizardlaw12_OutboxEnd.body)) Q E (mkF 99 [(0, (.string text0)), (1, (.bool lost0)), (5, (.pointer b0)), (6, (.pointer (some p0))), (7, (.bool ok0)), (45, (.bool x0))]) H := by
  kernel_rfl
theorem vizardlaw12_OutboxEnd.J1.ok : SoundCode Try.prog (sub [1, 1, 1, 1, 1, 1, 0, 1] vizardlaw12_OutboxEnd.body) vizardlaw12_OutboxEnd.J1.t := by
  refine piece_sound (keepT_sound [0, 1, 5, 6, 7] [4] (fun i => []) (wC_sound vizardlaw12_OutboxEnd.hΓ Try.hm vizardlaw12_OutboxEnd.J1.plan _ vizardlaw12_OutboxEnd.J1.pok)) ?_
  intro Q E fr H h
  unfold vizardlaw12_OutboxEnd.J1.t at h
  obtain ⟨hl, h⟩ := lenIs_elim h
  obtain ⟨text0, q0, h⟩ := slS_elim h
  obtain ⟨lost0, q1, h⟩ := slB_elim h
  obtain ⟨b0, q5, h⟩ := slP_elim h
  obtain ⟨p0, q6, h⟩ := slPA_elim h
  obtain ⟨ok0, q7, h⟩ := slB_elim h
  obtain ⟨x0, q45, h⟩ := slB_elim h
  refine ⟨(mkF 99 [(0, (.string text0)), (1, (.bool lost0)), (5, (.pointer b0)), (6, (.pointer (some p0))), (7, (.bool ok0)), (45, (.bool x0))]), fun a ha => ha.mk (Nat.le_of_eq hl.symm) (List.forall_mem_cons.2 ⟨q0, List.forall_mem_cons.2 ⟨q1, List.forall_mem_cons.2 ⟨q5, List.forall_mem_cons.2 ⟨q6, List.forall_mem_cons.2 ⟨q7, List.forall_mem_cons.2 ⟨q45, fun _ h => nomatch h⟩⟩⟩⟩⟩⟩), ?_⟩
  have e := vizardlaw12_OutboxEnd.J1.eq text0 lost0 b0 p0 ok0 x0 Q E H
  rw [← e]
  exact h.h
def vizardlaw12_OutboxEnd.J3.t : CT := fun Q E fr H => lenIs 99 fr (slB fr 1 fun lost0 => slP fr 5 fun b0 => slPA fr 6 fun p0 => slB fr 7 fun ok0 => slPA fr 8 fun q0 => slB fr 59 fun x0 => vizardlaw12_OutboxEnd.J3 lost0 b0 p0 ok0 q0 x0 (fun  H => Q .normal (mkF 99 [(1, (.bool lost0)), (5, (.pointer b0)), (6, (.pointer (some p0))), (7, (.bool ok0)), (8, (.pointer (some q0)))]) H) (fun y4_0 H => Q .ret (mkF 99 [(4, (.bool y4_0))]) H) E H)
noncomputable def vizardlaw12_OutboxEnd.J3.plan : Plan := .go
theorem vizardlaw12_OutboxEnd.J3.pok : PlanOk Try.prog vizardlaw12_OutboxEnd.J3.plan (sub [1, 1, 1, 1, 1, 1, 1, 1, 0, 1] vizardlaw12_OutboxEnd.body) := by
  have e : PlanOk Try.prog vizardlaw12_OutboxEnd.J3.plan (sub [1, 1, 1, 1, 1, 1, 1, 1, 0, 1] vizardlaw12_OutboxEnd.body) = (True) := by kernel_rfl
  exact e.mpr trivial
theorem vizardlaw12_OutboxEnd.J3.eq (lost0 : Bool) (b0 : Option Addr) (p0 : Addr) (ok0 : Bool) (q0 : Addr) (x0 : Bool) (Q : Ex → Fr → Heap → Prop) (E : Value → Heap → Prop) (H : Heap) :
    vizardlaw12_OutboxEnd.J3.vc lost0 b0 p0 ok0 q0 x0 (fun  H => Q .normal (mkF 99 [(1, (.bool lost0)), (5, (.pointer b0)), (6, (.pointer (some p0))), (7, (.bool ok0)), (8, (.pointer (some q0)))]) H) (fun y4_0 H => Q .ret (mkF 99 [(4, (.bool y4_0))]) H) E H = keepT [1, 5, 6, 7, 8] [4] (fun i => []) (wC Try.prog vizardlaw12_OutboxEnd.Γ vizardlaw12_OutboxEnd.J3.plan (sub [1, 1, 1, 1, 1, 1, 1, 1, 0, 1] vizardlaw12_OutboxEnd.body)) Q E (mkF 99 [(1, (.bool lost0)), (5, (.pointer b0)), (6, (.pointer (some p0))), (7, (.bool ok0)), (8, (.pointer (some q0))), (59, (.bool x0))]) H := by
  kernel_rfl
theorem vizardlaw12_OutboxEnd.J3.ok : SoundCode Try.prog (sub [1, 1, 1, 1, 1, 1, 1, 1, 0, 1] vizardlaw12_OutboxEnd.body) vizardlaw12_OutboxEnd.J3.t := by
  refine piece_sound (keepT_sound [1, 5, 6, 7, 8] [4] (fun i => []) (wC_sound vizardlaw12_OutboxEnd.hΓ Try.hm vizardlaw12_OutboxEnd.J3.plan _ vizardlaw12_OutboxEnd.J3.pok)) ?_
  intro Q E fr H h
  unfold vizardlaw12_OutboxEnd.J3.t at h
  obtain ⟨hl, h⟩ := lenIs_elim h
  obtain ⟨lost0, q1, h⟩ := slB_elim h
  obtain ⟨b0, q5, h⟩ := slP_elim h
  obtain ⟨p0, q6, h⟩ := slPA_elim h
  obtain ⟨ok0, q7, h⟩ := slB_elim h
  obtain ⟨q0, q8, h⟩ := slPA_elim h
  obtain ⟨x0, q59, h⟩ := slB_elim h
  refine ⟨(mkF 99 [(1, (.bool lost0)), (5, (.pointer b0)), (6, (.pointer (some p0))), (7, (.bool ok0)), (8, (.pointer (some q0))), (59, (.bool x0))]), fun a ha => ha.mk (Nat.le_of_eq hl.symm) (List.forall_mem_cons.2 ⟨q1, List.forall_mem_cons.2 ⟨q5, List.forall_mem_cons.2 ⟨q6, List.forall_mem_cons.2 ⟨q7, List.forall_mem_cons.2 ⟨q8, List.forall_mem_cons.2 ⟨q59, fun _ h => nomatch h⟩⟩⟩⟩⟩⟩), ?_⟩
  have e := vizardlaw12_OutboxEnd.J3.eq lost0 b0 p0 ok0 q0 x0 Q E H
  rw [← e]
  exact h.h
def vizardlaw12_OutboxEnd.J5.t : CT := fun Q E fr H => lenIs 99 fr (slP fr 5 fun b0 => slPA fr 6 fun p0 => slB fr 7 fun ok0 => slPA fr 8 fun q0 => slB fr 75 fun x0 => vizardlaw12_OutboxEnd.J5 b0 p0 ok0 q0 x0 (fun  H => Q .normal (mkF 99 [(5, (.pointer b0)), (6, (.pointer (some p0))), (7, (.bool ok0)), (8, (.pointer (some q0)))]) H) (fun y4_0 H => Q .ret (mkF 99 [(4, (.bool y4_0))]) H) E H)
noncomputable def vizardlaw12_OutboxEnd.J5.plan : Plan := .go
theorem vizardlaw12_OutboxEnd.J5.pok : PlanOk Try.prog vizardlaw12_OutboxEnd.J5.plan (sub [1, 1, 1, 1, 1, 1, 1, 1, 1, 0, 1, 0, 1, 1, 1] vizardlaw12_OutboxEnd.body) := by
  have e : PlanOk Try.prog vizardlaw12_OutboxEnd.J5.plan (sub [1, 1, 1, 1, 1, 1, 1, 1, 1, 0, 1, 0, 1, 1, 1] vizardlaw12_OutboxEnd.body) = (True) := by kernel_rfl
  exact e.mpr trivial
theorem vizardlaw12_OutboxEnd.J5.eq (b0 : Option Addr) (p0 : Addr) (ok0 : Bool) (q0 : Addr) (x0 : Bool) (Q : Ex → Fr → Heap → Prop) (E : Value → Heap → Prop) (H : Heap) :
    vizardlaw12_OutboxEnd.J5.vc b0 p0 ok0 q0 x0 (fun  H => Q .normal (mkF 99 [(5, (.pointer b0)), (6, (.pointer (some p0))), (7, (.bool ok0)), (8, (.pointer (some q0)))]) H) (fun y4_0 H => Q .ret (mkF 99 [(4, (.bool y4_0))]) H) E H = keepT [5, 6, 7, 8] [4] (fun i => []) (wC Try.prog vizardlaw12_OutboxEnd.Γ vizardlaw12_OutboxEnd.J5.plan (sub [1, 1, 1, 1, 1, 1, 1, 1, 1, 0, 1, 0, 1, 1, 1] vizardlaw12_OutboxEnd.body)) Q E (mkF 99 [(5, (.pointer b0)), (6, (.pointer (some p0))), (7, (.bool ok0)), (8, (.pointer (some q0))), (75, (.bool x0))]) H := by
  kernel_rfl
theorem vizardlaw12_OutboxEnd.J5.ok : SoundCode Try.prog (sub [1, 1, 1, 1, 1, 1, 1, 1, 1, 0, 1, 0, 1, 1, 1] vizardlaw12_OutboxEnd.body) vizardlaw12_OutboxEnd.J5.t := by
  refine piece_sound (keepT_sound [5, 6, 7, 8] [4] (fun i => []) (wC_sound vizardlaw12_OutboxEnd.hΓ Try.hm vizardlaw12_OutboxEnd.J5.plan _ vizardlaw12_OutboxEnd.J5.pok)) ?_
  intro Q E fr H h
  unfold vizardlaw12_OutboxEnd.J5.t at h
  obtain ⟨hl, h⟩ := lenIs_elim h
  obtain ⟨b0, q5, h⟩ := slP_elim h
  obtain ⟨p0, q6, h⟩ := slPA_elim h
  obtain ⟨ok0, q7, h⟩ := slB_elim h
  obtain ⟨q0, q8, h⟩ := slPA_elim h
  obtain ⟨x0, q75, h⟩ := slB_elim h
  refine ⟨(mkF 99 [(5, (.pointer b0)), (6, (.pointer (some p0))), (7, (.bool ok0)), (8, (.pointer (some q0))), (75, (.bool x0))]), fun a ha => ha.mk (Nat.le_of_eq hl.symm) (List.forall_mem_cons.2 ⟨q5, List.forall_mem_cons.2 ⟨q6, List.forall_mem_cons.2 ⟨q7, List.forall_mem_cons.2 ⟨q8, List.forall_mem_cons.2 ⟨q75, fun _ h => nomatch h⟩⟩⟩⟩⟩), ?_⟩
  have e := vizardlaw12_OutboxEnd.J5.eq b0 p0 ok0 q0 x0 Q E H
  rw [← e]
  exact h.h
def vizardlaw12_OutboxEnd.J7.t : CT := fun Q E fr H => lenIs 99 fr (slP fr 5 fun b0 => slPA fr 8 fun q0 => slB fr 13 fun again0 => vizardlaw12_OutboxEnd.J7 b0 q0 again0 (fun y4_0 H => Q .ret (mkF 99 [(4, (.bool y4_0))]) H) E H)
noncomputable def vizardlaw12_OutboxEnd.J7.plan : Plan := .go
theorem vizardlaw12_OutboxEnd.J7.pok : PlanOk Try.prog vizardlaw12_OutboxEnd.J7.plan (sub [1, 1, 1, 1, 1, 1, 1, 1, 1, 1, 1, 1] vizardlaw12_OutboxEnd.body) := by
  have e : PlanOk Try.prog vizardlaw12_OutboxEnd.J7.plan (sub [1, 1, 1, 1, 1, 1, 1, 1, 1, 1, 1, 1] vizardlaw12_OutboxEnd.body) = (True) := by kernel_rfl
  exact e.mpr trivial
theorem vizardlaw12_OutboxEnd.J7.eq (b0 : Option Addr) (q0 : Addr) (again0 : Bool) (Q : Ex → Fr → Heap → Prop) (E : Value → Heap → Prop) (H : Heap) :
    vizardlaw12_OutboxEnd.J7.vc b0 q0 again0 (fun y4_0 H => Q .ret (mkF 99 [(4, (.bool y4_0))]) H) E H = keepT [] [4] (fun i => []) (wC Try.prog vizardlaw12_OutboxEnd.Γ vizardlaw12_OutboxEnd.J7.plan (sub [1, 1, 1, 1, 1, 1, 1, 1, 1, 1, 1, 1] vizardlaw12_OutboxEnd.body)) Q E (mkF 99 [(5, (.pointer b0)), (8, (.pointer (some q0))), (13, (.bool again0))]) H := by
  kernel_rfl
theorem vizardlaw12_OutboxEnd.J7.ok : SoundCode Try.prog (sub [1, 1, 1, 1, 1, 1, 1, 1, 1, 1, 1, 1] vizardlaw12_OutboxEnd.body) vizardlaw12_OutboxEnd.J7.t := by
  refine piece_sound (keepT_sound [] [4] (fun i => []) (wC_sound vizardlaw12_OutboxEnd.hΓ Try.hm vizardlaw12_OutboxEnd.J7.plan _ vizardlaw12_OutboxEnd.J7.pok)) ?_
  intro Q E fr H h
  unfold vizardlaw12_OutboxEnd.J7.t at h
  obtain ⟨hl, h⟩ := lenIs_elim h
  obtain ⟨b0, q5, h⟩ := slP_elim h
  obtain ⟨q0, q8, h⟩ := slPA_elim h
  obtain ⟨again0, q13, h⟩ := slB_elim h
  refine ⟨(mkF 99 [(5, (.pointer b0)), (8, (.pointer (some q0))), (13, (.bool again0))]), fun a ha => ha.mk (Nat.le_of_eq hl.symm) (List.forall_mem_cons.2 ⟨q5, List.forall_mem_cons.2 ⟨q8, List.forall_mem_cons.2 ⟨q13, fun _ h => nomatch h⟩⟩⟩), ?_⟩
  have e := vizardlaw12_OutboxEnd.J7.eq b0 q0 again0 Q E H
  rw [← e]
  exact h.h
def vizardlaw12_OutboxEnd.J6.t : CT := fun Q E fr H => lenIs 99 fr (slP fr 5 fun b0 => slPA fr 6 fun p0 => slB fr 7 fun ok0 => slPA fr 8 fun q0 => vizardlaw12_OutboxEnd.J6 b0 p0 ok0 q0 (fun y4_0 H => Q .ret (mkF 99 [(4, (.bool y4_0))]) H) E H)
noncomputable def vizardlaw12_OutboxEnd.J6.plan : Plan := .seq (.go) (.seq (.go) (.use vizardlaw12_OutboxEnd.J7.t))
theorem vizardlaw12_OutboxEnd.J6.pok : PlanOk Try.prog vizardlaw12_OutboxEnd.J6.plan (sub [1, 1, 1, 1, 1, 1, 1, 1, 1, 1] vizardlaw12_OutboxEnd.body) := by
  have e : PlanOk Try.prog vizardlaw12_OutboxEnd.J6.plan (sub [1, 1, 1, 1, 1, 1, 1, 1, 1, 1] vizardlaw12_OutboxEnd.body) = ((True) ∧ ((True) ∧ (SoundCode Try.prog (sub [1, 1, 1, 1, 1, 1, 1, 1, 1, 1, 1, 1] vizardlaw12_OutboxEnd.body) vizardlaw12_OutboxEnd.J7.t))) := by kernel_rfl
  exact e.mpr ⟨trivial, ⟨trivial, vizardlaw12_OutboxEnd.J7.ok⟩⟩
theorem vizardlaw12_OutboxEnd.J6.eq (b0 : Option Addr) (p0 : Addr) (ok0 : Bool) (q0 : Addr) (Q : Ex → Fr → Heap → Prop) (E : Value → Heap → Prop) (H : Heap) :
    vizardlaw12_OutboxEnd.J6.vc b0 p0 ok0 q0 (fun y4_0 H => Q .ret (mkF 99 [(4, (.bool y4_0))]) H) E H = keepT [] [4] (fun i => []) (wC Try.prog vizardlaw12_OutboxEnd.Γ vizardlaw12_OutboxEnd.J6.plan (sub [1, 1, 1, 1, 1, 1, 1, 1, 1, 1] vizardlaw12_OutboxEnd.body)) Q E (mkF 99 [(5, (.pointer b0)), (6, (.pointer (some p0))), (7, (.bool ok0)), (8, (.pointer (some q0)))]) H := by
  kernel_rfl
theorem vizardlaw12_OutboxEnd.J6.ok : SoundCode Try.prog (sub [1, 1, 1, 1, 1, 1, 1, 1, 1, 1] vizardlaw12_OutboxEnd.body) vizardlaw12_OutboxEnd.J6.t := by
  refine piece_sound (keepT_sound [] [4] (fun i => []) (wC_sound vizardlaw12_OutboxEnd.hΓ Try.hm vizardlaw12_OutboxEnd.J6.plan _ vizardlaw12_OutboxEnd.J6.pok)) ?_
  intro Q E fr H h
  unfold vizardlaw12_OutboxEnd.J6.t at h
  obtain ⟨hl, h⟩ := lenIs_elim h
  obtain ⟨b0, q5, h⟩ := slP_elim h
  obtain ⟨p0, q6, h⟩ := slPA_elim h
  obtain ⟨ok0, q7, h⟩ := slB_elim h
  obtain ⟨q0, q8, h⟩ := slPA_elim h
  refine ⟨(mkF 99 [(5, (.pointer b0)), (6, (.pointer (some p0))), (7, (.bool ok0)), (8, (.pointer (some q0)))]), fun a ha => ha.mk (Nat.le_of_eq hl.symm) (List.forall_mem_cons.2 ⟨q5, List.forall_mem_cons.2 ⟨q6, List.forall_mem_cons.2 ⟨q7, List.forall_mem_cons.2 ⟨q8, fun _ h => nomatch h⟩⟩⟩⟩), ?_⟩
  have e := vizardlaw12_OutboxEnd.J6.eq b0 p0 ok0 q0 Q E H
  rw [← e]
  exact h.h
def vizardlaw12_OutboxEnd.J4.t : CT := fun Q E fr H => lenIs 99 fr (slB fr 1 fun lost0 => slP fr 5 fun b0 => slPA fr 6 fun p0 => slB fr 7 fun ok0 => slPA fr 8 fun q0 => vizardlaw12_OutboxEnd.J4 lost0 b0 p0 ok0 q0 (fun y4_0 H => Q .ret (mkF 99 [(4, (.bool y4_0))]) H) E H)
noncomputable def vizardlaw12_OutboxEnd.J4.plan : Plan := .seq (.seq (.go) (.cond (.seq (.go) (.seq (.go) (.seq (.go) (.use vizardlaw12_OutboxEnd.J5.t)))) (.go))) (.use vizardlaw12_OutboxEnd.J6.t)
theorem vizardlaw12_OutboxEnd.J4.pok : PlanOk Try.prog vizardlaw12_OutboxEnd.J4.plan (sub [1, 1, 1, 1, 1, 1, 1, 1, 1] vizardlaw12_OutboxEnd.body) := by
  have e : PlanOk Try.prog vizardlaw12_OutboxEnd.J4.plan (sub [1, 1, 1, 1, 1, 1, 1, 1, 1] vizardlaw12_OutboxEnd.body) = (((True) ∧ (((True) ∧ ((True) ∧ ((True) ∧ (SoundCode Try.prog (sub [1, 1, 1, 1, 1, 1, 1, 1, 1, 0, 1, 0, 1, 1, 1] vizardlaw12_OutboxEnd.body) vizardlaw12_OutboxEnd.J5.t)))) ∧ (True))) ∧ (SoundCode Try.prog (sub [1, 1, 1, 1, 1, 1, 1, 1, 1, 1] vizardlaw12_OutboxEnd.body) vizardlaw12_OutboxEnd.J6.t)) := by kernel_rfl
  exact e.mpr ⟨⟨trivial, ⟨⟨trivial, ⟨trivial, ⟨trivial, vizardlaw12_OutboxEnd.J5.ok⟩⟩⟩, trivial⟩⟩, vizardlaw12_OutboxEnd.J6.ok⟩
theorem vizardlaw12_OutboxEnd.J4.eq (lost0 : Bool) (b0 : Option Addr) (p0 : Addr) (ok0 : Bool) (q0 : Addr) (Q : Ex → Fr → Heap → Prop) (E : Value → Heap → Prop) (H : Heap) :
    vizardlaw12_OutboxEnd.J4.vc lost0 b0 p0 ok0 q0 (fun y4_0 H => Q .ret (mkF 99 [(4, (.bool y4_0))]) H) E H = keepT [] [4] (fun i => []) (wC Try.prog vizardlaw12_OutboxEnd.Γ vizardlaw12_OutboxEnd.J4.plan (sub [1, 1, 1, 1, 1, 1, 1, 1, 1] vizardlaw12_OutboxEnd.body)) Q E (mkF 99 [(1, (.bool lost0)), (5, (.pointer b0)), (6, (.pointer (some p0))), (7, (.bool ok0)), (8, (.pointer (some q0)))]) H := by
  kernel_rfl
theorem vizardlaw12_OutboxEnd.J4.ok : SoundCode Try.prog (sub [1, 1, 1, 1, 1, 1, 1, 1, 1] vizardlaw12_OutboxEnd.body) vizardlaw12_OutboxEnd.J4.t := by
  refine piece_sound (keepT_sound [] [4] (fun i => []) (wC_sound vizardlaw12_OutboxEnd.hΓ Try.hm vizardlaw12_OutboxEnd.J4.plan _ vizardlaw12_OutboxEnd.J4.pok)) ?_
  intro Q E fr H h
  unfold vizardlaw12_OutboxEnd.J4.t at h
  obtain ⟨hl, h⟩ := lenIs_elim h
  obtain ⟨lost0, q1, h⟩ := slB_elim h
  obtain ⟨b0, q5, h⟩ := slP_elim h
  obtain ⟨p0, q6, h⟩ := slPA_elim h
  obtain ⟨ok0, q7, h⟩ := slB_elim h
  obtain ⟨q0, q8, h⟩ := slPA_elim h
  refine ⟨(mkF 99 [(1, (.bool lost0)), (5, (.pointer b0)), (6, (.pointer (some p0))), (7, (.bool ok0)), (8, (.pointer (some q0)))]), fun a ha => ha.mk (Nat.le_of_eq hl.symm) (List.forall_mem_cons.2 ⟨q1, List.forall_mem_cons.2 ⟨q5, List.forall_mem_cons.2 ⟨q6, List.forall_mem_cons.2 ⟨q7, List.forall_mem_cons.2 ⟨q8, fun _ h => nomatch h⟩⟩⟩⟩⟩), ?_⟩
  have e := vizardlaw12_OutboxEnd.J4.eq lost0 b0 p0 ok0 q0 Q E H
  rw [← e]
  exact h.h
def vizardlaw12_OutboxEnd.J2.t : CT := fun Q E fr H => lenIs 99 fr (slS fr 0 fun text0 => slB fr 1 fun lost0 => slP fr 5 fun b0 => slPA fr 6 fun p0 => slB fr 7 fun ok0 => vizardlaw12_OutboxEnd.J2 text0 lost0 b0 p0 ok0 (fun y4_0 H => Q .ret (mkF 99 [(4, (.bool y4_0))]) H) E H)
noncomputable def vizardlaw12_OutboxEnd.J2.plan : Plan := .seq (.go) (.seq (.seq (.go) (.use vizardlaw12_OutboxEnd.J3.t)) (.use vizardlaw12_OutboxEnd.J4.t))
theorem vizardlaw12_OutboxEnd.J2.pok : PlanOk Try.prog vizardlaw12_OutboxEnd.J2.plan (sub [1, 1, 1, 1, 1, 1, 1] vizardlaw12_OutboxEnd.body) := by
  have e : PlanOk Try.prog vizardlaw12_OutboxEnd.J2.plan (sub [1, 1, 1, 1, 1, 1, 1] vizardlaw12_OutboxEnd.body) = ((True) ∧ (((True) ∧ (SoundCode Try.prog (sub [1, 1, 1, 1, 1, 1, 1, 1, 0, 1] vizardlaw12_OutboxEnd.body) vizardlaw12_OutboxEnd.J3.t)) ∧ (SoundCode Try.prog (sub [1, 1, 1, 1, 1, 1, 1, 1, 1] vizardlaw12_OutboxEnd.body) vizardlaw12_OutboxEnd.J4.t))) := by kernel_rfl
  exact e.mpr ⟨trivial, ⟨⟨trivial, vizardlaw12_OutboxEnd.J3.ok⟩, vizardlaw12_OutboxEnd.J4.ok⟩⟩
theorem vizardlaw12_OutboxEnd.J2.eq (text0 : ByteArray) (lost0 : Bool) (b0 : Option Addr) (p0 : Addr) (ok0 : Bool) (Q : Ex → Fr → Heap → Prop) (E : Value → Heap → Prop) (H : Heap) :
    vizardlaw12_OutboxEnd.J2.vc text0 lost0 b0 p0 ok0 (fun y4_0 H => Q .ret (mkF 99 [(4, (.bool y4_0))]) H) E H = keepT [] [4] (fun i => []) (wC Try.prog vizardlaw12_OutboxEnd.Γ vizardlaw12_OutboxEnd.J2.plan (sub [1, 1, 1, 1, 1, 1, 1] vizardlaw12_OutboxEnd.body)) Q E (mkF 99 [(0, (.string text0)), (1, (.bool lost0)), (5, (.pointer b0)), (6, (.pointer (some p0))), (7, (.bool ok0))]) H := by
  kernel_rfl
theorem vizardlaw12_OutboxEnd.J2.ok : SoundCode Try.prog (sub [1, 1, 1, 1, 1, 1, 1] vizardlaw12_OutboxEnd.body) vizardlaw12_OutboxEnd.J2.t := by
  refine piece_sound (keepT_sound [] [4] (fun i => []) (wC_sound vizardlaw12_OutboxEnd.hΓ Try.hm vizardlaw12_OutboxEnd.J2.plan _ vizardlaw12_OutboxEnd.J2.pok)) ?_
  intro Q E fr H h
  unfold vizardlaw12_OutboxEnd.J2.t at h
  obtain ⟨hl, h⟩ := lenIs_elim h
  obtain ⟨text0, q0, h⟩ := slS_elim h
  obtain ⟨lost0, q1, h⟩ := slB_elim h
  obtain ⟨b0, q5, h⟩ := slP_elim h
  obtain ⟨p0, q6, h⟩ := slPA_elim h
  obtain ⟨ok0, q7, h⟩ := slB_elim h
  refine ⟨(mkF 99 [(0, (.string text0)), (1, (.bool lost0)), (5, (.pointer b0)), (6, (.pointer (some p0))), (7, (.bool ok0))]), fun a ha => ha.mk (Nat.le_of_eq hl.symm) (List.forall_mem_cons.2 ⟨q0, List.forall_mem_cons.2 ⟨q1, List.forall_mem_cons.2 ⟨q5, List.forall_mem_cons.2 ⟨q6, List.forall_mem_cons.2 ⟨q7, fun _ h => nomatch h⟩⟩⟩⟩⟩), ?_⟩
  have e := vizardlaw12_OutboxEnd.J2.eq text0 lost0 b0 p0 ok0 Q E H
  rw [← e]
  exact h.h
noncomputable def vizardlaw12_OutboxEnd.plan : Plan := .seq (.go) (.seq (.go) (.seq (.go) (.seq (.go) (.seq (.go) (.seq (.go) (.seq (.seq (.go) (.use vizardlaw12_OutboxEnd.J1.t)) (.use vizardlaw12_OutboxEnd.J2.t)))))))
theorem vizardlaw12_OutboxEnd.pok : PlanOk Try.prog vizardlaw12_OutboxEnd.plan vizardlaw12_OutboxEnd.body := by
  have e : PlanOk Try.prog vizardlaw12_OutboxEnd.plan vizardlaw12_OutboxEnd.body = ((True) ∧ ((True) ∧ ((True) ∧ ((True) ∧ ((True) ∧ ((True) ∧ (((True) ∧ (SoundCode Try.prog (sub [1, 1, 1, 1, 1, 1, 0, 1] vizardlaw12_OutboxEnd.body) vizardlaw12_OutboxEnd.J1.t)) ∧ (SoundCode Try.prog (sub [1, 1, 1, 1, 1, 1, 1] vizardlaw12_OutboxEnd.body) vizardlaw12_OutboxEnd.J2.t)))))))) := by kernel_rfl
  exact e.mpr ⟨trivial, ⟨trivial, ⟨trivial, ⟨trivial, ⟨trivial, ⟨trivial, ⟨⟨trivial, vizardlaw12_OutboxEnd.J1.ok⟩, vizardlaw12_OutboxEnd.J2.ok⟩⟩⟩⟩⟩⟩⟩
theorem vizardlaw12_OutboxEnd.eq (text0 : ByteArray) (lost0 : Bool) (K : Value → Heap → Prop) (E : Value → Heap → Prop) (H : Heap) :
    fnT Try.prog Try.f10 (wC Try.prog vizardlaw12_OutboxEnd.Γ vizardlaw12_OutboxEnd.plan vizardlaw12_OutboxEnd.body) [(.string text0), (.bool lost0)] K E H = vizardlaw12_OutboxEnd.vc text0 lost0 (fun r0_0 H => K (.bool r0_0) H) E H := by
  kernel_rfl
theorem vizardlaw12_OutboxEnd.Fe {args : List Value} {K E : Value → Heap → Prop} {H : Heap} (h : vizardlaw12_OutboxEnd.F args K E H) : ∃ text0 lost0, args = [(.string text0), (.bool lost0)] ∧ vizardlaw12_OutboxEnd.c text0 lost0 (fun r0_0 H => K (.bool r0_0) H) E H := by
  unfold vizardlaw12_OutboxEnd.F at h
  split at h
  · exact ⟨_, _, rfl, h⟩
  · exact h.elim
theorem vizardlaw12_OutboxEnd.ok : CalleeOk Try.prog 10 vizardlaw12_OutboxEnd.F :=
  callee_ok vizardlaw12_OutboxEnd.hΓ (fn := Try.f10) (c := vizardlaw12_OutboxEnd.body) (T := wC Try.prog vizardlaw12_OutboxEnd.Γ vizardlaw12_OutboxEnd.plan vizardlaw12_OutboxEnd.body) (by kernel_rfl) (by kernel_rfl) (by kernel_rfl) (wC_sound vizardlaw12_OutboxEnd.hΓ Try.hm vizardlaw12_OutboxEnd.plan _ vizardlaw12_OutboxEnd.pok) fun _ K E H h => by
    obtain ⟨z0, z1, e, h⟩ := vizardlaw12_OutboxEnd.Fe h
    subst e
    have h2 : vizardlaw12_OutboxEnd.vc z0 z1 (fun r0_0 H => ∃ H', Heap.Le H' H ∧ K (.bool r0_0) H') E H := h.h
    rw [vizardlaw12_OutboxEnd.eq z0 z1 (Fg K) E H]
    exact h2

/-! (*vizard/outbox.Box).Allow -/
noncomputable def outbox_Box_Allow.body : Code := Try.f47.body.getD .skip
def outbox_Box_Allow.vc (b0 : Option Addr) (limit0 : Int) (K : Heap → Prop) (E : Value → Heap → Prop) (h0 : Heap) : Prop :=
  nilc b0 fun a0 =>
  ldI h0 .i64 (a0.add 3) fun x0 =>
  nilc b0 fun a1 =>
  stc h0 (a1.add 3) (.int .i64 (if limit0 > x0 then limit0 else x0)) fun h1 =>
  K h1
structure outbox_Box_Allow.c (b0 : Option Addr) (limit0 : Int) (K : Heap → Prop) (E : Value → Heap → Prop) (H : Heap) : Prop where
  h : outbox_Box_Allow.vc b0 limit0 (fun  H => ∃ H', Heap.Le H' H ∧ K  H') E H
def outbox_Box_Allow.F : FT := fun args K E H => match args with
  | [(.pointer b0), (.int .i64 limit0)] => outbox_Box_Allow.c b0 limit0 (fun  H => K (.tuple #[]) H) E H
  | _ => False
noncomputable def outbox_Box_Allow.Γ : FuncId → Option FT := Γof []
theorem outbox_Box_Allow.hΓ : ∀ f F, outbox_Box_Allow.Γ f = some F → CalleeOk Try.prog f F := Γof_ok (fun _ h => nomatch h)
noncomputable def outbox_Box_Allow.plan : Plan := .go
theorem outbox_Box_Allow.pok : PlanOk Try.prog outbox_Box_Allow.plan outbox_Box_Allow.body := by
  have e : PlanOk Try.prog outbox_Box_Allow.plan outbox_Box_Allow.body = (True) := by kernel_rfl
  exact e.mpr trivial
theorem outbox_Box_Allow.eq (b0 : Option Addr) (limit0 : Int) (K : Value → Heap → Prop) (E : Value → Heap → Prop) (H : Heap) :
    fnT Try.prog Try.f47 (wC Try.prog outbox_Box_Allow.Γ outbox_Box_Allow.plan outbox_Box_Allow.body) [(.pointer b0), (.int .i64 limit0)] K E H = outbox_Box_Allow.vc b0 limit0 (fun  H => K (.tuple #[]) H) E H := by
  kernel_rfl
theorem outbox_Box_Allow.Fe {args : List Value} {K E : Value → Heap → Prop} {H : Heap} (h : outbox_Box_Allow.F args K E H) : ∃ b0 limit0, args = [(.pointer b0), (.int .i64 limit0)] ∧ outbox_Box_Allow.c b0 limit0 (fun  H => K (.tuple #[]) H) E H := by
  unfold outbox_Box_Allow.F at h
  split at h
  · exact ⟨_, _, rfl, h⟩
  · exact h.elim
theorem outbox_Box_Allow.ok : CalleeOk Try.prog 47 outbox_Box_Allow.F :=
  callee_ok outbox_Box_Allow.hΓ (fn := Try.f47) (c := outbox_Box_Allow.body) (T := wC Try.prog outbox_Box_Allow.Γ outbox_Box_Allow.plan outbox_Box_Allow.body) (by kernel_rfl) (by kernel_rfl) (by kernel_rfl) (wC_sound outbox_Box_Allow.hΓ Try.hm outbox_Box_Allow.plan _ outbox_Box_Allow.pok) fun _ K E H h => by
    obtain ⟨z0, z1, e, h⟩ := outbox_Box_Allow.Fe h
    subst e
    have h2 : outbox_Box_Allow.vc z0 z1 (fun  H => ∃ H', Heap.Le H' H ∧ K (.tuple #[]) H') E H := h.h
    rw [outbox_Box_Allow.eq z0 z1 (Fg K) E H]
    exact h2

/-! vizard/vizardlaw12.OutboxPieces -/
noncomputable def vizardlaw12_OutboxPieces.body : Code := Try.f11.body.getD .skip
def vizardlaw12_OutboxPieces.J3.vc (text0 : ByteArray) (most0 : Int) (b0 : Option Addr) (may0 : Int) (at0 : Int) (n0 : Int) (x0 : Bool) (Kn : Heap → Prop) (Kr : Bool → Heap → Prop) (E : Value → Heap → Prop) (h0 : Heap) : Prop :=
  (if x0 = true then
  Kr false h0
  else
  Kn h0)
structure vizardlaw12_OutboxPieces.J3 (text0 : ByteArray) (most0 : Int) (b0 : Option Addr) (may0 : Int) (at0 : Int) (n0 : Int) (x0 : Bool) (Kn : Heap → Prop) (Kr : Bool → Heap → Prop) (E : Value → Heap → Prop) (H : Heap) : Prop where
  h : vizardlaw12_OutboxPieces.J3.vc text0 most0 b0 may0 at0 n0 x0 Kn Kr E H
def vizardlaw12_OutboxPieces.J4.vc (text0 : ByteArray) (most0 : Int) (b0 : Option Addr) (may0 : Int) (at0 : Int) (n0 : Int) (Kn : Int → Heap → Prop) (E : Value → Heap → Prop) (h0 : Heap) : Prop :=
  Kn (IntKind.i64.wrap (at0 + n0)) h0
structure vizardlaw12_OutboxPieces.J4 (text0 : ByteArray) (most0 : Int) (b0 : Option Addr) (may0 : Int) (at0 : Int) (n0 : Int) (Kn : Int → Heap → Prop) (E : Value → Heap → Prop) (H : Heap) : Prop where
  h : vizardlaw12_OutboxPieces.J4.vc text0 most0 b0 may0 at0 n0 Kn E H
def vizardlaw12_OutboxPieces.W2.vc (text0 : ByteArray) (most0 : Int) (b0 : Option Addr) (may0 : Int) (at0 : Int) (Kx0 : Int → Heap → Prop) (Kr : Bool → Heap → Prop) (RR : Int → Heap → Prop) (E : Value → Heap → Prop) (h0 : Heap) : Prop :=
  outbox_Box_Next.c b0 most0 (fun x0 x1 x2 x3 h1 =>
  newB (.cells #[(.int .i64 0), (.string (⟨#[]⟩ : ByteArray)), (.bool false)] 72) (fun b1 h2 =>
  stc h2 ((⟨b1, 0, none⟩ : Addr).add 0) (.int .i64 x0) fun h3 =>
  stc h3 ((⟨b1, 0, none⟩ : Addr).add 1) (.string x1) fun h4 =>
  stc h4 ((⟨b1, 0, none⟩ : Addr).add 2) (.bool x2) fun h5 =>
  (if (!x3) = true then
  Kx0 at0 h5
  else
  ldS h5 ((⟨b1, 0, none⟩ : Addr).add 1) fun x4 =>
  ldI h5 .i64 ((⟨b1, 0, none⟩ : Addr).add 0) fun x5 =>
  (if (x5 != at0) = true then
  vizardlaw12_OutboxPieces.J3 text0 most0 b0 may0 at0 (x4.size : Int) true (fun h6 =>
  vizardlaw12_OutboxPieces.J4 text0 most0 b0 may0 at0 (x4.size : Int) RR E h6) Kr E h5
  else
  (if (decide ((x4.size : Int) < 1)) = true then
  vizardlaw12_OutboxPieces.J3 text0 most0 b0 may0 at0 (x4.size : Int) true (fun h9 =>
  vizardlaw12_OutboxPieces.J4 text0 most0 b0 may0 at0 (x4.size : Int) RR E h9) Kr E h5
  else
  (if (decide ((x4.size : Int) > most0)) = true then
  vizardlaw12_OutboxPieces.J3 text0 most0 b0 may0 at0 (x4.size : Int) true (fun h12 =>
  vizardlaw12_OutboxPieces.J4 text0 most0 b0 may0 at0 (x4.size : Int) RR E h12) Kr E h5
  else
  ldB h5 ((⟨b1, 0, none⟩ : Addr).add 2) fun x9 =>
  (if x9 = true then
  vizardlaw12_OutboxPieces.J3 text0 most0 b0 may0 at0 (x4.size : Int) true (fun h15 =>
  vizardlaw12_OutboxPieces.J4 text0 most0 b0 may0 at0 (x4.size : Int) RR E h15) Kr E h5
  else
  (if (decide ((IntKind.i64.wrap (at0 + (x4.size : Int))) > (text0.size : Int))) = true then
  vizardlaw12_OutboxPieces.J3 text0 most0 b0 may0 at0 (x4.size : Int) true (fun h18 =>
  vizardlaw12_OutboxPieces.J4 text0 most0 b0 may0 at0 (x4.size : Int) RR E h18) Kr E h5
  else
  (0 : Int) ≤ at0 ∧ at0 ≤ ((IntKind.i64.wrap (at0 + (x4.size : Int))) : Int) ∧ (IntKind.i64.wrap (at0 + (x4.size : Int))) ≤ (text0.size : Int) ∧
  ldS h5 ((⟨b1, 0, none⟩ : Addr).add 1) fun x12 =>
  (if (!((text0.extract at0.toNat (IntKind.i64.wrap (at0 + (x4.size : Int))).toNat).toList == x12.toList)) = true then
  vizardlaw12_OutboxPieces.J3 text0 most0 b0 may0 at0 (x4.size : Int) true (fun h21 =>
  vizardlaw12_OutboxPieces.J4 text0 most0 b0 may0 at0 (x4.size : Int) RR E h21) Kr E h5
  else
  (if (decide ((x4.size : Int) < most0)) = true then
  vizardlaw12_OutboxPieces.J3 text0 most0 b0 may0 at0 (x4.size : Int) ((IntKind.i64.wrap (at0 + (x4.size : Int))) != (if (text0.size : Int) < may0 then (text0.size : Int) else may0)) (fun h24 =>
  vizardlaw12_OutboxPieces.J4 text0 most0 b0 may0 at0 (x4.size : Int) RR E h24) Kr E h5
  else
  vizardlaw12_OutboxPieces.J3 text0 most0 b0 may0 at0 (x4.size : Int) false (fun h27 =>
  vizardlaw12_OutboxPieces.J4 text0 most0 b0 may0 at0 (x4.size : Int) RR E h27) Kr E h5))))))))) h1) E h0
structure vizardlaw12_OutboxPieces.W2 (text0 : ByteArray) (most0 : Int) (b0 : Option Addr) (may0 : Int) (at0 : Int) (Kx0 : Int → Heap → Prop) (Kr : Bool → Heap → Prop) (E : Value → Heap → Prop) (H : Heap) : Prop where
  h : Loop (fun (RR : Int → Heap → Prop) (s : Int) (H : Heap) => vizardlaw12_OutboxPieces.W2.vc text0 most0 b0 may0 s Kx0 Kr (fun at0 H => RR (at0) H) E H) (at0) H
def vizardlaw12_OutboxPieces.J1.vc (text0 : ByteArray) (most0 : Int) (limit0 : Int) (Kr : Bool → Heap → Prop) (E : Value → Heap → Prop) (h0 : Heap) : Prop :=
  300 ≠ (0 : Int) ∧
  outbox_New.c (fun x0 h1 =>
  outbox_Box_Allow.c x0 limit0 (fun h2 =>
  outbox_Box_Write.c x0 text0 false (fun x1 h3 =>
  (if (x1 != 0) = true then
  Kr false h3
  else
  vizardlaw12_OutboxPieces.W2 text0 (IntKind.i64.wrap (1 + (IntKind.i64.wrap (Int.tmod (IntKind.u64.wrap most0) 300)))) x0 (if limit0 > 4096 then limit0 else 4096) 0 (fun at0 h4 =>
  Kr (at0 == (if (text0.size : Int) < (if limit0 > 4096 then limit0 else 4096) then (text0.size : Int) else (if limit0 > 4096 then limit0 else 4096))) h4) Kr E h3)) E h2) E h1) E h0
structure vizardlaw12_OutboxPieces.J1 (text0 : ByteArray) (most0 : Int) (limit0 : Int) (Kr : Bool → Heap → Prop) (E : Value → Heap → Prop) (H : Heap) : Prop where
  h : vizardlaw12_OutboxPieces.J1.vc text0 most0 limit0 Kr E H
def vizardlaw12_OutboxPieces.vc (text0 : ByteArray) (most0 : Int) (limit0 : Int) (K : Bool → Heap → Prop) (E : Value → Heap → Prop) (h0 : Heap) : Prop :=
  vizardlaw12_works.c (fun x0 h1 =>
  (if (!x0) = true then
  K false h1
  else
  (if (decide ((text0.size : Int) > 6000)) = true then
  (0 : Int) ≤ 6000 ∧ 6000 ≤ (text0.size : Int) ∧
  vizardlaw12_OutboxPieces.J1 (text0.extract 0 6000) most0 limit0 K E h1
  else
  vizardlaw12_OutboxPieces.J1 text0 most0 limit0 K E h1))) E h0
structure vizardlaw12_OutboxPieces.c (text0 : ByteArray) (most0 : Int) (limit0 : Int) (K : Bool → Heap → Prop) (E : Value → Heap → Prop) (H : Heap) : Prop where
  h : vizardlaw12_OutboxPieces.vc text0 most0 limit0 (fun r0_0 H => ∃ H', Heap.Le H' H ∧ K r0_0 H') E H
def vizardlaw12_OutboxPieces.F : FT := fun args K E H => match args with
  | [(.string text0), (.int .i64 most0), (.int .i64 limit0)] => vizardlaw12_OutboxPieces.c text0 most0 limit0 (fun r0_0 H => K (.bool r0_0) H) E H
  | _ => False
noncomputable def vizardlaw12_OutboxPieces.Γ : FuncId → Option FT := Γof [(40, vizardlaw12_works.F), (41, outbox_New.F), (42, outbox_Box_Write.F), (43, outbox_Box_Next.F), (47, outbox_Box_Allow.F)]
theorem vizardlaw12_OutboxPieces.hΓ : ∀ f F, vizardlaw12_OutboxPieces.Γ f = some F → CalleeOk Try.prog f F := Γof_ok (List.forall_mem_cons.2 ⟨vizardlaw12_works.ok, List.forall_mem_cons.2 ⟨outbox_New.ok, List.forall_mem_cons.2 ⟨outbox_Box_Write.ok, List.forall_mem_cons.2 ⟨outbox_Box_Next.ok, List.forall_mem_cons.2 ⟨outbox_Box_Allow.ok, fun _ h => nomatch h⟩⟩⟩⟩⟩)
def vizardlaw12_OutboxPieces.J3.t : CT := fun Q E fr H => lenIs 107 fr (slS fr 0 fun text0 => slI fr 1 .i64 fun most0 => slP fr 7 fun b0 => slI fr 8 .i64 fun may0 => slI fr 9 .i64 fun at0 => slI fr 12 .i64 fun n0 => slB fr 97 fun x0 => vizardlaw12_OutboxPieces.J3 text0 most0 b0 may0 at0 n0 x0 (fun  H => Q .normal (mkF 107 [(0, (.string text0)), (1, (.int .i64 most0)), (7, (.pointer b0)), (8, (.int .i64 may0)), (9, (.int .i64 at0)), (12, (.int .i64 n0))]) H) (fun y6_0 H => Q .ret (mkF 107 [(6, (.bool y6_0))]) H) E H)
noncomputable def vizardlaw12_OutboxPieces.J3.plan : Plan := .go
theorem vizardlaw12_OutboxPieces.J3.pok : PlanOk Try.prog vizardlaw12_OutboxPieces.J3.plan (sub [1, 1, 1, 1, 1, 1, 1, 1, 1, 1, 0, 0, 0, 0, 1, 1, 1, 0, 1] vizardlaw12_OutboxPieces.body) := by
  have e : PlanOk Try.prog vizardlaw12_OutboxPieces.J3.plan (sub [1, 1, 1, 1, 1, 1, 1, 1, 1, 1, 0, 0, 0, 0, 1, 1, 1, 0, 1] vizardlaw12_OutboxPieces.body) = (True) := by kernel_rfl
  exact e.mpr trivial
theorem vizardlaw12_OutboxPieces.J3.eq (text0 : ByteArray) (most0 : Int) (b0 : Option Addr) (may0 : Int) (at0 : Int) (n0 : Int) (x0 : Bool) (Q : Ex → Fr → Heap → Prop) (E : Value → Heap → Prop) (H : Heap) :
    vizardlaw12_OutboxPieces.J3.vc text0 most0 b0 may0 at0 n0 x0 (fun  H => Q .normal (mkF 107 [(0, (.string text0)), (1, (.int .i64 most0)), (7, (.pointer b0)), (8, (.int .i64 may0)), (9, (.int .i64 at0)), (12, (.int .i64 n0))]) H) (fun y6_0 H => Q .ret (mkF 107 [(6, (.bool y6_0))]) H) E H = keepT [0, 1, 7, 8, 9, 12] [6] (fun i => []) (wC Try.prog vizardlaw12_OutboxPieces.Γ vizardlaw12_OutboxPieces.J3.plan (sub [1, 1, 1, 1, 1, 1, 1, 1, 1, 1, 0, 0, 0, 0, 1, 1, 1, 0, 1] vizardlaw12_OutboxPieces.body)) Q E (mkF 107 [(0, (.string text0)), (1, (.int .i64 most0)), (7, (.pointer b0)), (8, (.int .i64 may0)), (9, (.int .i64 at0)), (12, (.int .i64 n0)), (97, (.bool x0))]) H := by
  kernel_rfl
theorem vizardlaw12_OutboxPieces.J3.ok : SoundCode Try.prog (sub [1, 1, 1, 1, 1, 1, 1, 1, 1, 1, 0, 0, 0, 0, 1, 1, 1, 0, 1] vizardlaw12_OutboxPieces.body) vizardlaw12_OutboxPieces.J3.t := by
  refine piece_sound (keepT_sound [0, 1, 7, 8, 9, 12] [6] (fun i => []) (wC_sound vizardlaw12_OutboxPieces.hΓ Try.hm vizardlaw12_OutboxPieces.J3.plan _ vizardlaw12_OutboxPieces.J3.pok)) ?_
  intro Q E fr H h
  unfold vizardlaw12_OutboxPieces.J3.t at h
  obtain ⟨hl, h⟩ := lenIs_elim h
  obtain ⟨text0, q0, h⟩ := slS_elim h
  obtain ⟨most0, q1, h⟩ := slI_elim h
  obtain ⟨b0, q7, h⟩ := slP_elim h
  obtain ⟨may0, q8, h⟩ := slI_elim h
  obtain ⟨at0, q9, h⟩ := slI_elim h
  obtain ⟨n0, q12, h⟩ := slI_elim h
  obtain ⟨x0, q97, h⟩ := slB_elim h
  refine ⟨(mkF 107 [(0, (.string text0)), (1, (.int .i64 most0)), (7, (.pointer b0)), (8, (.int .i64 may0)), (9, (.int .i64 at0)), (12, (.int .i64 n0)), (97, (.bool x0))]), fun a ha => ha.mk (Nat.le_of_eq hl.symm) (List.forall_mem_cons.2 ⟨q0, List.forall_mem_cons.2 ⟨q1, List.forall_mem_cons.2 ⟨q7, List.forall_mem_cons.2 ⟨q8, List.forall_mem_cons.2 ⟨q9, List.forall_mem_cons.2 ⟨q12, List.forall_mem_cons.2 ⟨q97, fun _ h => nomatch h⟩⟩⟩⟩⟩⟩⟩), ?_⟩
  have e := vizardlaw12_OutboxPieces.J3.eq text0 most0 b0 may0 at0 n0 x0 Q E H
  rw [← e]
  exact h.h
def vizardlaw12_OutboxPieces.J4.t : CT := fun Q E fr H => lenIs 107 fr (slS fr 0 fun text0 => slI fr 1 .i64 fun most0 => slP fr 7 fun b0 => slI fr 8 .i64 fun may0 => slI fr 9 .i64 fun at0 => slI fr 12 .i64 fun n0 => vizardlaw12_OutboxPieces.J4 text0 most0 b0 may0 at0 n0 (fun y9_0 H => Q .normal (mkF 107 [(0, (.string text0)), (1, (.int .i64 most0)), (7, (.pointer b0)), (8, (.int .i64 may0)), (9, (.int .i64 y9_0))]) H) E H)
noncomputable def vizardlaw12_OutboxPieces.J4.plan : Plan := .go
theorem vizardlaw12_OutboxPieces.J4.pok : PlanOk Try.prog vizardlaw12_OutboxPieces.J4.plan (sub [1, 1, 1, 1, 1, 1, 1, 1, 1, 1, 0, 0, 0, 0, 1, 1, 1, 1] vizardlaw12_OutboxPieces.body) := by
  have e : PlanOk Try.prog vizardlaw12_OutboxPieces.J4.plan (sub [1, 1, 1, 1, 1, 1, 1, 1, 1, 1, 0, 0, 0, 0, 1, 1, 1, 1] vizardlaw12_OutboxPieces.body) = (True) := by kernel_rfl
  exact e.mpr trivial
theorem vizardlaw12_OutboxPieces.J4.eq (text0 : ByteArray) (most0 : Int) (b0 : Option Addr) (may0 : Int) (at0 : Int) (n0 : Int) (Q : Ex → Fr → Heap → Prop) (E : Value → Heap → Prop) (H : Heap) :
    vizardlaw12_OutboxPieces.J4.vc text0 most0 b0 may0 at0 n0 (fun y9_0 H => Q .normal (mkF 107 [(0, (.string text0)), (1, (.int .i64 most0)), (7, (.pointer b0)), (8, (.int .i64 may0)), (9, (.int .i64 y9_0))]) H) E H = keepT [0, 1, 7, 8, 9] [] (fun i => []) (wC Try.prog vizardlaw12_OutboxPieces.Γ vizardlaw12_OutboxPieces.J4.plan (sub [1, 1, 1, 1, 1, 1, 1, 1, 1, 1, 0, 0, 0, 0, 1, 1, 1, 1] vizardlaw12_OutboxPieces.body)) Q E (mkF 107 [(0, (.string text0)), (1, (.int .i64 most0)), (7, (.pointer b0)), (8, (.int .i64 may0)), (9, (.int .i64 at0)), (12, (.int .i64 n0))]) H := by
  kernel_rfl
theorem vizardlaw12_OutboxPieces.J4.ok : SoundCode Try.prog (sub [1, 1, 1, 1, 1, 1, 1, 1, 1, 1, 0, 0, 0, 0, 1, 1, 1, 1] vizardlaw12_OutboxPieces.body) vizardlaw12_OutboxPieces.J4.t := by
  refine piece_sound (keepT_sound [0, 1, 7, 8, 9] [] (fun i => []) (wC_sound vizardlaw12_OutboxPieces.hΓ Try.hm vizardlaw12_OutboxPieces.J4.plan _ vizardlaw12_OutboxPieces.J4.pok)) ?_
  intro Q E fr H h
  unfold vizardlaw12_OutboxPieces.J4.t at h
  obtain ⟨hl, h⟩ := lenIs_elim h
  obtain ⟨text0, q0, h⟩ := slS_elim h
  obtain ⟨most0, q1, h⟩ := slI_elim h
  obtain ⟨b0, q7, h⟩ := slP_elim h
  obtain ⟨may0, q8, h⟩ := slI_elim h
  obtain ⟨at0, q9, h⟩ := slI_elim h
  obtain ⟨n0, q12, h⟩ := slI_elim h
  refine ⟨(mkF 107 [(0, (.string text0)), (1, (.int .i64 most0)), (7, (.pointer b0)), (8, (.int .i64 may0)), (9, (.int .i64 at0)), (12, (.int .i64 n0))]), fun a ha => ha.mk (Nat.le_of_eq hl.symm) (List.forall_mem_cons.2 ⟨q0, List.forall_mem_cons.2 ⟨q1, List.forall_mem_cons.2 ⟨q7, List.forall_mem_cons.2 ⟨q8, List.forall_mem_cons.2 ⟨q9, List.forall_mem_cons.2 ⟨q12, fun _ h => nomatch h⟩⟩⟩⟩⟩⟩), ?_⟩
  have e := vizardlaw12_OutboxPieces.J4.eq text0 most0 b0 may0 at0 n0 Q E H
  rw [← e]
  exact h.h
def vizardlaw12_OutboxPieces.W2.t : CT := fun Q E fr H => lenIs 107 fr (slS fr 0 fun text0 => slI fr 1 .i64 fun most0 => slP fr 7 fun b0 => slI fr 8 .i64 fun may0 => slI fr 9 .i64 fun at0 => vizardlaw12_OutboxPieces.W2 text0 most0 b0 may0 at0 (fun y9_0 H => Q (.exit 0) (mkF 107 [(0, (.string text0)), (8, (.int .i64 may0)), (9, (.int .i64 y9_0))]) H) (fun y6_0 H => Q .ret (mkF 107 [(6, (.bool y6_0))]) H) E H)
noncomputable def vizardlaw12_OutboxPieces.W2.plan : Plan := .block (.seq (.go) (.seq (.go) (.seq (.go) (.seq (.seq (.draw ⟨[0, 1, 2, 3, 4, 5, 6, 7, 8, 9, 10, 11, 12, 13, 14, 15, 16, 17, 18, 19, 20, 21, 22, 23, 24, 25, 26, 27, 28, 29, 30, 31, 32, 33, 34, 35, 36, 37, 38, 39, 40, 41, 42, 43, 44, 45, 46, 47, 48, 49, 50], (dl [(0, []), (1, []), (2, []), (3, []), (4, []), (5, []), (6, []), (7, []), (8, []), (9, []), (10, []), (11, []), (12, []), (13, []), (14, []), (15, []), (16, []), (17, []), (18, []), (19, []), (20, []), (21, []), (22, []), (23, []), (24, []), (25, []), (26, []), (27, []), (28, []), (29, []), (30, []), (31, []), (32, []), (33, []), (34, []), (35, []), (36, []), (37, []), (38, []), (39, []), (40, []), (41, []), (42, []), (43, []), (44, []), (45, []), (46, []), (47, []), (48, []), (49, []), (50, [])] .fin), []⟩) (.use vizardlaw12_OutboxPieces.J3.t)) (.use vizardlaw12_OutboxPieces.J4.t)))))
theorem vizardlaw12_OutboxPieces.W2.pok : PlanOk Try.prog vizardlaw12_OutboxPieces.W2.plan (sub [1, 1, 1, 1, 1, 1, 1, 1, 1, 1, 0, 0, 0] vizardlaw12_OutboxPieces.body) := by
  have e : PlanOk Try.prog vizardlaw12_OutboxPieces.W2.plan (sub [1, 1, 1, 1, 1, 1, 1, 1, 1, 1, 0, 0, 0] vizardlaw12_OutboxPieces.body) = ((True) ∧ ((True) ∧ ((True) ∧ (((True) ∧ (SoundCode Try.prog (sub [1, 1, 1, 1, 1, 1, 1, 1, 1, 1, 0, 0, 0, 0, 1, 1, 1, 0, 1] vizardlaw12_OutboxPieces.body) vizardlaw12_OutboxPieces.J3.t)) ∧ (SoundCode Try.prog (sub [1, 1, 1, 1, 1, 1, 1, 1, 1, 1, 0, 0, 0, 0, 1, 1, 1, 1] vizardlaw12_OutboxPieces.body) vizardlaw12_OutboxPieces.J4.t))))) := by kernel_rfl
  exact e.mpr ⟨trivial, ⟨trivial, ⟨trivial, ⟨⟨trivial, vizardlaw12_OutboxPieces.J3.ok⟩, vizardlaw12_OutboxPieces.J4.ok⟩⟩⟩⟩
theorem vizardlaw12_OutboxPieces.W2.eq (text0 : ByteArray) (most0 : Int) (b0 : Option Addr) (may0 : Int) (Q : Ex → Fr → Heap → Prop) (E : Value → Heap → Prop) (RR : Fr → Heap → Prop) (s : Int) (H : Heap) :
    (fun (RR : Int → Heap → Prop) (s : Int) (H : Heap) => vizardlaw12_OutboxPieces.W2.vc text0 most0 b0 may0 s (fun y9_0 H => Q (.exit 0) (mkF 107 [(0, (.string text0)), (8, (.int .i64 may0)), (9, (.int .i64 y9_0))]) H) (fun y6_0 H => Q .ret (mkF 107 [(6, (.bool y6_0))]) H) (fun at0 H => RR (at0) H) E H) (fun s' H' => RR ((fun (s : Int) => (mkF 107 [(0, (.string text0)), (1, (.int .i64 most0)), (7, (.pointer b0)), (8, (.int .i64 may0)), (9, (.int .i64 s))])) s') H') s H = keepT [0, 1, 7, 8, 9] [6] (fun i => if i = 0 then [0, 8, 9] else []) (wC Try.prog vizardlaw12_OutboxPieces.Γ vizardlaw12_OutboxPieces.W2.plan (sub [1, 1, 1, 1, 1, 1, 1, 1, 1, 1, 0, 0, 0] vizardlaw12_OutboxPieces.body)) (fun e fr' H' => match e with | .normal => RR fr' H' | .exit id => Q (.exit id) fr' H' | .ret => Q .ret fr' H') E ((fun (s : Int) => (mkF 107 [(0, (.string text0)), (1, (.int .i64 most0)), (7, (.pointer b0)), (8, (.int .i64 may0)), (9, (.int .i64 s))])) s) H := by
  kernel_rfl
theorem vizardlaw12_OutboxPieces.W2.ok : SoundCode Try.prog (sub [1, 1, 1, 1, 1, 1, 1, 1, 1, 1, 0, 0] vizardlaw12_OutboxPieces.body) vizardlaw12_OutboxPieces.W2.t := by
  have e : (sub [1, 1, 1, 1, 1, 1, 1, 1, 1, 1, 0, 0] vizardlaw12_OutboxPieces.body) = .loop (sub [1, 1, 1, 1, 1, 1, 1, 1, 1, 1, 0, 0, 0] vizardlaw12_OutboxPieces.body) := by kernel_rfl
  rw [e]
  refine piece_sound (loopN_sound (keepT_sound [0, 1, 7, 8, 9] [6] (fun i => if i = 0 then [0, 8, 9] else []) (wC_sound vizardlaw12_OutboxPieces.hΓ Try.hm vizardlaw12_OutboxPieces.W2.plan _ vizardlaw12_OutboxPieces.W2.pok))) ?_
  intro Q E fr H h
  unfold vizardlaw12_OutboxPieces.W2.t at h
  obtain ⟨hl, h⟩ := lenIs_elim h
  obtain ⟨text0, q0, h⟩ := slS_elim h
  obtain ⟨most0, q1, h⟩ := slI_elim h
  obtain ⟨b0, q7, h⟩ := slP_elim h
  obtain ⟨may0, q8, h⟩ := slI_elim h
  obtain ⟨at0, q9, h⟩ := slI_elim h
  obtain ⟨m, h⟩ := h.h
  refine ⟨(mkF 107 [(0, (.string text0)), (1, (.int .i64 most0)), (7, (.pointer b0)), (8, (.int .i64 may0)), (9, (.int .i64 at0))]), fun a ha => ha.mk (Nat.le_of_eq hl.symm) (List.forall_mem_cons.2 ⟨q0, List.forall_mem_cons.2 ⟨q1, List.forall_mem_cons.2 ⟨q7, List.forall_mem_cons.2 ⟨q8, List.forall_mem_cons.2 ⟨q9, fun _ h => nomatch h⟩⟩⟩⟩⟩), m, ?_⟩
  have e := loopS_eq (B := (fun (RR : Int → Heap → Prop) (s : Int) (H : Heap) => vizardlaw12_OutboxPieces.W2.vc text0 most0 b0 may0 s (fun y9_0 H => Q (.exit 0) (mkF 107 [(0, (.string text0)), (8, (.int .i64 may0)), (9, (.int .i64 y9_0))]) H) (fun y6_0 H => Q .ret (mkF 107 [(6, (.bool y6_0))]) H) (fun at0 H => RR (at0) H) E H)) (A := keepT [0, 1, 7, 8, 9] [6] (fun i => if i = 0 then [0, 8, 9] else []) (wC Try.prog vizardlaw12_OutboxPieces.Γ vizardlaw12_OutboxPieces.W2.plan (sub [1, 1, 1, 1, 1, 1, 1, 1, 1, 1, 0, 0, 0] vizardlaw12_OutboxPieces.body))) (m := (fun (s : Int) => (mkF 107 [(0, (.string text0)), (1, (.int .i64 most0)), (7, (.pointer b0)), (8, (.int .i64 may0)), (9, (.int .i64 s))]))) (Q := Q) (E := E) (fun RR s H => vizardlaw12_OutboxPieces.W2.eq text0 most0 b0 may0 Q E RR s H) m (at0) H
  exact cast e h
def vizardlaw12_OutboxPieces.J1.t : CT := fun Q E fr H => lenIs 107 fr (slS fr 0 fun text0 => slI fr 1 .i64 fun most0 => slI fr 2 .i64 fun limit0 => vizardlaw12_OutboxPieces.J1 text0 most0 limit0 (fun y6_0 H => Q .ret (mkF 107 [(6, (.bool y6_0))]) H) E H)
noncomputable def vizardlaw12_OutboxPieces.J1.plan : Plan := .seq (.go) (.seq (.go) (.seq (.go) (.seq (.go) (.seq (.go) (.seq (.go) (.seq (.go) (.seq (.block (.use vizardlaw12_OutboxPieces.W2.t)) (.go))))))))
theorem vizardlaw12_OutboxPieces.J1.pok : PlanOk Try.prog vizardlaw12_OutboxPieces.J1.plan (sub [1, 1, 1] vizardlaw12_OutboxPieces.body) := by
  have e : PlanOk Try.prog vizardlaw12_OutboxPieces.J1.plan (sub [1, 1, 1] vizardlaw12_OutboxPieces.body) = ((True) ∧ ((True) ∧ ((True) ∧ ((True) ∧ ((True) ∧ ((True) ∧ ((True) ∧ ((SoundCode Try.prog (sub [1, 1, 1, 1, 1, 1, 1, 1, 1, 1, 0, 0] vizardlaw12_OutboxPieces.body) vizardlaw12_OutboxPieces.W2.t) ∧ (True))))))))) := by kernel_rfl
  exact e.mpr ⟨trivial, ⟨trivial, ⟨trivial, ⟨trivial, ⟨trivial, ⟨trivial, ⟨trivial, ⟨vizardlaw12_OutboxPieces.W2.ok, trivial⟩⟩⟩⟩⟩⟩⟩⟩
theorem vizardlaw12_OutboxPieces.J1.eq (text0 : ByteArray) (most0 : Int) (limit0 : Int) (Q : Ex → Fr → Heap → Prop) (E : Value → Heap → Prop) (H : Heap) :
    vizardlaw12_OutboxPieces.J1.vc text0 most0 limit0 (fun y6_0 H => Q .ret (mkF 107 [(6, (.bool y6_0))]) H) E H = keepT [] [6] (fun i => []) (wC Try.prog vizardlaw12_OutboxPieces.Γ vizardlaw12_OutboxPieces.J1.plan (sub [1, 1, 1] vizardlaw12_OutboxPieces.body)) Q E (mkF 107 [(0, (.string text0)), (1, (.int .i64 most0)), (2, (.int .i64 limit0))]) H := by
  kernel_rfl
theorem vizardlaw12_OutboxPieces.J1.ok : SoundCode Try.prog (sub [1, 1, 1] vizardlaw12_OutboxPieces.body) vizardlaw12_OutboxPieces.J1.t := by
  refine piece_sound (keepT_sound [] [6] (fun i => []) (wC_sound vizardlaw12_OutboxPieces.hΓ Try.hm vizardlaw12_OutboxPieces.J1.plan _ vizardlaw12_OutboxPieces.J1.pok)) ?_
  intro Q E fr H h
  unfold vizardlaw12_OutboxPieces.J1.t at h
  obtain ⟨hl, h⟩ := lenIs_elim h
  obtain ⟨text0, q0, h⟩ := slS_elim h
  obtain ⟨most0, q1, h⟩ := slI_elim h
  obtain ⟨limit0, q2, h⟩ := slI_elim h
  refine ⟨(mkF 107 [(0, (.string text0)), (1, (.int .i64 most0)), (2, (.int .i64 limit0))]), fun a ha => ha.mk (Nat.le_of_eq hl.symm) (List.forall_mem_cons.2 ⟨q0, List.forall_mem_cons.2 ⟨q1, List.forall_mem_cons.2 ⟨q2, fun _ h => nomatch h⟩⟩⟩), ?_⟩
  have e := vizardlaw12_OutboxPieces.J1.eq text0 most0 limit0 Q E H
  rw [← e]
  exact h.h
noncomputable def vizardlaw12_OutboxPieces.plan : Plan := .seq (.go) (.seq (.go) (.seq (.go) (.use vizardlaw12_OutboxPieces.J1.t)))
theorem vizardlaw12_OutboxPieces.pok : PlanOk Try.prog vizardlaw12_OutboxPieces.plan vizardlaw12_OutboxPieces.body := by
  have e : PlanOk Try.prog vizardlaw12_OutboxPieces.plan vizardlaw12_OutboxPieces.body = ((True) ∧ ((True) ∧ ((True) ∧ (SoundCode Try.prog (sub [1, 1, 1] vizardlaw12_OutboxPieces.body) vizardlaw12_OutboxPieces.J1.t)))) := by kernel_rfl
  exact e.mpr ⟨trivial, ⟨trivial, ⟨trivial, vizardlaw12_OutboxPieces.J1.ok⟩⟩⟩
theorem vizardlaw12_OutboxPieces.eq (text0 : ByteArray) (most0 : Int) (limit0 : Int) (K : Value → Heap → Prop) (E : Value → Heap → Prop) (H : Heap) :
    fnT Try.prog Try.f11 (wC Try.prog vizardlaw12_OutboxPieces.Γ vizardlaw12_OutboxPieces.plan vizardlaw12_OutboxPieces.body) [(.string text0), (.int .i64 most0), (.int .i64 limit0)] K E H = vizardlaw12_OutboxPieces.vc text0 most0 limit0 (fun r0_0 H => K (.bool r0_0) H) E H := by
  kernel_rfl
theorem vizardlaw12_OutboxPieces.Fe {args : List Value} {K E : Value → Heap → Prop} {H : Heap} (h : vizardlaw12_OutboxPieces.F args K E H) : ∃ text0 most0 limit0, args = [(.string text0), (.int .i64 most0), (.int .i64 limit0)] ∧ vizardlaw12_OutboxPieces.c text0 most0 limit0 (fun r0_0 H => K (.bool r0_0) H) E H := by
  unfold vizardlaw12_OutboxPieces.F at h
  split at h
  · exact ⟨_, _, _, rfl, h⟩
  · exact h.elim
theorem vizardlaw12_OutboxPieces.ok : CalleeOk Try.prog 11 vizardlaw12_OutboxPieces.F :=
  callee_ok vizardlaw12_OutboxPieces.hΓ (fn := Try.f11) (c := vizardlaw12_OutboxPieces.body) (T := wC Try.prog vizardlaw12_OutboxPieces.Γ vizardlaw12_OutboxPieces.plan vizardlaw12_OutboxPieces.body) (by kernel_rfl) (by kernel_rfl) (by kernel_rfl) (wC_sound vizardlaw12_OutboxPieces.hΓ Try.hm vizardlaw12_OutboxPieces.plan _ vizardlaw12_OutboxPieces.pok) fun _ K E H h => by
    obtain ⟨z0, z1, z2, e, h⟩ := vizardlaw12_OutboxPieces.Fe h
    subst e
    have h2 : vizardlaw12_OutboxPieces.vc z0 z1 z2 (fun r0_0 H => ∃ H', Heap.Le H' H ∧ K (.bool r0_0) H') E H := h.h
    rw [vizardlaw12_OutboxPieces.eq z0 z1 z2 (Fg K) E H]
    exact h2

/-! vizard/vizardlaw12.OutboxThere -/
noncomputable def vizardlaw12_OutboxThere.body : Code := Try.f12.body.getD .skip
def vizardlaw12_OutboxThere.J2.vc (text0 : ByteArray) (mosts0 : Option Addr) (mosts1 : Nat) (mosts2 : Nat) (lost0 : Option Addr) (lost1 : Nat) (lost2 : Nat) (twice0 : Option Addr) (twice1 : Nat) (twice2 : Nat) (b0 : Option Addr) (in0 : Option Addr) (x0 : Bool) (Kn : Heap → Prop) (Kr : Bool → Heap → Prop) (E : Value → Heap → Prop) (h0 : Heap) : Prop :=
  (if x0 = true then
  Kr false h0
  else
  Kn h0)
structure vizardlaw12_OutboxThere.J2 (text0 : ByteArray) (mosts0 : Option Addr) (mosts1 : Nat) (mosts2 : Nat) (lost0 : Option Addr) (lost1 : Nat) (lost2 : Nat) (twice0 : Option Addr) (twice1 : Nat) (twice2 : Nat) (b0 : Option Addr) (in0 : Option Addr) (x0 : Bool) (Kn : Heap → Prop) (Kr : Bool → Heap → Prop) (E : Value → Heap → Prop) (H : Heap) : Prop where
  h : vizardlaw12_OutboxThere.J2.vc text0 mosts0 mosts1 mosts2 lost0 lost1 lost2 twice0 twice1 twice2 b0 in0 x0 Kn Kr E H
def vizardlaw12_OutboxThere.J5.vc (text0 : ByteArray) (mosts0 : Option Addr) (mosts1 : Nat) (mosts2 : Nat) (lost0 : Option Addr) (lost1 : Nat) (lost2 : Nat) (twice0 : Option Addr) (twice1 : Nat) (twice2 : Nat) (b0 : Option Addr) (in0 : Option Addr) (out0 : ByteArray) (i0 : Int) (most0 : Int) (x0 : Bool) (Kn : Int → Heap → Prop) (E : Value → Heap → Prop) (h0 : Heap) : Prop :=
  (if x0 = true then
  nilc mosts0 fun a0 => (0 : Int) ≤ i0 ∧ i0 < (mosts1 : Int) ∧
  ldI h0 .i64 (a0.add (i0.toNat * 1)) fun x1 =>
  60 ≠ (0 : Int) ∧
  Kn (IntKind.i64.wrap (1 + (IntKind.i64.wrap (Int.tmod (IntKind.u64.wrap x1) 60)))) h0
  else
  Kn most0 h0)
structure vizardlaw12_OutboxThere.J5 (text0 : ByteArray) (mosts0 : Option Addr) (mosts1 : Nat) (mosts2 : Nat) (lost0 : Option Addr) (lost1 : Nat) (lost2 : Nat) (twice0 : Option Addr) (twice1 : Nat) (twice2 : Nat) (b0 : Option Addr) (in0 : Option Addr) (out0 : ByteArray) (i0 : Int) (most0 : Int) (x0 : Bool) (Kn : Int → Heap → Prop) (E : Value → Heap → Prop) (H : Heap) : Prop where
  h : vizardlaw12_OutboxThere.J5.vc text0 mosts0 mosts1 mosts2 lost0 lost1 lost2 twice0 twice1 twice2 b0 in0 out0 i0 most0 x0 Kn E H
def vizardlaw12_OutboxThere.J7.vc (text0 : ByteArray) (mosts0 : Option Addr) (mosts1 : Nat) (mosts2 : Nat) (lost0 : Option Addr) (lost1 : Nat) (lost2 : Nat) (twice0 : Option Addr) (twice1 : Nat) (twice2 : Nat) (b0 : Option Addr) (in0 : Option Addr) (out0 : ByteArray) (i0 : Int) (p0 : Addr) (x0 : Bool) (Kn : Heap → Prop) (Kr : Bool → Heap → Prop) (E : Value → Heap → Prop) (h0 : Heap) : Prop :=
  (if x0 = true then
  Kr false h0
  else
  Kn h0)
structure vizardlaw12_OutboxThere.J7 (text0 : ByteArray) (mosts0 : Option Addr) (mosts1 : Nat) (mosts2 : Nat) (lost0 : Option Addr) (lost1 : Nat) (lost2 : Nat) (twice0 : Option Addr) (twice1 : Nat) (twice2 : Nat) (b0 : Option Addr) (in0 : Option Addr) (out0 : ByteArray) (i0 : Int) (p0 : Addr) (x0 : Bool) (Kn : Heap → Prop) (Kr : Bool → Heap → Prop) (E : Value → Heap → Prop) (H : Heap) : Prop where
  h : vizardlaw12_OutboxThere.J7.vc text0 mosts0 mosts1 mosts2 lost0 lost1 lost2 twice0 twice1 twice2 b0 in0 out0 i0 p0 x0 Kn Kr E H
def vizardlaw12_OutboxThere.J9.vc (text0 : ByteArray) (mosts0 : Option Addr) (mosts1 : Nat) (mosts2 : Nat) (lost0 : Option Addr) (lost1 : Nat) (lost2 : Nat) (twice0 : Option Addr) (twice1 : Nat) (twice2 : Nat) (b0 : Option Addr) (in0 : Option Addr) (out0 : ByteArray) (i0 : Int) (p0 : Addr) (x0 : Bool) (Kx1 : Heap → Prop) (Kn : Heap → Prop) (E : Value → Heap → Prop) (h0 : Heap) : Prop :=
  (if x0 = true then
  ldI h0 .i64 (p0.add 0) fun x1 => ldS h0 (p0.add 1) fun x2 => ldB h0 (p0.add 2) fun x3 =>
  outbox_Box_Lost.c b0 x1 x2 x3 Kx1 E h0
  else
  Kn h0)
structure vizardlaw12_OutboxThere.J9 (text0 : ByteArray) (mosts0 : Option Addr) (mosts1 : Nat) (mosts2 : Nat) (lost0 : Option Addr) (lost1 : Nat) (lost2 : Nat) (twice0 : Option Addr) (twice1 : Nat) (twice2 : Nat) (b0 : Option Addr) (in0 : Option Addr) (out0 : ByteArray) (i0 : Int) (p0 : Addr) (x0 : Bool) (Kx1 : Heap → Prop) (Kn : Heap → Prop) (E : Value → Heap → Prop) (H : Heap) : Prop where
  h : vizardlaw12_OutboxThere.J9.vc text0 mosts0 mosts1 mosts2 lost0 lost1 lost2 twice0 twice1 twice2 b0 in0 out0 i0 p0 x0 Kx1 Kn E H
def vizardlaw12_OutboxThere.J11.vc (text0 : ByteArray) (mosts0 : Option Addr) (mosts1 : Nat) (mosts2 : Nat) (lost0 : Option Addr) (lost1 : Nat) (lost2 : Nat) (twice0 : Option Addr) (twice1 : Nat) (twice2 : Nat) (b0 : Option Addr) (in0 : Option Addr) (out0 : ByteArray) (i0 : Int) (p0 : Addr) (x0 : Bool) (Kn : Heap → Prop) (Kr : Bool → Heap → Prop) (E : Value → Heap → Prop) (h0 : Heap) : Prop :=
  (if x0 = true then
  Kr false h0
  else
  Kn h0)
structure vizardlaw12_OutboxThere.J11 (text0 : ByteArray) (mosts0 : Option Addr) (mosts1 : Nat) (mosts2 : Nat) (lost0 : Option Addr) (lost1 : Nat) (lost2 : Nat) (twice0 : Option Addr) (twice1 : Nat) (twice2 : Nat) (b0 : Option Addr) (in0 : Option Addr) (out0 : ByteArray) (i0 : Int) (p0 : Addr) (x0 : Bool) (Kn : Heap → Prop) (Kr : Bool → Heap → Prop) (E : Value → Heap → Prop) (H : Heap) : Prop where
  h : vizardlaw12_OutboxThere.J11.vc text0 mosts0 mosts1 mosts2 lost0 lost1 lost2 twice0 twice1 twice2 b0 in0 out0 i0 p0 x0 Kn Kr E H
def vizardlaw12_OutboxThere.J12.vc (text0 : ByteArray) (mosts0 : Option Addr) (mosts1 : Nat) (mosts2 : Nat) (lost0 : Option Addr) (lost1 : Nat) (lost2 : Nat) (twice0 : Option Addr) (twice1 : Nat) (twice2 : Nat) (b0 : Option Addr) (in0 : Option Addr) (out0 : ByteArray) (i0 : Int) (p0 : Addr) (Kn : ByteArray → Heap → Prop) (E : Value → Heap → Prop) (h0 : Heap) : Prop :=
  ldI h0 .i64 (p0.add 0) fun x0 => ldS h0 (p0.add 1) fun x1 => ldB h0 (p0.add 2) fun x2 =>
  outbox_Box_Acked.c b0 x0 x1 x2 (fun h1 =>
  inbox_Box_Read.c in0 5000 (fun x3 h2 =>
  out0.size + x3.size ≤ 9223372036854775807 ∧
  Kn (out0 ++ x3) h2) E h1) E h0
structure vizardlaw12_OutboxThere.J12 (text0 : ByteArray) (mosts0 : Option Addr) (mosts1 : Nat) (mosts2 : Nat) (lost0 : Option Addr) (lost1 : Nat) (lost2 : Nat) (twice0 : Option Addr) (twice1 : Nat) (twice2 : Nat) (b0 : Option Addr) (in0 : Option Addr) (out0 : ByteArray) (i0 : Int) (p0 : Addr) (Kn : ByteArray → Heap → Prop) (E : Value → Heap → Prop) (H : Heap) : Prop where
  h : vizardlaw12_OutboxThere.J12.vc text0 mosts0 mosts1 mosts2 lost0 lost1 lost2 twice0 twice1 twice2 b0 in0 out0 i0 p0 Kn E H
def vizardlaw12_OutboxThere.J10.vc (text0 : ByteArray) (mosts0 : Option Addr) (mosts1 : Nat) (mosts2 : Nat) (lost0 : Option Addr) (lost1 : Nat) (lost2 : Nat) (twice0 : Option Addr) (twice1 : Nat) (twice2 : Nat) (b0 : Option Addr) (in0 : Option Addr) (out0 : ByteArray) (i0 : Int) (p0 : Addr) (Kn : ByteArray → Heap → Prop) (Kr : Bool → Heap → Prop) (E : Value → Heap → Prop) (h0 : Heap) : Prop :=
  ldI h0 .i64 (p0.add 0) fun x0 =>
  ldS h0 (p0.add 1) fun x1 =>
  ldB h0 (p0.add 2) fun x2 =>
  inbox_Box_Put.c in0 x0 x1 x2 (fun x3 h1 =>
  (if (x3 != 0) = true then
  vizardlaw12_OutboxThere.J11 text0 mosts0 mosts1 mosts2 lost0 lost1 lost2 twice0 twice1 twice2 b0 in0 out0 i0 p0 true (fun h2 =>
  vizardlaw12_OutboxThere.J12 text0 mosts0 mosts1 mosts2 lost0 lost1 lost2 twice0 twice1 twice2 b0 in0 out0 i0 p0 Kn E h2) Kr E h1
  else
  (if (decide (i0 < (twice1 : Int))) = true then
  nilc twice0 fun a0 => (0 : Int) ≤ i0 ∧ i0 < (twice1 : Int) ∧
  ldB h1 (a0.add (i0.toNat * 1)) fun x5 =>
  (if x5 = true then
  ldI h1 .i64 (p0.add 0) fun x6 =>
  ldS h1 (p0.add 1) fun x7 =>
  ldB h1 (p0.add 2) fun x8 =>
  inbox_Box_Put.c in0 x6 x7 x8 (fun x9 h5 =>
  vizardlaw12_OutboxThere.J11 text0 mosts0 mosts1 mosts2 lost0 lost1 lost2 twice0 twice1 twice2 b0 in0 out0 i0 p0 (x9 != 0) (fun h6 =>
  vizardlaw12_OutboxThere.J12 text0 mosts0 mosts1 mosts2 lost0 lost1 lost2 twice0 twice1 twice2 b0 in0 out0 i0 p0 Kn E h6) Kr E h5) E h1
  else
  vizardlaw12_OutboxThere.J11 text0 mosts0 mosts1 mosts2 lost0 lost1 lost2 twice0 twice1 twice2 b0 in0 out0 i0 p0 false (fun h9 =>
  vizardlaw12_OutboxThere.J12 text0 mosts0 mosts1 mosts2 lost0 lost1 lost2 twice0 twice1 twice2 b0 in0 out0 i0 p0 Kn E h9) Kr E h1)
  else
  vizardlaw12_OutboxThere.J11 text0 mosts0 mosts1 mosts2 lost0 lost1 lost2 twice0 twice1 twice2 b0 in0 out0 i0 p0 false (fun h12 =>
  vizardlaw12_OutboxThere.J12 text0 mosts0 mosts1 mosts2 lost0 lost1 lost2 twice0 twice1 twice2 b0 in0 out0 i0 p0 Kn E h12) Kr E h1))) E h0
structure vizardlaw12_OutboxThere.J10 (text0 : ByteArray) (mosts0 : Option Addr) (mosts1 : Nat) (mosts2 : Nat) (lost0 : Option Addr) (lost1 : Nat) (lost2 : Nat) (twice0 : Option Addr) (twice1 : Nat) (twice2 : Nat) (b0 : Option Addr) (in0 : Option Addr) (out0 : ByteArray) (i0 : Int) (p0 : Addr) (Kn : ByteArray → Heap → Prop) (Kr : Bool → Heap → Prop) (E : Value → Heap → Prop) (H : Heap) : Prop where
  h : vizardlaw12_OutboxThere.J10.vc text0 mosts0 mosts1 mosts2 lost0 lost1 lost2 twice0 twice1 twice2 b0 in0 out0 i0 p0 Kn Kr E H
def vizardlaw12_OutboxThere.J8.vc (text0 : ByteArray) (mosts0 : Option Addr) (mosts1 : Nat) (mosts2 : Nat) (lost0 : Option Addr) (lost1 : Nat) (lost2 : Nat) (twice0 : Option Addr) (twice1 : Nat) (twice2 : Nat) (b0 : Option Addr) (in0 : Option Addr) (out0 : ByteArray) (i0 : Int) (p0 : Addr) (Kx1 : ByteArray → Heap → Prop) (Kn : ByteArray → Heap → Prop) (Kr : Bool → Heap → Prop) (E : Value → Heap → Prop) (h0 : Heap) : Prop :=
  (if (decide (i0 < (lost1 : Int))) = true then
  (if (decide (i0 < 300)) = true then
  nilc lost0 fun a0 => (0 : Int) ≤ i0 ∧ i0 < (lost1 : Int) ∧
  ldB h0 (a0.add (i0.toNat * 1)) fun x0 =>
  vizardlaw12_OutboxThere.J9 text0 mosts0 mosts1 mosts2 lost0 lost1 lost2 twice0 twice1 twice2 b0 in0 out0 i0 p0 x0 (fun h1 =>
  Kx1 out0 h1) (fun h2 =>
  vizardlaw12_OutboxThere.J10 text0 mosts0 mosts1 mosts2 lost0 lost1 lost2 twice0 twice1 twice2 b0 in0 out0 i0 p0 Kn Kr E h2) E h0
  else
  vizardlaw12_OutboxThere.J9 text0 mosts0 mosts1 mosts2 lost0 lost1 lost2 twice0 twice1 twice2 b0 in0 out0 i0 p0 false (fun h5 =>
  Kx1 out0 h5) (fun h6 =>
  vizardlaw12_OutboxThere.J10 text0 mosts0 mosts1 mosts2 lost0 lost1 lost2 twice0 twice1 twice2 b0 in0 out0 i0 p0 Kn Kr E h6) E h0)
  else
  vizardlaw12_OutboxThere.J9 text0 mosts0 mosts1 mosts2 lost0 lost1 lost2 twice0 twice1 twice2 b0 in0 out0 i0 p0 false (fun h9 =>
  Kx1 out0 h9) (fun h10 =>
  vizardlaw12_OutboxThere.J10 text0 mosts0 mosts1 mosts2 lost0 lost1 lost2 twice0 twice1 twice2 b0 in0 out0 i0 p0 Kn Kr E h10) E h0)
structure vizardlaw12_OutboxThere.J8 (text0 : ByteArray) (mosts0 : Option Addr) (mosts1 : Nat) (mosts2 : Nat) (lost0 : Option Addr) (lost1 : Nat) (lost2 : Nat) (twice0 : Option Addr) (twice1 : Nat) (twice2 : Nat) (b0 : Option Addr) (in0 : Option Addr) (out0 : ByteArray) (i0 : Int) (p0 : Addr) (Kx1 : ByteArray → Heap → Prop) (Kn : ByteArray → Heap → Prop) (Kr : Bool → Heap → Prop) (E : Value → Heap → Prop) (H : Heap) : Prop where
  h : vizardlaw12_OutboxThere.J8.vc text0 mosts0 mosts1 mosts2 lost0 lost1 lost2 twice0 twice1 twice2 b0 in0 out0 i0 p0 Kx1 Kn Kr E H
def vizardlaw12_OutboxThere.J6.vc (text0 : ByteArray) (mosts0 : Option Addr) (mosts1 : Nat) (mosts2 : Nat) (lost0 : Option Addr) (lost1 : Nat) (lost2 : Nat) (twice0 : Option Addr) (twice1 : Nat) (twice2 : Nat) (b0 : Option Addr) (in0 : Option Addr) (out0 : ByteArray) (i0 : Int) (most0 : Int) (Kx0 : ByteArray → Heap → Prop) (Kx1 : ByteArray → Heap → Prop) (Kn : ByteArray → Heap → Prop) (Kr : Bool → Heap → Prop) (E : Value → Heap → Prop) (h0 : Heap) : Prop :=
  outbox_Box_Next.c b0 most0 (fun x0 x1 x2 x3 h1 =>
  newB (.cells #[(.int .i64 0), (.string (⟨#[]⟩ : ByteArray)), (.bool false)] 72) (fun b1 h2 =>
  stc h2 ((⟨b1, 0, none⟩ : Addr).add 0) (.int .i64 x0) fun h3 =>
  stc h3 ((⟨b1, 0, none⟩ : Addr).add 1) (.string x1) fun h4 =>
  stc h4 ((⟨b1, 0, none⟩ : Addr).add 2) (.bool x2) fun h5 =>
  (if (!x3) = true then
  Kx0 out0 h5
  else
  ldS h5 ((⟨b1, 0, none⟩ : Addr).add 1) fun x4 =>
  (if (decide ((x4.size : Int) > most0)) = true then
  vizardlaw12_OutboxThere.J7 text0 mosts0 mosts1 mosts2 lost0 lost1 lost2 twice0 twice1 twice2 b0 in0 out0 i0 (⟨b1, 0, none⟩ : Addr) true (fun h6 =>
  vizardlaw12_OutboxThere.J8 text0 mosts0 mosts1 mosts2 lost0 lost1 lost2 twice0 twice1 twice2 b0 in0 out0 i0 (⟨b1, 0, none⟩ : Addr) Kx1 Kn Kr E h6) Kr E h5
  else
  ldI h5 .i64 ((⟨b1, 0, none⟩ : Addr).add 0) fun x7 =>
  (if (decide (x7 < 0)) = true then
  vizardlaw12_OutboxThere.J7 text0 mosts0 mosts1 mosts2 lost0 lost1 lost2 twice0 twice1 twice2 b0 in0 out0 i0 (⟨b1, 0, none⟩ : Addr) true (fun h11 =>
  vizardlaw12_OutboxThere.J8 text0 mosts0 mosts1 mosts2 lost0 lost1 lost2 twice0 twice1 twice2 b0 in0 out0 i0 (⟨b1, 0, none⟩ : Addr) Kx1 Kn Kr E h11) Kr E h5
  else
  ldI h5 .i64 ((⟨b1, 0, none⟩ : Addr).add 0) fun x10 =>
  ldS h5 ((⟨b1, 0, none⟩ : Addr).add 1) fun x11 =>
  (if (decide (x10 > (IntKind.i64.wrap ((text0.size : Int) - (x11.size : Int))))) = true then
  vizardlaw12_OutboxThere.J7 text0 mosts0 mosts1 mosts2 lost0 lost1 lost2 twice0 twice1 twice2 b0 in0 out0 i0 (⟨b1, 0, none⟩ : Addr) true (fun h16 =>
  vizardlaw12_OutboxThere.J8 text0 mosts0 mosts1 mosts2 lost0 lost1 lost2 twice0 twice1 twice2 b0 in0 out0 i0 (⟨b1, 0, none⟩ : Addr) Kx1 Kn Kr E h16) Kr E h5
  else
  ldI h5 .i64 ((⟨b1, 0, none⟩ : Addr).add 0) fun x14 =>
  ldI h5 .i64 ((⟨b1, 0, none⟩ : Addr).add 0) fun x15 =>
  ldS h5 ((⟨b1, 0, none⟩ : Addr).add 1) fun x16 =>
  (0 : Int) ≤ x14 ∧ x14 ≤ ((IntKind.i64.wrap (x15 + (x16.size : Int))) : Int) ∧ (IntKind.i64.wrap (x15 + (x16.size : Int))) ≤ (text0.size : Int) ∧
  ldS h5 ((⟨b1, 0, none⟩ : Addr).add 1) fun x17 =>
  vizardlaw12_OutboxThere.J7 text0 mosts0 mosts1 mosts2 lost0 lost1 lost2 twice0 twice1 twice2 b0 in0 out0 i0 (⟨b1, 0, none⟩ : Addr) (!((text0.extract x14.toNat (IntKind.i64.wrap (x15 + (x16.size : Int))).toNat).toList == x17.toList)) (fun h21 =>
  vizardlaw12_OutboxThere.J8 text0 mosts0 mosts1 mosts2 lost0 lost1 lost2 twice0 twice1 twice2 b0 in0 out0 i0 (⟨b1, 0, none⟩ : Addr) Kx1 Kn Kr E h21) Kr E h5))))) h1) E h0
structure vizardlaw12_OutboxThere.J6 (text0 : ByteArray) (mosts0 : Option Addr) (mosts1 : Nat) (mosts2 : Nat) (lost0 : Option Addr) (lost1 : Nat) (lost2 : Nat) (twice0 : Option Addr) (twice1 : Nat) (twice2 : Nat) (b0 : Option Addr) (in0 : Option Addr) (out0 : ByteArray) (i0 : Int) (most0 : Int) (Kx0 : ByteArray → Heap → Prop) (Kx1 : ByteArray → Heap → Prop) (Kn : ByteArray → Heap → Prop) (Kr : Bool → Heap → Prop) (E : Value → Heap → Prop) (H : Heap) : Prop where
  h : vizardlaw12_OutboxThere.J6.vc text0 mosts0 mosts1 mosts2 lost0 lost1 lost2 twice0 twice1 twice2 b0 in0 out0 i0 most0 Kx0 Kx1 Kn Kr E H
def vizardlaw12_OutboxThere.J13.vc (text0 : ByteArray) (mosts0 : Option Addr) (mosts1 : Nat) (mosts2 : Nat) (lost0 : Option Addr) (lost1 : Nat) (lost2 : Nat) (twice0 : Option Addr) (twice1 : Nat) (twice2 : Nat) (b0 : Option Addr) (in0 : Option Addr) (out0 : ByteArray) (i0 : Int) (Kn : Int → Heap → Prop) (E : Value → Heap → Prop) (h0 : Heap) : Prop :=
  Kn (IntKind.i64.wrap (i0 + 1)) h0
structure vizardlaw12_OutboxThere.J13 (text0 : ByteArray) (mosts0 : Option Addr) (mosts1 : Nat) (mosts2 : Nat) (lost0 : Option Addr) (lost1 : Nat) (lost2 : Nat) (twice0 : Option Addr) (twice1 : Nat) (twice2 : Nat) (b0 : Option Addr) (in0 : Option Addr) (out0 : ByteArray) (i0 : Int) (Kn : Int → Heap → Prop) (E : Value → Heap → Prop) (H : Heap) : Prop where
  h : vizardlaw12_OutboxThere.J13.vc text0 mosts0 mosts1 mosts2 lost0 lost1 lost2 twice0 twice1 twice2 b0 in0 out0 i0 Kn E H
def vizardlaw12_OutboxThere.W4.vc (text0 : ByteArray) (mosts0 : Option Addr) (mosts1 : Nat) (mosts2 : Nat) (lost0 : Option Addr) (lost1 : Nat) (lost2 : Nat) (twice0 : Option Addr) (twice1 : Nat) (twice2 : Nat) (b0 : Option Addr) (in0 : Option Addr) (out0 : ByteArray) (i0 : Int) (Kx0 : ByteArray → Heap → Prop) (Kr : Bool → Heap → Prop) (RR : ByteArray → Int → Heap → Prop) (E : Value → Heap → Prop) (h0 : Heap) : Prop :=
  (if (decide (i0 < 4000)) = true then
  (if (decide (i0 < (mosts1 : Int))) = true then
  vizardlaw12_OutboxThere.J5 text0 mosts0 mosts1 mosts2 lost0 lost1 lost2 twice0 twice1 twice2 b0 in0 out0 i0 50 (decide (i0 < 300)) (fun most0 h1 =>
  vizardlaw12_OutboxThere.J6 text0 mosts0 mosts1 mosts2 lost0 lost1 lost2 twice0 twice1 twice2 b0 in0 out0 i0 most0 Kx0 (fun out2 h3 =>
  vizardlaw12_OutboxThere.J13 text0 mosts0 mosts1 mosts2 lost0 lost1 lost2 twice0 twice1 twice2 b0 in0 out2 i0 (fun i1 h4 =>
  RR out2 i1 h4) E h3) (fun out3 h5 =>
  vizardlaw12_OutboxThere.J13 text0 mosts0 mosts1 mosts2 lost0 lost1 lost2 twice0 twice1 twice2 b0 in0 out3 i0 (fun i2 h6 =>
  RR out3 i2 h6) E h5) Kr E h1) E h0
  else
  vizardlaw12_OutboxThere.J5 text0 mosts0 mosts1 mosts2 lost0 lost1 lost2 twice0 twice1 twice2 b0 in0 out0 i0 50 false (fun most1 h8 =>
  vizardlaw12_OutboxThere.J6 text0 mosts0 mosts1 mosts2 lost0 lost1 lost2 twice0 twice1 twice2 b0 in0 out0 i0 most1 Kx0 (fun out5 h10 =>
  vizardlaw12_OutboxThere.J13 text0 mosts0 mosts1 mosts2 lost0 lost1 lost2 twice0 twice1 twice2 b0 in0 out5 i0 (fun i3 h11 =>
  RR out5 i3 h11) E h10) (fun out6 h12 =>
  vizardlaw12_OutboxThere.J13 text0 mosts0 mosts1 mosts2 lost0 lost1 lost2 twice0 twice1 twice2 b0 in0 out6 i0 (fun i4 h13 =>
  RR out6 i4 h13) E h12) Kr E h8) E h0)
  else
  Kx0 out0 h0)
structure vizardlaw12_OutboxThere.W4 (text0 : ByteArray) (mosts0 : Option Addr) (mosts1 : Nat) (mosts2 : Nat) (lost0 : Option Addr) (lost1 : Nat) (lost2 : Nat) (twice0 : Option Addr) (twice1 : Nat) (twice2 : Nat) (b0 : Option Addr) (in0 : Option Addr) (out0 : ByteArray) (i0 : Int) (Kx0 : ByteArray → Heap → Prop) (Kr : Bool → Heap → Prop) (E : Value → Heap → Prop) (H : Heap) : Prop where
  h : Loop (fun (RR : ByteArray × Int → Heap → Prop) (s : ByteArray × Int) (H : Heap) => vizardlaw12_OutboxThere.W4.vc text0 mosts0 mosts1 mosts2 lost0 lost1 lost2 twice0 twice1 twice2 b0 in0 s.1 s.2 Kx0 Kr (fun out0 i0 H => RR (out0, i0) H) E H) (out0, i0) H
def vizardlaw12_OutboxThere.J3.vc (text0 : ByteArray) (mosts0 : Option Addr) (mosts1 : Nat) (mosts2 : Nat) (lost0 : Option Addr) (lost1 : Nat) (lost2 : Nat) (twice0 : Option Addr) (twice1 : Nat) (twice2 : Nat) (b0 : Option Addr) (in0 : Option Addr) (Kr : Bool → Heap → Prop) (E : Value → Heap → Prop) (h0 : Heap) : Prop :=
  vizardlaw12_OutboxThere.W4 text0 mosts0 mosts1 mosts2 lost0 lost1 lost2 twice0 twice1 twice2 b0 in0 (⟨#[]⟩ : ByteArray) 0 (fun out0 h1 =>
  outbox_Box_State.c b0 (fun x0 x1 x2 h2 =>
  inbox_Box_State.c in0 (fun x3 x4 x5 h3 =>
  (if x2 = true then
  (if (x1 == (text0.size : Int)) = true then
  (if (out0.toList == text0.toList) = true then
  Kr (x5 == 1) h3
  else
  Kr false h3)
  else
  Kr false h3)
  else
  Kr false h3)) E h2) E h1) Kr E h0
structure vizardlaw12_OutboxThere.J3 (text0 : ByteArray) (mosts0 : Option Addr) (mosts1 : Nat) (mosts2 : Nat) (lost0 : Option Addr) (lost1 : Nat) (lost2 : Nat) (twice0 : Option Addr) (twice1 : Nat) (twice2 : Nat) (b0 : Option Addr) (in0 : Option Addr) (Kr : Bool → Heap → Prop) (E : Value → Heap → Prop) (H : Heap) : Prop where
  h : vizardlaw12_OutboxThere.J3.vc text0 mosts0 mosts1 mosts2 lost0 lost1 lost2 twice0 twice1 twice2 b0 in0 Kr E H
def vizardlaw12_OutboxThere.J1.vc (text0 : ByteArray) (mosts0 : Option Addr) (mosts1 : Nat) (mosts2 : Nat) (lost0 : Option Addr) (lost1 : Nat) (lost2 : Nat) (twice0 : Option Addr) (twice1 : Nat) (twice2 : Nat) (Kr : Bool → Heap → Prop) (E : Value → Heap → Prop) (h0 : Heap) : Prop :=
  outbox_New.c (fun x0 h1 =>
  inbox_New.c (fun x1 h2 =>
  (if (Option.isNone x1) = true then
  vizardlaw12_OutboxThere.J2 text0 mosts0 mosts1 mosts2 lost0 lost1 lost2 twice0 twice1 twice2 x0 x1 true (fun h3 =>
  vizardlaw12_OutboxThere.J3 text0 mosts0 mosts1 mosts2 lost0 lost1 lost2 twice0 twice1 twice2 x0 x1 Kr E h3) Kr E h2
  else
  outbox_Box_Write.c x0 text0 true (fun x4 h6 =>
  vizardlaw12_OutboxThere.J2 text0 mosts0 mosts1 mosts2 lost0 lost1 lost2 twice0 twice1 twice2 x0 x1 (x4 != 0) (fun h7 =>
  vizardlaw12_OutboxThere.J3 text0 mosts0 mosts1 mosts2 lost0 lost1 lost2 twice0 twice1 twice2 x0 x1 Kr E h7) Kr E h6) E h2)) E h1) E h0
structure vizardlaw12_OutboxThere.J1 (text0 : ByteArray) (mosts0 : Option Addr) (mosts1 : Nat) (mosts2 : Nat) (lost0 : Option Addr) (lost1 : Nat) (lost2 : Nat) (twice0 : Option Addr) (twice1 : Nat) (twice2 : Nat) (Kr : Bool → Heap → Prop) (E : Value → Heap → Prop) (H : Heap) : Prop where
  h : vizardlaw12_OutboxThere.J1.vc text0 mosts0 mosts1 mosts2 lost0 lost1 lost2 twice0 twice1 twice2 Kr E H
def vizardlaw12_OutboxThere.vc (text0 : ByteArray) (mosts0 : Option Addr) (mosts1 : Nat) (mosts2 : Nat) (lost0 : Option Addr) (lost1 : Nat) (lost2 : Nat) (twice0 : Option Addr) (twice1 : Nat) (twice2 : Nat) (K : Bool → Heap → Prop) (E : Value → Heap → Prop) (h0 : Heap) : Prop :=
  vizardlaw12_works.c (fun x0 h1 =>
  (if (!x0) = true then
  K false h1
  else
  (if (decide ((text0.size : Int) > 3000)) = true then
  (0 : Int) ≤ 3000 ∧ 3000 ≤ (text0.size : Int) ∧
  vizardlaw12_OutboxThere.J1 (text0.extract 0 3000) mosts0 mosts1 mosts2 lost0 lost1 lost2 twice0 twice1 twice2 K E h1
  else
  vizardlaw12_OutboxThere.J1 text0 mosts0 mosts1 mosts2 lost0 lost1 lost2 twice0 twice1 twice2 K E h1))) E h0
structure vizardlaw12_OutboxThere.c (text0 : ByteArray) (mosts0 : Option Addr) (mosts1 : Nat) (mosts2 : Nat) (lost0 : Option Addr) (lost1 : Nat) (lost2 : Nat) (twice0 : Option Addr) (twice1 : Nat) (twice2 : Nat) (K : Bool → Heap → Prop) (E : Value → Heap → Prop) (H : Heap) : Prop where
  h : vizardlaw12_OutboxThere.vc text0 mosts0 mosts1 mosts2 lost0 lost1 lost2 twice0 twice1 twice2 (fun r0_0 H => ∃ H', Heap.Le H' H ∧ K r0_0 H') E H
def vizardlaw12_OutboxThere.F : FT := fun args K E H => match args with
  | [(.string text0), (.slice mosts0 mosts1 mosts2), (.slice lost0 lost1 lost2), (.slice twice0 twice1 twice2)] => vizardlaw12_OutboxThere.c text0 mosts0 mosts1 mosts2 lost0 lost1 lost2 twice0 twice1 twice2 (fun r0_0 H => K (.bool r0_0) H) E H
  | _ => False
noncomputable def vizardlaw12_OutboxThere.Γ : FuncId → Option FT := Γof [(29, inbox_New.F), (30, inbox_Box_Put.F), (31, inbox_Box_Read.F), (32, inbox_Box_State.F), (40, vizardlaw12_works.F), (41, outbox_New.F), (42, outbox_Box_Write.F), (43, outbox_Box_Next.F), (44, outbox_Box_Lost.F), (45, outbox_Box_Acked.F), (46, outbox_Box_State.F)]
theorem vizardlaw12_OutboxThere.hΓ : ∀ f F, vizardlaw12_OutboxThere.Γ f = some F → CalleeOk Try.prog f F := Γof_ok (List.forall_mem_cons.2 ⟨inbox_New.ok, List.forall_mem_cons.2 ⟨inbox_Box_Put.ok, List.forall_mem_cons.2 ⟨inbox_Box_Read.ok, List.forall_mem_cons.2 ⟨inbox_Box_State.ok, List.forall_mem_cons.2 ⟨vizardlaw12_works.ok, List.forall_mem_cons.2 ⟨outbox_New.ok, List.forall_mem_cons.2 ⟨outbox_Box_Write.ok, List.forall_mem_cons.2 ⟨outbox_Box_Next.ok, List.forall_mem_cons.2 ⟨outbox_Box_Lost.ok, List.forall_mem_cons.2 ⟨outbox_Box_Acked.ok, List.forall_mem_cons.2 ⟨outbox_Box_State.ok, fun _ h => nomatch h⟩⟩⟩⟩⟩⟩⟩⟩⟩⟩⟩)
def vizardlaw12_OutboxThere.J2.t : CT := fun Q E fr H => lenIs 187 fr (slS fr 0 fun text0 => slSl fr 1 fun mosts0 mosts1 mosts2 => slSl fr 2 fun lost0 lost1 lost2 => slSl fr 3 fun twice0 twice1 twice2 => slP fr 9 fun b0 => slP fr 10 fun in0 => slB fr 38 fun x0 => vizardlaw12_OutboxThere.J2 text0 mosts0 mosts1 mosts2 lost0 lost1 lost2 twice0 twice1 twice2 b0 in0 x0 (fun  H => Q .normal (mkF 187 [(0, (.string text0)), (1, (.slice mosts0 mosts1 mosts2)), (2, (.slice lost0 lost1 lost2)), (3, (.slice twice0 twice1 twice2)), (9, (.pointer b0)), (10, (.pointer in0))]) H) (fun y8_0 H => Q .ret (mkF 187 [(8, (.bool y8_0))]) H) E H)
noncomputable def vizardlaw12_OutboxThere.J2.plan : Plan := .go
theorem vizardlaw12_OutboxThere.J2.pok : PlanOk Try.prog vizardlaw12_OutboxThere.J2.plan (sub [1, 1, 1, 1, 0, 1] vizardlaw12_OutboxThere.body) := by
  have e : PlanOk Try.prog vizardlaw12_OutboxThere.J2.plan (sub [1, 1, 1, 1, 0, 1] vizardlaw12_OutboxThere.body) = (True) := by kernel_rfl
  exact e.mpr trivial
theorem vizardlaw12_OutboxThere.J2.eq (text0 : ByteArray) (mosts0 : Option Addr) (mosts1 : Nat) (mosts2 : Nat) (lost0 : Option Addr) (lost1 : Nat) (lost2 : Nat) (twice0 : Option Addr) (twice1 : Nat) (twice2 : Nat) (b0 : Option Addr) (in0 : Option Addr) (x0 : Bool) (Q : Ex → Fr → Heap → Prop) (E : Value → Heap → Prop) (H : Heap) :
    vizardlaw12_OutboxThere.J2.vc text0 mosts0 mosts1 mosts2 lost0 lost1 lost2 twice0 twice1 twice2 b0 in0 x0 (fun  H => Q .normal (mkF 187 [(0, (.string text0)), (1, (.slice mosts0 mosts1 mosts2)), (2, (.slice lost0 lost1 lost2)), (3, (.slice twice0 twice1 twice2)), (9, (.pointer b0)), (10, (.pointer in0))]) H) (fun y8_0 H => Q .ret (mkF 187 [(8, (.bool y8_0))]) H) E H = keepT [0, 1, 2, 3, 9, 10] [8] (fun i => []) (wC Try.prog vizardlaw12_OutboxThere.Γ vizardlaw12_OutboxThere.J2.plan (sub [1, 1, 1, 1, 0, 1] vizardlaw12_OutboxThere.body)) Q E (mkF 187 [(0, (.string text0)), (1, (.slice mosts0 mosts1 mosts2)), (2, (.slice lost0 lost1 lost2)), (3, (.slice twice0 twice1 twice2)), (9, (.pointer b0)), (10, (.pointer in0)), (38, (.bool x0))]) H := by
  kernel_rfl
theorem vizardlaw12_OutboxThere.J2.ok : SoundCode Try.prog (sub [1, 1, 1, 1, 0, 1] vizardlaw12_OutboxThere.body) vizardlaw12_OutboxThere.J2.t := by
  refine piece_sound (keepT_sound [0, 1, 2, 3, 9, 10] [8] (fun i => []) (wC_sound vizardlaw12_OutboxThere.hΓ Try.hm vizardlaw12_OutboxThere.J2.plan _ vizardlaw12_OutboxThere.J2.pok)) ?_
  intro Q E fr H h
  unfold vizardlaw12_OutboxThere.J2.t at h
  obtain ⟨hl, h⟩ := lenIs_elim h
  obtain ⟨text0, q0, h⟩ := slS_elim h
  obtain ⟨mosts0, mosts1, mosts2, q1, h⟩ := slSl_elim h
  obtain ⟨lost0, lost1, lost2, q2, h⟩ := slSl_elim h
  obtain ⟨twice0, twice1, twice2, q3, h⟩ := slSl_elim h
  obtain ⟨b0, q9, h⟩ := slP_elim h
  obtain ⟨in0, q10, h⟩ := slP_elim h
  obtain ⟨x0, q38, h⟩ := slB_elim h
  refine ⟨(mkF 187 [(0, (.string text0)), (1, (.slice mosts0 mosts1 mosts2)), (2, (.slice lost0 lost1 lost2)), (3, (.slice twice0 twice1 twice2)), (9, (.pointer b0)), (10, (.pointer in0)), (38, (.bool x0))]), fun a ha => ha.mk (Nat.le_of_eq hl.symm) (List.forall_mem_cons.2 ⟨q0, List.forall_mem_cons.2 ⟨q1, List.forall_mem_cons.2 ⟨q2, List.forall_mem_cons.2 ⟨q3, List.forall_mem_cons.2 ⟨q9, List.forall_mem_cons.2 ⟨q10, List.forall_mem_cons.2 ⟨q38, fun _ h => nomatch h⟩⟩⟩⟩⟩⟩⟩), ?_⟩
  have e := vizardlaw12_OutboxThere.J2.eq text0 mosts0 mosts1 mosts2 lost0 lost1 lost2 twice0 twice1 twice2 b0 in0 x0 Q E H
  rw [← e]
  exact h.h
def vizardlaw12_OutboxThere.J5.t : CT := fun Q E fr H => lenIs 187 fr (slS fr 0 fun text0 => slSl fr 1 fun mosts0 mosts1 mosts2 => slSl fr 2 fun lost0 lost1 lost2 => slSl fr 3 fun twice0 twice1 twice2 => slP fr 9 fun b0 => slP fr 10 fun in0 => slS fr 11 fun out0 => slI fr 12 .i64 fun i0 => slI fr 13 .i64 fun most0 => slB fr 50 fun x0 => vizardlaw12_OutboxThere.J5 text0 mosts0 mosts1 mosts2 lost0 lost1 lost2 twice0 twice1 twice2 b0 in0 out0 i0 most0 x0 (fun y13_0 H => Q .normal (mkF 187 [(0, (.string text0)), (1, (.slice mosts0 mosts1 mosts2)), (2, (.slice lost0 lost1 lost2)), (3, (.slice twice0 twice1 twice2)), (9, (.pointer b0)), (10, (.pointer in0)), (11, (.string out0)), (12, (.int .i64 i0)), (13, (.int .i64 y13_0))]) H) E H)
noncomputable def vizardlaw12_OutboxThere.J5.plan : Plan := .go
theorem vizardlaw12_OutboxThere.J5.pok : PlanOk Try.prog vizardlaw12_OutboxThere.J5.plan (sub [1, 1, 1, 1, 1, 1, 0, 1, 0, 0, 1, 0, 0, 1, 0, 1] vizardlaw12_OutboxThere.body) := by
  have e : PlanOk Try.prog vizardlaw12_OutboxThere.J5.plan (sub [1, 1, 1, 1, 1, 1, 0, 1, 0, 0, 1, 0, 0, 1, 0, 1] vizardlaw12_OutboxThere.body) = (True) := by kernel_rfl
  exact e.mpr trivial
theorem vizardlaw12_OutboxThere.J5.eq (text0 : ByteArray) (mosts0 : Option Addr) (mosts1 : Nat) (mosts2 : Nat) (lost0 : Option Addr) (lost1 : Nat) (lost2 : Nat) (twice0 : Option Addr) (twice1 : Nat) (twice2 : Nat) (b0 : Option Addr) (in0 : Option Addr) (out0 : ByteArray) (i0 : Int) (most0 : Int) (x0 : Bool) (Q : Ex → Fr → Heap → Prop) (E : Value → Heap → Prop) (H : Heap) :
    vizardlaw12_OutboxThere.J5.vc text0 mosts0 mosts1 mosts2 lost0 lost1 lost2 twice0 twice1 twice2 b0 in0 out0 i0 most0 x0 (fun y13_0 H => Q .normal (mkF 187 [(0, (.string text0)), (1, (.slice mosts0 mosts1 mosts2)), (2, (.slice lost0 lost1 lost2)), (3, (.slice twice0 twice1 twice2)), (9, (.pointer b0)), (10, (.pointer in0)), (11, (.string out0)), (12, (.int .i64 i0)), (13, (.int .i64 y13_0))]) H) E H = keepT [0, 1, 2, 3, 9, 10, 11, 12, 13] [] (fun i => []) (wC Try.prog vizardlaw12_OutboxThere.Γ vizardlaw12_OutboxThere.J5.plan (sub [1, 1, 1, 1, 1, 1, 0, 1, 0, 0, 1, 0, 0, 1, 0, 1] vizardlaw12_OutboxThere.body)) Q E (mkF 187 [(0, (.string text0)), (1, (.slice mosts0 mosts1 mosts2)), (2, (.slice lost0 lost1 lost2)), (3, (.slice twice0 twice1 twice2)), (9, (.pointer b0)), (10, (.pointer in0)), (11, (.string out0)), (12, (.int .i64 i0)), (13, (.int .i64 most0)), (50, (.bool x0))]) H := by
  kernel_rfl
theorem vizardlaw12_OutboxThere.J5.ok : SoundCode Try.prog (sub [1, 1, 1, 1, 1, 1, 0, 1, 0, 0, 1, 0, 0, 1, 0, 1] vizardlaw12_OutboxThere.body) vizardlaw12_OutboxThere.J5.t := by
  refine piece_sound (keepT_sound [0, 1, 2, 3, 9, 10, 11, 12, 13] [] (fun i => []) (wC_sound vizardlaw12_OutboxThere.hΓ Try.hm vizardlaw12_OutboxThere.J5.plan _ vizardlaw12_OutboxThere.J5.pok)) ?_
  intro Q E fr H h
  unfold vizardlaw12_OutboxThere.J5.t at h
  obtain ⟨hl, h⟩ := lenIs_elim h
  obtain ⟨text0, q0, h⟩ := slS_elim h
  obtain ⟨mosts0, mosts1, mosts2, q1, h⟩ := slSl_elim h
  obtain ⟨lost0, lost1, lost2, q2, h⟩ := slSl_elim h
  obtain ⟨twice0, twice1, twice2, q3, h⟩ := slSl_elim h
  obtain ⟨b0, q9, h⟩ := slP_elim h
  obtain ⟨in0, q10, h⟩ := slP_elim h
  obtain ⟨out0, q11, h⟩ := slS_elim h
  obtain ⟨i0, q12, h⟩ := slI_elim h
  obtain ⟨most0, q13, h⟩ := slI_elim h
  obtain ⟨x0, q50, h⟩ := slB_elim h
  refine ⟨(mkF 187 [(0, (.string text0)), (1, (.slice mosts0 mosts1 mosts2)), (2, (.slice lost0 lost1 lost2)), (3, (.slice twice0 twice1 twice2)), (9, (.pointer b0)), (10, (.pointer in0)), (11, (.string out0)), (12, (.int .i64 i0)), (13, (.int .i64 most0)), (50, (.bool x0))]), fun a ha => ha.mk (Nat.le_of_eq hl.symm) (List.forall_mem_cons.2 ⟨q0, List.forall_mem_cons.2 ⟨q1, List.forall_mem_cons.2 ⟨q2, List.forall_mem_cons.2 ⟨q3, List.forall_mem_cons.2 ⟨q9, List.forall_mem_cons.2 ⟨q10, List.forall_mem_cons.2 ⟨q11, List.forall_mem_cons.2 ⟨q12, List.forall_mem_cons.2 ⟨q13, List.forall_mem_cons.2 ⟨q50, fun _ h => nomatch h⟩⟩⟩⟩⟩⟩⟩⟩⟩⟩), ?_⟩
  have e := vizardlaw12_OutboxThere.J5.eq text0 mosts0 mosts1 mosts2 lost0 lost1 lost2 twice0 twice1 twice2 b0 in0 out0 i0 most0 x0 Q E H
  rw [← e]
  exact h.h
def vizardlaw12_OutboxThere.J7.t : CT := fun Q E fr H => lenIs 187 fr (slS fr 0 fun text0 => slSl fr 1 fun mosts0 mosts1 mosts2 => slSl fr 2 fun lost0 lost1 lost2 => slSl fr 3 fun twice0 twice1 twice2 => slP fr 9 fun b0 => slP fr 10 fun in0 => slS fr 11 fun out0 => slI fr 12 .i64 fun i0 => slPA fr 14 fun p0 => slB fr 102 fun x0 => vizardlaw12_OutboxThere.J7 text0 mosts0 mosts1 mosts2 lost0 lost1 lost2 twice0 twice1 twice2 b0 in0 out0 i0 p0 x0 (fun  H => Q .normal (mkF 187 [(0, (.string text0)), (1, (.slice mosts0 mosts1 mosts2)), (2, (.slice lost0 lost1 lost2)), (3, (.slice twice0 twice1 twice2)), (9, (.pointer b0)), (10, (.pointer in0)), (11, (.string out0)), (12, (.int .i64 i0)), (14, (.pointer (some p0)))]) H) (fun y8_0 H => Q .ret (mkF 187 [(8, (.bool y8_0))]) H) E H)
noncomputable def vizardlaw12_OutboxThere.J7.plan : Plan := .go
theorem vizardlaw12_OutboxThere.J7.pok : PlanOk Try.prog vizardlaw12_OutboxThere.J7.plan (sub [1, 1, 1, 1, 1, 1, 0, 1, 0, 0, 1, 0, 0, 1, 1, 1, 1, 0, 1] vizardlaw12_OutboxThere.body) := by
  have e : PlanOk Try.prog vizardlaw12_OutboxThere.J7.plan (sub [1, 1, 1, 1, 1, 1, 0, 1, 0, 0, 1, 0, 0, 1, 1, 1, 1, 0, 1] vizardlaw12_OutboxThere.body) = (True) := by kernel_rfl
  exact e.mpr trivial
theorem vizardlaw12_OutboxThere.J7.eq (text0 : ByteArray) (mosts0 : Option Addr) (mosts1 : Nat) (mosts2 : Nat) (lost0 : Option Addr) (lost1 : Nat) (lost2 : Nat) (twice0 : Option Addr) (twice1 : Nat) (twice2 : Nat) (b0 : Option Addr) (in0 : Option Addr) (out0 : ByteArray) (i0 : Int) (p0 : Addr) (x0 : Bool) (Q : Ex → Fr → Heap → Prop) (E : Value → Heap → Prop) (H : Heap) :
    vizardlaw12_OutboxThere.J7.vc text0 mosts0 mosts1 mosts2 lost0 lost1 lost2 twice0 twice1 twice2 b0 in0 out0 i0 p0 x0 (fun  H => Q .normal (mkF 187 [(0, (.string text0)), (1, (.slice mosts0 mosts1 mosts2)), (2, (.slice lost0 lost1 lost2)), (3, (.slice twice0 twice1 twice2)), (9, (.pointer b0)), (10, (.pointer in0)), (11, (.string out0)), (12, (.int .i64 i0)), (14, (.pointer (some p0)))]) H) (fun y8_0 H => Q .ret (mkF 187 [(8, (.bool y8_0))]) H) E H = keepT [0, 1, 2, 3, 9, 10, 11, 12, 14] [8] (fun i => []) (wC Try.prog vizardlaw12_OutboxThere.Γ vizardlaw12_OutboxThere.J7.plan (sub [1, 1, 1, 1, 1, 1, 0, 1, 0, 0, 1, 0, 0, 1, 1, 1, 1, 0, 1] vizardlaw12_OutboxThere.body)) Q E (mkF 187 [(0, (.string text0)), (1, (.slice mosts0 mosts1 mosts2)), (2, (.slice lost0 lost1 lost2)), (3, (.slice twice0 twice1 twice2)), (9, (.pointer b0)), (10, (.pointer in0)), (11, (.string out0)), (12, (.int .i64 i0)), (14, (.pointer (some p0))), (102, (.bool x0))]) H := by
  kernel_rfl
theorem vizardlaw12_OutboxThere.J7.ok : SoundCode Try.prog (sub [1, 1, 1, 1, 1, 1, 0, 1, 0, 0, 1, 0, 0, 1, 1, 1, 1, 0, 1] vizardlaw12_OutboxThere.body) vizardlaw12_OutboxThere.J7.t := by
  refine piece_sound (keepT_sound [0, 1, 2, 3, 9, 10, 11, 12, 14] [8] (fun i => []) (wC_sound vizardlaw12_OutboxThere.hΓ Try.hm vizardlaw12_OutboxThere.J7.plan _ vizardlaw12_OutboxThere.J7.pok)) ?_
  intro Q E fr H h
  unfold vizardlaw12_OutboxThere.J7.t at h
  obtain ⟨hl, h⟩ := lenIs_elim h
  obtain ⟨text0, q0, h⟩ := slS_elim h
  obtain ⟨mosts0, mosts1, mosts2, q1, h⟩ := slSl_elim h
  obtain ⟨lost0, lost1, lost2, q2, h⟩ := slSl_elim h
  obtain ⟨twice0, twice1, twice2, q3, h⟩ := slSl_elim h
  obtain ⟨b0, q9, h⟩ := slP_elim h
  obtain ⟨in0, q10, h⟩ := slP_elim h
  obtain ⟨out0, q11, h⟩ := slS_elim h
  obtain ⟨i0, q12, h⟩ := slI_elim h
  obtain ⟨p0, q14, h⟩ := slPA_elim h
  obtain ⟨x0, q102, h⟩ := slB_elim h
  refine ⟨(mkF 187 [(0, (.string text0)), (1, (.slice mosts0 mosts1 mosts2)), (2, (.slice lost0 lost1 lost2)), (3, (.slice twice0 twice1 twice2)), (9, (.pointer b0)), (10, (.pointer in0)), (11, (.string out0)), (12, (.int .i64 i0)), (14, (.pointer (some p0))), (102, (.bool x0))]), fun a ha => ha.mk (Nat.le_of_eq hl.symm) (List.forall_mem_cons.2 ⟨q0, List.forall_mem_cons.2 ⟨q1, List.forall_mem_cons.2 ⟨q2, List.forall_mem_cons.2 ⟨q3, List.forall_mem_cons.2 ⟨q9, List.forall_mem_cons.2 ⟨q10, List.forall_mem_cons.2 ⟨q11, List.forall_mem_cons.2 ⟨q12, List.forall_mem_cons.2 ⟨q14, List.forall_mem_cons.2 ⟨q102, fun _ h => nomatch h⟩⟩⟩⟩⟩⟩⟩⟩⟩⟩), ?_⟩
  have e := vizardlaw12_OutboxThere.J7.eq text0 mosts0 mosts1 mosts2 lost0 lost1 lost2 twice0 twice1 twice2 b0 in0 out0 i0 p0 x0 Q E H
  rw [← e]
  exact h.h
def vizardlaw12_OutboxThere.J9.t : CT := fun Q E fr H => lenIs 187 fr (slS fr 0 fun text0 => slSl fr 1 fun mosts0 mosts1 mosts2 => slSl fr 2 fun lost0 lost1 lost2 => slSl fr 3 fun twice0 twice1 twice2 => slP fr 9 fun b0 => slP fr 10 fun in0 => slS fr 11 fun out0 => slI fr 12 .i64 fun i0 => slPA fr 14 fun p0 => slB fr 116 fun x0 => vizardlaw12_OutboxThere.J9 text0 mosts0 mosts1 mosts2 lost0 lost1 lost2 twice0 twice1 twice2 b0 in0 out0 i0 p0 x0 (fun  H => Q (.exit 1) (mkF 187 [(0, (.string text0)), (1, (.slice mosts0 mosts1 mosts2)), (2, (.slice lost0 lost1 lost2)), (3, (.slice twice0 twice1 twice2)), (9, (.pointer b0)), (10, (.pointer in0)), (11, (.string out0)), (12, (.int .i64 i0))]) H) (fun  H => Q .normal (mkF 187 [(0, (.string text0)), (1, (.slice mosts0 mosts1 mosts2)), (2, (.slice lost0 lost1 lost2)), (3, (.slice twice0 twice1 twice2)), (9, (.pointer b0)), (10, (.pointer in0)), (11, (.string out0)), (12, (.int .i64 i0)), (14, (.pointer (some p0)))]) H) E H)
noncomputable def vizardlaw12_OutboxThere.J9.plan : Plan := .go
theorem vizardlaw12_OutboxThere.J9.pok : PlanOk Try.prog vizardlaw12_OutboxThere.J9.plan (sub [1, 1, 1, 1, 1, 1, 0, 1, 0, 0, 1, 0, 0, 1, 1, 1, 1, 1, 0, 1] vizardlaw12_OutboxThere.body) := by
  have e : PlanOk Try.prog vizardlaw12_OutboxThere.J9.plan (sub [1, 1, 1, 1, 1, 1, 0, 1, 0, 0, 1, 0, 0, 1, 1, 1, 1, 1, 0, 1] vizardlaw12_OutboxThere.body) = (True) := by kernel_rfl
  exact e.mpr trivial
theorem vizardlaw12_OutboxThere.J9.eq (text0 : ByteArray) (mosts0 : Option Addr) (mosts1 : Nat) (mosts2 : Nat) (lost0 : Option Addr) (lost1 : Nat) (lost2 : Nat) (twice0 : Option Addr) (twice1 : Nat) (twice2 : Nat) (b0 : Option Addr) (in0 : Option Addr) (out0 : ByteArray) (i0 : Int) (p0 : Addr) (x0 : Bool) (Q : Ex → Fr → Heap → Prop) (E : Value → Heap → Prop) (H : Heap) :
    vizardlaw12_OutboxThere.J9.vc text0 mosts0 mosts1 mosts2 lost0 lost1 lost2 twice0 twice1 twice2 b0 in0 out0 i0 p0 x0 (fun  H => Q (.exit 1) (mkF 187 [(0, (.string text0)), (1, (.slice mosts0 mosts1 mosts2)), (2, (.slice lost0 lost1 lost2)), (3, (.slice twice0 twice1 twice2)), (9, (.pointer b0)), (10, (.pointer in0)), (11, (.string out0)), (12, (.int .i64 i0))]) H) (fun  H => Q .normal (mkF 187 [(0, (.string text0)), (1, (.slice mosts0 mosts1 mosts2)), (2, (.slice lost0 lost1 lost2)), (3, (.slice twice0 twice1 twice2)), (9, (.pointer b0)), (10, (.pointer in0)), (11, (.string out0)), (12, (.int .i64 i0)), (14, (.pointer (some p0)))]) H) E H = keepT [0, 1, 2, 3, 9, 10, 11, 12, 14] [] (fun i => if i = 1 then [0, 1, 2, 3, 9, 10, 11, 12] else []) (wC Try.prog vizardlaw12_OutboxThere.Γ vizardlaw12_OutboxThere.J9.plan (sub [1, 1, 1, 1, 1, 1, 0, 1, 0, 0, 1, 0, 0, 1, 1, 1, 1, 1, 0, 1] vizardlaw12_OutboxThere.body)) Q E (mkF 187 [(0, (.string text0)), (1, (.slice mosts0 mosts1 mosts2)), (2, (.slice lost0 lost1 lost2)), (3, (.slice twice0 twice1 twice2)), (9, (.pointer b0)), (10, (.pointer in0)), (11, (.string out0)), (12, (.int .i64 i0)), (14, (.pointer (some p0))), (116, (.bool x0))]) H := by
  kernel_rfl
theorem vizardlaw12_OutboxThere.J9.ok : SoundCode Try.prog (sub [1, 1, 1, 1, 1, 1, 0, 1, 0, 0, 1, 0, 0, 1, 1, 1, 1, 1, 0, 1] vizardlaw12_OutboxThere.body) vizardlaw12_OutboxThere.J9.t := by
  refine piece_sound (keepT_sound [0, 1, 2, 3, 9, 10, 11, 12, 14] [] (fun i => if i = 1 then [0, 1, 2, 3, 9, 10, 11, 12] else []) (wC_sound vizardlaw12_OutboxThere.hΓ Try.hm vizardlaw12_OutboxThere.J9.plan _ vizardlaw12_OutboxThere.J9.pok)) ?_
  intro Q E fr H h
  unfold vizardlaw12_OutboxThere.J9.t at h
  obtain ⟨hl, h⟩ := lenIs_elim h
  obtain ⟨text0, q0, h⟩ := slS_elim h
  obtain ⟨mosts0, mosts1, mosts2, q1, h⟩ := slSl_elim h
  obtain ⟨lost0, lost1, lost2, q2, h⟩ := slSl_elim h
  obtain ⟨twice0, twice1, twice2, q3, h⟩ := slSl_elim h
  obtain ⟨b0, q9, h⟩ := slP_elim h
  obtain ⟨in0, q10, h⟩ := slP_elim h
  obtain ⟨out0, q11, h⟩ := slS_elim h
  obtain ⟨i0, q12, h⟩ := slI_elim h
  obtain ⟨p0, q14, h⟩ := slPA_elim h
  obtain ⟨x0, q116, h⟩ := slB_elim h
  refine ⟨(mkF 187 [(0, (.string text0)), (1, (.slice mosts0 mosts1 mosts2)), (2, (.slice lost0 lost1 lost2)), (3, (.slice twice0 twice1 twice2)), (9, (.pointer b0)), (10, (.pointer in0)), (11, (.string out0)), (12, (.int .i64 i0)), (14, (.pointer (some p0))), (116, (.bool x0))]), fun a ha => ha.mk (Nat.le_of_eq hl.symm) (List.forall_mem_cons.2 ⟨q0, List.forall_mem_cons.2 ⟨q1, List.forall_mem_cons.2 ⟨q2, List.forall_mem_cons.2 ⟨q3, List.forall_mem_cons.2 ⟨q9, List.forall_mem_cons.2 ⟨q10, List.forall_mem_cons.2 ⟨q11, List.forall_mem_cons.2 ⟨q12, List.forall_mem_cons.2 ⟨q14, List.forall_mem_cons.2 ⟨q116, fun _ h => nomatch h⟩⟩⟩⟩⟩⟩⟩⟩⟩⟩), ?_⟩
  have e := vizardlaw12_OutboxThere.J9.eq text0 mosts0 mosts1 mosts2 lost0 lost1 lost2 twice0 twice1 twice2 b0 in0 out0 i0 p0 x0 Q E H
  rw [← e]
  exact h.h
def vizardlaw12_OutboxThere.J11.t : CT := fun Q E fr H => lenIs 187 fr (slS fr 0 fun text0 => slSl fr 1 fun mosts0 mosts1 mosts2 => slSl fr 2 fun lost0 lost1 lost2 => slSl fr 3 fun twice0 twice1 twice2 => slP fr 9 fun b0 => slP fr 10 fun in0 => slS fr 11 fun out0 => slI fr 12 .i64 fun i0 => slPA fr 14 fun p0 => slB fr 151 fun x0 => vizardlaw12_OutboxThere.J11 text0 mosts0 mosts1 mosts2 lost0 lost1 lost2 twice0 twice1 twice2 b0 in0 out0 i0 p0 x0 (fun  H => Q .normal (mkF 187 [(0, (.string text0)), (1, (.slice mosts0 mosts1 mosts2)), (2, (.slice lost0 lost1 lost2)), (3, (.slice twice0 twice1 twice2)), (9, (.pointer b0)), (10, (.pointer in0)), (11, (.string out0)), (12, (.int .i64 i0)), (14, (.pointer (some p0)))]) H) (fun y8_0 H => Q .ret (mkF 187 [(8, (.bool y8_0))]) H) E H)
noncomputable def vizardlaw12_OutboxThere.J11.plan : Plan := .go
theorem vizardlaw12_OutboxThere.J11.pok : PlanOk Try.prog vizardlaw12_OutboxThere.J11.plan (sub [1, 1, 1, 1, 1, 1, 0, 1, 0, 0, 1, 0, 0, 1, 1, 1, 1, 1, 1, 0, 1] vizardlaw12_OutboxThere.body) := by
  have e : PlanOk Try.prog vizardlaw12_OutboxThere.J11.plan (sub [1, 1, 1, 1, 1, 1, 0, 1, 0, 0, 1, 0, 0, 1, 1, 1, 1, 1, 1, 0, 1] vizardlaw12_OutboxThere.body) = (True) := by kernel_rfl
  exact e.mpr trivial
theorem vizardlaw12_OutboxThere.J11.eq (text0 : ByteArray) (mosts0 : Option Addr) (mosts1 : Nat) (mosts2 : Nat) (lost0 : Option Addr) (lost1 : Nat) (lost2 : Nat) (twice0 : Option Addr) (twice1 : Nat) (twice2 : Nat) (b0 : Option Addr) (in0 : Option Addr) (out0 : ByteArray) (i0 : Int) (p0 : Addr) (x0 : Bool) (Q : Ex → Fr → Heap → Prop) (E : Value → Heap → Prop) (H : Heap) :
    vizardlaw12_OutboxThere.J11.vc text0 mosts0 mosts1 mosts2 lost0 lost1 lost2 twice0 twice1 twice2 b0 in0 out0 i0 p0 x0 (fun  H => Q .normal (mkF 187 [(0, (.string text0)), (1, (.slice mosts0 mosts1 mosts2)), (2, (.slice lost0 lost1 lost2)), (3, (.slice twice0 twice1 twice2)), (9, (.pointer b0)), (10, (.pointer in0)), (11, (.string out0)), (12, (.int .i64 i0)), (14, (.pointer (some p0)))]) H) (fun y8_0 H => Q .ret (mkF 187 [(8, (.bool y8_0))]) H) E H = keepT [0, 1, 2, 3, 9, 10, 11, 12, 14] [8] (fun i => []) (wC Try.prog vizardlaw12_OutboxThere.Γ vizardlaw12_OutboxThere.J11.plan (sub [1, 1, 1, 1, 1, 1, 0, 1, 0, 0, 1, 0, 0, 1, 1, 1, 1, 1, 1, 0, 1] vizardlaw12_OutboxThere.body)) Q E (mkF 187 [(0, (.string text0)), (1, (.slice mosts0 mosts1 mosts2)), (2, (.slice lost0 lost1 lost2)), (3, (.slice twice0 twice1 twice2)), (9, (.pointer b0)), (10, (.pointer in0)), (11, (.string out0)), (12, (.int .i64 i0)), (14, (.pointer (some p0))), (151, (.bool x0))]) H := by
  kernel_rfl
theorem vizardlaw12_OutboxThere.J11.ok : SoundCode Try.prog (sub [1, 1, 1, 1, 1, 1, 0, 1, 0, 0, 1, 0, 0, 1, 1, 1, 1, 1, 1, 0, 1] vizardlaw12_OutboxThere.body) vizardlaw12_OutboxThere.J11.t := by
  refine piece_sound (keepT_sound [0, 1, 2, 3, 9, 10, 11, 12, 14] [8] (fun i => []) (wC_sound vizardlaw12_OutboxThere.hΓ Try.hm vizardlaw12_OutboxThere.J11.plan _ vizardlaw12_OutboxThere.J11.pok)) ?_
  intro Q E fr H h
  unfold vizardlaw12_OutboxThere.J11.t at h
  obtain ⟨hl, h⟩ := lenIs_elim h
  obtain ⟨text0, q0, h⟩ := slS_elim h
  obtain ⟨mosts0, mosts1, mosts2, q1, h⟩ := slSl_elim h
  obtain ⟨lost0, lost1, lost2, q2, h⟩ := slSl_elim h
  obtain ⟨twice0, twice1, twice2, q3, h⟩ := slSl_elim h
  obtain ⟨b0, q9, h⟩ := slP_elim h
  obtain ⟨in0, q10, h⟩ := slP_elim h
  obtain ⟨out0, q11, h⟩ := slS_elim h
  obtain ⟨i0, q12, h⟩ := slI_elim h
  obtain ⟨p0, q14, h⟩ := slPA_elim h
  obtain ⟨x0, q151, h⟩ := slB_elim h
  refine ⟨(mkF 187 [(0, (.string text0)), (1, (.slice mosts0 mosts1 mosts2)), (2, (.slice lost0 lost1 lost2)), (3, (.slice twice0 twice1 twice2)), (9, (.pointer b0)), (10, (.pointer in0)), (11, (.string out0)), (12, (.int .i64 i0)), (14, (.pointer (some p0))), (151, (.bool x0))]), fun a ha => ha.mk (Nat.le_of_eq hl.symm) (List.forall_mem_cons.2 ⟨q0, List.forall_mem_cons.2 ⟨q1, List.forall_mem_cons.2 ⟨q2, List.forall_mem_cons.2 ⟨q3, List.forall_mem_cons.2 ⟨q9, List.forall_mem_cons.2 ⟨q10, List.forall_mem_cons.2 ⟨q11, List.forall_mem_cons.2 ⟨q12, List.forall_mem_cons.2 ⟨q14, List.forall_mem_cons.2 ⟨q151, fun _ h => nomatch h⟩⟩⟩⟩⟩⟩⟩⟩⟩⟩), ?_⟩
  have e := vizardlaw12_OutboxThere.J11.eq text0 mosts0 mosts1 mosts2 lost0 lost1 lost2 twice0 twice1 twice2 b0 in0 out0 i0 p0 x0 Q E H
  rw [← e]
  exact h.h
def vizardlaw12_OutboxThere.J12.t : CT := fun Q E fr H => lenIs 187 fr (slS fr 0 fun text0 => slSl fr 1 fun mosts0 mosts1 mosts2 => slSl fr 2 fun lost0 lost1 lost2 => slSl fr 3 fun twice0 twice1 twice2 => slP fr 9 fun b0 => slP fr 10 fun in0 => slS fr 11 fun out0 => slI fr 12 .i64 fun i0 => slPA fr 14 fun p0 => vizardlaw12_OutboxThere.J12 text0 mosts0 mosts1 mosts2 lost0 lost1 lost2 twice0 twice1 twice2 b0 in0 out0 i0 p0 (fun y11_0 H => Q .normal (mkF 187 [(0, (.string text0)), (1, (.slice mosts0 mosts1 mosts2)), (2, (.slice lost0 lost1 lost2)), (3, (.slice twice0 twice1 twice2)), (9, (.pointer b0)), (10, (.pointer in0)), (11, (.string y11_0)), (12, (.int .i64 i0))]) H) E H)
noncomputable def vizardlaw12_OutboxThere.J12.plan : Plan := .go
theorem vizardlaw12_OutboxThere.J12.pok : PlanOk Try.prog vizardlaw12_OutboxThere.J12.plan (sub [1, 1, 1, 1, 1, 1, 0, 1, 0, 0, 1, 0, 0, 1, 1, 1, 1, 1, 1, 1] vizardlaw12_OutboxThere.body) := by
  have e : PlanOk Try.prog vizardlaw12_OutboxThere.J12.plan (sub [1, 1, 1, 1, 1, 1, 0, 1, 0, 0, 1, 0, 0, 1, 1, 1, 1, 1, 1, 1] vizardlaw12_OutboxThere.body) = (True) := by kernel_rfl
  exact e.mpr trivial
theorem vizardlaw12_OutboxThere.J12.eq (text0 : ByteArray) (mosts0 : Option Addr) (mosts1 : Nat) (mosts2 : Nat) (lost0 : Option Addr) (lost1 : Nat) (lost2 : Nat) (twice0 : Option Addr) (twice1 : Nat) (twice2 : Nat) (b0 : Option Addr) (in0 : Option Addr) (out0 : ByteArray) (i0 : Int) (p0 : Addr) (Q : Ex → Fr → Heap → Prop) (E : Value → Heap → Prop) (H : Heap) :
    vizardlaw12_OutboxThere.J12.vc text0 mosts0 mosts1 mosts2 lost0 lost1 lost2 twice0 twice1 twice2 b0 in0 out0 i0 p0 (fun y11_0 H => Q .normal (mkF 187 [(0, (.string text0)), (1, (.slice mosts0 mosts1 mosts2)), (2, (.slice lost0 lost1 lost2)), (3, (.slice twice0 twice1 twice2)), (9, (.pointer b0)), (10, (.pointer in0)), (11, (.string y11_0)), (12, (.int .i64 i0))]) H) E H = keepT [0, 1, 2, 3, 9, 10, 11, 12] [] (fun i => []) (wC Try.prog vizardlaw12_OutboxThere.Γ vizardlaw12_OutboxThere.J12.plan (sub [1, 1, 1, 1, 1, 1, 0, 1, 0, 0, 1, 0, 0, 1, 1, 1, 1, 1, 1, 1] vizardlaw12_OutboxThere.body)) Q E (mkF 187 [(0, (.string text0)), (1, (.slice mosts0 mosts1 mosts2)), (2, (.slice lost0 lost1 lost2)), (3, (.slice twice0 twice1 twice2)), (9, (.pointer b0)), (10, (.pointer in0)), (11, (.string out0)), (12, (.int .i64 i0)), (14, (.pointer (some p0)))]) H := by
  kernel_rfl
theorem vizardlaw12_OutboxThere.J12.ok : SoundCode Try.prog (sub [1, 1, 1, 1, 1, 1, 0, 1, 0, 0, 1, 0, 0, 1, 1, 1, 1, 1, 1, 1] vizardlaw12_OutboxThere.body) vizardlaw12_OutboxThere.J12.t := by
  refine piece_sound (keepT_sound [0, 1, 2, 3, 9, 10, 11, 12] [] (fun i => []) (wC_sound vizardlaw12_OutboxThere.hΓ Try.hm vizardlaw12_OutboxThere.J12.plan _ vizardlaw12_OutboxThere.J12.pok)) ?_
  intro Q E fr H h
  unfold vizardlaw12_OutboxThere.J12.t at h
  obtain ⟨hl, h⟩ := lenIs_elim h
  obtain ⟨text0, q0, h⟩ := slS_elim h
  obtain ⟨mosts0, mosts1, mosts2, q1, h⟩ := slSl_elim h
  obtain ⟨lost0, lost1, lost2, q2, h⟩ := slSl_elim h
  obtain ⟨twice0, twice1, twice2, q3, h⟩ := slSl_elim h
  obtain ⟨b0, q9, h⟩ := slP_elim h
  obtain ⟨in0, q10, h⟩ := slP_elim h
  obtain ⟨out0, q11, h⟩ := slS_elim h
  obtain ⟨i0, q12, h⟩ := slI_elim h
  obtain ⟨p0, q14, h⟩ := slPA_elim h
  refine ⟨(mkF 187 [(0, (.string text0)), (1, (.slice mosts0 mosts1 mosts2)), (2, (.slice lost0 lost1 lost2)), (3, (.slice twice0 twice1 twice2)), (9, (.pointer b0)), (10, (.pointer in0)), (11, (.string out0)), (12, (.int .i64 i0)), (14, (.pointer (some p0)))]), fun a ha => ha.mk (Nat.le_of_eq hl.symm) (List.forall_mem_cons.2 ⟨q0, List.forall_mem_cons.2 ⟨q1, List.forall_mem_cons.2 ⟨q2, List.forall_mem_cons.2 ⟨q3, List.forall_mem_cons.2 ⟨q9, List.forall_mem_cons.2 ⟨q10, List.forall_mem_cons.2 ⟨q11, List.forall_mem_cons.2 ⟨q12, List.forall_mem_cons.2 ⟨q14, fun _ h => nomatch h⟩⟩⟩⟩⟩⟩⟩⟩⟩), ?_⟩
  have e := vizardlaw12_OutboxThere.J12.eq text0 mosts0 mosts1 mosts2 lost0 lost1 lost2 twice0 twice1 twice2 b0 in0 out0 i0 p0 Q E H
  rw [← e]
  exact h.h
def vizardlaw12_OutboxThere.J10.t : CT := fun Q E fr H => lenIs 187 fr (slS fr 0 fun text0 => slSl fr 1 fun mosts0 mosts1 mosts2 => slSl fr 2 fun lost0 lost1 lost2 => slSl fr 3 fun twice0 twice1 twice2 => slP fr 9 fun b0 => slP fr 10 fun in0 => slS fr 11 fun out0 => slI fr 12 .i64 fun i0 => slPA fr 14 fun p0 => vizardlaw12_OutboxThere.J10 text0 mosts0 mosts1 mosts2 lost0 lost1 lost2 twice0 twice1 twice2 b0 in0 out0 i0 p0 (fun y11_0 H => Q .normal (mkF 187 [(0, (.string text0)), (1, (.slice mosts0 mosts1 mosts2)), (2, (.slice lost0 lost1 lost2)), (3, (.slice twice0 twice1 twice2)), (9, (.pointer b0)), (10, (.pointer in0)), (11, (.string y11_0)), (12, (.int .i64 i0))]) H) (fun y8_0 H => Q .ret (mkF 187 [(8, (.bool y8_0))]) H) E H)
noncomputable def vizardlaw12_OutboxThere.J10.plan : Plan := .seq (.seq (.go) (.use vizardlaw12_OutboxThere.J11.t)) (.use vizardlaw12_OutboxThere.J12.t)
theorem vizardlaw12_OutboxThere.J10.pok : PlanOk Try.prog vizardlaw12_OutboxThere.J10.plan (sub [1, 1, 1, 1, 1, 1, 0, 1, 0, 0, 1, 0, 0, 1, 1, 1, 1, 1, 1] vizardlaw12_OutboxThere.body) := by
  have e : PlanOk Try.prog vizardlaw12_OutboxThere.J10.plan (sub [1, 1, 1, 1, 1, 1, 0, 1, 0, 0, 1, 0, 0, 1, 1, 1, 1, 1, 1] vizardlaw12_OutboxThere.body) = (((True) ∧ (SoundCode Try.prog (sub [1, 1, 1, 1, 1, 1, 0, 1, 0, 0, 1, 0, 0, 1, 1, 1, 1, 1, 1, 0, 1] vizardlaw12_OutboxThere.body) vizardlaw12_OutboxThere.J11.t)) ∧ (SoundCode Try.prog (sub [1, 1, 1, 1, 1, 1, 0, 1, 0, 0, 1, 0, 0, 1, 1, 1, 1, 1, 1, 1] vizardlaw12_OutboxThere.body) vizardlaw12_OutboxThere.J12.t)) := by kernel_rfl
  exact e.mpr ⟨⟨trivial, vizardlaw12_OutboxThere.J11.ok⟩, vizardlaw12_OutboxThere.J12.ok⟩
theorem vizardlaw12_OutboxThere.J10.eq (text0 : ByteArray) (mosts0 : Option Addr) (mosts1 : Nat) (mosts2 : Nat) (lost0 : Option Addr) (lost1 : Nat) (lost2 : Nat) (twice0 : Option Addr) (twice1 : Nat) (twice2 : Nat) (b0 : Option Addr) (in0 : Option Addr) (out0 : ByteArray) (i0 : Int) (p0 : Addr) (Q : Ex → Fr → Heap → Prop) (E : Value → Heap → Prop) (H : Heap) :
    vizardlaw12_OutboxThere.J10.vc text0 mosts0 mosts1 mosts2 lost0 lost1 lost2 twice0 twice1 twice2 b0 in0 out0 i0 p0 (fun y11_0 H => Q .normal (mkF 187 [(0, (.string text0)), (1, (.slice mosts0 mosts1 mosts2)), (2, (.slice lost0 lost1 lost2)), (3, (.slice twice0 twice1 twice2)), (9, (.pointer b0)), (10, (.pointer in0)), (11, (.string y11_0)), (12, (.int .i64 i0))]) H) (fun y8_0 H => Q .ret (mkF 187 [(8, (.bool y8_0))]) H) E H = keepT [0, 1, 2, 3, 9, 10, 11, 12] [8] (fun i => []) (wC Try.prog vizardlaw12_OutboxThere.Γ vizardlaw12_OutboxThere.J10.plan (sub [1, 1, 1, 1, 1, 1, 0, 1, 0, 0, 1, 0, 0, 1, 1, 1, 1, 1, 1] vizardlaw12_OutboxThere.body)) Q E (mkF 187 [(0, (.string text0)), (1, (.slice mosts0 mosts1 mosts2)), (2, (.slice lost0 lost1 lost2)), (3, (.slice twice0 twice1 twice2)), (9, (.pointer b0)), (10, (.pointer in0)), (11, (.string out0)), (12, (.int .i64 i0)), (14, (.pointer (some p0)))]) H := by
  kernel_rfl
theorem vizardlaw12_OutboxThere.J10.ok : SoundCode Try.prog (sub [1, 1, 1, 1, 1, 1, 0, 1, 0, 0, 1, 0, 0, 1, 1, 1, 1, 1, 1] vizardlaw12_OutboxThere.body) vizardlaw12_OutboxThere.J10.t := by
  refine piece_sound (keepT_sound [0, 1, 2, 3, 9, 10, 11, 12] [8] (fun i => []) (wC_sound vizardlaw12_OutboxThere.hΓ Try.hm vizardlaw12_OutboxThere.J10.plan _ vizardlaw12_OutboxThere.J10.pok)) ?_
  intro Q E fr H h
  unfold vizardlaw12_OutboxThere.J10.t at h
  obtain ⟨hl, h⟩ := lenIs_elim h
  obtain ⟨text0, q0, h⟩ := slS_elim h
  obtain ⟨mosts0, mosts1, mosts2, q1, h⟩ := slSl_elim h
  obtain ⟨lost0, lost1, lost2, q2, h⟩ := slSl_elim h
  obtain ⟨twice0, twice1, twice2, q3, h⟩ := slSl_elim h
  obtain ⟨b0, q9, h⟩ := slP_elim h
  obtain ⟨in0, q10, h⟩ := slP_elim h
  obtain ⟨out0, q11, h⟩ := slS_elim h
  obtain ⟨i0, q12, h⟩ := slI_elim h
  obtain ⟨p0, q14, h⟩ := slPA_elim h
  refine ⟨(mkF 187 [(0, (.string text0)), (1, (.slice mosts0 mosts1 mosts2)), (2, (.slice lost0 lost1 lost2)), (3, (.slice twice0 twice1 twice2)), (9, (.pointer b0)), (10, (.pointer in0)), (11, (.string out0)), (12, (.int .i64 i0)), (14, (.pointer (some p0)))]), fun a ha => ha.mk (Nat.le_of_eq hl.symm) (List.forall_mem_cons.2 ⟨q0, List.forall_mem_cons.2 ⟨q1, List.forall_mem_cons.2 ⟨q2, List.forall_mem_cons.2 ⟨q3, List.forall_mem_cons.2 ⟨q9, List.forall_mem_cons.2 ⟨q10, List.forall_mem_cons.2 ⟨q11, List.forall_mem_cons.2 ⟨q12, List.forall_mem_cons.2 ⟨q14, fun _ h => nomatch h⟩⟩⟩⟩⟩⟩⟩⟩⟩), ?_⟩
  have e := vizardlaw12_OutboxThere.J10.eq text0 mosts0 mosts1 mosts2 lost0 lost1 lost2 twice0 twice1 twice2 b0 in0 out0 i0 p0 Q E H
  rw [← e]
  exact h.h
def vizardlaw12_OutboxThere.J8.t : CT := fun Q E fr H => lenIs 187 fr (slS fr 0 fun text0 => slSl fr 1 fun mosts0 mosts1 mosts2 => slSl fr 2 fun lost0 lost1 lost2 => slSl fr 3 fun twice0 twice1 twice2 => slP fr 9 fun b0 => slP fr 10 fun in0 => slS fr 11 fun out0 => slI fr 12 .i64 fun i0 => slPA fr 14 fun p0 => vizardlaw12_OutboxThere.J8 text0 mosts0 mosts1 mosts2 lost0 lost1 lost2 twice0 twice1 twice2 b0 in0 out0 i0 p0 (fun y11_0 H => Q (.exit 1) (mkF 187 [(0, (.string text0)), (1, (.slice mosts0 mosts1 mosts2)), (2, (.slice lost0 lost1 lost2)), (3, (.slice twice0 twice1 twice2)), (9, (.pointer b0)), (10, (.pointer in0)), (11, (.string y11_0)), (12, (.int .i64 i0))]) H) (fun y11_0 H => Q .normal (mkF 187 [(0, (.string text0)), (1, (.slice mosts0 mosts1 mosts2)), (2, (.slice lost0 lost1 lost2)), (3, (.slice twice0 twice1 twice2)), (9, (.pointer b0)), (10, (.pointer in0)), (11, (.string y11_0)), (12, (.int .i64 i0))]) H) (fun y8_0 H => Q .ret (mkF 187 [(8, (.bool y8_0))]) H) E H)
noncomputable def vizardlaw12_OutboxThere.J8.plan : Plan := .seq (.seq (.go) (.use vizardlaw12_OutboxThere.J9.t)) (.use vizardlaw12_OutboxThere.J10.t)
theorem vizardlaw12_OutboxThere.J8.pok : PlanOk Try.prog vizardlaw12_OutboxThere.J8.plan (sub [1, 1, 1, 1, 1, 1, 0, 1, 0, 0, 1, 0, 0, 1, 1, 1, 1, 1] vizardlaw12_OutboxThere.body) := by
  have e : PlanOk Try.prog vizardlaw12_OutboxThere.J8.plan (sub [1, 1, 1, 1, 1, 1, 0, 1, 0, 0, 1, 0, 0, 1, 1, 1, 1, 1] vizardlaw12_OutboxThere.body) = (((True) ∧ (SoundCode Try.prog (sub [1, 1, 1, 1, 1, 1, 0, 1, 0, 0, 1, 0, 0, 1, 1, 1, 1, 1, 0, 1] vizardlaw12_OutboxThere.body) vizardlaw12_OutboxThere.J9.t)) ∧ (SoundCode Try.prog (sub [1, 1, 1, 1, 1, 1, 0, 1, 0, 0, 1, 0, 0, 1, 1, 1, 1, 1, 1] vizardlaw12_OutboxThere.body) vizardlaw12_OutboxThere.J10.t)) := by kernel_rfl
  exact e.mpr ⟨⟨trivial, vizardlaw12_OutboxThere.J9.ok⟩, vizardlaw12_OutboxThere.J10.ok⟩
theorem vizardlaw12_OutboxThere.J8.eq (text0 : ByteArray) (mosts0 : Option Addr) (mosts1 : Nat) (mosts2 : Nat) (lost0 : Option Addr) (lost1 : Nat) (lost2 : Nat) (twice0 : Option Addr) (twice1 : Nat) (twice2 : Nat) (b0 : Option Addr) (in0 : Option Addr) (out0 : ByteArray) (i0 : Int) (p0 : Addr) (Q : Ex → Fr → Heap → Prop) (E : Value → Heap → Prop) (H : Heap) :
    vizardlaw12_OutboxThere.J8.vc text0 mosts0 mosts1 mosts2 lost0 lost1 lost2 twice0 twice1 twice2 b0 in0 out0 i0 p0 (fun y11_0 H => Q (.exit 1) (mkF 187 [(0, (.string text0)), (1, (.slice mosts0 mosts1 mosts2)), (2, (.slice lost0 lost1 lost2)), (3, (.slice twice0 twice1 twice2)), (9, (.pointer b0)), (10, (.pointer in0)), (11, (.string y11_0)), (12, (.int .i64 i0))]) H) (fun y11_0 H => Q .normal (mkF 187 [(0, (.string text0)), (1, (.slice mosts0 mosts1 mosts2)), (2, (.slice lost0 lost1 lost2)), (3, (.slice twice0 twice1 twice2)), (9, (.pointer b0)), (10, (.pointer in0)), (11, (.string y11_0)), (12, (.int .i64 i0))]) H) (fun y8_0 H => Q .ret (mkF 187 [(8, (.bool y8_0))]) H) E H = keepT [0, 1, 2, 3, 9, 10, 11, 12] [8] (fun i => if i = 1 then [0, 1, 2, 3, 9, 10, 11, 12] else []) (wC Try.prog vizardlaw12_OutboxThere.Γ vizardlaw12_OutboxThere.J8.plan (sub [1, 1, 1, 1, 1, 1, 0, 1, 0, 0, 1, 0, 0, 1, 1, 1, 1, 1] vizardlaw12_OutboxThere.body)) Q E (mkF 187 [(0, (.string text0)), (1, (.slice mosts0 mosts1 mosts2)), (2, (.slice lost0 lost1 lost2)), (3, (.slice twice0 twice1 twice2)), (9, (.pointer b0)), (10, (.pointer in0)), (11, (.string out0)), (12, (.int .i64 i0)), (14, (.pointer (some p0)))]) H := by
  kernel_rfl
theorem vizardlaw12_OutboxThere.J8.ok : SoundCode Try.prog (sub [1, 1, 1, 1, 1, 1, 0, 1, 0, 0, 1, 0, 0, 1, 1, 1, 1, 1] vizardlaw12_OutboxThere.body) vizardlaw12_OutboxThere.J8.t := by
  refine piece_sound (keepT_sound [0, 1, 2, 3, 9, 10, 11, 12] [8] (fun i => if i = 1 then [0, 1, 2, 3, 9, 10, 11, 12] else []) (wC_sound vizardlaw12_OutboxThere.hΓ Try.hm vizardlaw12_OutboxThere.J8.plan _ vizardlaw12_OutboxThere.J8.pok)) ?_
  intro Q E fr H h
  unfold vizardlaw12_OutboxThere.J8.t at h
  obtain ⟨hl, h⟩ := lenIs_elim h
  obtain ⟨text0, q0, h⟩ := slS_elim h
  obtain ⟨mosts0, mosts1, mosts2, q1, h⟩ := slSl_elim h
  obtain ⟨lost0, lost1, lost2, q2, h⟩ := slSl_elim h
  obtain ⟨twice0, twice1, twice2, q3, h⟩ := slSl_elim h
  obtain ⟨b0, q9, h⟩ := slP_elim h
  obtain ⟨in0, q10, h⟩ := slP_elim h
  obtain ⟨out0, q11, h⟩ := slS_elim h
  obtain ⟨i0, q12, h⟩ := slI_elim h
  obtain ⟨p0, q14, h⟩ := slPA_elim h
  refine ⟨(mkF 187 [(0, (.string text0)), (1, (.slice mosts0 mosts1 mosts2)), (2, (.slice lost0 lost1 lost2)), (3, (.slice twice0 twice1 twice2)), (9, (.pointer b0)), (10, (.pointer in0)), (11, (.string out0)), (12, (.int .i64 i0)), (14, (.pointer (some p0)))]), fun a ha => ha.mk (Nat.le_of_eq hl.symm) (List.forall_mem_cons.2 ⟨q0, List.forall_mem_cons.2 ⟨q1, List.forall_mem_cons.2 ⟨q2, List.forall_mem_cons.2 ⟨q3, List.forall_mem_cons.2 ⟨q9, List.forall_mem_cons.2 ⟨q10, List.forall_mem_cons.2 ⟨q11, List.forall_mem_cons.2 ⟨q12, List.forall_mem_cons.2 ⟨q14, fun _ h => nomatch h⟩⟩⟩⟩⟩⟩⟩⟩⟩), ?_⟩
  have e := vizardlaw12_OutboxThere.J8.eq text0 mosts0 mosts1 mosts2 lost0 lost1 lost2 twice0 twice1 twice2 b0 in0 out0 i0 p0 Q E H
  rw [← e]
  exact h.h
def vizardlaw12_OutboxThere.J6.t : CT := fun Q E fr H => lenIs 187 fr (slS fr 0 fun text0 => slSl fr 1 fun mosts0 mosts1 mosts2 => slSl fr 2 fun lost0 lost1 lost2 => slSl fr 3 fun twice0 twice1 twice2 => slP fr 9 fun b0 => slP fr 10 fun in0 => slS fr 11 fun out0 => slI fr 12 .i64 fun i0 => slI fr 13 .i64 fun most0 => vizardlaw12_OutboxThere.J6 text0 mosts0 mosts1 mosts2 lost0 lost1 lost2 twice0 twice1 twice2 b0 in0 out0 i0 most0 (fun y11_0 H => Q (.exit 0) (mkF 187 [(0, (.string text0)), (9, (.pointer b0)), (10, (.pointer in0)), (11, (.string y11_0))]) H) (fun y11_0 H => Q (.exit 1) (mkF 187 [(0, (.string text0)), (1, (.slice mosts0 mosts1 mosts2)), (2, (.slice lost0 lost1 lost2)), (3, (.slice twice0 twice1 twice2)), (9, (.pointer b0)), (10, (.pointer in0)), (11, (.string y11_0)), (12, (.int .i64 i0))]) H) (fun y11_0 H => Q .normal (mkF 187 [(0, (.string text0)), (1, (.slice mosts0 mosts1 mosts2)), (2, (.slice lost0 lost1 lost2)), (3, (.slice twice0 twice1 twice2)), (9, (.pointer b0)), (10, (.pointer in0)), (11, (.string y11_0)), (12, (.int .i64 i0))]) H) (fun y8_0 H => Q .ret (mkF 187 [(8, (.bool y8_0))]) H) E H)
noncomputable def vizardlaw12_OutboxThere.J6.plan : Plan := .seq (.go) (.seq (.go) (.seq (.seq (.draw ⟨[0, 1, 2, 3, 4, 5, 6, 7, 8, 9, 10, 11, 12, 13, 14, 15, 16, 17, 18, 19, 20, 21, 22, 23, 24, 25, 26, 27, 28, 29, 30, 31, 32, 33, 34, 35], (dl [(0, []), (1, []), (2, []), (3, []), (4, []), (5, []), (6, []), (7, []), (8, []), (9, []), (10, []), (11, []), (12, []), (13, []), (14, []), (15, []), (16, []), (17, []), (18, []), (19, []), (20, []), (21, []), (22, []), (23, []), (24, []), (25, []), (26, []), (27, []), (28, []), (29, []), (30, []), (31, []), (32, []), (33, []), (34, []), (35, [])] .fin), []⟩) (.use vizardlaw12_OutboxThere.J7.t)) (.use vizardlaw12_OutboxThere.J8.t)))
theorem vizardlaw12_OutboxThere.J6.pok : PlanOk Try.prog vizardlaw12_OutboxThere.J6.plan (sub [1, 1, 1, 1, 1, 1, 0, 1, 0, 0, 1, 0, 0, 1, 1] vizardlaw12_OutboxThere.body) := by
  have e : PlanOk Try.prog vizardlaw12_OutboxThere.J6.plan (sub [1, 1, 1, 1, 1, 1, 0, 1, 0, 0, 1, 0, 0, 1, 1] vizardlaw12_OutboxThere.body) = ((True) ∧ ((True) ∧ (((True) ∧ (SoundCode Try.prog (sub [1, 1, 1, 1, 1, 1, 0, 1, 0, 0, 1, 0, 0, 1, 1, 1, 1, 0, 1] vizardlaw12_OutboxThere.body) vizardlaw12_OutboxThere.J7.t)) ∧ (SoundCode Try.prog (sub [1, 1, 1, 1, 1, 1, 0, 1, 0, 0, 1, 0, 0, 1, 1, 1, 1, 1] vizardlaw12_OutboxThere.body) vizardlaw12_OutboxThere.J8.t)))) := by kernel_rfl
  exact e.mpr ⟨trivial, ⟨trivial, ⟨⟨trivial, vizardlaw12_OutboxThere.J7.ok⟩, vizardlaw12_OutboxThere.J8.ok⟩⟩⟩
theorem vizardlaw12_OutboxThere.J6.eq (text0 : ByteArray) (mosts0 : Option Addr) (mosts1 : Nat) (mosts2 : Nat) (lost0 : Option Addr) (lost1 : Nat) (lost2 : Nat) (twice0 : Option Addr) (twice1 : Nat) (twice2 : Nat) (b0 : Option Addr) (in0 : Option Addr) (out0 : ByteArray) (i0 : Int) (most0 : Int) (Q : Ex → Fr → Heap → Prop) (E : Value → Heap → Prop) (H : Heap) :
    vizardlaw12_OutboxThere.J6.vc text0 mosts0 mosts1 mosts2 lost0 lost1 lost2 twice0 twice1 twice2 b0 in0 out0 i0 most0 (fun y11_0 H => Q (.exit 0) (mkF 187 [(0, (.string text0)), (9, (.pointer b0)), (10, (.pointer in0)), (11, (.string y11_0))]) H) (fun y11_0 H => Q (.exit 1) (mkF 187 [(0, (.string text0)), (1, (.slice mosts0 mosts1 mosts2)), (2, (.slice lost0 lost1 lost2)), (3, (.slice twice0 twice1 twice2)), (9, (.pointer b0)), (10, (.pointer in0)), (11, (.string y11_0)), (12, (.int .i64 i0))]) H) (fun y11_0 H => Q .normal (mkF 187 [(0, (.string text0)), (1, (.slice mosts0 mosts1 mosts2)), (2, (.slice lost0 lost1 lost2)), (3, (.slice twice0 twice1 twice2)), (9, (.pointer b0)), (10, (.pointer in0)), (11, (.string y11_0)), (12, (.int .i64 i0))]) H) (fun y8_0 H => Q .ret (mkF 187 [(8, (.bool y8_0))]) H) E H = keepT [0, 1, 2, 3, 9, 10, 11, 12] [8] (fun i => if i = 0 then [0, 9, 10, 11] else if i = 1 then [0, 1, 2, 3, 9, 10, 11, 12] else []) (wC Try.prog vizardlaw12_OutboxThere.Γ vizardlaw12_OutboxThere.J6.plan (sub [1, 1, 1, 1, 1, 1, 0, 1, 0, 0, 1, 0, 0, 1, 1] vizardlaw12_OutboxThere.body)) Q E (mkF 187 [(0, (.string text0)), (1, (.slice mosts0 mosts1 mosts2)), (2, (.slice lost0 lost1 lost2)), (3, (.slice twice0 twice1 twice2)), (9, (.pointer b0)), (10, (.pointer in0)), (11, (.string out0)), (12, (.int .i64 i0)), (13, (.int .i64 most0))]) H := by
  kernel_rfl
theorem vizardlaw12_OutboxThere.J6.ok : SoundCode Try.prog (sub [1, 1, 1, 1, 1, 1, 0, 1, 0, 0, 1, 0, 0, 1, 1] vizardlaw12_OutboxThere.body) vizardlaw12_OutboxThere.J6.t := by
  refine piece_sound (keepT_sound [0, 1, 2, 3, 9, 10, 11, 12] [8] (fun i => if i = 0 then [0, 9, 10, 11] else if i = 1 then [0, 1, 2, 3, 9, 10, 11, 12] else []) (wC_sound vizardlaw12_OutboxThere.hΓ Try.hm vizardlaw12_OutboxThere.J6.plan _ vizardlaw12_OutboxThere.J6.pok)) ?_
  intro Q E fr H h
  unfold vizardlaw12_OutboxThere.J6.t at h
  obtain ⟨hl, h⟩ := lenIs_elim h
  obtain ⟨text0, q0, h⟩ := slS_elim h
  obtain ⟨mosts0, mosts1, mosts2, q1, h⟩ := slSl_elim h
  obtain ⟨lost0, lost1, lost2, q2, h⟩ := slSl_elim h
  obtain ⟨twice0, twice1, twice2, q3, h⟩ := slSl_elim h
  obtain ⟨b0, q9, h⟩ := slP_elim h
  obtain ⟨in0, q10, h⟩ := slP_elim h
  obtain ⟨out0, q11, h⟩ := slS_elim h
  obtain ⟨i0, q12, h⟩ := slI_elim h
  obtain ⟨most0, q13, h⟩ := slI_elim h
  refine ⟨(mkF 187 [(0, (.string text0)), (1, (.slice mosts0 mosts1 mosts2)), (2, (.slice lost0 lost1 lost2)), (3, (.slice twice0 twice1 twice2)), (9, (.pointer b0)), (10, (.pointer in0)), (11, (.string out0)), (12, (.int .i64 i0)), (13, (.int .i64 most0))]), fun a ha => ha.mk (Nat.le_of_eq hl.symm) (List.forall_mem_cons.2 ⟨q0, List.forall_mem_cons.2 ⟨q1, List.forall_mem_cons.2 ⟨q2, List.forall_mem_cons.2 ⟨q3, List.forall_mem_cons.2 ⟨q9, List.forall_mem_cons.2 ⟨q10, List.forall_mem_cons.2 ⟨q11, List.forall_mem_cons.2 ⟨q12, List.forall_mem_cons.2 ⟨q13, fun _ h => nomatch h⟩⟩⟩⟩⟩⟩⟩⟩⟩), ?_⟩
  have e := vizardlaw12_OutboxThere.J6.eq text0 mosts0 mosts1 mosts2 lost0 lost1 lost2 twice0 twice1 twice2 b0 in0 out0 i0 most0 Q E H
  rw [← e]
  exact h.h
def vizardlaw12_OutboxThere.J13.t : CT := fun Q E fr H => lenIs 187 fr (slS fr 0 fun text0 => slSl fr 1 fun mosts0 mosts1 mosts2 => slSl fr 2 fun lost0 lost1 lost2 => slSl fr 3 fun twice0 twice1 twice2 => slP fr 9 fun b0 => slP fr 10 fun in0 => slS fr 11 fun out0 => slI fr 12 .i64 fun i0 => vizardlaw12_OutboxThere.J13 text0 mosts0 mosts1 mosts2 lost0 lost1 lost2 twice0 twice1 twice2 b0 in0 out0 i0 (fun y12_0 H => Q .normal (mkF 187 [(0, (.string text0)), (1, (.slice mosts0 mosts1 mosts2)), (2, (.slice lost0 lost1 lost2)), (3, (.slice twice0 twice1 twice2)), (9, (.pointer b0)), (10, (.pointer in0)), (11, (.string out0)), (12, (.int .i64 y12_0))]) H) E H)
noncomputable def vizardlaw12_OutboxThere.J13.plan : Plan := .go
theorem vizardlaw12_OutboxThere.J13.pok : PlanOk Try.prog vizardlaw12_OutboxThere.J13.plan (sub [1, 1, 1, 1, 1, 1, 0, 1, 0, 0, 1, 1] vizardlaw12_OutboxThere.body) := by
  have e : PlanOk Try.prog vizardlaw12_OutboxThere.J13.plan (sub [1, 1, 1, 1, 1, 1, 0, 1, 0, 0, 1, 1] vizardlaw12_OutboxThere.body) = (True) := by kernel_rfl
  exact e.mpr trivial
theorem vizardlaw12_OutboxThere.J13.eq (text0 : ByteArray) (mosts0 : Option Addr) (mosts1 : Nat) (mosts2 : Nat) (lost0 : Option Addr) (lost1 : Nat) (lost2 : Nat) (twice0 : Option Addr) (twice1 : Nat) (twice2 : Nat) (b0 : Option Addr) (in0 : Option Addr) (out0 : ByteArray) (i0 : Int) (Q : Ex → Fr → Heap → Prop) (E : Value → Heap → Prop) (H : Heap) :
    vizardlaw12_OutboxThere.J13.vc text0 mosts0 mosts1 mosts2 lost0 lost1 lost2 twice0 twice1 twice2 b0 in0 out0 i0 (fun y12_0 H => Q .normal (mkF 187 [(0, (.string text0)), (1, (.slice mosts0 mosts1 mosts2)), (2, (.slice lost0 lost1 lost2)), (3, (.slice twice0 twice1 twice2)), (9, (.pointer b0)), (10, (.pointer in0)), (11, (.string out0)), (12, (.int .i64 y12_0))]) H) E H = keepT [0, 1, 2, 3, 9, 10, 11, 12] [] (fun i => []) (wC Try.prog vizardlaw12_OutboxThere.Γ vizardlaw12_OutboxThere.J13.plan (sub [1, 1, 1, 1, 1, 1, 0, 1, 0, 0, 1, 1] vizardlaw12_OutboxThere.body)) Q E (mkF 187 [(0, (.string text0)), (1, (.slice mosts0 mosts1 mosts2)), (2, (.slice lost0 lost1 lost2)), (3, (.slice twice0 twice1 twice2)), (9, (.pointer b0)), (10, (.pointer in0)), (11, (.string out0)), (12, (.int .i64 i0))]) H := by
  kernel_rfl
theorem vizardlaw12_OutboxThere.J13.ok : SoundCode Try.prog (sub [1, 1, 1, 1, 1, 1, 0, 1, 0, 0, 1, 1] vizardlaw12_OutboxThere.body) vizardlaw12_OutboxThere.J13.t := by
  refine piece_sound (keepT_sound [0, 1, 2, 3, 9, 10, 11, 12] [] (fun i => []) (wC_sound vizardlaw12_OutboxThere.hΓ Try.hm vizardlaw12_OutboxThere.J13.plan _ vizardlaw12_OutboxThere.J13.pok)) ?_
  intro Q E fr H h
  unfold vizardlaw12_OutboxThere.J13.t at h
  obtain ⟨hl, h⟩ := lenIs_elim h
  obtain ⟨text0, q0, h⟩ := slS_elim h
  obtain ⟨mosts0, mosts1, mosts2, q1, h⟩ := slSl_elim h
  obtain ⟨lost0, lost1, lost2, q2, h⟩ := slSl_elim h
  obtain ⟨twice0, twice1, twice2, q3, h⟩ := slSl_elim h
  obtain ⟨b0, q9, h⟩ := slP_elim h
  obtain ⟨in0, q10, h⟩ := slP_elim h
  obtain ⟨out0, q11, h⟩ := slS_elim h
  obtain ⟨i0, q12, h⟩ := slI_elim h
  refine ⟨(mkF 187 [(0, (.string text0)), (1, (.slice mosts0 mosts1 mosts2)), (2, (.slice lost0 lost1 lost2)), (3, (.slice twice0 twice1 twice2)), (9, (.pointer b0)), (10, (.pointer in0)), (11, (.string out0)), (12, (.int .i64 i0))]), fun a ha => ha.mk (Nat.le_of_eq hl.symm) (List.forall_mem_cons.2 ⟨q0, List.forall_mem_cons.2 ⟨q1, List.forall_mem_cons.2 ⟨q2, List.forall_mem_cons.2 ⟨q3, List.forall_mem_cons.2 ⟨q9, List.forall_mem_cons.2 ⟨q10, List.forall_mem_cons.2 ⟨q11, List.forall_mem_cons.2 ⟨q12, fun _ h => nomatch h⟩⟩⟩⟩⟩⟩⟩⟩), ?_⟩
  have e := vizardlaw12_OutboxThere.J13.eq text0 mosts0 mosts1 mosts2 lost0 lost1 lost2 twice0 twice1 twice2 b0 in0 out0 i0 Q E H
  rw [← e]
  exact h.h
def vizardlaw12_OutboxThere.W4.t : CT := fun Q E fr H => lenIs 187 fr (slS fr 0 fun text0 => slSl fr 1 fun mosts0 mosts1 mosts2 => slSl fr 2 fun lost0 lost1 lost2 => slSl fr 3 fun twice0 twice1 twice2 => slP fr 9 fun b0 => slP fr 10 fun in0 => slS fr 11 fun out0 => slI fr 12 .i64 fun i0 => vizardlaw12_OutboxThere.W4 text0 mosts0 mosts1 mosts2 lost0 lost1 lost2 twice0 twice1 twice2 b0 in0 out0 i0 (fun y11_0 H => Q (.exit 0) (mkF 187 [(0, (.string text0)), (9, (.pointer b0)), (10, (.pointer in0)), (11, (.string y11_0))]) H) (fun y8_0 H => Q .ret (mkF 187 [(8, (.bool y8_0))]) H) E H)
noncomputable def vizardlaw12_OutboxThere.W4.plan : Plan := .seq (.go) (.seq (.block (.seq (.go) (.seq (.seq (.go) (.use vizardlaw12_OutboxThere.J5.t)) (.use vizardlaw12_OutboxThere.J6.t)))) (.use vizardlaw12_OutboxThere.J13.t))
theorem vizardlaw12_OutboxThere.W4.pok : PlanOk Try.prog vizardlaw12_OutboxThere.W4.plan (sub [1, 1, 1, 1, 1, 1, 0, 1, 0, 0] vizardlaw12_OutboxThere.body) := by
  have e : PlanOk Try.prog vizardlaw12_OutboxThere.W4.plan (sub [1, 1, 1, 1, 1, 1, 0, 1, 0, 0] vizardlaw12_OutboxThere.body) = ((True) ∧ (((True) ∧ (((True) ∧ (SoundCode Try.prog (sub [1, 1, 1, 1, 1, 1, 0, 1, 0, 0, 1, 0, 0, 1, 0, 1] vizardlaw12_OutboxThere.body) vizardlaw12_OutboxThere.J5.t)) ∧ (SoundCode Try.prog (sub [1, 1, 1, 1, 1, 1, 0, 1, 0, 0, 1, 0, 0, 1, 1] vizardlaw12_OutboxThere.body) vizardlaw12_OutboxThere.J6.t))) ∧ (SoundCode Try.prog (sub [1, 1, 1, 1, 1, 1, 0, 1, 0, 0, 1, 1] vizardlaw12_OutboxThere.body) vizardlaw12_OutboxThere.J13.t))) := by kernel_rfl
  exact e.mpr ⟨trivial, ⟨⟨trivial, ⟨⟨trivial, vizardlaw12_OutboxThere.J5.ok⟩, vizardlaw12_OutboxThere.J6.ok⟩⟩, vizardlaw12_OutboxThere.J13.ok⟩⟩
theorem vizardlaw12_OutboxThere.W4.eq (text0 : ByteArray) (mosts0 : Option Addr) (mosts1 : Nat) (mosts2 : Nat) (lost0 : Option Addr) (lost1 : Nat) (lost2 : Nat) (twice0 : Option Addr) (twice1 : Nat) (twice2 : Nat) (b0 : Option Addr) (in0 : Option Addr) (Q : Ex → Fr → Heap → Prop) (E : Value → Heap → Prop) (RR : Fr → Heap → Prop) (s : ByteArray × Int) (H : Heap) :
    (fun (RR : ByteArray × Int → Heap → Prop) (s : ByteArray × Int) (H : Heap) => vizardlaw12_OutboxThere.W4.vc text0 mosts0 mosts1 mosts2 lost0 lost1 lost2 twice0 twice1 twice2 b0 in0 s.1 s.2 (fun y11_0 H => Q (.exit 0) (mkF 187 [(0, (.string text0)), (9, (.pointer b0)), (10, (.pointer in0)), (11, (.string y11_0))]) H) (fun y8_0 H => Q .ret (mkF 187 [(8, (.bool y8_0))]) H) (fun out0 i0 H => RR (out0, i0) H) E H) (fun s' H' => RR ((fun (s : ByteArray × Int) => (mkF 187 [(0, (.string text0)), (1, (.slice mosts0 mosts1 mosts2)), (2, (.slice lost0 lost1 lost2)), (3, (.slice twice0 twice1 twice2)), (9, (.pointer b0)), (10, (.pointer in0)), (11, (.string s.1)), (12, (.int .i64 s.2))])) s') H') s H = keepT [0, 1, 2, 3, 9, 10, 11, 12] [8] (fun i => if i = 0 then [0, 9, 10, 11] else []) (wC Try.prog vizardlaw12_OutboxThere.Γ vizardlaw12_OutboxThere.W4.plan (sub [1, 1, 1, 1, 1, 1, 0, 1, 0, 0] vizardlaw12_OutboxThere.body)) (fun e fr' H' => match e with | .normal => RR fr' H' | .exit id => Q (.exit id) fr' H' | .ret => Q .ret fr' H') E ((fun (s : ByteArray × Int) => (mkF 187 [(0, (.string text0)), (1, (.slice mosts0 mosts1 mosts2)), (2, (.slice lost0 lost1 lost2)), (3, (.slice twice0 twice1 twice2)), (9, (.pointer b0)), (10, (.pointer in0)), (11, (.string s.1)), (12, (.int .i64 s.2))])) s) H := by
  kernel_rfl
theorem vizardlaw12_OutboxThere.W4.ok : SoundCode Try.prog (sub [1, 1, 1, 1, 1, 1, 0, 1, 0] vizardlaw12_OutboxThere.body) vizardlaw12_OutboxThere.W4.t := by
  have e : (sub [1, 1, 1, 1, 1, 1, 0, 1, 0] vizardlaw12_OutboxThere.body) = .loop (sub [1, 1, 1, 1, 1, 1, 0, 1, 0, 0] vizardlaw12_OutboxThere.body) := by kernel_rfl
  rw [e]
  refine piece_sound (loopN_sound (keepT_sound [0, 1, 2, 3, 9, 10, 11, 12] [8] (fun i => if i = 0 then [0, 9, 10, 11] else []) (wC_sound vizardlaw12_OutboxThere.hΓ Try.hm vizardlaw12_OutboxThere.W4.plan _ vizardlaw12_OutboxThere.W4.pok))) ?_
  intro Q E fr H h
  unfold vizardlaw12_OutboxThere.W4.t at h
  obtain ⟨hl, h⟩ := lenIs_elim h
  obtain ⟨text0, q0, h⟩ := slS_elim h
  obtain ⟨mosts0, mosts1, mosts2, q1, h⟩ := slSl_elim h
  obtain ⟨lost0, lost1, lost2, q2, h⟩ := slSl_elim h
  obtain ⟨twice0, twice1, twice2, q3, h⟩ := slSl_elim h
  obtain ⟨b0, q9, h⟩ := slP_elim h
  obtain ⟨in0, q10, h⟩ := slP_elim h
  obtain ⟨out0, q11, h⟩ := slS_elim h
  obtain ⟨i0, q12, h⟩ := slI_elim h
  obtain ⟨m, h⟩ := h.h
  refine ⟨(mkF 187 [(0, (.string text0)), (1, (.slice mosts0 mosts1 mosts2)), (2, (.slice lost0 lost1 lost2)), (3, (.slice twice0 twice1 twice2)), (9, (.pointer b0)), (10, (.pointer in0)), (11, (.string out0)), (12, (.int .i64 i0))]), fun a ha => ha.mk (Nat.le_of_eq hl.symm) (List.forall_mem_cons.2 ⟨q0, List.forall_mem_cons.2 ⟨q1, List.forall_mem_cons.2 ⟨q2, List.forall_mem_cons.2 ⟨q3, List.forall_mem_cons.2 ⟨q9, List.forall_mem_cons.2 ⟨q10, List.forall_mem_cons.2 ⟨q11, List.forall_mem_cons.2 ⟨q12, fun _ h => nomatch h⟩⟩⟩⟩⟩⟩⟩⟩), m, ?_⟩
  have e := loopS_eq (B := (fun (RR : ByteArray × Int → Heap → Prop) (s : ByteArray × Int) (H : Heap) => vizardlaw12_OutboxThere.W4.vc text0 mosts0 mosts1 mosts2 lost0 lost1 lost2 twice0 twice1 twice2 b0 in0 s.1 s.2 (fun y11_0 H => Q (.exit 0) (mkF 187 [(0, (.string text0)), (9, (.pointer b0)), (10, (.pointer in0)), (11, (.string y11_0))]) H) (fun y8_0 H => Q .ret (mkF 187 [(8, (.bool y8_0))]) H) (fun out0 i0 H => RR (out0, i0) H) E H)) (A := keepT [0, 1, 2, 3, 9, 10, 11, 12] [8] (fun i => if i = 0 then [0, 9, 10, 11] else []) (wC Try.prog vizardlaw12_OutboxThere.Γ vizardlaw12_OutboxThere.W4.plan (sub [1, 1, 1, 1, 1, 1, 0, 1, 0, 0] vizardlaw12_OutboxThere.body))) (m := (fun (s : ByteArray × Int) => (mkF 187 [(0, (.string text0)), (1, (.slice mosts0 mosts1 mosts2)), (2, (.slice lost0 lost1 lost2)), (3, (.slice twice0 twice1 twice2)), (9, (.pointer b0)), (10, (.pointer in0)), (11, (.string s.1)), (12, (.int .i64 s.2))]))) (Q := Q) (E := E) (fun RR s H => vizardlaw12_OutboxThere.W4.eq text0 mosts0 mosts1 mosts2 lost0 lost1 lost2 twice0 twice1 twice2 b0 in0 Q E RR s H) m (out0, i0) H
  exact cast e h
def vizardlaw12_OutboxThere.J3.t : CT := fun Q E fr H => lenIs 187 fr (slS fr 0 fun text0 => slSl fr 1 fun mosts0 mosts1 mosts2 => slSl fr 2 fun lost0 lost1 lost2 => slSl fr 3 fun twice0 twice1 twice2 => slP fr 9 fun b0 => slP fr 10 fun in0 => vizardlaw12_OutboxThere.J3 text0 mosts0 mosts1 mosts2 lost0 lost1 lost2 twice0 twice1 twice2 b0 in0 (fun y8_0 H => Q .ret (mkF 187 [(8, (.bool y8_0))]) H) E H)
noncomputable def vizardlaw12_OutboxThere.J3.plan : Plan := .seq (.go) (.seq (.seq (.go) (.block (.use vizardlaw12_OutboxThere.W4.t))) (.go))
theorem vizardlaw12_OutboxThere.J3.pok : PlanOk Try.prog vizardlaw12_OutboxThere.J3.plan (sub [1, 1, 1, 1, 1] vizardlaw12_OutboxThere.body) := by
  have e : PlanOk Try.prog vizardlaw12_OutboxThere.J3.plan (sub [1, 1, 1, 1, 1] vizardlaw12_OutboxThere.body) = ((True) ∧ (((True) ∧ (SoundCode Try.prog (sub [1, 1, 1, 1, 1, 1, 0, 1, 0] vizardlaw12_OutboxThere.body) vizardlaw12_OutboxThere.W4.t)) ∧ (True))) := by kernel_rfl
  exact e.mpr ⟨trivial, ⟨⟨trivial, vizardlaw12_OutboxThere.W4.ok⟩, trivial⟩⟩
theorem vizardlaw12_OutboxThere.J3.eq (text0 : ByteArray) (mosts0 : Option Addr) (mosts1 : Nat) (mosts2 : Nat) (lost0 : Option Addr) (lost1 : Nat) (lost2 : Nat) (twice0 : Option Addr) (twice1 : Nat) (twice2 : Nat) (b0 : Option Addr) (in0 : Option Addr) (Q : Ex → Fr → Heap → Prop) (E : Value → Heap → Prop) (H : Heap) :
    vizardlaw12_OutboxThere.J3.vc text0 mosts0 mosts1 mosts2 lost0 lost1 lost2 twice0 twice1 twice2 b0 in0 (fun y8_0 H => Q .ret (mkF 187 [(8, (.bool y8_0))]) H) E H = keepT [] [8] (fun i => []) (wC Try.prog vizardlaw12_OutboxThere.Γ vizardlaw12_OutboxThere.J3.plan (sub [1, 1, 1, 1, 1] vizardlaw12_OutboxThere.body)) Q E (mkF 187 [(0, (.string text0)), (1, (.slice mosts0 mosts1 mosts2)), (2, (.slice lost0 lost1 lost2)), (3, (.slice twice0 twice1 twice2)), (9, (.pointer b0)), (10, (.pointer in0))]) H := by
  kernel_rfl
theorem vizardlaw12_OutboxThere.J3.ok : SoundCode Try.prog (sub [1, 1, 1, 1, 1] vizardlaw12_OutboxThere.body) vizardlaw12_OutboxThere.J3.t := by
  refine piece_sound (keepT_sound [] [8] (fun i => []) (wC_sound vizardlaw12_OutboxThere.hΓ Try.hm vizardlaw12_OutboxThere.J3.plan _ vizardlaw12_OutboxThere.J3.pok)) ?_
  intro Q E fr H h
  unfold vizardlaw12_OutboxThere.J3.t at h
  obtain ⟨hl, h⟩ := lenIs_elim h
  obtain ⟨text0, q0, h⟩ := slS_elim h
  obtain ⟨mosts0, mosts1, mosts2, q1, h⟩ := slSl_elim h
  obtain ⟨lost0, lost1, lost2, q2, h⟩ := slSl_elim h
  obtain ⟨twice0, twice1, twice2, q3, h⟩ := slSl_elim h
  obtain ⟨b0, q9, h⟩ := slP_elim h
  obtain ⟨in0, q10, h⟩ := slP_elim h
  refine ⟨(mkF 187 [(0, (.string text0)), (1, (.slice mosts0 mosts1 mosts2)), (2, (.slice lost0 lost1 lost2)), (3, (.slice twice0 twice1 twice2)), (9, (.pointer b0)), (10, (.pointer in0))]), fun a ha => ha.mk (Nat.le_of_eq hl.symm) (List.forall_mem_cons.2 ⟨q0, List.forall_mem_cons.2 ⟨q1, List.forall_mem_cons.2 ⟨q2, List.forall_mem_cons.2 ⟨q3, List.forall_mem_cons.2 ⟨q9, List.forall_mem_cons.2 ⟨q10, fun _ h => nomatch h⟩⟩⟩⟩⟩⟩), ?_⟩
  have e := vizardlaw12_OutboxThere.J3.eq text0 mosts0 mosts1 mosts2 lost0 lost1 lost2 twice0 twice1 twice2 b0 in0 Q E H
  rw [← e]
  exact h.h
def vizardlaw12_OutboxThere.J1.t : CT := fun Q E fr H => lenIs 187 fr (slS fr 0 fun text0 => slSl fr 1 fun mosts0 mosts1 mosts2 => slSl fr 2 fun lost0 lost1 lost2 => slSl fr 3 fun twice0 twice1 twice2 => vizardlaw12_OutboxThere.J1 text0 mosts0 mosts1 mosts2 lost0 lost1 lost2 twice0 twice1 twice2 (fun y8_0 H => Q .ret (mkF 187 [(8, (.bool y8_0))]) H) E H)
noncomputable def vizardlaw12_OutboxThere.J1.plan : Plan := .seq (.go) (.seq (.seq (.go) (.use vizardlaw12_OutboxThere.J2.t)) (.use vizardlaw12_OutboxThere.J3.t))
theorem vizardlaw12_OutboxThere.J1.pok : PlanOk Try.prog vizardlaw12_OutboxThere.J1.plan (sub [1, 1, 1] vizardlaw12_OutboxThere.body) := by
  have e : PlanOk Try.prog vizardlaw12_OutboxThere.J1.plan (sub [1, 1, 1] vizardlaw12_OutboxThere.body) = ((True) ∧ (((True) ∧ (SoundCode Try.prog (sub [1, 1, 1, 1, 0, 1] vizardlaw12_OutboxThere.body) vizardlaw12_OutboxThere.J2.t)) ∧ (SoundCode Try.prog (sub [1, 1, 1, 1, 1] vizardlaw12_OutboxThere.body) vizardlaw12_OutboxThere.J3.t))) := by kernel_rfl
  exact e.mpr ⟨trivial, ⟨⟨trivial, vizardlaw12_OutboxThere.J2.ok⟩, vizardlaw12_OutboxThere.J3.ok⟩⟩
theorem vizardlaw12_OutboxThere.J1.eq (text0 : ByteArray) (mosts0 : Option Addr) (mosts1 : Nat) (mosts2 : Nat) (lost0 : Option Addr) (lost1 : Nat) (lost2 : Nat) (twice0 : Option Addr) (twice1 : Nat) (twice2 : Nat) (Q : Ex → Fr → Heap → Prop) (E : Value → Heap → Prop) (H : Heap) :
    vizardlaw12_OutboxThere.J1.vc text0 mosts0 mosts1 mosts2 lost0 lost1 lost2 twice0 twice1 twice2 (fun y8_0 H => Q .ret (mkF 187 [(8, (.bool y8_0))]) H) E H = keepT [] [8] (fun i => []) (wC Try.prog vizardlaw12_OutboxThere.Γ vizardlaw12_OutboxThere.J1.plan (sub [1, 1, 1] vizardlaw12_OutboxThere.body)) Q E (mkF 187 [(0, (.string text0)), (1, (.slice mosts0 mosts1 mosts2)), (2, (.slice lost0 lost1 lost2)), (3, (.slice twice0 twice1 twice2))]) H := by
  kernel_rfl
theorem vizardlaw12_OutboxThere.J1.ok : SoundCode Try.prog (sub [1, 1, 1] vizardlaw12_OutboxThere.body) vizardlaw12_OutboxThere.J1.t := by
  refine piece_sound (keepT_sound [] [8] (fun i => []) (wC_sound vizardlaw12_OutboxThere.hΓ Try.hm vizardlaw12_OutboxThere.J1.plan _ vizardlaw12_OutboxThere.J1.pok)) ?_
  intro Q E fr H h
  unfold vizardlaw12_OutboxThere.J1.t at h
  obtain ⟨hl, h⟩ := lenIs_elim h
  obtain ⟨text0, q0, h⟩ := slS_elim h
  obtain ⟨mosts0, mosts1, mosts2, q1, h⟩ := slSl_elim h
  obtain ⟨lost0, lost1, lost2, q2, h⟩ := slSl_elim h
  obtain ⟨twice0, twice1, twice2, q3, h⟩ := slSl_elim h
  refine ⟨(mkF 187 [(0, (.string text0)), (1, (.slice mosts0 mosts1 mosts2)), (2, (.slice lost0 lost1 lost2)), (3, (.slice twice0 twice1 twice2))]), fun a ha => ha.mk (Nat.le_of_eq hl.symm) (List.forall_mem_cons.2 ⟨q0, List.forall_mem_cons.2 ⟨q1, List.forall_mem_cons.2 ⟨q2, List.forall_mem_cons.2 ⟨q3, fun _ h => nomatch h⟩⟩⟩⟩), ?_⟩
  have e := vizardlaw12_OutboxThere.J1.eq text0 mosts0 mosts1 mosts2 lost0 lost1 lost2 twice0 twice1 twice2 Q E H
  rw [← e]
  exact h.h
noncomputable def vizardlaw12_OutboxThere.plan : Plan := .seq (.go) (.seq (.go) (.seq (.go) (.use vizardlaw12_OutboxThere.J1.t)))
theorem vizardlaw12_OutboxThere.pok : PlanOk Try.prog vizardlaw12_OutboxThere.plan vizardlaw12_OutboxThere.body := by
  have e : PlanOk Try.prog vizardlaw12_OutboxThere.plan vizardlaw12_OutboxThere.body = ((True) ∧ ((True) ∧ ((True) ∧ (SoundCode Try.prog (sub [1, 1, 1] vizardlaw12_OutboxThere.body) vizardlaw12_OutboxThere.J1.t)))) := by kernel_rfl
  exact e.mpr ⟨trivial, ⟨trivial, ⟨trivial, vizardlaw12_OutboxThere.J1.ok⟩⟩⟩
theorem vizardlaw12_OutboxThere.eq (text0 : ByteArray) (mosts0 : Option Addr) (mosts1 : Nat) (mosts2 : Nat) (lost0 : Option Addr) (lost1 : Nat) (lost2 : Nat) (twice0 : Option Addr) (twice1 : Nat) (twice2 : Nat) (K : Value → Heap → Prop) (E : Value → Heap → Prop) (H : Heap) :
    fnT Try.prog Try.f12 (wC Try.prog vizardlaw12_OutboxThere.Γ vizardlaw12_OutboxThere.plan vizardlaw12_OutboxThere.body) [(.string text0), (.slice mosts0 mosts1 mosts2), (.slice lost0 lost1 lost2), (.slice twice0 twice1 twice2)] K E H = vizardlaw12_OutboxThere.vc text0 mosts0 mosts1 mosts2 lost0 lost1 lost2 twice0 twice1 twice2 (fun r0_0 H => K (.bool r0_0) H) E H := by
  kernel_rfl
theorem vizardlaw12_OutboxThere.Fe {args : List Value} {K E : Value → Heap → Prop} {H : Heap} (h : vizardlaw12_OutboxThere.F args K E H) : ∃ text0 mosts0 mosts1 mosts2 lost0 lost1 lost2 twice0 twice1 twice2, args = [(.string text0), (.slice mosts0 mosts1 mosts2), (.slice lost0 lost1 lost2), (.slice twice0 twice1 twice2)] ∧ vizardlaw12_OutboxThere.c text0 mosts0 mosts1 mosts2 lost0 lost1 lost2 twice0 twice1 twice2 (fun r0_0 H => K (.bool r0_0) H) E H := by
  unfold vizardlaw12_OutboxThere.F at h
  split at h
  · exact ⟨_, _, _, _, _, _, _, _, _, _, rfl, h⟩
  · exact h.elim
theorem vizardlaw12_OutboxThere.ok : CalleeOk Try.prog 12 vizardlaw12_OutboxThere.F :=
  callee_ok vizardlaw12_OutboxThere.hΓ (fn := Try.f12) (c := vizardlaw12_OutboxThere.body) (T := wC Try.prog vizardlaw12_OutboxThere.Γ vizardlaw12_OutboxThere.plan vizardlaw12_OutboxThere.body) (by kernel_rfl) (by kernel_rfl) (by kernel_rfl) (wC_sound vizardlaw12_OutboxThere.hΓ Try.hm vizardlaw12_OutboxThere.plan _ vizardlaw12_OutboxThere.pok) fun _ K E H h => by
    obtain ⟨z0, z1, z2, z3, z4, z5, z6, z7, z8, z9, e, h⟩ := vizardlaw12_OutboxThere.Fe h
    subst e
    have h2 : vizardlaw12_OutboxThere.vc z0 z1 z2 z3 z4 z5 z6 z7 z8 z9 (fun r0_0 H => ∃ H', Heap.Le H' H ∧ K (.bool r0_0) H') E H := h.h
    rw [vizardlaw12_OutboxThere.eq z0 z1 z2 z3 z4 z5 z6 z7 z8 z9 (Fg K) E H]
    exact h2
end Go.Sh
