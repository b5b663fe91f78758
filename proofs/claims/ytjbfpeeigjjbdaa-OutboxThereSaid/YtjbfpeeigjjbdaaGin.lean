/- PRINTED by a program (sh.py): what the walk over each function asks, and that it asks just that. -/
import Derived.Test.YtjbfpeeigjjbdaaShP
namespace Go.Sh
open Go.Proofs
set_option linter.unusedVariables false
set_option maxRecDepth 8000
/-! vizard/inbox.New -/
noncomputable def inbox_New.body : Code := Try.f29.body.getD .skip
def inbox_New.vc (K : Option Addr → Heap → Prop) (E : Value → Heap → Prop) (h0 : Heap) : Prop :=
  newB (.map #[] 0) (fun b0 h1 =>
  newB (.cells #[(.map (some b0)), (.int .i64 0), (.int .i64 (-1)), (.int .i64 0), (.bool false)] 94) (fun b1 h2 =>
  K (some (⟨b1, 0, none⟩ : Addr)) h2) h1) h0
structure inbox_New.c (K : Option Addr → Heap → Prop) (E : Value → Heap → Prop) (H : Heap) : Prop where
  h : inbox_New.vc  (fun r0_0 H => ∃ H', Heap.Le H' H ∧ K r0_0 H') E H
def inbox_New.F : FT := fun args K E H => match args with
  | [] => inbox_New.c  (fun r0_0 H => K (.pointer r0_0) H) E H
  | _ => False
noncomputable def inbox_New.Γ : FuncId → Option FT := Γof []
theorem inbox_New.hΓ : ∀ f F, inbox_New.Γ f = some F → CalleeOk Try.prog f F := Γof_ok (fun _ h => nomatch h)
noncomputable def inbox_New.plan : Plan := .go
theorem inbox_New.pok : PlanOk Try.prog inbox_New.plan inbox_New.body := by
  have e : PlanOk Try.prog inbox_New.plan inbox_New.body = (True) := by kernel_rfl
  exact e.mpr trivial
theorem inbox_New.eq (K : Value → Heap → Prop) (E : Value → Heap → Prop) (H : Heap) :
    fnT Try.prog Try.f29 (wC Try.prog inbox_New.Γ inbox_New.plan inbox_New.body) [] K E H = inbox_New.vc  (fun r0_0 H => K (.pointer r0_0) H) E H := by
  kernel_rfl
theorem inbox_New.Fe {args : List Value} {K E : Value → Heap → Prop} {H : Heap} (h : inbox_New.F args K E H) : args = [] ∧ inbox_New.c  (fun r0_0 H => K (.pointer r0_0) H) E H := by
  unfold inbox_New.F at h
  split at h
  · exact ⟨rfl, h⟩
  · exact h.elim
theorem inbox_New.ok : CalleeOk Try.prog 29 inbox_New.F :=
  callee_ok inbox_New.hΓ (fn := Try.f29) (c := inbox_New.body) (T := wC Try.prog inbox_New.Γ inbox_New.plan inbox_New.body) (by kernel_rfl) (by kernel_rfl) (by kernel_rfl) (wC_sound inbox_New.hΓ Try.hm inbox_New.plan _ inbox_New.pok) fun _ K E H h => by
    obtain ⟨e, h⟩ := inbox_New.Fe h
    subst e
    have h2 : inbox_New.vc (fun r0_0 H => ∃ H', Heap.Le H' H ∧ K (.pointer r0_0) H') E H := h.h
    rw [inbox_New.eq (Fg K) E H]
    exact h2

/-! vizard/inbox.place -/
noncomputable def inbox_place.body : Code := Try.f57.body.getD .skip
def inbox_place.vc (n0 : Int) (K : Bool → Heap → Prop) (E : Value → Heap → Prop) (h0 : Heap) : Prop :=
  (if (decide (n0 ≥ 0)) = true then
  K (decide (n0 ≤ 4611686018427387903)) h0
  else
  K false h0)
structure inbox_place.c (n0 : Int) (K : Bool → Heap → Prop) (E : Value → Heap → Prop) (H : Heap) : Prop where
  h : inbox_place.vc n0 (fun r0_0 H => ∃ H', Heap.Le H' H ∧ K r0_0 H') E H
def inbox_place.F : FT := fun args K E H => match args with
  | [(.int .i64 n0)] => inbox_place.c n0 (fun r0_0 H => K (.bool r0_0) H) E H
  | _ => False
noncomputable def inbox_place.Γ : FuncId → Option FT := Γof []
theorem inbox_place.hΓ : ∀ f F, inbox_place.Γ f = some F → CalleeOk Try.prog f F := Γof_ok (fun _ h => nomatch h)
noncomputable def inbox_place.plan : Plan := .go
theorem inbox_place.pok : PlanOk Try.prog inbox_place.plan inbox_place.body := by
  have e : PlanOk Try.prog inbox_place.plan inbox_place.body = (True) := by kernel_rfl
  exact e.mpr trivial
theorem inbox_place.eq (n0 : Int) (K : Value → Heap → Prop) (E : Value → Heap → Prop) (H : Heap) :
    fnT Try.prog Try.f57 (wC Try.prog inbox_place.Γ inbox_place.plan inbox_place.body) [(.int .i64 n0)] K E H = inbox_place.vc n0 (fun r0_0 H => K (.bool r0_0) H) E H := by
  kernel_rfl
theorem inbox_place.Fe {args : List Value} {K E : Value → Heap → Prop} {H : Heap} (h : inbox_place.F args K E H) : ∃ n0, args = [(.int .i64 n0)] ∧ inbox_place.c n0 (fun r0_0 H => K (.bool r0_0) H) E H := by
  unfold inbox_place.F at h
  split at h
  · exact ⟨_, rfl, h⟩
  · exact h.elim
theorem inbox_place.ok : CalleeOk Try.prog 57 inbox_place.F :=
  callee_ok inbox_place.hΓ (fn := Try.f57) (c := inbox_place.body) (T := wC Try.prog inbox_place.Γ inbox_place.plan inbox_place.body) (by kernel_rfl) (by kernel_rfl) (by kernel_rfl) (wC_sound inbox_place.hΓ Try.hm inbox_place.plan _ inbox_place.pok) fun _ K E H h => by
    obtain ⟨z0, e, h⟩ := inbox_place.Fe h
    subst e
    have h2 : inbox_place.vc z0 (fun r0_0 H => ∃ H', Heap.Le H' H ∧ K (.bool r0_0) H') E H := h.h
    rw [inbox_place.eq z0 (Fg K) E H]
    exact h2

/-! (*vizard/inbox.Box).fits -/
noncomputable def inbox_Box_fits.body : Code := Try.f58.body.getD .skip
def inbox_Box_fits.J2.vc (x0 : Bool) (Kn : Heap → Prop) (Kr : Int → Heap → Prop) (E : Value → Heap → Prop) (h0 : Heap) : Prop :=
  (if x0 = true then
  Kr 13 h0
  else
  Kn h0)
structure inbox_Box_fits.J2 (x0 : Bool) (Kn : Heap → Prop) (Kr : Int → Heap → Prop) (E : Value → Heap → Prop) (H : Heap) : Prop where
  h : inbox_Box_fits.J2.vc x0 Kn Kr E H
def inbox_Box_fits.J1.vc (b0 : Option Addr) (end0 : Int) (fin0 : Bool) (x0 : Bool) (Kn : Heap → Prop) (Kr : Int → Heap → Prop) (E : Value → Heap → Prop) (h0 : Heap) : Prop :=
  (if x0 = true then
  Kr 13 h0
  else
  (if fin0 = true then
  nilc b0 fun a0 =>
  ldI h0 .i64 (a0.add 3) fun x1 =>
  inbox_Box_fits.J2 (decide (x1 > end0)) Kn Kr E h0
  else
  inbox_Box_fits.J2 false Kn Kr E h0))
structure inbox_Box_fits.J1 (b0 : Option Addr) (end0 : Int) (fin0 : Bool) (x0 : Bool) (Kn : Heap → Prop) (Kr : Int → Heap → Prop) (E : Value → Heap → Prop) (H : Heap) : Prop where
  h : inbox_Box_fits.J1.vc b0 end0 fin0 x0 Kn Kr E H
def inbox_Box_fits.vc (b0 : Option Addr) (end0 : Int) (fin0 : Bool) (K : Int → Heap → Prop) (E : Value → Heap → Prop) (h0 : Heap) : Prop :=
  nilc b0 fun a0 =>
  ldI h0 .i64 (a0.add 1) fun x0 =>
  (if (decide (end0 > (IntKind.i64.wrap (x0 + 4096)))) = true then
  K 12 h0
  else
  nilc b0 fun a1 =>
  ldI h0 .i64 (a1.add 2) fun x1 =>
  (if (x1 != (-1)) = true then
  nilc b0 fun a2 =>
  ldI h0 .i64 (a2.add 2) fun x2 =>
  (if (decide (end0 > x2)) = true then
  inbox_Box_fits.J1 b0 end0 fin0 true (fun h1 =>
  K 0 h1) K E h0
  else
  (if fin0 = true then
  nilc b0 fun a3 =>
  ldI h0 .i64 (a3.add 2) fun x4 =>
  inbox_Box_fits.J1 b0 end0 fin0 (decide (end0 < x4)) (fun h3 =>
  K 0 h3) K E h0
  else
  inbox_Box_fits.J1 b0 end0 fin0 false (fun h5 =>
  K 0 h5) K E h0))
  else
  inbox_Box_fits.J1 b0 end0 fin0 false (fun h7 =>
  K 0 h7) K E h0))
structure inbox_Box_fits.c (b0 : Option Addr) (end0 : Int) (fin0 : Bool) (K : Int → Heap → Prop) (E : Value → Heap → Prop) (H : Heap) : Prop where
  h : inbox_Box_fits.vc b0 end0 fin0 (fun r0_0 H => ∃ H', Heap.Le H' H ∧ K r0_0 H') E H
def inbox_Box_fits.F : FT := fun args K E H => match args with
  | [(.pointer b0), (.int .i64 end0), (.bool fin0)] => inbox_Box_fits.c b0 end0 fin0 (fun r0_0 H => K (.int .i64 r0_0) H) E H
  | _ => False
noncomputable def inbox_Box_fits.Γ : FuncId → Option FT := Γof []
theorem inbox_Box_fits.hΓ : ∀ f F, inbox_Box_fits.Γ f = some F → CalleeOk Try.prog f F := Γof_ok (fun _ h => nomatch h)
def inbox_Box_fits.J2.t : CT := fun Q E fr H => lenIs 50 fr (slB fr 40 fun x0 => inbox_Box_fits.J2 x0 (fun  H => Q .normal (mkF 50 []) H) (fun y6_0 H => Q .ret (mkF 50 [(6, (.int .i64 y6_0))]) H) E H)
noncomputable def inbox_Box_fits.J2.plan : Plan := .go
theorem inbox_Box_fits.J2.pok : PlanOk Try.prog inbox_Box_fits.J2.plan (sub [1, 0, 0, 1, 1, 1, 1, 1] inbox_Box_fits.body) := by
  have e : PlanOk Try.prog inbox_Box_fits.J2.plan (sub [1, 0, 0, 1, 1, 1, 1, 1] inbox_Box_fits.body) = (True) := by kernel_rfl
  exact e.mpr trivial
theorem inbox_Box_fits.J2.eq (x0 : Bool) (Q : Ex → Fr → Heap → Prop) (E : Value → Heap → Prop) (H : Heap) :
    inbox_Box_fits.J2.vc x0 (fun  H => Q .normal (mkF 50 []) H) (fun y6_0 H => Q .ret (mkF 50 [(6, (.int .i64 y6_0))]) H) E H = keepT [] [6] (fun i => []) (wC Try.prog inbox_Box_fits.Γ inbox_Box_fits.J2.plan (sub [1, 0, 0, 1, 1, 1, 1, 1] inbox_Box_fits.body)) Q E (mkF 50 [(40, (.bool x0))]) H := by
  kernel_rfl
theorem inbox_Box_fits.J2.ok : SoundCode Try.prog (sub [1, 0, 0, 1, 1, 1, 1, 1] inbox_Box_fits.body) inbox_Box_fits.J2.t := by
  refine piece_sound (keepT_sound [] [6] (fun i => []) (wC_sound inbox_Box_fits.hΓ Try.hm inbox_Box_fits.J2.plan _ inbox_Box_fits.J2.pok)) ?_
  intro Q E fr H h
  unfold inbox_Box_fits.J2.t at h
  obtain ⟨hl, h⟩ := lenIs_elim h
  obtain ⟨x0, q40, h⟩ := slB_elim h
  refine ⟨(mkF 50 [(40, (.bool x0))]), fun a ha => ha.mk (Nat.le_of_eq hl.symm) (List.forall_mem_cons.2 ⟨q40, fun _ h => nomatch h⟩), ?_⟩
  have e := inbox_Box_fits.J2.eq x0 Q E H
  rw [← e]
  exact h.h
def inbox_Box_fits.J1.t : CT := fun Q E fr H => lenIs 50 fr (slP fr 0 fun b0 => slI fr 1 .i64 fun end0 => slB fr 2 fun fin0 => slB fr 15 fun x0 => inbox_Box_fits.J1 b0 end0 fin0 x0 (fun  H => Q .normal (mkF 50 []) H) (fun y6_0 H => Q .ret (mkF 50 [(6, (.int .i64 y6_0))]) H) E H)
noncomputable def inbox_Box_fits.J1.plan : Plan := .cond (.go) (.seq (.go) (.use inbox_Box_fits.J2.t))
theorem inbox_Box_fits.J1.pok : PlanOk Try.prog inbox_Box_fits.J1.plan (sub [1, 0, 0, 1, 1, 1] inbox_Box_fits.body) := by
  have e : PlanOk Try.prog inbox_Box_fits.J1.plan (sub [1, 0, 0, 1, 1, 1] inbox_Box_fits.body) = ((True) ∧ ((True) ∧ (SoundCode Try.prog (sub [1, 0, 0, 1, 1, 1, 1, 1] inbox_Box_fits.body) inbox_Box_fits.J2.t))) := by kernel_rfl
  exact e.mpr ⟨trivial, ⟨trivial, inbox_Box_fits.J2.ok⟩⟩
theorem inbox_Box_fits.J1.eq (b0 : Option Addr) (end0 : Int) (fin0 : Bool) (x0 : Bool) (Q : Ex → Fr → Heap → Prop) (E : Value → Heap → Prop) (H : Heap) :
    inbox_Box_fits.J1.vc b0 end0 fin0 x0 (fun  H => Q .normal (mkF 50 []) H) (fun y6_0 H => Q .ret (mkF 50 [(6, (.int .i64 y6_0))]) H) E H = keepT [] [6] (fun i => []) (wC Try.prog inbox_Box_fits.Γ inbox_Box_fits.J1.plan (sub [1, 0, 0, 1, 1, 1] inbox_Box_fits.body)) Q E (mkF 50 [(0, (.pointer b0)), (1, (.int .i64 end0)), (2, (.bool fin0)), (15, (.bool x0))]) H := by
  kernel_rfl
theorem inbox_Box_fits.J1.ok : SoundCode Try.prog (sub [1, 0, 0, 1, 1, 1] inbox_Box_fits.body) inbox_Box_fits.J1.t := by
  refine piece_sound (keepT_sound [] [6] (fun i => []) (wC_sound inbox_Box_fits.hΓ Try.hm inbox_Box_fits.J1.plan _ inbox_Box_fits.J1.pok)) ?_
  intro Q E fr H h
  unfold inbox_Box_fits.J1.t at h
  obtain ⟨hl, h⟩ := lenIs_elim h
  obtain ⟨b0, q0, h⟩ := slP_elim h
  obtain ⟨end0, q1, h⟩ := slI_elim h
  obtain ⟨fin0, q2, h⟩ := slB_elim h
  obtain ⟨x0, q15, h⟩ := slB_elim h
  refine ⟨(mkF 50 [(0, (.pointer b0)), (1, (.int .i64 end0)), (2, (.bool fin0)), (15, (.bool x0))]), fun a ha => ha.mk (Nat.le_of_eq hl.symm) (List.forall_mem_cons.2 ⟨q0, List.forall_mem_cons.2 ⟨q1, List.forall_mem_cons.2 ⟨q2, List.forall_mem_cons.2 ⟨q15, fun _ h => nomatch h⟩⟩⟩⟩), ?_⟩
  have e := inbox_Box_fits.J1.eq b0 end0 fin0 x0 Q E H
  rw [← e]
  exact h.h
noncomputable def inbox_Box_fits.plan : Plan := .seq (.go) (.seq (.block (.seq (.go) (.cond (.go) (.seq (.go) (.use inbox_Box_fits.J1.t))))) (.go))
theorem inbox_Box_fits.pok : PlanOk Try.prog inbox_Box_fits.plan inbox_Box_fits.body := by
  have e : PlanOk Try.prog inbox_Box_fits.plan inbox_Box_fits.body = ((True) ∧ (((True) ∧ ((True) ∧ ((True) ∧ (SoundCode Try.prog (sub [1, 0, 0, 1, 1, 1] inbox_Box_fits.body) inbox_Box_fits.J1.t)))) ∧ (True))) := by kernel_rfl
  exact e.mpr ⟨trivial, ⟨⟨trivial, ⟨trivial, ⟨trivial, inbox_Box_fits.J1.ok⟩⟩⟩, trivial⟩⟩
theorem inbox_Box_fits.eq (b0 : Option Addr) (end0 : Int) (fin0 : Bool) (K : Value → Heap → Prop) (E : Value → Heap → Prop) (H : Heap) :
    fnT Try.prog Try.f58 (wC Try.prog inbox_Box_fits.Γ inbox_Box_fits.plan inbox_Box_fits.body) [(.pointer b0), (.int .i64 end0), (.bool fin0)] K E H = inbox_Box_fits.vc b0 end0 fin0 (fun r0_0 H => K (.int .i64 r0_0) H) E H := by
  kernel_rfl
theorem inbox_Box_fits.Fe {args : List Value} {K E : Value → Heap → Prop} {H : Heap} (h : inbox_Box_fits.F args K E H) : ∃ b0 end0 fin0, args = [(.pointer b0), (.int .i64 end0), (.bool fin0)] ∧ inbox_Box_fits.c b0 end0 fin0 (fun r0_0 H => K (.int .i64 r0_0) H) E H := by
  unfold inbox_Box_fits.F at h
  split at h
  · exact ⟨_, _, _, rfl, h⟩
  · exact h.elim
theorem inbox_Box_fits.ok : CalleeOk Try.prog 58 inbox_Box_fits.F :=
  callee_ok inbox_Box_fits.hΓ (fn := Try.f58) (c := inbox_Box_fits.body) (T := wC Try.prog inbox_Box_fits.Γ inbox_Box_fits.plan inbox_Box_fits.body) (by kernel_rfl) (by kernel_rfl) (by kernel_rfl) (wC_sound inbox_Box_fits.hΓ Try.hm inbox_Box_fits.plan _ inbox_Box_fits.pok) fun _ K E H h => by
    obtain ⟨z0, z1, z2, e, h⟩ := inbox_Box_fits.Fe h
    subst e
    have h2 : inbox_Box_fits.vc z0 z1 z2 (fun r0_0 H => ∃ H', Heap.Le H' H ∧ K (.int .i64 r0_0) H') E H := h.h
    rw [inbox_Box_fits.eq z0 z1 z2 (Fg K) E H]
    exact h2

/-! (*vizard/inbox.Box).Put -/
noncomputable def inbox_Box_Put.body : Code := Try.f30.body.getD .skip
def inbox_Box_Put.J1.vc (b0 : Option Addr) (off0 : Int) (data0 : ByteArray) (fin0 : Bool) (end0 : Int) (e0 : Int) (x0 : Bool) (Kn : Heap → Prop) (Kr : Int → Heap → Prop) (E : Value → Heap → Prop) (h0 : Heap) : Prop :=
  (if x0 = true then
  Kr e0 h0
  else
  Kn h0)
structure inbox_Box_Put.J1 (b0 : Option Addr) (off0 : Int) (data0 : ByteArray) (fin0 : Bool) (end0 : Int) (e0 : Int) (x0 : Bool) (Kn : Heap → Prop) (Kr : Int → Heap → Prop) (E : Value → Heap → Prop) (H : Heap) : Prop where
  h : inbox_Box_Put.J1.vc b0 off0 data0 fin0 end0 e0 x0 Kn Kr E H
def inbox_Box_Put.J5.vc (b0 : Option Addr) (off0 : Int) (data0 : ByteArray) (fin0 : Bool) (end0 : Int) (i0 : Int) (at0 : Int) (x0 : Int) (x1 : Int) (x2 : Bool) (Kn : Heap → Prop) (E : Value → Heap → Prop) (h0 : Heap) : Prop :=
  (if x2 = true then
  nilc b0 fun a0 =>
  ldM h0 (a0.add 0) fun x3 =>
  (0 : Int) ≤ i0 ∧ i0 < (data0.size : Int) ∧
  putW (.int .i64) x3 (.int .i64 at0) (.int .u8 (bt data0 i0)) (fun h1 =>
  Kn h1) h0
  else
  Kn h0)
structure inbox_Box_Put.J5 (b0 : Option Addr) (off0 : Int) (data0 : ByteArray) (fin0 : Bool) (end0 : Int) (i0 : Int) (at0 : Int) (x0 : Int) (x1 : Int) (x2 : Bool) (Kn : Heap → Prop) (E : Value → Heap → Prop) (H : Heap) : Prop where
  h : inbox_Box_Put.J5.vc b0 off0 data0 fin0 end0 i0 at0 x0 x1 x2 Kn E H
def inbox_Box_Put.J4.vc (b0 : Option Addr) (off0 : Int) (data0 : ByteArray) (fin0 : Bool) (end0 : Int) (i0 : Int) (at0 : Int) (ok0 : Bool) (x0 : Int) (x1 : Int) (Kn : Heap → Prop) (E : Value → Heap → Prop) (h0 : Heap) : Prop :=
  (if (!ok0) = true then
  nilc b0 fun a0 =>
  ldI h0 .i64 (a0.add 1) fun x2 =>
  inbox_Box_Put.J5 b0 off0 data0 fin0 end0 i0 at0 x0 x1 (decide (at0 ≥ x2)) Kn E h0
  else
  inbox_Box_Put.J5 b0 off0 data0 fin0 end0 i0 at0 x0 x1 false Kn E h0)
structure inbox_Box_Put.J4 (b0 : Option Addr) (off0 : Int) (data0 : ByteArray) (fin0 : Bool) (end0 : Int) (i0 : Int) (at0 : Int) (ok0 : Bool) (x0 : Int) (x1 : Int) (Kn : Heap → Prop) (E : Value → Heap → Prop) (H : Heap) : Prop where
  h : inbox_Box_Put.J4.vc b0 off0 data0 fin0 end0 i0 at0 ok0 x0 x1 Kn E H
def inbox_Box_Put.J6.vc (b0 : Option Addr) (off0 : Int) (data0 : ByteArray) (fin0 : Bool) (end0 : Int) (x0 : Int) (x1 : Int) (Kn : Int → Heap → Prop) (E : Value → Heap → Prop) (h0 : Heap) : Prop :=
  Kn (IntKind.i64.wrap (x1 + 1)) h0
structure inbox_Box_Put.J6 (b0 : Option Addr) (off0 : Int) (data0 : ByteArray) (fin0 : Bool) (end0 : Int) (x0 : Int) (x1 : Int) (Kn : Int → Heap → Prop) (E : Value → Heap → Prop) (H : Heap) : Prop where
  h : inbox_Box_Put.J6.vc b0 off0 data0 fin0 end0 x0 x1 Kn E H
def inbox_Box_Put.W3.vc (b0 : Option Addr) (off0 : Int) (data0 : ByteArray) (fin0 : Bool) (end0 : Int) (x0 : Int) (x1 : Int) (Kx0 : Heap → Prop) (RR : Int → Heap → Prop) (E : Value → Heap → Prop) (h0 : Heap) : Prop :=
  (if (decide (x1 < x0)) = true then
  nilc b0 fun a0 =>
  ldM h0 (a0.add 0) fun x2 =>
  lookI (.int .i64) x2 (.int .i64 (IntKind.i64.wrap (off0 + x1))) .u8 0 (fun x3 ok0 =>
  inbox_Box_Put.J4 b0 off0 data0 fin0 end0 x1 (IntKind.i64.wrap (off0 + x1)) ok0 x0 x1 (fun h1 =>
  inbox_Box_Put.J6 b0 off0 data0 fin0 end0 x0 x1 RR E h1) E h0) h0
  else
  Kx0 h0)
structure inbox_Box_Put.W3 (b0 : Option Addr) (off0 : Int) (data0 : ByteArray) (fin0 : Bool) (end0 : Int) (x0 : Int) (x1 : Int) (Kx0 : Heap → Prop) (E : Value → Heap → Prop) (H : Heap) : Prop where
  h : Loop (fun (RR : Int → Heap → Prop) (s : Int) (H : Heap) => inbox_Box_Put.W3.vc b0 off0 data0 fin0 end0 x0 s Kx0 (fun x1 H => RR (x1) H) E H) (x1) H
def inbox_Box_Put.J7.vc (b0 : Option Addr) (fin0 : Bool) (end0 : Int) (Kr : Int → Heap → Prop) (E : Value → Heap → Prop) (h0 : Heap) : Prop :=
  (if fin0 = true then
  nilc b0 fun a0 =>
  stc h0 (a0.add 2) (.int .i64 end0) fun h1 =>
  Kr 0 h1
  else
  Kr 0 h0)
structure inbox_Box_Put.J7 (b0 : Option Addr) (fin0 : Bool) (end0 : Int) (Kr : Int → Heap → Prop) (E : Value → Heap → Prop) (H : Heap) : Prop where
  h : inbox_Box_Put.J7.vc b0 fin0 end0 Kr E H
def inbox_Box_Put.J2.vc (b0 : Option Addr) (off0 : Int) (data0 : ByteArray) (fin0 : Bool) (end0 : Int) (Kr : Int → Heap → Prop) (E : Value → Heap → Prop) (h0 : Heap) : Prop :=
  inbox_Box_Put.W3 b0 off0 data0 fin0 end0 (data0.size : Int) 0 (fun h1 =>
  (if (!(data0.toList == (⟨#[]⟩ : ByteArray).toList)) = true then
  nilc b0 fun a0 =>
  ldI h1 .i64 (a0.add 3) fun x0 =>
  nilc b0 fun a1 =>
  stc h1 (a1.add 3) (.int .i64 (if end0 > x0 then end0 else x0)) fun h2 =>
  inbox_Box_Put.J7 b0 fin0 end0 Kr E h2
  else
  inbox_Box_Put.J7 b0 fin0 end0 Kr E h1)) E h0
structure inbox_Box_Put.J2 (b0 : Option Addr) (off0 : Int) (data0 : ByteArray) (fin0 : Bool) (end0 : Int) (Kr : Int → Heap → Prop) (E : Value → Heap → Prop) (H : Heap) : Prop where
  h : inbox_Box_Put.J2.vc b0 off0 data0 fin0 end0 Kr E H
def inbox_Box_Put.vc (b0 : Option Addr) (off0 : Int) (data0 : ByteArray) (fin0 : Bool) (K : Int → Heap → Prop) (E : Value → Heap → Prop) (h0 : Heap) : Prop :=
  inbox_place.c off0 (fun x0 h1 =>
  (if (!x0) = true then
  K 2 h1
  else
  inbox_Box_fits.c b0 (IntKind.i64.wrap (off0 + (data0.size : Int))) fin0 (fun x1 h2 =>
  (if (x1 != 0) = true then
  inbox_Box_Put.J1 b0 off0 data0 fin0 (IntKind.i64.wrap (off0 + (data0.size : Int))) x1 true (fun h3 =>
  inbox_Box_Put.J2 b0 off0 data0 fin0 (IntKind.i64.wrap (off0 + (data0.size : Int))) K E h3) K E h2
  else
  nilc b0 fun a0 =>
  ldB h2 (a0.add 4) fun x4 =>
  inbox_Box_Put.J1 b0 off0 data0 fin0 (IntKind.i64.wrap (off0 + (data0.size : Int))) x1 x4 (fun h6 =>
  inbox_Box_Put.J2 b0 off0 data0 fin0 (IntKind.i64.wrap (off0 + (data0.size : Int))) K E h6) K E h2)) E h1)) E h0
structure inbox_Box_Put.c (b0 : Option Addr) (off0 : Int) (data0 : ByteArray) (fin0 : Bool) (K : Int → Heap → Prop) (E : Value → Heap → Prop) (H : Heap) : Prop where
  h : inbox_Box_Put.vc b0 off0 data0 fin0 (fun r0_0 H => ∃ H', Heap.Le H' H ∧ K r0_0 H') E H
def inbox_Box_Put.F : FT := fun args K E H => match args with
  | [(.pointer b0), (.int .i64 off0), (.string data0), (.bool fin0)] => inbox_Box_Put.c b0 off0 data0 fin0 (fun r0_0 H => K (.int .i64 r0_0) H) E H
  | _ => False
noncomputable def inbox_Box_Put.Γ : FuncId → Option FT := Γof [(57, inbox_place.F), (58, inbox_Box_fits.F)]
theorem inbox_Box_Put.hΓ : ∀ f F, inbox_Box_Put.Γ f = some F → CalleeOk Try.prog f F := Γof_ok (List.forall_mem_cons.2 ⟨inbox_place.ok, List.forall_mem_cons.2 ⟨inbox_Box_fits.ok, fun _ h => nomatch h⟩⟩)
def inbox_Box_Put.J1.t : CT := fun Q E fr H => lenIs 87 fr (slP fr 0 fun b0 => slI fr 1 .i64 fun off0 => slS fr 2 fun data0 => slB fr 3 fun fin0 => slI fr 9 .i64 fun end0 => slI fr 10 .i64 fun e0 => slB fr 33 fun x0 => inbox_Box_Put.J1 b0 off0 data0 fin0 end0 e0 x0 (fun  H => Q .normal (mkF 87 [(0, (.pointer b0)), (1, (.int .i64 off0)), (2, (.string data0)), (3, (.bool fin0)), (9, (.int .i64 end0))]) H) (fun y8_0 H => Q .ret (mkF 87 [(8, (.int .i64 y8_0))]) H) E H)
noncomputable def inbox_Box_Put.J1.plan : Plan := .go
theorem inbox_Box_Put.J1.pok : PlanOk Try.prog inbox_Box_Put.J1.plan (sub [1, 1, 1, 0, 1, 1] inbox_Box_Put.body) := by
  have e : PlanOk Try.prog inbox_Box_Put.J1.plan (sub [1, 1, 1, 0, 1, 1] inbox_Box_Put.body) = (True) := by kernel_rfl
  exact e.mpr trivial
theorem inbox_Box_Put.J1.eq (b0 : Option Addr) (off0 : Int) (data0 : ByteArray) (fin0 : Bool) (end0 : Int) (e0 : Int) (x0 : Bool) (Q : Ex → Fr → Heap → Prop) (E : Value → Heap → Prop) (H : Heap) :
    inbox_Box_Put.J1.vc b0 off0 data0 fin0 end0 e0 x0 (fun  H => Q .normal (mkF 87 [(0, (.pointer b0)), (1, (.int .i64 off0)), (2, (.string data0)), (3, (.bool fin0)), (9, (.int .i64 end0))]) H) (fun y8_0 H => Q .ret (mkF 87 [(8, (.int .i64 y8_0))]) H) E H = keepT [0, 1, 2, 3, 9] [8] (fun i => []) (wC Try.prog inbox_Box_Put.Γ inbox_Box_Put.J1.plan (sub [1, 1, 1, 0, 1, 1] inbox_Box_Put.body)) Q E (mkF 87 [(0, (.pointer b0)), (1, (.int .i64 off0)), (2, (.string data0)), (3, (.bool fin0)), (9, (.int .i64 end0)), (10, (.int .i64 e0)), (33, (.bool x0))]) H := by
  kernel_rfl
theorem inbox_Box_Put.J1.ok : SoundCode Try.prog (sub [1, 1, 1, 0, 1, 1] inbox_Box_Put.body) inbox_Box_Put.J1.t := by
  refine piece_sound (keepT_sound [0, 1, 2, 3, 9] [8] (fun i => []) (wC_sound inbox_Box_Put.hΓ Try.hm inbox_Box_Put.J1.plan _ inbox_Box_Put.J1.pok)) ?_
  intro Q E fr H h
  unfold inbox_Box_Put.J1.t at h
  obtain ⟨hl, h⟩ := lenIs_elim h
  obtain ⟨b0, q0, h⟩ := slP_elim h
  obtain ⟨off0, q1, h⟩ := slI_elim h
  obtain ⟨data0, q2, h⟩ := slS_elim h
  obtain ⟨fin0, q3, h⟩ := slB_elim h
  obtain ⟨end0, q9, h⟩ := slI_elim h
  obtain ⟨e0, q10, h⟩ := slI_elim h
  obtain ⟨x0, q33, h⟩ := slB_elim h
  refine ⟨(mkF 87 [(0, (.pointer b0)), (1, (.int .i64 off0)), (2, (.string data0)), (3, (.bool fin0)), (9, (.int .i64 end0)), (10, (.int .i64 e0)), (33, (.bool x0))]), fun a ha => ha.mk (Nat.le_of_eq hl.symm) (List.forall_mem_cons.2 ⟨q0, List.forall_mem_cons.2 ⟨q1, List.forall_mem_cons.2 ⟨q2, List.forall_mem_cons.2 ⟨q3, List.forall_mem_cons.2 ⟨q9, List.forall_mem_cons.2 ⟨q10, List.forall_mem_cons.2 ⟨q33, fun _ h => nomatch h⟩⟩⟩⟩⟩⟩⟩), ?_⟩
  have e := inbox_Box_Put.J1.eq b0 off0 data0 fin0 end0 e0 x0 Q E H
  rw [← e]
  exact h.h
def inbox_Box_Put.J5.t : CT := fun Q E fr H => lenIs 87 fr (slP fr 0 fun b0 => slI fr 1 .i64 fun off0 => slS fr 2 fun data0 => slB fr 3 fun fin0 => slI fr 9 .i64 fun end0 => slI fr 11 .i64 fun i0 => slI fr 12 .i64 fun at0 => slI fr 36 .i64 fun x0 => slI fr 37 .i64 fun x1 => slB fr 61 fun x2 => inbox_Box_Put.J5 b0 off0 data0 fin0 end0 i0 at0 x0 x1 x2 (fun  H => Q .normal (mkF 87 [(0, (.pointer b0)), (1, (.int .i64 off0)), (2, (.string data0)), (3, (.bool fin0)), (9, (.int .i64 end0)), (36, (.int .i64 x0)), (37, (.int .i64 x1))]) H) E H)
noncomputable def inbox_Box_Put.J5.plan : Plan := .cond (.draw ⟨[0, 1, 2, 3, 4, 5, 6, 7, 8], (dl [(0, []), (1, []), (2, []), (3, []), (4, []), (5, []), (6, []), (7, []), (8, [3, 4, 7, 0, 1, 2, 5, 6])] .fin), []⟩) (.go)
theorem inbox_Box_Put.J5.pok : PlanOk Try.prog inbox_Box_Put.J5.plan (sub [1, 1, 1, 1, 0, 1, 0, 0, 1, 1, 0, 0, 1, 1, 1, 1] inbox_Box_Put.body) := by
  have e : PlanOk Try.prog inbox_Box_Put.J5.plan (sub [1, 1, 1, 1, 0, 1, 0, 0, 1, 1, 0, 0, 1, 1, 1, 1] inbox_Box_Put.body) = ((True) ∧ (True)) := by kernel_rfl
  exact e.mpr ⟨trivial, trivial⟩
theorem inbox_Box_Put.J5.eq (b0 : Option Addr) (off0 : Int) (data0 : ByteArray) (fin0 : Bool) (end0 : Int) (i0 : Int) (at0 : Int) (x0 : Int) (x1 : Int) (x2 : Bool) (Q : Ex → Fr → Heap → Prop) (E : Value → Heap → Prop) (H : Heap) :
    inbox_Box_Put.J5.vc b0 off0 data0 fin0 end0 i0 at0 x0 x1 x2 (fun  H => Q .normal (mkF 87 [(0, (.pointer b0)), (1, (.int .i64 off0)), (2, (.string data0)), (3, (.bool fin0)), (9, (.int .i64 end0)), (36, (.int .i64 x0)), (37, (.int .i64 x1))]) H) E H = keepT [0, 1, 2, 3, 9, 36, 37] [] (fun i => []) (wC Try.prog inbox_Box_Put.Γ inbox_Box_Put.J5.plan (sub [1, 1, 1, 1, 0, 1, 0, 0, 1, 1, 0, 0, 1, 1, 1, 1] inbox_Box_Put.body)) Q E (mkF 87 [(0, (.pointer b0)), (1, (.int .i64 off0)), (2, (.string data0)), (3, (.bool fin0)), (9, (.int .i64 end0)), (11, (.int .i64 i0)), (12, (.int .i64 at0)), (36, (.int .i64 x0)), (37, (.int .i64 x1)), (61, (.bool x2))]) H := by
  kernel_rfl
theorem inbox_Box_Put.J5.ok : SoundCode Try.prog (sub [1, 1, 1, 1, 0, 1, 0, 0, 1, 1, 0, 0, 1, 1, 1, 1] inbox_Box_Put.body) inbox_Box_Put.J5.t := by
  refine piece_sound (keepT_sound [0, 1, 2, 3, 9, 36, 37] [] (fun i => []) (wC_sound inbox_Box_Put.hΓ Try.hm inbox_Box_Put.J5.plan _ inbox_Box_Put.J5.pok)) ?_
  intro Q E fr H h
  unfold inbox_Box_Put.J5.t at h
  obtain ⟨hl, h⟩ := lenIs_elim h
  obtain ⟨b0, q0, h⟩ := slP_elim h
  obtain ⟨off0, q1, h⟩ := slI_elim h
  obtain ⟨data0, q2, h⟩ := slS_elim h
  obtain ⟨fin0, q3, h⟩ := slB_elim h
  obtain ⟨end0, q9, h⟩ := slI_elim h
  obtain ⟨i0, q11, h⟩ := slI_elim h
  obtain ⟨at0, q12, h⟩ := slI_elim h
  obtain ⟨x0, q36, h⟩ := slI_elim h
  obtain ⟨x1, q37, h⟩ := slI_elim h
  obtain ⟨x2, q61, h⟩ := slB_elim h
  refine ⟨(mkF 87 [(0, (.pointer b0)), (1, (.int .i64 off0)), (2, (.string data0)), (3, (.bool fin0)), (9, (.int .i64 end0)), (11, (.int .i64 i0)), (12, (.int .i64 at0)), (36, (.int .i64 x0)), (37, (.int .i64 x1)), (61, (.bool x2))]), fun a ha => ha.mk (Nat.le_of_eq hl.symm) (List.forall_mem_cons.2 ⟨q0, List.forall_mem_cons.2 ⟨q1, List.forall_mem_cons.2 ⟨q2, List.forall_mem_cons.2 ⟨q3, List.forall_mem_cons.2 ⟨q9, List.forall_mem_cons.2 ⟨q11, List.forall_mem_cons.2 ⟨q12, List.forall_mem_cons.2 ⟨q36, List.forall_mem_cons.2 ⟨q37, List.forall_mem_cons.2 ⟨q61, fun _ h => nomatch h⟩⟩⟩⟩⟩⟩⟩⟩⟩⟩), ?_⟩
  have e := inbox_Box_Put.J5.eq b0 off0 data0 fin0 end0 i0 at0 x0 x1 x2 Q E H
  rw [← e]
  exact h.h
def inbox_Box_Put.J4.t : CT := fun Q E fr H => lenIs 87 fr (slP fr 0 fun b0 => slI fr 1 .i64 fun off0 => slS fr 2 fun data0 => slB fr 3 fun fin0 => slI fr 9 .i64 fun end0 => slI fr 11 .i64 fun i0 => slI fr 12 .i64 fun at0 => slB fr 14 fun ok0 => slI fr 36 .i64 fun x0 => slI fr 37 .i64 fun x1 => inbox_Box_Put.J4 b0 off0 data0 fin0 end0 i0 at0 ok0 x0 x1 (fun  H => Q .normal (mkF 87 [(0, (.pointer b0)), (1, (.int .i64 off0)), (2, (.string data0)), (3, (.bool fin0)), (9, (.int .i64 end0)), (36, (.int .i64 x0)), (37, (.int .i64 x1))]) H) E H)
noncomputable def inbox_Box_Put.J4.plan : Plan := .seq (.go) (.use inbox_Box_Put.J5.t)
theorem inbox_Box_Put.J4.pok : PlanOk Try.prog inbox_Box_Put.J4.plan (sub [1, 1, 1, 1, 0, 1, 0, 0, 1, 1, 0, 0, 1, 1, 1] inbox_Box_Put.body) := by
  have e : PlanOk Try.prog inbox_Box_Put.J4.plan (sub [1, 1, 1, 1, 0, 1, 0, 0, 1, 1, 0, 0, 1, 1, 1] inbox_Box_Put.body) = ((True) ∧ (SoundCode Try.prog (sub [1, 1, 1, 1, 0, 1, 0, 0, 1, 1, 0, 0, 1, 1, 1, 1] inbox_Box_Put.body) inbox_Box_Put.J5.t)) := by kernel_rfl
  exact e.mpr ⟨trivial, inbox_Box_Put.J5.ok⟩
theorem inbox_Box_Put.J4.eq (b0 : Option Addr) (off0 : Int) (data0 : ByteArray) (fin0 : Bool) (end0 : Int) (i0 : Int) (at0 : Int) (ok0 : Bool) (x0 : Int) (x1 : Int) (Q : Ex → Fr → Heap → Prop) (E : Value → Heap → Prop) (H : Heap) :
    inbox_Box_Put.J4.vc b0 off0 data0 fin0 end0 i0 at0 ok0 x0 x1 (fun  H => Q .normal (mkF 87 [(0, (.pointer b0)), (1, (.int .i64 off0)), (2, (.string data0)), (3, (.bool fin0)), (9, (.int .i64 end0)), (36, (.int .i64 x0)), (37, (.int .i64 x1))]) H) E H = keepT [0, 1, 2, 3, 9, 36, 37] [] (fun i => []) (wC Try.prog inbox_Box_Put.Γ inbox_Box_Put.J4.plan (sub [1, 1, 1, 1, 0, 1, 0, 0, 1, 1, 0, 0, 1, 1, 1] inbox_Box_Put.body)) Q E (mkF 87 [(0, (.pointer b0)), (1, (.int .i64 off0)), (2, (.string data0)), (3, (.bool fin0)), (9, (.int .i64 end0)), (11, (.int .i64 i0)), (12, (.int .i64 at0)), (14, (.bool ok0)), (36, (.int .i64 x0)), (37, (.int .i64 x1))]) H := by
  kernel_rfl
theorem inbox_Box_Put.J4.ok : SoundCode Try.prog (sub [1, 1, 1, 1, 0, 1, 0, 0, 1, 1, 0, 0, 1, 1, 1] inbox_Box_Put.body) inbox_Box_Put.J4.t := by
  refine piece_sound (keepT_sound [0, 1, 2, 3, 9, 36, 37] [] (fun i => []) (wC_sound inbox_Box_Put.hΓ Try.hm inbox_Box_Put.J4.plan _ inbox_Box_Put.J4.pok)) ?_
  intro Q E fr H h
  unfold inbox_Box_Put.J4.t at h
  obtain ⟨hl, h⟩ := lenIs_elim h
  obtain ⟨b0, q0, h⟩ := slP_elim h
  obtain ⟨off0, q1, h⟩ := slI_elim h
  obtain ⟨data0, q2, h⟩ := slS_elim h
  obtain ⟨fin0, q3, h⟩ := slB_elim h
  obtain ⟨end0, q9, h⟩ := slI_elim h
  obtain ⟨i0, q11, h⟩ := slI_elim h
  obtain ⟨at0, q12, h⟩ := slI_elim h
  obtain ⟨ok0, q14, h⟩ := slB_elim h
  obtain ⟨x0, q36, h⟩ := slI_elim h
  obtain ⟨x1, q37, h⟩ := slI_elim h
  refine ⟨(mkF 87 [(0, (.pointer b0)), (1, (.int .i64 off0)), (2, (.string data0)), (3, (.bool fin0)), (9, (.int .i64 end0)), (11, (.int .i64 i0)), (12, (.int .i64 at0)), (14, (.bool ok0)), (36, (.int .i64 x0)), (37, (.int .i64 x1))]), fun a ha => ha.mk (Nat.le_of_eq hl.symm) (List.forall_mem_cons.2 ⟨q0, List.forall_mem_cons.2 ⟨q1, List.forall_mem_cons.2 ⟨q2, List.forall_mem_cons.2 ⟨q3, List.forall_mem_cons.2 ⟨q9, List.forall_mem_cons.2 ⟨q11, List.forall_mem_cons.2 ⟨q12, List.forall_mem_cons.2 ⟨q14, List.forall_mem_cons.2 ⟨q36, List.forall_mem_cons.2 ⟨q37, fun _ h => nomatch h⟩⟩⟩⟩⟩⟩⟩⟩⟩⟩), ?_⟩
  have e := inbox_Box_Put.J4.eq b0 off0 data0 fin0 end0 i0 at0 ok0 x0 x1 Q E H
  rw [← e]
  exact h.h
def inbox_Box_Put.J6.t : CT := fun Q E fr H => lenIs 87 fr (slP fr 0 fun b0 => slI fr 1 .i64 fun off0 => slS fr 2 fun data0 => slB fr 3 fun fin0 => slI fr 9 .i64 fun end0 => slI fr 36 .i64 fun x0 => slI fr 37 .i64 fun x1 => inbox_Box_Put.J6 b0 off0 data0 fin0 end0 x0 x1 (fun y37_0 H => Q .normal (mkF 87 [(0, (.pointer b0)), (1, (.int .i64 off0)), (2, (.string data0)), (3, (.bool fin0)), (9, (.int .i64 end0)), (36, (.int .i64 x0)), (37, (.int .i64 y37_0))]) H) E H)
noncomputable def inbox_Box_Put.J6.plan : Plan := .go
theorem inbox_Box_Put.J6.pok : PlanOk Try.prog inbox_Box_Put.J6.plan (sub [1, 1, 1, 1, 0, 1, 0, 0, 1, 1, 1] inbox_Box_Put.body) := by
  have e : PlanOk Try.prog inbox_Box_Put.J6.plan (sub [1, 1, 1, 1, 0, 1, 0, 0, 1, 1, 1] inbox_Box_Put.body) = (True) := by kernel_rfl
  exact e.mpr trivial
theorem inbox_Box_Put.J6.eq (b0 : Option Addr) (off0 : Int) (data0 : ByteArray) (fin0 : Bool) (end0 : Int) (x0 : Int) (x1 : Int) (Q : Ex → Fr → Heap → Prop) (E : Value → Heap → Prop) (H : Heap) :
    inbox_Box_Put.J6.vc b0 off0 data0 fin0 end0 x0 x1 (fun y37_0 H => Q .normal (mkF 87 [(0, (.pointer b0)), (1, (.int .i64 off0)), (2, (.string data0)), (3, (.bool fin0)), (9, (.int .i64 end0)), (36, (.int .i64 x0)), (37, (.int .i64 y37_0))]) H) E H = keepT [0, 1, 2, 3, 9, 36, 37] [] (fun i => []) (wC Try.prog inbox_Box_Put.Γ inbox_Box_Put.J6.plan (sub [1, 1, 1, 1, 0, 1, 0, 0, 1, 1, 1] inbox_Box_Put.body)) Q E (mkF 87 [(0, (.pointer b0)), (1, (.int .i64 off0)), (2, (.string data0)), (3, (.bool fin0)), (9, (.int .i64 end0)), (36, (.int .i64 x0)), (37, (.int .i64 x1))]) H := by
  kernel_rfl
theorem inbox_Box_Put.J6.ok : SoundCode Try.prog (sub [1, 1, 1, 1, 0, 1, 0, 0, 1, 1, 1] inbox_Box_Put.body) inbox_Box_Put.J6.t := by
  refine piece_sound (keepT_sound [0, 1, 2, 3, 9, 36, 37] [] (fun i => []) (wC_sound inbox_Box_Put.hΓ Try.hm inbox_Box_Put.J6.plan _ inbox_Box_Put.J6.pok)) ?_
  intro Q E fr H h
  unfold inbox_Box_Put.J6.t at h
  obtain ⟨hl, h⟩ := lenIs_elim h
  obtain ⟨b0, q0, h⟩ := slP_elim h
  obtain ⟨off0, q1, h⟩ := slI_elim h
  obtain ⟨data0, q2, h⟩ := slS_elim h
  obtain ⟨fin0, q3, h⟩ := slB_elim h
  obtain ⟨end0, q9, h⟩ := slI_elim h
  obtain ⟨x0, q36, h⟩ := slI_elim h
  obtain ⟨x1, q37, h⟩ := slI_elim h
  refine ⟨(mkF 87 [(0, (.pointer b0)), (1, (.int .i64 off0)), (2, (.string data0)), (3, (.bool fin0)), (9, (.int .i64 end0)), (36, (.int .i64 x0)), (37, (.int .i64 x1))]), fun a ha => ha.mk (Nat.le_of_eq hl.symm) (List.forall_mem_cons.2 ⟨q0, List.forall_mem_cons.2 ⟨q1, List.forall_mem_cons.2 ⟨q2, List.forall_mem_cons.2 ⟨q3, List.forall_mem_cons.2 ⟨q9, List.forall_mem_cons.2 ⟨q36, List.forall_mem_cons.2 ⟨q37, fun _ h => nomatch h⟩⟩⟩⟩⟩⟩⟩), ?_⟩
  have e := inbox_Box_Put.J6.eq b0 off0 data0 fin0 end0 x0 x1 Q E H
  rw [← e]
  exact h.h
def inbox_Box_Put.W3.t : CT := fun Q E fr H => lenIs 87 fr (slP fr 0 fun b0 => slI fr 1 .i64 fun off0 => slS fr 2 fun data0 => slB fr 3 fun fin0 => slI fr 9 .i64 fun end0 => slI fr 36 .i64 fun x0 => slI fr 37 .i64 fun x1 => inbox_Box_Put.W3 b0 off0 data0 fin0 end0 x0 x1 (fun  H => Q (.exit 0) (mkF 87 [(0, (.pointer b0)), (2, (.string data0)), (3, (.bool fin0)), (9, (.int .i64 end0))]) H) E H)
noncomputable def inbox_Box_Put.W3.plan : Plan := .seq (.go) (.seq (.go) (.seq (.block (.seq (.go) (.seq (.go) (.seq (.go) (.use inbox_Box_Put.J4.t))))) (.use inbox_Box_Put.J6.t)))
theorem inbox_Box_Put.W3.pok : PlanOk Try.prog inbox_Box_Put.W3.plan (sub [1, 1, 1, 1, 0, 1, 0, 0] inbox_Box_Put.body) := by
  have e : PlanOk Try.prog inbox_Box_Put.W3.plan (sub [1, 1, 1, 1, 0, 1, 0, 0] inbox_Box_Put.body) = ((True) ∧ ((True) ∧ (((True) ∧ ((True) ∧ ((True) ∧ (SoundCode Try.prog (sub [1, 1, 1, 1, 0, 1, 0, 0, 1, 1, 0, 0, 1, 1, 1] inbox_Box_Put.body) inbox_Box_Put.J4.t)))) ∧ (SoundCode Try.prog (sub [1, 1, 1, 1, 0, 1, 0, 0, 1, 1, 1] inbox_Box_Put.body) inbox_Box_Put.J6.t)))) := by kernel_rfl
  exact e.mpr ⟨trivial, ⟨trivial, ⟨⟨trivial, ⟨trivial, ⟨trivial, inbox_Box_Put.J4.ok⟩⟩⟩, inbox_Box_Put.J6.ok⟩⟩⟩
theorem inbox_Box_Put.W3.eq (b0 : Option Addr) (off0 : Int) (data0 : ByteArray) (fin0 : Bool) (end0 : Int) (x0 : Int) (Q : Ex → Fr → Heap → Prop) (E : Value → Heap → Prop) (RR : Fr → Heap → Prop) (s : Int) (H : Heap) :
    (fun (RR : Int → Heap → Prop) (s : Int) (H : Heap) => inbox_Box_Put.W3.vc b0 off0 data0 fin0 end0 x0 s (fun  H => Q (.exit 0) (mkF 87 [(0, (.pointer b0)), (2, (.string data0)), (3, (.bool fin0)), (9, (.int .i64 end0))]) H) (fun x1 H => RR (x1) H) E H) (fun s' H' => RR ((fun (s : Int) => (mkF 87 [(0, (.pointer b0)), (1, (.int .i64 off0)), (2, (.string data0)), (3, (.bool fin0)), (9, (.int .i64 end0)), (36, (.int .i64 x0)), (37, (.int .i64 s))])) s') H') s H = keepT [0, 1, 2, 3, 9, 36, 37] [] (fun i => if i = 0 then [0, 2, 3, 9] else []) (wC Try.prog inbox_Box_Put.Γ inbox_Box_Put.W3.plan (sub [1, 1, 1, 1, 0, 1, 0, 0] inbox_Box_Put.body)) (fun e fr' H' => match e with | .normal => RR fr' H' | .exit id => Q (.exit id) fr' H' | .ret => Q .ret fr' H') E ((fun (s : Int) => (mkF 87 [(0, (.pointer b0)), (1, (.int .i64 off0)), (2, (.string data0)), (3, (.bool fin0)), (9, (.int .i64 end0)), (36, (.int .i64 x0)), (37, (.int .i64 s))])) s) H := by
  kernel_rfl
theorem inbox_Box_Put.W3.ok : SoundCode Try.prog (sub [1, 1, 1, 1, 0, 1, 0] inbox_Box_Put.body) inbox_Box_Put.W3.t := by
  have e : (sub [1, 1, 1, 1, 0, 1, 0] inbox_Box_Put.body) = .loop (sub [1, 1, 1, 1, 0, 1, 0, 0] inbox_Box_Put.body) := by kernel_rfl
  rw [e]
  refine piece_sound (loopN_sound (keepT_sound [0, 1, 2, 3, 9, 36, 37] [] (fun i => if i = 0 then [0, 2, 3, 9] else []) (wC_sound inbox_Box_Put.hΓ Try.hm inbox_Box_Put.W3.plan _ inbox_Box_Put.W3.pok))) ?_
  intro Q E fr H h
  unfold inbox_Box_Put.W3.t at h
  obtain ⟨hl, h⟩ := lenIs_elim h
  obtain ⟨b0, q0, h⟩ := slP_elim h
  obtain ⟨off0, q1, h⟩ := slI_elim h
  obtain ⟨data0, q2, h⟩ := slS_elim h
  obtain ⟨fin0, q3, h⟩ := slB_elim h
  obtain ⟨end0, q9, h⟩ := slI_elim h
  obtain ⟨x0, q36, h⟩ := slI_elim h
  obtain ⟨x1, q37, h⟩ := slI_elim h
  obtain ⟨m, h⟩ := h.h
  refine ⟨(mkF 87 [(0, (.pointer b0)), (1, (.int .i64 off0)), (2, (.string data0)), (3, (.bool fin0)), (9, (.int .i64 end0)), (36, (.int .i64 x0)), (37, (.int .i64 x1))]), fun a ha => ha.mk (Nat.le_of_eq hl.symm) (List.forall_mem_cons.2 ⟨q0, List.forall_mem_cons.2 ⟨q1, List.forall_mem_cons.2 ⟨q2, List.forall_mem_cons.2 ⟨q3, List.forall_mem_cons.2 ⟨q9, List.forall_mem_cons.2 ⟨q36, List.forall_mem_cons.2 ⟨q37, fun _ h => nomatch h⟩⟩⟩⟩⟩⟩⟩), m, ?_⟩
  have e := loopS_eq (B := (fun (RR : Int → Heap → Prop) (s : Int) (H : Heap) => inbox_Box_Put.W3.vc b0 off0 data0 fin0 end0 x0 s (fun  H => Q (.exit 0) (mkF 87 [(0, (.pointer b0)), (2, (.string data0)), (3, (.bool fin0)), (9, (.int .i64 end0))]) H) (fun x1 H => RR (x1) H) E H)) (A := keepT [0, 1, 2, 3, 9, 36, 37] [] (fun i => if i = 0 then [0, 2, 3, 9] else []) (wC Try.prog inbox_Box_Put.Γ inbox_Box_Put.W3.plan (sub [1, 1, 1, 1, 0, 1, 0, 0] inbox_Box_Put.body))) (m := (fun (s : Int) => (mkF 87 [(0, (.pointer b0)), (1, (.int .i64 off0)), (2, (.string data0)), (3, (.bool fin0)), (9, (.int .i64 end0)), (36, (.int .i64 x0)), (37, (.int .i64 s))]))) (Q := Q) (E := E) (fun RR s H => inbox_Box_Put.W3.eq b0 off0 data0 fin0 end0 x0 Q E RR s H) m (x1) H
  exact cast e h
def inbox_Box_Put.J7.t : CT := fun Q E fr H => lenIs 87 fr (slP fr 0 fun b0 => slB fr 3 fun fin0 => slI fr 9 .i64 fun end0 => inbox_Box_Put.J7 b0 fin0 end0 (fun y8_0 H => Q .ret (mkF 87 [(8, (.int .i64 y8_0))]) H) E H)
noncomputable def inbox_Box_Put.J7.plan : Plan := .go
theorem inbox_Box_Put.J7.pok : PlanOk Try.prog inbox_Box_Put.J7.plan (sub [1, 1, 1, 1, 1, 1] inbox_Box_Put.body) := by
  have e : PlanOk Try.prog inbox_Box_Put.J7.plan (sub [1, 1, 1, 1, 1, 1] inbox_Box_Put.body) = (True) := by kernel_rfl
  exact e.mpr trivial
theorem inbox_Box_Put.J7.eq (b0 : Option Addr) (fin0 : Bool) (end0 : Int) (Q : Ex → Fr → Heap → Prop) (E : Value → Heap → Prop) (H : Heap) :
    inbox_Box_Put.J7.vc b0 fin0 end0 (fun y8_0 H => Q .ret (mkF 87 [(8, (.int .i64 y8_0))]) H) E H = keepT [] [8] (fun i => []) (wC Try.prog inbox_Box_Put.Γ inbox_Box_Put.J7.plan (sub [1, 1, 1, 1, 1, 1] inbox_Box_Put.body)) Q E (mkF 87 [(0, (.pointer b0)), (3, (.bool fin0)), (9, (.int .i64 end0))]) H := by
  kernel_rfl
theorem inbox_Box_Put.J7.ok : SoundCode Try.prog (sub [1, 1, 1, 1, 1, 1] inbox_Box_Put.body) inbox_Box_Put.J7.t := by
  refine piece_sound (keepT_sound [] [8] (fun i => []) (wC_sound inbox_Box_Put.hΓ Try.hm inbox_Box_Put.J7.plan _ inbox_Box_Put.J7.pok)) ?_
  intro Q E fr H h
  unfold inbox_Box_Put.J7.t at h
  obtain ⟨hl, h⟩ := lenIs_elim h
  obtain ⟨b0, q0, h⟩ := slP_elim h
  obtain ⟨fin0, q3, h⟩ := slB_elim h
  obtain ⟨end0, q9, h⟩ := slI_elim h
  refine ⟨(mkF 87 [(0, (.pointer b0)), (3, (.bool fin0)), (9, (.int .i64 end0))]), fun a ha => ha.mk (Nat.le_of_eq hl.symm) (List.forall_mem_cons.2 ⟨q0, List.forall_mem_cons.2 ⟨q3, List.forall_mem_cons.2 ⟨q9, fun _ h => nomatch h⟩⟩⟩), ?_⟩
  have e := inbox_Box_Put.J7.eq b0 fin0 end0 Q E H
  rw [← e]
  exact h.h
def inbox_Box_Put.J2.t : CT := fun Q E fr H => lenIs 87 fr (slP fr 0 fun b0 => slI fr 1 .i64 fun off0 => slS fr 2 fun data0 => slB fr 3 fun fin0 => slI fr 9 .i64 fun end0 => inbox_Box_Put.J2 b0 off0 data0 fin0 end0 (fun y8_0 H => Q .ret (mkF 87 [(8, (.int .i64 y8_0))]) H) E H)
noncomputable def inbox_Box_Put.J2.plan : Plan := .seq (.seq (.go) (.block (.use inbox_Box_Put.W3.t))) (.seq (.go) (.use inbox_Box_Put.J7.t))
theorem inbox_Box_Put.J2.pok : PlanOk Try.prog inbox_Box_Put.J2.plan (sub [1, 1, 1, 1] inbox_Box_Put.body) := by
  have e : PlanOk Try.prog inbox_Box_Put.J2.plan (sub [1, 1, 1, 1] inbox_Box_Put.body) = (((True) ∧ (SoundCode Try.prog (sub [1, 1, 1, 1, 0, 1, 0] inbox_Box_Put.body) inbox_Box_Put.W3.t)) ∧ ((True) ∧ (SoundCode Try.prog (sub [1, 1, 1, 1, 1, 1] inbox_Box_Put.body) inbox_Box_Put.J7.t))) := by kernel_rfl
  exact e.mpr ⟨⟨trivial, inbox_Box_Put.W3.ok⟩, ⟨trivial, inbox_Box_Put.J7.ok⟩⟩
theorem inbox_Box_Put.J2.eq (b0 : Option Addr) (off0 : Int) (data0 : ByteArray) (fin0 : Bool) (end0 : Int) (Q : Ex → Fr → Heap → Prop) (E : Value → Heap → Prop) (H : Heap) :
    inbox_Box_Put.J2.vc b0 off0 data0 fin0 end0 (fun y8_0 H => Q .ret (mkF 87 [(8, (.int .i64 y8_0))]) H) E H = keepT [] [8] (fun i => []) (wC Try.prog inbox_Box_Put.Γ inbox_Box_Put.J2.plan (sub [1, 1, 1, 1] inbox_Box_Put.body)) Q E (mkF 87 [(0, (.pointer b0)), (1, (.int .i64 off0)), (2, (.string data0)), (3, (.bool fin0)), (9, (.int .i64 end0))]) H := by
  kernel_rfl
theorem inbox_Box_Put.J2.ok : SoundCode Try.prog (sub [1, 1, 1, 1] inbox_Box_Put.body) inbox_Box_Put.J2.t := by
  refine piece_sound (keepT_sound [] [8] (fun i => []) (wC_sound inbox_Box_Put.hΓ Try.hm inbox_Box_Put.J2.plan _ inbox_Box_Put.J2.pok)) ?_
  intro Q E fr H h
  unfold inbox_Box_Put.J2.t at h
  obtain ⟨hl, h⟩ := lenIs_elim h
  obtain ⟨b0, q0, h⟩ := slP_elim h
  obtain ⟨off0, q1, h⟩ := slI_elim h
  obtain ⟨data0, q2, h⟩ := slS_elim h
  obtain ⟨fin0, q3, h⟩ := slB_elim h
  obtain ⟨end0, q9, h⟩ := slI_elim h
  refine ⟨(mkF 87 [(0, (.pointer b0)), (1, (.int .i64 off0)), (2, (.string data0)), (3, (.bool fin0)), (9, (.int .i64 end0))]), fun a ha => ha.mk (Nat.le_of_eq hl.symm) (List.forall_mem_cons.2 ⟨q0, List.forall_mem_cons.2 ⟨q1, List.forall_mem_cons.2 ⟨q2, List.forall_mem_cons.2 ⟨q3, List.forall_mem_cons.2 ⟨q9, fun _ h => nomatch h⟩⟩⟩⟩⟩), ?_⟩
  have e := inbox_Box_Put.J2.eq b0 off0 data0 fin0 end0 Q E H
  rw [← e]
  exact h.h
noncomputable def inbox_Box_Put.plan : Plan := .seq (.go) (.seq (.go) (.seq (.go) (.seq (.seq (.go) (.seq (.go) (.use inbox_Box_Put.J1.t))) (.use inbox_Box_Put.J2.t))))
theorem inbox_Box_Put.pok : PlanOk Try.prog inbox_Box_Put.plan inbox_Box_Put.body := by
  have e : PlanOk Try.prog inbox_Box_Put.plan inbox_Box_Put.body = ((True) ∧ ((True) ∧ ((True) ∧ (((True) ∧ ((True) ∧ (SoundCode Try.prog (sub [1, 1, 1, 0, 1, 1] inbox_Box_Put.body) inbox_Box_Put.J1.t))) ∧ (SoundCode Try.prog (sub [1, 1, 1, 1] inbox_Box_Put.body) inbox_Box_Put.J2.t))))) := by kernel_rfl
  exact e.mpr ⟨trivial, ⟨trivial, ⟨trivial, ⟨⟨trivial, ⟨trivial, inbox_Box_Put.J1.ok⟩⟩, inbox_Box_Put.J2.ok⟩⟩⟩⟩
theorem inbox_Box_Put.eq (b0 : Option Addr) (off0 : Int) (data0 : ByteArray) (fin0 : Bool) (K : Value → Heap → Prop) (E : Value → Heap → Prop) (H : Heap) :
    fnT Try.prog Try.f30 (wC Try.prog inbox_Box_Put.Γ inbox_Box_Put.plan inbox_Box_Put.body) [(.pointer b0), (.int .i64 off0), (.string data0), (.bool fin0)] K E H = inbox_Box_Put.vc b0 off0 data0 fin0 (fun r0_0 H => K (.int .i64 r0_0) H) E H := by
  kernel_rfl
theorem inbox_Box_Put.Fe {args : List Value} {K E : Value → Heap → Prop} {H : Heap} (h : inbox_Box_Put.F args K E H) : ∃ b0 off0 data0 fin0, args = [(.pointer b0), (.int .i64 off0), (.string data0), (.bool fin0)] ∧ inbox_Box_Put.c b0 off0 data0 fin0 (fun r0_0 H => K (.int .i64 r0_0) H) E H := by
  unfold inbox_Box_Put.F at h
  split at h
  · exact ⟨_, _, _, _, rfl, h⟩
  · exact h.elim
theorem inbox_Box_Put.ok : CalleeOk Try.prog 30 inbox_Box_Put.F :=
  callee_ok inbox_Box_Put.hΓ (fn := Try.f30) (c := inbox_Box_Put.body) (T := wC Try.prog inbox_Box_Put.Γ inbox_Box_Put.plan inbox_Box_Put.body) (by kernel_rfl) (by kernel_rfl) (by kernel_rfl) (wC_sound inbox_Box_Put.hΓ Try.hm inbox_Box_Put.plan _ inbox_Box_Put.pok) fun _ K E H h => by
    obtain ⟨z0, z1, z2, z3, e, h⟩ := inbox_Box_Put.Fe h
    subst e
    have h2 : inbox_Box_Put.vc z0 z1 z2 z3 (fun r0_0 H => ∃ H', Heap.Le H' H ∧ K (.int .i64 r0_0) H') E H := h.h
    rw [inbox_Box_Put.eq z0 z1 z2 z3 (Fg K) E H]
    exact h2

/-! (*vizard/inbox.Box).Read -/
noncomputable def inbox_Box_Read.body : Code := Try.f31.body.getD .skip
def inbox_Box_Read.J4.vc (b0 : Option Addr) (n0 : Int) (out0 : Option Addr) (out1 : Nat) (out2 : Nat) (Kn : Heap → Prop) (E : Value → Heap → Prop) (h0 : Heap) : Prop :=
  nilc b0 fun a0 =>
  ldI h0 .i64 (a0.add 1) fun x0 =>
  nilc b0 fun a1 =>
  stc h0 (a1.add 1) (.int .i64 (IntKind.i64.wrap (x0 + 1))) fun h1 =>
  Kn h1
structure inbox_Box_Read.J4 (b0 : Option Addr) (n0 : Int) (out0 : Option Addr) (out1 : Nat) (out2 : Nat) (Kn : Heap → Prop) (E : Value → Heap → Prop) (H : Heap) : Prop where
  h : inbox_Box_Read.J4.vc b0 n0 out0 out1 out2 Kn E H
def inbox_Box_Read.J3.vc (b0 : Option Addr) (n0 : Int) (out0 : Option Addr) (out1 : Nat) (out2 : Nat) (c0 : Int) (ok0 : Bool) (Kx0 : Option Addr → Nat → Nat → Heap → Prop) (Kn : Option Addr → Nat → Nat → Heap → Prop) (E : Value → Heap → Prop) (h0 : Heap) : Prop :=
  (if (!ok0) = true then
  Kx0 out0 out1 out2 h0
  else
  nilc b0 fun a0 =>
  ldM h0 (a0.add 0) fun x0 =>
  nilc b0 fun a1 =>
  ldI h0 .i64 (a1.add 1) fun x1 =>
  delW (.int .i64) x0 (.int .i64 x1) (fun h1 =>
  newB (.cells #[(.int .u8 c0)] 5) (fun b1 h2 =>
  rdRow h2 (some (⟨b1, 0, none⟩ : Addr)) (1 * 1) fun cs0 =>
  appT 5 (.int .u8 0) out0 out1 1 out2 1 1 cs0 (fun p0 n1 c1 h3 =>
  inbox_Box_Read.J4 b0 n0 p0 n1 c1 (fun h4 =>
  Kn p0 n1 c1 h4) E h3) h2) h1) h0)
structure inbox_Box_Read.J3 (b0 : Option Addr) (n0 : Int) (out0 : Option Addr) (out1 : Nat) (out2 : Nat) (c0 : Int) (ok0 : Bool) (Kx0 : Option Addr → Nat → Nat → Heap → Prop) (Kn : Option Addr → Nat → Nat → Heap → Prop) (E : Value → Heap → Prop) (H : Heap) : Prop where
  h : inbox_Box_Read.J3.vc b0 n0 out0 out1 out2 c0 ok0 Kx0 Kn E H
def inbox_Box_Read.J2.vc (b0 : Option Addr) (n0 : Int) (out0 : Option Addr) (out1 : Nat) (out2 : Nat) (Kx0 : Option Addr → Nat → Nat → Heap → Prop) (Kn : Option Addr → Nat → Nat → Heap → Prop) (E : Value → Heap → Prop) (h0 : Heap) : Prop :=
  nilc b0 fun a0 =>
  ldM h0 (a0.add 0) fun x0 =>
  nilc b0 fun a1 =>
  ldI h0 .i64 (a1.add 1) fun x1 =>
  lookI (.int .i64) x0 (.int .i64 x1) .u8 0 (fun x2 ok0 =>
  inbox_Box_Read.J3 b0 n0 out0 out1 out2 x2 ok0 Kx0 Kn E h0) h0
structure inbox_Box_Read.J2 (b0 : Option Addr) (n0 : Int) (out0 : Option Addr) (out1 : Nat) (out2 : Nat) (Kx0 : Option Addr → Nat → Nat → Heap → Prop) (Kn : Option Addr → Nat → Nat → Heap → Prop) (E : Value → Heap → Prop) (H : Heap) : Prop where
  h : inbox_Box_Read.J2.vc b0 n0 out0 out1 out2 Kx0 Kn E H
def inbox_Box_Read.W1.vc (b0 : Option Addr) (n0 : Int) (out0 : Option Addr) (out1 : Nat) (out2 : Nat) (Kx0 : Option Addr → Nat → Nat → Heap → Prop) (RR : Option Addr → Nat → Nat → Heap → Prop) (E : Value → Heap → Prop) (h0 : Heap) : Prop :=
  (if (decide ((out1 : Int) < n0)) = true then
  nilc b0 fun a0 =>
  ldB h0 (a0.add 4) fun x0 =>
  (if (!x0) = true then
  inbox_Box_Read.J2 b0 n0 out0 out1 out2 Kx0 RR E h0
  else
  Kx0 out0 out1 out2 h0)
  else
  Kx0 out0 out1 out2 h0)
structure inbox_Box_Read.W1 (b0 : Option Addr) (n0 : Int) (out0 : Option Addr) (out1 : Nat) (out2 : Nat) (Kx0 : Option Addr → Nat → Nat → Heap → Prop) (E : Value → Heap → Prop) (H : Heap) : Prop where
  h : Loop (fun (RR : Option Addr × Nat × Nat → Heap → Prop) (s : Option Addr × Nat × Nat) (H : Heap) => inbox_Box_Read.W1.vc b0 n0 s.1 s.2.1 s.2.2 Kx0 (fun out0 out1 out2 H => RR (out0, out1, out2) H) E H) (out0, out1, out2) H
def inbox_Box_Read.vc (b0 : Option Addr) (n0 : Int) (K : ByteArray → Heap → Prop) (E : Value → Heap → Prop) (h0 : Heap) : Prop :=
  inbox_Box_Read.W1 b0 n0 none 0 0 (fun out0 out1 out2 h1 =>
  rdBytes h1 out0 out1 fun x0 =>
  K x0 h1) E h0
structure inbox_Box_Read.c (b0 : Option Addr) (n0 : Int) (K : ByteArray → Heap → Prop) (E : Value → Heap → Prop) (H : Heap) : Prop where
  h : inbox_Box_Read.vc b0 n0 (fun r0_0 H => ∃ H', Heap.Le H' H ∧ K r0_0 H') E H
def inbox_Box_Read.F : FT := fun args K E H => match args with
  | [(.pointer b0), (.int .i64 n0)] => inbox_Box_Read.c b0 n0 (fun r0_0 H => K (.string r0_0) H) E H
  | _ => False
noncomputable def inbox_Box_Read.Γ : FuncId → Option FT := Γof []
theorem inbox_Box_Read.hΓ : ∀ f F, inbox_Box_Read.Γ f = some F → CalleeOk Try.prog f F := Γof_ok (fun _ h => nomatch h)
def inbox_Box_Read.J4.t : CT := fun Q E fr H => lenIs 54 fr (slP fr 0 fun b0 => slI fr 1 .i64 fun n0 => slSl fr 5 fun out0 out1 out2 => inbox_Box_Read.J4 b0 n0 out0 out1 out2 (fun  H => Q .normal (mkF 54 [(0, (.pointer b0)), (1, (.int .i64 n0)), (5, (.slice out0 out1 out2))]) H) E H)
noncomputable def inbox_Box_Read.J4.plan : Plan := .go
theorem inbox_Box_Read.J4.pok : PlanOk Try.prog inbox_Box_Read.J4.plan (sub [1, 1, 0, 0, 0, 1, 0, 1, 1, 1, 1] inbox_Box_Read.body) := by
  have e : PlanOk Try.prog inbox_Box_Read.J4.plan (sub [1, 1, 0, 0, 0, 1, 0, 1, 1, 1, 1] inbox_Box_Read.body) = (True) := by kernel_rfl
  exact e.mpr trivial
theorem inbox_Box_Read.J4.eq (b0 : Option Addr) (n0 : Int) (out0 : Option Addr) (out1 : Nat) (out2 : Nat) (Q : Ex → Fr → Heap → Prop) (E : Value → Heap → Prop) (H : Heap) :
    inbox_Box_Read.J4.vc b0 n0 out0 out1 out2 (fun  H => Q .normal (mkF 54 [(0, (.pointer b0)), (1, (.int .i64 n0)), (5, (.slice out0 out1 out2))]) H) E H = keepT [0, 1, 5] [] (fun i => []) (wC Try.prog inbox_Box_Read.Γ inbox_Box_Read.J4.plan (sub [1, 1, 0, 0, 0, 1, 0, 1, 1, 1, 1] inbox_Box_Read.body)) Q E (mkF 54 [(0, (.pointer b0)), (1, (.int .i64 n0)), (5, (.slice out0 out1 out2))]) H := by
  kernel_rfl
theorem inbox_Box_Read.J4.ok : SoundCode Try.prog (sub [1, 1, 0, 0, 0, 1, 0, 1, 1, 1, 1] inbox_Box_Read.body) inbox_Box_Read.J4.t := by
  refine piece_sound (keepT_sound [0, 1, 5] [] (fun i => []) (wC_sound inbox_Box_Read.hΓ Try.hm inbox_Box_Read.J4.plan _ inbox_Box_Read.J4.pok)) ?_
  intro Q E fr H h
  unfold inbox_Box_Read.J4.t at h
  obtain ⟨hl, h⟩ := lenIs_elim h
  obtain ⟨b0, q0, h⟩ := slP_elim h
  obtain ⟨n0, q1, h⟩ := slI_elim h
  obtain ⟨out0, out1, out2, q5, h⟩ := slSl_elim h
  refine ⟨(mkF 54 [(0, (.pointer b0)), (1, (.int .i64 n0)), (5, (.slice out0 out1 out2))]), fun a ha => ha.mk (Nat.le_of_eq hl.symm) (List.forall_mem_cons.2 ⟨q0, List.forall_mem_cons.2 ⟨q1, List.forall_mem_cons.2 ⟨q5, fun _ h => nomatch h⟩⟩⟩), ?_⟩
  have e := inbox_Box_Read.J4.eq b0 n0 out0 out1 out2 Q E H
  rw [← e]
  exact h.h
def inbox_Box_Read.J3.t : CT := fun Q E fr H => lenIs 54 fr (slP fr 0 fun b0 => slI fr 1 .i64 fun n0 => slSl fr 5 fun out0 out1 out2 => slI fr 6 .u8 fun c0 => slB fr 7 fun ok0 => inbox_Box_Read.J3 b0 n0 out0 out1 out2 c0 ok0 (fun y5_0 y5_1 y5_2 H => Q (.exit 0) (mkF 54 [(5, (.slice y5_0 y5_1 y5_2))]) H) (fun y5_0 y5_1 y5_2 H => Q .normal (mkF 54 [(0, (.pointer b0)), (1, (.int .i64 n0)), (5, (.slice y5_0 y5_1 y5_2))]) H) E H)
noncomputable def inbox_Box_Read.J3.plan : Plan := .seq (.go) (.seq (.draw ⟨[0, 1, 2, 3, 4, 5, 6, 7, 8], (dl [(0, []), (1, []), (2, []), (3, []), (4, []), (5, []), (6, []), (7, []), (8, [3, 7, 2, 6, 1, 5, 0, 4])] .fin), []⟩) (.seq (.go) (.use inbox_Box_Read.J4.t)))
theorem inbox_Box_Read.J3.pok : PlanOk Try.prog inbox_Box_Read.J3.plan (sub [1, 1, 0, 0, 0, 1, 0, 1] inbox_Box_Read.body) := by
  have e : PlanOk Try.prog inbox_Box_Read.J3.plan (sub [1, 1, 0, 0, 0, 1, 0, 1] inbox_Box_Read.body) = ((True) ∧ ((True) ∧ ((True) ∧ (SoundCode Try.prog (sub [1, 1, 0, 0, 0, 1, 0, 1, 1, 1, 1] inbox_Box_Read.body) inbox_Box_Read.J4.t)))) := by kernel_rfl
  exact e.mpr ⟨trivial, ⟨trivial, ⟨trivial, inbox_Box_Read.J4.ok⟩⟩⟩
theorem inbox_Box_Read.J3.eq (b0 : Option Addr) (n0 : Int) (out0 : Option Addr) (out1 : Nat) (out2 : Nat) (c0 : Int) (ok0 : Bool) (Q : Ex → Fr → Heap → Prop) (E : Value → Heap → Prop) (H : Heap) :
    inbox_Box_Read.J3.vc b0 n0 out0 out1 out2 c0 ok0 (fun y5_0 y5_1 y5_2 H => Q (.exit 0) (mkF 54 [(5, (.slice y5_0 y5_1 y5_2))]) H) (fun y5_0 y5_1 y5_2 H => Q .normal (mkF 54 [(0, (.pointer b0)), (1, (.int .i64 n0)), (5, (.slice y5_0 y5_1 y5_2))]) H) E H = keepT [0, 1, 5] [] (fun i => if i = 0 then [5] else []) (wC Try.prog inbox_Box_Read.Γ inbox_Box_Read.J3.plan (sub [1, 1, 0, 0, 0, 1, 0, 1] inbox_Box_Read.body)) Q E (mkF 54 [(0, (.pointer b0)), (1, (.int .i64 n0)), (5, (.slice out0 out1 out2)), (6, (.int .u8 c0)), (7, (.bool ok0))]) H := by
  kernel_rfl
theorem inbox_Box_Read.J3.ok : SoundCode Try.prog (sub [1, 1, 0, 0, 0, 1, 0, 1] inbox_Box_Read.body) inbox_Box_Read.J3.t := by
  refine piece_sound (keepT_sound [0, 1, 5] [] (fun i => if i = 0 then [5] else []) (wC_sound inbox_Box_Read.hΓ Try.hm inbox_Box_Read.J3.plan _ inbox_Box_Read.J3.pok)) ?_
  intro Q E fr H h
  unfold inbox_Box_Read.J3.t at h
  obtain ⟨hl, h⟩ := lenIs_elim h
  obtain ⟨b0, q0, h⟩ := slP_elim h
  obtain ⟨n0, q1, h⟩ := slI_elim h
  obtain ⟨out0, out1, out2, q5, h⟩ := slSl_elim h
  obtain ⟨c0, q6, h⟩ := slI_elim h
  obtain ⟨ok0, q7, h⟩ := slB_elim h
  refine ⟨(mkF 54 [(0, (.pointer b0)), (1, (.int .i64 n0)), (5, (.slice out0 out1 out2)), (6, (.int .u8 c0)), (7, (.bool ok0))]), fun a ha => ha.mk (Nat.le_of_eq hl.symm) (List.forall_mem_cons.2 ⟨q0, List.forall_mem_cons.2 ⟨q1, List.forall_mem_cons.2 ⟨q5, List.forall_mem_cons.2 ⟨q6, List.forall_mem_cons.2 ⟨q7, fun _ h => nomatch h⟩⟩⟩⟩⟩), ?_⟩
  have e := inbox_Box_Read.J3.eq b0 n0 out0 out1 out2 c0 ok0 Q E H
  rw [← e]
  exact h.h
def inbox_Box_Read.J2.t : CT := fun Q E fr H => lenIs 54 fr (slP fr 0 fun b0 => slI fr 1 .i64 fun n0 => slSl fr 5 fun out0 out1 out2 => inbox_Box_Read.J2 b0 n0 out0 out1 out2 (fun y5_0 y5_1 y5_2 H => Q (.exit 0) (mkF 54 [(5, (.slice y5_0 y5_1 y5_2))]) H) (fun y5_0 y5_1 y5_2 H => Q .normal (mkF 54 [(0, (.pointer b0)), (1, (.int .i64 n0)), (5, (.slice y5_0 y5_1 y5_2))]) H) E H)
noncomputable def inbox_Box_Read.J2.plan : Plan := .block (.seq (.draw ⟨[0, 1, 2, 3, 4, 5, 6, 7, 8, 9, 10, 11, 12], (dl [(0, []), (1, []), (2, []), (3, []), (4, []), (5, []), (6, []), (7, []), (8, []), (9, []), (10, []), (11, []), (12, [])] .fin), [13]⟩) (.use inbox_Box_Read.J3.t))
theorem inbox_Box_Read.J2.pok : PlanOk Try.prog inbox_Box_Read.J2.plan (sub [1, 1, 0, 0, 0, 1] inbox_Box_Read.body) := by
  have e : PlanOk Try.prog inbox_Box_Read.J2.plan (sub [1, 1, 0, 0, 0, 1] inbox_Box_Read.body) = ((True) ∧ (SoundCode Try.prog (sub [1, 1, 0, 0, 0, 1, 0, 1] inbox_Box_Read.body) inbox_Box_Read.J3.t)) := by kernel_rfl
  exact e.mpr ⟨trivial, inbox_Box_Read.J3.ok⟩
theorem inbox_Box_Read.J2.eq (b0 : Option Addr) (n0 : Int) (out0 : Option Addr) (out1 : Nat) (out2 : Nat) (Q : Ex → Fr → Heap → Prop) (E : Value → Heap → Prop) (H : Heap) :
    inbox_Box_Read.J2.vc b0 n0 out0 out1 out2 (fun y5_0 y5_1 y5_2 H => Q (.exit 0) (mkF 54 [(5, (.slice y5_0 y5_1 y5_2))]) H) (fun y5_0 y5_1 y5_2 H => Q .normal (mkF 54 [(0, (.pointer b0)), (1, (.int .i64 n0)), (5, (.slice y5_0 y5_1 y5_2))]) H) E H = keepT [0, 1, 5] [] (fun i => if i = 0 then [5] else []) (wC Try.prog inbox_Box_Read.Γ inbox_Box_Read.J2.plan (sub [1, 1, 0, 0, 0, 1] inbox_Box_Read.body)) Q E (mkF 54 [(0, (.pointer b0)), (1, (.int .i64 n0)), (5, (.slice out0 out1 out2))]) H := by
  kernel_rfl
theorem inbox_Box_Read.J2.ok : SoundCode Try.prog (sub [1, 1, 0, 0, 0, 1] inbox_Box_Read.body) inbox_Box_Read.J2.t := by
  refine piece_sound (keepT_sound [0, 1, 5] [] (fun i => if i = 0 then [5] else []) (wC_sound inbox_Box_Read.hΓ Try.hm inbox_Box_Read.J2.plan _ inbox_Box_Read.J2.pok)) ?_
  intro Q E fr H h
  unfold inbox_Box_Read.J2.t at h
  obtain ⟨hl, h⟩ := lenIs_elim h
  obtain ⟨b0, q0, h⟩ := slP_elim h
  obtain ⟨n0, q1, h⟩ := slI_elim h
  obtain ⟨out0, out1, out2, q5, h⟩ := slSl_elim h
  refine ⟨(mkF 54 [(0, (.pointer b0)), (1, (.int .i64 n0)), (5, (.slice out0 out1 out2))]), fun a ha => ha.mk (Nat.le_of_eq hl.symm) (List.forall_mem_cons.2 ⟨q0, List.forall_mem_cons.2 ⟨q1, List.forall_mem_cons.2 ⟨q5, fun _ h => nomatch h⟩⟩⟩), ?_⟩
  have e := inbox_Box_Read.J2.eq b0 n0 out0 out1 out2 Q E H
  rw [← e]
  exact h.h
def inbox_Box_Read.W1.t : CT := fun Q E fr H => lenIs 54 fr (slP fr 0 fun b0 => slI fr 1 .i64 fun n0 => slSl fr 5 fun out0 out1 out2 => inbox_Box_Read.W1 b0 n0 out0 out1 out2 (fun y5_0 y5_1 y5_2 H => Q (.exit 0) (mkF 54 [(5, (.slice y5_0 y5_1 y5_2))]) H) E H)
noncomputable def inbox_Box_Read.W1.plan : Plan := .seq (.go) (.use inbox_Box_Read.J2.t)
theorem inbox_Box_Read.W1.pok : PlanOk Try.prog inbox_Box_Read.W1.plan (sub [1, 1, 0, 0, 0] inbox_Box_Read.body) := by
  have e : PlanOk Try.prog inbox_Box_Read.W1.plan (sub [1, 1, 0, 0, 0] inbox_Box_Read.body) = ((True) ∧ (SoundCode Try.prog (sub [1, 1, 0, 0, 0, 1] inbox_Box_Read.body) inbox_Box_Read.J2.t)) := by kernel_rfl
  exact e.mpr ⟨trivial, inbox_Box_Read.J2.ok⟩
theorem inbox_Box_Read.W1.eq (b0 : Option Addr) (n0 : Int) (Q : Ex → Fr → Heap → Prop) (E : Value → Heap → Prop) (RR : Fr → Heap → Prop) (s : Option Addr × Nat × Nat) (H : Heap) :
    (fun (RR : Option Addr × Nat × Nat → Heap → Prop) (s : Option Addr × Nat × Nat) (H : Heap) => inbox_Box_Read.W1.vc b0 n0 s.1 s.2.1 s.2.2 (fun y5_0 y5_1 y5_2 H => Q (.exit 0) (mkF 54 [(5, (.slice y5_0 y5_1 y5_2))]) H) (fun out0 out1 out2 H => RR (out0, out1, out2) H) E H) (fun s' H' => RR ((fun (s : Option Addr × Nat × Nat) => (mkF 54 [(0, (.pointer b0)), (1, (.int .i64 n0)), (5, (.slice s.1 s.2.1 s.2.2))])) s') H') s H = keepT [0, 1, 5] [] (fun i => if i = 0 then [5] else []) (wC Try.prog inbox_Box_Read.Γ inbox_Box_Read.W1.plan (sub [1, 1, 0, 0, 0] inbox_Box_Read.body)) (fun e fr' H' => match e with | .normal => RR fr' H' | .exit id => Q (.exit id) fr' H' | .ret => Q .ret fr' H') E ((fun (s : Option Addr × Nat × Nat) => (mkF 54 [(0, (.pointer b0)), (1, (.int .i64 n0)), (5, (.slice s.1 s.2.1 s.2.2))])) s) H := by
  kernel_rfl
theorem inbox_Box_Read.W1.ok : SoundCode Try.prog (sub [1, 1, 0, 0] inbox_Box_Read.body) inbox_Box_Read.W1.t := by
  have e : (sub [1, 1, 0, 0] inbox_Box_Read.body) = .loop (sub [1, 1, 0, 0, 0] inbox_Box_Read.body) := by kernel_rfl
  rw [e]
  refine piece_sound (loopN_sound (keepT_sound [0, 1, 5] [] (fun i => if i = 0 then [5] else []) (wC_sound inbox_Box_Read.hΓ Try.hm inbox_Box_Read.W1.plan _ inbox_Box_Read.W1.pok))) ?_
  intro Q E fr H h
  unfold inbox_Box_Read.W1.t at h
  obtain ⟨hl, h⟩ := lenIs_elim h
  obtain ⟨b0, q0, h⟩ := slP_elim h
  obtain ⟨n0, q1, h⟩ := slI_elim h
  obtain ⟨out0, out1, out2, q5, h⟩ := slSl_elim h
  obtain ⟨m, h⟩ := h.h
  refine ⟨(mkF 54 [(0, (.pointer b0)), (1, (.int .i64 n0)), (5, (.slice out0 out1 out2))]), fun a ha => ha.mk (Nat.le_of_eq hl.symm) (List.forall_mem_cons.2 ⟨q0, List.forall_mem_cons.2 ⟨q1, List.forall_mem_cons.2 ⟨q5, fun _ h => nomatch h⟩⟩⟩), m, ?_⟩
  have e := loopS_eq (B := (fun (RR : Option Addr × Nat × Nat → Heap → Prop) (s : Option Addr × Nat × Nat) (H : Heap) => inbox_Box_Read.W1.vc b0 n0 s.1 s.2.1 s.2.2 (fun y5_0 y5_1 y5_2 H => Q (.exit 0) (mkF 54 [(5, (.slice y5_0 y5_1 y5_2))]) H) (fun out0 out1 out2 H => RR (out0, out1, out2) H) E H)) (A := keepT [0, 1, 5] [] (fun i => if i = 0 then [5] else []) (wC Try.prog inbox_Box_Read.Γ inbox_Box_Read.W1.plan (sub [1, 1, 0, 0, 0] inbox_Box_Read.body))) (m := (fun (s : Option Addr × Nat × Nat) => (mkF 54 [(0, (.pointer b0)), (1, (.int .i64 n0)), (5, (.slice s.1 s.2.1 s.2.2))]))) (Q := Q) (E := E) (fun RR s H => inbox_Box_Read.W1.eq b0 n0 Q E RR s H) m (out0, out1, out2) H
  exact cast e h
noncomputable def inbox_Box_Read.plan : Plan := .seq (.go) (.seq (.go) (.seq (.block (.use inbox_Box_Read.W1.t)) (.go)))
theorem inbox_Box_Read.pok : PlanOk Try.prog inbox_Box_Read.plan inbox_Box_Read.body := by
  have e : PlanOk Try.prog inbox_Box_Read.plan inbox_Box_Read.body = ((True) ∧ ((True) ∧ ((SoundCode Try.prog (sub [1, 1, 0, 0] inbox_Box_Read.body) inbox_Box_Read.W1.t) ∧ (True)))) := by kernel_rfl
  exact e.mpr ⟨trivial, ⟨trivial, ⟨inbox_Box_Read.W1.ok, trivial⟩⟩⟩
theorem inbox_Box_Read.eq (b0 : Option Addr) (n0 : Int) (K : Value → Heap → Prop) (E : Value → Heap → Prop) (H : Heap) :
    fnT Try.prog Try.f31 (wC Try.prog inbox_Box_Read.Γ inbox_Box_Read.plan inbox_Box_Read.body) [(.pointer b0), (.int .i64 n0)] K E H = inbox_Box_Read.vc b0 n0 (fun r0_0 H => K (.string r0_0) H) E H := by
  kernel_rfl
theorem inbox_Box_Read.Fe {args : List Value} {K E : Value → Heap → Prop} {H : Heap} (h : inbox_Box_Read.F args K E H) : ∃ b0 n0, args = [(.pointer b0), (.int .i64 n0)] ∧ inbox_Box_Read.c b0 n0 (fun r0_0 H => K (.string r0_0) H) E H := by
  unfold inbox_Box_Read.F at h
  split at h
  · exact ⟨_, _, rfl, h⟩
  · exact h.elim
theorem inbox_Box_Read.ok : CalleeOk Try.prog 31 inbox_Box_Read.F :=
  callee_ok inbox_Box_Read.hΓ (fn := Try.f31) (c := inbox_Box_Read.body) (T := wC Try.prog inbox_Box_Read.Γ inbox_Box_Read.plan inbox_Box_Read.body) (by kernel_rfl) (by kernel_rfl) (by kernel_rfl) (wC_sound inbox_Box_Read.hΓ Try.hm inbox_Box_Read.plan _ inbox_Box_Read.pok) fun _ K E H h => by
    obtain ⟨z0, z1, e, h⟩ := inbox_Box_Read.Fe h
    subst e
    have h2 : inbox_Box_Read.vc z0 z1 (fun r0_0 H => ∃ H', Heap.Le H' H ∧ K (.string r0_0) H') E H := h.h
    rw [inbox_Box_Read.eq z0 z1 (Fg K) E H]
    exact h2

/-! vizard/vizardlaw11.works -/
noncomputable def vizardlaw11_works.body : Code := Try.f28.body.getD .skip
def vizardlaw11_works.vc (K : Bool → Heap → Prop) (E : Value → Heap → Prop) (h0 : Heap) : Prop :=
  inbox_New.c (fun x0 h1 =>
  (if (Option.isNone x0) = true then
  K false h1
  else
  inbox_Box_Put.c x0 2 (⟨#[99, 100]⟩ : ByteArray) false (fun x1 h2 =>
  inbox_Box_Read.c x0 9 (fun x2 h3 =>
  inbox_Box_Put.c x0 0 (⟨#[97, 98, 99]⟩ : ByteArray) false (fun x3 h4 =>
  inbox_Box_Read.c x0 9 (fun x4 h5 =>
  (0 : Int) ≤ 5000 ∧ (5000 : Int) ≤ 5000 ∧ (5000 : Int) ≤ 9223372036854775807 ∧ (5000 : Int) * 1 ≤ 281474976710656 ∧ newB (.cells (zerosOf (.int .u8 0) 5000).toArray 5) (fun b0 h6 =>
  rdBytes h6 (some (⟨b0, 0, none⟩ : Addr)) 5000 fun x5 =>
  inbox_Box_Put.c x0 0 x5 false (fun x6 h7 =>
  (if (x1 == 0) = true then
  (if (x2.toList == (⟨#[]⟩ : ByteArray).toList) = true then
  (if (x4.toList == (⟨#[97, 98, 99, 100]⟩ : ByteArray).toList) = true then
  K (x6 == 12) h7
  else
  K false h7)
  else
  K false h7)
  else
  K false h7)) E h6) h5) E h4) E h3) E h2) E h1)) E h0
structure vizardlaw11_works.c (K : Bool → Heap → Prop) (E : Value → Heap → Prop) (H : Heap) : Prop where
  h : vizardlaw11_works.vc  (fun r0_0 H => ∃ H', Heap.Le H' H ∧ K r0_0 H') E H
def vizardlaw11_works.F : FT := fun args K E H => match args with
  | [] => vizardlaw11_works.c  (fun r0_0 H => K (.bool r0_0) H) E H
  | _ => False
noncomputable def vizardlaw11_works.Γ : FuncId → Option FT := Γof [(29, inbox_New.F), (30, inbox_Box_Put.F), (31, inbox_Box_Read.F)]
theorem vizardlaw11_works.hΓ : ∀ f F, vizardlaw11_works.Γ f = some F → CalleeOk Try.prog f F := Γof_ok (List.forall_mem_cons.2 ⟨inbox_New.ok, List.forall_mem_cons.2 ⟨inbox_Box_Put.ok, List.forall_mem_cons.2 ⟨inbox_Box_Read.ok, fun _ h => nomatch h⟩⟩⟩)
noncomputable def vizardlaw11_works.plan : Plan := .go
theorem vizardlaw11_works.pok : PlanOk Try.prog vizardlaw11_works.plan vizardlaw11_works.body := by
  have e : PlanOk Try.prog vizardlaw11_works.plan vizardlaw11_works.body = (True) := by kernel_rfl
  exact e.mpr trivial
theorem vizardlaw11_works.eq (K : Value → Heap → Prop) (E : Value → Heap → Prop) (H : Heap) :
    fnT Try.prog Try.f28 (wC Try.prog vizardlaw11_works.Γ vizardlaw11_works.plan vizardlaw11_works.body) [] K E H = vizardlaw11_works.vc  (fun r0_0 H => K (.bool r0_0) H) E H := by
  kernel_rfl
theorem vizardlaw11_works.Fe {args : List Value} {K E : Value → Heap → Prop} {H : Heap} (h : vizardlaw11_works.F args K E H) : args = [] ∧ vizardlaw11_works.c  (fun r0_0 H => K (.bool r0_0) H) E H := by
  unfold vizardlaw11_works.F at h
  split at h
  · exact ⟨rfl, h⟩
  · exact h.elim
theorem vizardlaw11_works.ok : CalleeOk Try.prog 28 vizardlaw11_works.F :=
  callee_ok vizardlaw11_works.hΓ (fn := Try.f28) (c := vizardlaw11_works.body) (T := wC Try.prog vizardlaw11_works.Γ vizardlaw11_works.plan vizardlaw11_works.body) (by kernel_rfl) (by kernel_rfl) (by kernel_rfl) (wC_sound vizardlaw11_works.hΓ Try.hm vizardlaw11_works.plan _ vizardlaw11_works.pok) fun _ K E H h => by
    obtain ⟨e, h⟩ := vizardlaw11_works.Fe h
    subst e
    have h2 : vizardlaw11_works.vc (fun r0_0 H => ∃ H', Heap.Le H' H ∧ K (.bool r0_0) H') E H := h.h
    rw [vizardlaw11_works.eq (Fg K) E H]
    exact h2

/-! vizard/vizardlaw11.InboxFirst -/
noncomputable def vizardlaw11_InboxFirst.body : Code := Try.f6.body.getD .skip
def vizardlaw11_InboxFirst.J1.vc (a0 : ByteArray) (b0 : ByteArray) (off0 : Int) (x0 : Bool) (Kn : Heap → Prop) (Kr : Bool → Heap → Prop) (E : Value → Heap → Prop) (h0 : Heap) : Prop :=
  (if x0 = true then
  Kr true h0
  else
  Kn h0)
structure vizardlaw11_InboxFirst.J1 (a0 : ByteArray) (b0 : ByteArray) (off0 : Int) (x0 : Bool) (Kn : Heap → Prop) (Kr : Bool → Heap → Prop) (E : Value → Heap → Prop) (H : Heap) : Prop where
  h : vizardlaw11_InboxFirst.J1.vc a0 b0 off0 x0 Kn Kr E H
def vizardlaw11_InboxFirst.J3.vc (a0 : ByteArray) (b0 : ByteArray) (x0 : Option Addr) (k0 : Int) (x1 : Bool) (Kn : Heap → Prop) (Kr : Bool → Heap → Prop) (E : Value → Heap → Prop) (h0 : Heap) : Prop :=
  (if x1 = true then
  Kr false h0
  else
  Kn h0)
structure vizardlaw11_InboxFirst.J3 (a0 : ByteArray) (b0 : ByteArray) (x0 : Option Addr) (k0 : Int) (x1 : Bool) (Kn : Heap → Prop) (Kr : Bool → Heap → Prop) (E : Value → Heap → Prop) (H : Heap) : Prop where
  h : vizardlaw11_InboxFirst.J3.vc a0 b0 x0 k0 x1 Kn Kr E H
def vizardlaw11_InboxFirst.J5.vc (x0 : Option Addr) (want0 : ByteArray) (Kr : Bool → Heap → Prop) (E : Value → Heap → Prop) (h0 : Heap) : Prop :=
  inbox_Box_Read.c x0 2000 (fun x1 h1 =>
  Kr (x1.toList == want0.toList) h1) E h0
structure vizardlaw11_InboxFirst.J5 (x0 : Option Addr) (want0 : ByteArray) (Kr : Bool → Heap → Prop) (E : Value → Heap → Prop) (H : Heap) : Prop where
  h : vizardlaw11_InboxFirst.J5.vc x0 want0 Kr E H
def vizardlaw11_InboxFirst.J4.vc (a0 : ByteArray) (b0 : ByteArray) (x0 : Option Addr) (k0 : Int) (Kr : Bool → Heap → Prop) (E : Value → Heap → Prop) (h0 : Heap) : Prop :=
  (if (decide ((IntKind.i64.wrap (k0 + (b0.size : Int))) > (a0.size : Int))) = true then
  (0 : Int) ≤ (IntKind.i64.wrap ((a0.size : Int) - k0)) ∧ (IntKind.i64.wrap ((a0.size : Int) - k0)) ≤ (b0.size : Int) ∧ b0.size ≤ b0.size ∧
  a0.size + (b0.extract (IntKind.i64.wrap ((a0.size : Int) - k0)).toNat b0.size).size ≤ 9223372036854775807 ∧
  vizardlaw11_InboxFirst.J5 x0 (a0 ++ (b0.extract (IntKind.i64.wrap ((a0.size : Int) - k0)).toNat b0.size)) Kr E h0
  else
  vizardlaw11_InboxFirst.J5 x0 a0 Kr E h0)
structure vizardlaw11_InboxFirst.J4 (a0 : ByteArray) (b0 : ByteArray) (x0 : Option Addr) (k0 : Int) (Kr : Bool → Heap → Prop) (E : Value → Heap → Prop) (H : Heap) : Prop where
  h : vizardlaw11_InboxFirst.J4.vc a0 b0 x0 k0 Kr E H
def vizardlaw11_InboxFirst.J2.vc (a0 : ByteArray) (b0 : ByteArray) (off0 : Int) (Kr : Bool → Heap → Prop) (E : Value → Heap → Prop) (h0 : Heap) : Prop :=
  inbox_New.c (fun x0 h1 =>
  (IntKind.u64.wrap (IntKind.i64.wrap ((a0.size : Int) + 1))) ≠ (0 : Int) ∧
  inbox_Box_Put.c x0 0 a0 false (fun x1 h2 =>
  (if (x1 != 0) = true then
  vizardlaw11_InboxFirst.J3 a0 b0 x0 (IntKind.i64.wrap (Int.tmod (IntKind.u64.wrap off0) (IntKind.u64.wrap (IntKind.i64.wrap ((a0.size : Int) + 1))))) true (fun h3 =>
  vizardlaw11_InboxFirst.J4 a0 b0 x0 (IntKind.i64.wrap (Int.tmod (IntKind.u64.wrap off0) (IntKind.u64.wrap (IntKind.i64.wrap ((a0.size : Int) + 1))))) Kr E h3) Kr E h2
  else
  inbox_Box_Put.c x0 (IntKind.i64.wrap (Int.tmod (IntKind.u64.wrap off0) (IntKind.u64.wrap (IntKind.i64.wrap ((a0.size : Int) + 1))))) b0 false (fun x4 h6 =>
  vizardlaw11_InboxFirst.J3 a0 b0 x0 (IntKind.i64.wrap (Int.tmod (IntKind.u64.wrap off0) (IntKind.u64.wrap (IntKind.i64.wrap ((a0.size : Int) + 1))))) (x4 != 0) (fun h7 =>
  vizardlaw11_InboxFirst.J4 a0 b0 x0 (IntKind.i64.wrap (Int.tmod (IntKind.u64.wrap off0) (IntKind.u64.wrap (IntKind.i64.wrap ((a0.size : Int) + 1))))) Kr E h7) Kr E h6) E h2)) E h1) E h0
structure vizardlaw11_InboxFirst.J2 (a0 : ByteArray) (b0 : ByteArray) (off0 : Int) (Kr : Bool → Heap → Prop) (E : Value → Heap → Prop) (H : Heap) : Prop where
  h : vizardlaw11_InboxFirst.J2.vc a0 b0 off0 Kr E H
def vizardlaw11_InboxFirst.vc (a0 : ByteArray) (b0 : ByteArray) (off0 : Int) (K : Bool → Heap → Prop) (E : Value → Heap → Prop) (h0 : Heap) : Prop :=
  vizardlaw11_works.c (fun x0 h1 =>
  (if (!x0) = true then
  K false h1
  else
  (if (decide ((a0.size : Int) > 500)) = true then
  vizardlaw11_InboxFirst.J1 a0 b0 off0 true (fun h2 =>
  vizardlaw11_InboxFirst.J2 a0 b0 off0 K E h2) K E h1
  else
  vizardlaw11_InboxFirst.J1 a0 b0 off0 (decide ((b0.size : Int) > 500)) (fun h5 =>
  vizardlaw11_InboxFirst.J2 a0 b0 off0 K E h5) K E h1))) E h0
structure vizardlaw11_InboxFirst.c (a0 : ByteArray) (b0 : ByteArray) (off0 : Int) (K : Bool → Heap → Prop) (E : Value → Heap → Prop) (H : Heap) : Prop where
  h : vizardlaw11_InboxFirst.vc a0 b0 off0 (fun r0_0 H => ∃ H', Heap.Le H' H ∧ K r0_0 H') E H
def vizardlaw11_InboxFirst.F : FT := fun args K E H => match args with
  | [(.string a0), (.string b0), (.int .i64 off0)] => vizardlaw11_InboxFirst.c a0 b0 off0 (fun r0_0 H => K (.bool r0_0) H) E H
  | _ => False
noncomputable def vizardlaw11_InboxFirst.Γ : FuncId → Option FT := Γof [(28, vizardlaw11_works.F), (29, inbox_New.F), (30, inbox_Box_Put.F), (31, inbox_Box_Read.F)]
theorem vizardlaw11_InboxFirst.hΓ : ∀ f F, vizardlaw11_InboxFirst.Γ f = some F → CalleeOk Try.prog f F := Γof_ok (List.forall_mem_cons.2 ⟨vizardlaw11_works.ok, List.forall_mem_cons.2 ⟨inbox_New.ok, List.forall_mem_cons.2 ⟨inbox_Box_Put.ok, List.forall_mem_cons.2 ⟨inbox_Box_Read.ok, fun _ h => nomatch h⟩⟩⟩⟩)
def vizardlaw11_InboxFirst.J1.t : CT := fun Q E fr H => lenIs 60 fr (slS fr 0 fun a0 => slS fr 1 fun b0 => slI fr 2 .i64 fun off0 => slB fr 19 fun x0 => vizardlaw11_InboxFirst.J1 a0 b0 off0 x0 (fun  H => Q .normal (mkF 60 [(0, (.string a0)), (1, (.string b0)), (2, (.int .i64 off0))]) H) (fun y6_0 H => Q .ret (mkF 60 [(6, (.bool y6_0))]) H) E H)
noncomputable def vizardlaw11_InboxFirst.J1.plan : Plan := .go
theorem vizardlaw11_InboxFirst.J1.pok : PlanOk Try.prog vizardlaw11_InboxFirst.J1.plan (sub [1, 1, 0, 1] vizardlaw11_InboxFirst.body) := by
  have e : PlanOk Try.prog vizardlaw11_InboxFirst.J1.plan (sub [1, 1, 0, 1] vizardlaw11_InboxFirst.body) = (True) := by kernel_rfl
  exact e.mpr trivial
theorem vizardlaw11_InboxFirst.J1.eq (a0 : ByteArray) (b0 : ByteArray) (off0 : Int) (x0 : Bool) (Q : Ex → Fr → Heap → Prop) (E : Value → Heap → Prop) (H : Heap) :
    vizardlaw11_InboxFirst.J1.vc a0 b0 off0 x0 (fun  H => Q .normal (mkF 60 [(0, (.string a0)), (1, (.string b0)), (2, (.int .i64 off0))]) H) (fun y6_0 H => Q .ret (mkF 60 [(6, (.bool y6_0))]) H) E H = keepT [0, 1, 2] [6] (fun i => []) (wC Try.prog vizardlaw11_InboxFirst.Γ vizardlaw11_InboxFirst.J1.plan (sub [1, 1, 0, 1] vizardlaw11_InboxFirst.body)) Q E (mkF 60 [(0, (.string a0)), (1, (.string b0)), (2, (.int .i64 off0)), (19, (.bool x0))]) H := by
  kernel_rfl
theorem vizardlaw11_InboxFirst.J1.ok : SoundCode Try.prog (sub [1, 1, 0, 1] vizardlaw11_InboxFirst.body) vizardlaw11_InboxFirst.J1.t := by
  refine piece_sound (keepT_sound [0, 1, 2] [6] (fun i => []) (wC_sound vizardlaw11_InboxFirst.hΓ Try.hm vizardlaw11_InboxFirst.J1.plan _ vizardlaw11_InboxFirst.J1.pok)) ?_
  intro Q E fr H h
  unfold vizardlaw11_InboxFirst.J1.t at h
  obtain ⟨hl, h⟩ := lenIs_elim h
  obtain ⟨a0, q0, h⟩ := slS_elim h
  obtain ⟨b0, q1, h⟩ := slS_elim h
  obtain ⟨off0, q2, h⟩ := slI_elim h
  obtain ⟨x0, q19, h⟩ := slB_elim h
  refine ⟨(mkF 60 [(0, (.string a0)), (1, (.string b0)), (2, (.int .i64 off0)), (19, (.bool x0))]), fun a ha => ha.mk (Nat.le_of_eq hl.symm) (List.forall_mem_cons.2 ⟨q0, List.forall_mem_cons.2 ⟨q1, List.forall_mem_cons.2 ⟨q2, List.forall_mem_cons.2 ⟨q19, fun _ h => nomatch h⟩⟩⟩⟩), ?_⟩
  have e := vizardlaw11_InboxFirst.J1.eq a0 b0 off0 x0 Q E H
  rw [← e]
  exact h.h
def vizardlaw11_InboxFirst.J3.t : CT := fun Q E fr H => lenIs 60 fr (slS fr 0 fun a0 => slS fr 1 fun b0 => slP fr 7 fun x0 => slI fr 8 .i64 fun k0 => slB fr 39 fun x1 => vizardlaw11_InboxFirst.J3 a0 b0 x0 k0 x1 (fun  H => Q .normal (mkF 60 [(0, (.string a0)), (1, (.string b0)), (7, (.pointer x0)), (8, (.int .i64 k0))]) H) (fun y6_0 H => Q .ret (mkF 60 [(6, (.bool y6_0))]) H) E H)
noncomputable def vizardlaw11_InboxFirst.J3.plan : Plan := .go
theorem vizardlaw11_InboxFirst.J3.pok : PlanOk Try.prog vizardlaw11_InboxFirst.J3.plan (sub [1, 1, 1, 1, 1, 0, 1] vizardlaw11_InboxFirst.body) := by
  have e : PlanOk Try.prog vizardlaw11_InboxFirst.J3.plan (sub [1, 1, 1, 1, 1, 0, 1] vizardlaw11_InboxFirst.body) = (True) := by kernel_rfl
  exact e.mpr trivial
theorem vizardlaw11_InboxFirst.J3.eq (a0 : ByteArray) (b0 : ByteArray) (x0 : Option Addr) (k0 : Int) (x1 : Bool) (Q : Ex → Fr → Heap → Prop) (E : Value → Heap → Prop) (H : Heap) :
    vizardlaw11_InboxFirst.J3.vc a0 b0 x0 k0 x1 (fun  H => Q .normal (mkF 60 [(0, (.string a0)), (1, (.string b0)), (7, (.pointer x0)), (8, (.int .i64 k0))]) H) (fun y6_0 H => Q .ret (mkF 60 [(6, (.bool y6_0))]) H) E H = keepT [0, 1, 7, 8] [6] (fun i => []) (wC Try.prog vizardlaw11_InboxFirst.Γ vizardlaw11_InboxFirst.J3.plan (sub [1, 1, 1, 1, 1, 0, 1] vizardlaw11_InboxFirst.body)) Q E (mkF 60 [(0, (.string a0)), (1, (.string b0)), (7, (.pointer x0)), (8, (.int .i64 k0)), (39, (.bool x1))]) H := by
  kernel_rfl
theorem vizardlaw11_InboxFirst.J3.ok : SoundCode Try.prog (sub [1, 1, 1, 1, 1, 0, 1] vizardlaw11_InboxFirst.body) vizardlaw11_InboxFirst.J3.t := by
  refine piece_sound (keepT_sound [0, 1, 7, 8] [6] (fun i => []) (wC_sound vizardlaw11_InboxFirst.hΓ Try.hm vizardlaw11_InboxFirst.J3.plan _ vizardlaw11_InboxFirst.J3.pok)) ?_
  intro Q E fr H h
  unfold vizardlaw11_InboxFirst.J3.t at h
  obtain ⟨hl, h⟩ := lenIs_elim h
  obtain ⟨a0, q0, h⟩ := slS_elim h
  obtain ⟨b0, q1, h⟩ := slS_elim h
  obtain ⟨x0, q7, h⟩ := slP_elim h
  obtain ⟨k0, q8, h⟩ := slI_elim h
  obtain ⟨x1, q39, h⟩ := slB_elim h
  refine ⟨(mkF 60 [(0, (.string a0)), (1, (.string b0)), (7, (.pointer x0)), (8, (.int .i64 k0)), (39, (.bool x1))]), fun a ha => ha.mk (Nat.le_of_eq hl.symm) (List.forall_mem_cons.2 ⟨q0, List.forall_mem_cons.2 ⟨q1, List.forall_mem_cons.2 ⟨q7, List.forall_mem_cons.2 ⟨q8, List.forall_mem_cons.2 ⟨q39, fun _ h => nomatch h⟩⟩⟩⟩⟩), ?_⟩
  have e := vizardlaw11_InboxFirst.J3.eq a0 b0 x0 k0 x1 Q E H
  rw [← e]
  exact h.h
def vizardlaw11_InboxFirst.J5.t : CT := fun Q E fr H => lenIs 60 fr (slP fr 7 fun x0 => slS fr 9 fun want0 => vizardlaw11_InboxFirst.J5 x0 want0 (fun y6_0 H => Q .ret (mkF 60 [(6, (.bool y6_0))]) H) E H)
noncomputable def vizardlaw11_InboxFirst.J5.plan : Plan := .go
theorem vizardlaw11_InboxFirst.J5.pok : PlanOk Try.prog vizardlaw11_InboxFirst.J5.plan (sub [1, 1, 1, 1, 1, 1, 1, 1] vizardlaw11_InboxFirst.body) := by
  have e : PlanOk Try.prog vizardlaw11_InboxFirst.J5.plan (sub [1, 1, 1, 1, 1, 1, 1, 1] vizardlaw11_InboxFirst.body) = (True) := by kernel_rfl
  exact e.mpr trivial
theorem vizardlaw11_InboxFirst.J5.eq (x0 : Option Addr) (want0 : ByteArray) (Q : Ex → Fr → Heap → Prop) (E : Value → Heap → Prop) (H : Heap) :
    vizardlaw11_InboxFirst.J5.vc x0 want0 (fun y6_0 H => Q .ret (mkF 60 [(6, (.bool y6_0))]) H) E H = keepT [] [6] (fun i => []) (wC Try.prog vizardlaw11_InboxFirst.Γ vizardlaw11_InboxFirst.J5.plan (sub [1, 1, 1, 1, 1, 1, 1, 1] vizardlaw11_InboxFirst.body)) Q E (mkF 60 [(7, (.pointer x0)), (9, (.string want0))]) H := by
  kernel_rfl
theorem vizardlaw11_InboxFirst.J5.ok : SoundCode Try.prog (sub [1, 1, 1, 1, 1, 1, 1, 1] vizardlaw11_InboxFirst.body) vizardlaw11_InboxFirst.J5.t := by
  refine piece_sound (keepT_sound [] [6] (fun i => []) (wC_sound vizardlaw11_InboxFirst.hΓ Try.hm vizardlaw11_InboxFirst.J5.plan _ vizardlaw11_InboxFirst.J5.pok)) ?_
  intro Q E fr H h
  unfold vizardlaw11_InboxFirst.J5.t at h
  obtain ⟨hl, h⟩ := lenIs_elim h
  obtain ⟨x0, q7, h⟩ := slP_elim h
  obtain ⟨want0, q9, h⟩ := slS_elim h
  refine ⟨(mkF 60 [(7, (.pointer x0)), (9, (.string want0))]), fun a ha => ha.mk (Nat.le_of_eq hl.symm) (List.forall_mem_cons.2 ⟨q7, List.forall_mem_cons.2 ⟨q9, fun _ h => nomatch h⟩⟩), ?_⟩
  have e := vizardlaw11_InboxFirst.J5.eq x0 want0 Q E H
  rw [← e]
  exact h.h
def vizardlaw11_InboxFirst.J4.t : CT := fun Q E fr H => lenIs 60 fr (slS fr 0 fun a0 => slS fr 1 fun b0 => slP fr 7 fun x0 => slI fr 8 .i64 fun k0 => vizardlaw11_InboxFirst.J4 a0 b0 x0 k0 (fun y6_0 H => Q .ret (mkF 60 [(6, (.bool y6_0))]) H) E H)
noncomputable def vizardlaw11_InboxFirst.J4.plan : Plan := .seq (.go) (.seq (.go) (.use vizardlaw11_InboxFirst.J5.t))
theorem vizardlaw11_InboxFirst.J4.pok : PlanOk Try.prog vizardlaw11_InboxFirst.J4.plan (sub [1, 1, 1, 1, 1, 1] vizardlaw11_InboxFirst.body) := by
  have e : PlanOk Try.prog vizardlaw11_InboxFirst.J4.plan (sub [1, 1, 1, 1, 1, 1] vizardlaw11_InboxFirst.body) = ((True) ∧ ((True) ∧ (SoundCode Try.prog (sub [1, 1, 1, 1, 1, 1, 1, 1] vizardlaw11_InboxFirst.body) vizardlaw11_InboxFirst.J5.t))) := by kernel_rfl
  exact e.mpr ⟨trivial, ⟨trivial, vizardlaw11_InboxFirst.J5.ok⟩⟩
theorem vizardlaw11_InboxFirst.J4.eq (a0 : ByteArray) (b0 : ByteArray) (x0 : Option Addr) (k0 : Int) (Q : Ex → Fr → Heap → Prop) (E : Value → Heap → Prop) (H : Heap) :
    vizardlaw11_InboxFirst.J4.vc a0 b0 x0 k0 (fun y6_0 H => Q .ret (mkF 60 [(6, (.bool y6_0))]) H) E H = keepT [] [6] (fun i => []) (wC Try.prog vizardlaw11_InboxFirst.Γ vizardlaw11_InboxFirst.J4.plan (sub [1, 1, 1, 1, 1, 1] vizardlaw11_InboxFirst.body)) Q E (mkF 60 [(0, (.string a0)), (1, (.string b0)), (7, (.pointer x0)), (8, (.int .i64 k0))]) H := by
  kernel_rfl
theorem vizardlaw11_InboxFirst.J4.ok : SoundCode Try.prog (sub [1, 1, 1, 1, 1, 1] vizardlaw11_InboxFirst.body) vizardlaw11_InboxFirst.J4.t := by
  refine piece_sound (keepT_sound [] [6] (fun i => []) (wC_sound vizardlaw11_InboxFirst.hΓ Try.hm vizardlaw11_InboxFirst.J4.plan _ vizardlaw11_InboxFirst.J4.pok)) ?_
  intro Q E fr H h
  unfold vizardlaw11_InboxFirst.J4.t at h
  obtain ⟨hl, h⟩ := lenIs_elim h
  obtain ⟨a0, q0, h⟩ := slS_elim h
  obtain ⟨b0, q1, h⟩ := slS_elim h
  obtain ⟨x0, q7, h⟩ := slP_elim h
  obtain ⟨k0, q8, h⟩ := slI_elim h
  refine ⟨(mkF 60 [(0, (.string a0)), (1, (.string b0)), (7, (.pointer x0)), (8, (.int .i64 k0))]), fun a ha => ha.mk (Nat.le_of_eq hl.symm) (List.forall_mem_cons.2 ⟨q0, List.forall_mem_cons.2 ⟨q1, List.forall_mem_cons.2 ⟨q7, List.forall_mem_cons.2 ⟨q8, fun _ h => nomatch h⟩⟩⟩⟩), ?_⟩
  have e := vizardlaw11_InboxFirst.J4.eq a0 b0 x0 k0 Q E H
  rw [← e]
  exact h.h
def vizardlaw11_InboxFirst.J2.t : CT := fun Q E fr H => lenIs 60 fr (slS fr 0 fun a0 => slS fr 1 fun b0 => slI fr 2 .i64 fun off0 => vizardlaw11_InboxFirst.J2 a0 b0 off0 (fun y6_0 H => Q .ret (mkF 60 [(6, (.bool y6_0))]) H) E H)
noncomputable def vizardlaw11_InboxFirst.J2.plan : Plan := .seq (.go) (.seq (.go) (.seq (.seq (.go) (.use vizardlaw11_InboxFirst.J3.t)) (.use vizardlaw11_InboxFirst.J4.t)))
theorem vizardlaw11_InboxFirst.J2.pok : PlanOk Try.prog vizardlaw11_InboxFirst.J2.plan (sub [1, 1, 1] vizardlaw11_InboxFirst.body) := by
  have e : PlanOk Try.prog vizardlaw11_InboxFirst.J2.plan (sub [1, 1, 1] vizardlaw11_InboxFirst.body) = ((True) ∧ ((True) ∧ (((True) ∧ (SoundCode Try.prog (sub [1, 1, 1, 1, 1, 0, 1] vizardlaw11_InboxFirst.body) vizardlaw11_InboxFirst.J3.t)) ∧ (SoundCode Try.prog (sub [1, 1, 1, 1, 1, 1] vizardlaw11_InboxFirst.body) vizardlaw11_InboxFirst.J4.t)))) := by kernel_rfl
  exact e.mpr ⟨trivial, ⟨trivial, ⟨⟨trivial, vizardlaw11_InboxFirst.J3.ok⟩, vizardlaw11_InboxFirst.J4.ok⟩⟩⟩
theorem vizardlaw11_InboxFirst.J2.eq (a0 : ByteArray) (b0 : ByteArray) (off0 : Int) (Q : Ex → Fr → Heap → Prop) (E : Value → Heap → Prop) (H : Heap) :
    vizardlaw11_InboxFirst.J2.vc a0 b0 off0 (fun y6_0 H => Q .ret (mkF 60 [(6, (.bool y6_0))]) H) E H = keepT [] [6] (fun i => []) (wC Try.prog vizardlaw11_InboxFirst.Γ vizardlaw11_InboxFirst.J2.plan (sub [1, 1, 1] vizardlaw11_InboxFirst.body)) Q E (mkF 60 [(0, (.string a0)), (1, (.string b0)), (2, (.int .i64 off0))]) H := by
  kernel_rfl
theorem vizardlaw11_InboxFirst.J2.ok : SoundCode Try.prog (sub [1, 1, 1] vizardlaw11_InboxFirst.body) vizardlaw11_InboxFirst.J2.t := by
  refine piece_sound (keepT_sound [] [6] (fun i => []) (wC_sound vizardlaw11_InboxFirst.hΓ Try.hm vizardlaw11_InboxFirst.J2.plan _ vizardlaw11_InboxFirst.J2.pok)) ?_
  intro Q E fr H h
  unfold vizardlaw11_InboxFirst.J2.t at h
  obtain ⟨hl, h⟩ := lenIs_elim h
  obtain ⟨a0, q0, h⟩ := slS_elim h
  obtain ⟨b0, q1, h⟩ := slS_elim h
  obtain ⟨off0, q2, h⟩ := slI_elim h
  refine ⟨(mkF 60 [(0, (.string a0)), (1, (.string b0)), (2, (.int .i64 off0))]), fun a ha => ha.mk (Nat.le_of_eq hl.symm) (List.forall_mem_cons.2 ⟨q0, List.forall_mem_cons.2 ⟨q1, List.forall_mem_cons.2 ⟨q2, fun _ h => nomatch h⟩⟩⟩), ?_⟩
  have e := vizardlaw11_InboxFirst.J2.eq a0 b0 off0 Q E H
  rw [← e]
  exact h.h
noncomputable def vizardlaw11_InboxFirst.plan : Plan := .seq (.go) (.seq (.go) (.seq (.seq (.go) (.use vizardlaw11_InboxFirst.J1.t)) (.use vizardlaw11_InboxFirst.J2.t)))
theorem vizardlaw11_InboxFirst.pok : PlanOk Try.prog vizardlaw11_InboxFirst.plan vizardlaw11_InboxFirst.body := by
  have e : PlanOk Try.prog vizardlaw11_InboxFirst.plan vizardlaw11_InboxFirst.body = ((True) ∧ ((True) ∧ (((True) ∧ (SoundCode Try.prog (sub [1, 1, 0, 1] vizardlaw11_InboxFirst.body) vizardlaw11_InboxFirst.J1.t)) ∧ (SoundCode Try.prog (sub [1, 1, 1] vizardlaw11_InboxFirst.body) vizardlaw11_InboxFirst.J2.t)))) := by kernel_rfl
  exact e.mpr ⟨trivial, ⟨trivial, ⟨⟨trivial, vizardlaw11_InboxFirst.J1.ok⟩, vizardlaw11_InboxFirst.J2.ok⟩⟩⟩
theorem vizardlaw11_InboxFirst.eq (a0 : ByteArray) (b0 : ByteArray) (off0 : Int) (K : Value → Heap → Prop) (E : Value → Heap → Prop) (H : Heap) :
    fnT Try.prog Try.f6 (wC Try.prog vizardlaw11_InboxFirst.Γ vizardlaw11_InboxFirst.plan vizardlaw11_InboxFirst.body) [(.string a0), (.string b0), (.int .i64 off0)] K E H = vizardlaw11_InboxFirst.vc a0 b0 off0 (fun r0_0 H => K (.bool r0_0) H) E H := by
  kernel_rfl
theorem vizardlaw11_InboxFirst.Fe {args : List Value} {K E : Value → Heap → Prop} {H : Heap} (h : vizardlaw11_InboxFirst.F args K E H) : ∃ a0 b0 off0, args = [(.string a0), (.string b0), (.int .i64 off0)] ∧ vizardlaw11_InboxFirst.c a0 b0 off0 (fun r0_0 H => K (.bool r0_0) H) E H := by
  unfold vizardlaw11_InboxFirst.F at h
  split at h
  · exact ⟨_, _, _, rfl, h⟩
  · exact h.elim
theorem vizardlaw11_InboxFirst.ok : CalleeOk Try.prog 6 vizardlaw11_InboxFirst.F :=
  callee_ok vizardlaw11_InboxFirst.hΓ (fn := Try.f6) (c := vizardlaw11_InboxFirst.body) (T := wC Try.prog vizardlaw11_InboxFirst.Γ vizardlaw11_InboxFirst.plan vizardlaw11_InboxFirst.body) (by kernel_rfl) (by kernel_rfl) (by kernel_rfl) (wC_sound vizardlaw11_InboxFirst.hΓ Try.hm vizardlaw11_InboxFirst.plan _ vizardlaw11_InboxFirst.pok) fun _ K E H h => by
    obtain ⟨z0, z1, z2, e, h⟩ := vizardlaw11_InboxFirst.Fe h
    subst e
    have h2 : vizardlaw11_InboxFirst.vc z0 z1 z2 (fun r0_0 H => ∃ H', Heap.Le H' H ∧ K (.bool r0_0) H') E H := h.h
    rw [vizardlaw11_InboxFirst.eq z0 z1 z2 (Fg K) E H]
    exact h2

/-! (*vizard/inbox.Box).State -/
noncomputable def inbox_Box_State.body : Code := Try.f32.body.getD .skip
def inbox_Box_State.J1.vc (b0 : Option Addr) (how0 : Int) (Kr : Int → Int → Int → Heap → Prop) (E : Value → Heap → Prop) (h0 : Heap) : Prop :=
  nilc b0 fun a0 =>
  ldI h0 .i64 (a0.add 1) fun x0 =>
  nilc b0 fun a1 =>
  ldI h0 .i64 (a1.add 1) fun x1 =>
  Kr x0 (IntKind.i64.wrap (x1 + 4096)) how0 h0
structure inbox_Box_State.J1 (b0 : Option Addr) (how0 : Int) (Kr : Int → Int → Int → Heap → Prop) (E : Value → Heap → Prop) (H : Heap) : Prop where
  h : inbox_Box_State.J1.vc b0 how0 Kr E H
def inbox_Box_State.vc (b0 : Option Addr) (K : Int → Int → Int → Heap → Prop) (E : Value → Heap → Prop) (h0 : Heap) : Prop :=
  nilc b0 fun a0 =>
  ldB h0 (a0.add 4) fun x0 =>
  (if x0 = true then
  inbox_Box_State.J1 b0 2 K E h0
  else
  nilc b0 fun a1 =>
  ldI h0 .i64 (a1.add 2) fun x4 =>
  nilc b0 fun a2 =>
  ldI h0 .i64 (a2.add 1) fun x5 =>
  (if (x4 == x5) = true then
  inbox_Box_State.J1 b0 1 K E h0
  else
  inbox_Box_State.J1 b0 0 K E h0))
structure inbox_Box_State.c (b0 : Option Addr) (K : Int → Int → Int → Heap → Prop) (E : Value → Heap → Prop) (H : Heap) : Prop where
  h : inbox_Box_State.vc b0 (fun r0_0 r1_0 r2_0 H => ∃ H', Heap.Le H' H ∧ K r0_0 r1_0 r2_0 H') E H
def inbox_Box_State.F : FT := fun args K E H => match args with
  | [(.pointer b0)] => inbox_Box_State.c b0 (fun r0_0 r1_0 r2_0 H => K (.tuple #[(.int .i64 r0_0), (.int .i64 r1_0), (.int .i64 r2_0)]) H) E H
  | _ => False
noncomputable def inbox_Box_State.Γ : FuncId → Option FT := Γof []
theorem inbox_Box_State.hΓ : ∀ f F, inbox_Box_State.Γ f = some F → CalleeOk Try.prog f F := Γof_ok (fun _ h => nomatch h)
def inbox_Box_State.J1.t : CT := fun Q E fr H => lenIs 31 fr (slP fr 0 fun b0 => slI fr 5 .i64 fun how0 => inbox_Box_State.J1 b0 how0 (fun y2_0 y3_0 y4_0 H => Q .ret (mkF 31 [(2, (.int .i64 y2_0)), (3, (.int .i64 y3_0)), (4, (.int .i64 y4_0))]) H) E H)
noncomputable def inbox_Box_State.J1.plan : Plan := .seq (.draw ⟨[0, 1, 2, 3, 4, 5, 6, 7, 8, 9, 10, 11], (dl [(0, []), (1, []), (2, []), (3, []), (4, []), (5, []), (6, []), (7, []), (8, []), (9, []), (10, []), (11, [])] .fin), [12]⟩) (.go)
theorem inbox_Box_State.J1.pok : PlanOk Try.prog inbox_Box_State.J1.plan (sub [1, 1, 1] inbox_Box_State.body) := by
  have e : PlanOk Try.prog inbox_Box_State.J1.plan (sub [1, 1, 1] inbox_Box_State.body) = ((True) ∧ (True)) := by kernel_rfl
  exact e.mpr ⟨trivial, trivial⟩
theorem inbox_Box_State.J1.eq (b0 : Option Addr) (how0 : Int) (Q : Ex → Fr → Heap → Prop) (E : Value → Heap → Prop) (H : Heap) :
    inbox_Box_State.J1.vc b0 how0 (fun y2_0 y3_0 y4_0 H => Q .ret (mkF 31 [(2, (.int .i64 y2_0)), (3, (.int .i64 y3_0)), (4, (.int .i64 y4_0))]) H) E H = keepT [] [2, 3, 4] (fun i => []) (wC Try.prog inbox_Box_State.Γ inbox_Box_State.J1.plan (sub [1, 1, 1] inbox_Box_State.body)) Q E (mkF 31 [(0, (.pointer b0)), (5, (.int .i64 how0))]) H := by
  kernel_rfl
theorem inbox_Box_State.J1.ok : SoundCode Try.prog (sub [1, 1, 1] inbox_Box_State.body) inbox_Box_State.J1.t := by
  refine piece_sound (keepT_sound [] [2, 3, 4] (fun i => []) (wC_sound inbox_Box_State.hΓ Try.hm inbox_Box_State.J1.plan _ inbox_Box_State.J1.pok)) ?_
  intro Q E fr H h
  unfold inbox_Box_State.J1.t at h
  obtain ⟨hl, h⟩ := lenIs_elim h
  obtain ⟨b0, q0, h⟩ := slP_elim h
  obtain ⟨how0, q5, h⟩ := slI_elim h
  refine ⟨(mkF 31 [(0, (.pointer b0)), (5, (.int .i64 how0))]), fun a ha => ha.mk (Nat.le_of_eq hl.symm) (List.forall_mem_cons.2 ⟨q0, List.forall_mem_cons.2 ⟨q5, fun _ h => nomatch h⟩⟩), ?_⟩
  have e := inbox_Box_State.J1.eq b0 how0 Q E H
  rw [← e]
  exact h.h
noncomputable def inbox_Box_State.plan : Plan := .seq (.go) (.seq (.go) (.seq (.block (.seq (.go) (.cond (.go) (.seq (.draw ⟨[0, 1, 2, 3, 4, 5, 6, 7, 8, 9], (dl [(0, []), (1, []), (2, []), (3, []), (4, []), (5, []), (6, []), (7, []), (8, []), (9, [])] .fin), []⟩) (.go))))) (.use inbox_Box_State.J1.t)))
theorem inbox_Box_State.pok : PlanOk Try.prog inbox_Box_State.plan inbox_Box_State.body := by
  have e : PlanOk Try.prog inbox_Box_State.plan inbox_Box_State.body = ((True) ∧ ((True) ∧ (((True) ∧ ((True) ∧ ((True) ∧ (True)))) ∧ (SoundCode Try.prog (sub [1, 1, 1] inbox_Box_State.body) inbox_Box_State.J1.t)))) := by kernel_rfl
  exact e.mpr ⟨trivial, ⟨trivial, ⟨⟨trivial, ⟨trivial, ⟨trivial, trivial⟩⟩⟩, inbox_Box_State.J1.ok⟩⟩⟩
theorem inbox_Box_State.eq (b0 : Option Addr) (K : Value → Heap → Prop) (E : Value → Heap → Prop) (H : Heap) :
    fnT Try.prog Try.f32 (wC Try.prog inbox_Box_State.Γ inbox_Box_State.plan inbox_Box_State.body) [(.pointer b0)] K E H = inbox_Box_State.vc b0 (fun r0_0 r1_0 r2_0 H => K (.tuple #[(.int .i64 r0_0), (.int .i64 r1_0), (.int .i64 r2_0)]) H) E H := by
  kernel_rfl
theorem inbox_Box_State.Fe {args : List Value} {K E : Value → Heap → Prop} {H : Heap} (h : inbox_Box_State.F args K E H) : ∃ b0, args = [(.pointer b0)] ∧ inbox_Box_State.c b0 (fun r0_0 r1_0 r2_0 H => K (.tuple #[(.int .i64 r0_0), (.int .i64 r1_0), (.int .i64 r2_0)]) H) E H := by
  unfold inbox_Box_State.F at h
  split at h
  · exact ⟨_, rfl, h⟩
  · exact h.elim
theorem inbox_Box_State.ok : CalleeOk Try.prog 32 inbox_Box_State.F :=
  callee_ok inbox_Box_State.hΓ (fn := Try.f32) (c := inbox_Box_State.body) (T := wC Try.prog inbox_Box_State.Γ inbox_Box_State.plan inbox_Box_State.body) (by kernel_rfl) (by kernel_rfl) (by kernel_rfl) (wC_sound inbox_Box_State.hΓ Try.hm inbox_Box_State.plan _ inbox_Box_State.pok) fun _ K E H h => by
    obtain ⟨z0, e, h⟩ := inbox_Box_State.Fe h
    subst e
    have h2 : inbox_Box_State.vc z0 (fun r0_0 r1_0 r2_0 H => ∃ H', Heap.Le H' H ∧ K (.tuple #[(.int .i64 r0_0), (.int .i64 r1_0), (.int .i64 r2_0)]) H') E H := h.h
    rw [inbox_Box_State.eq z0 (Fg K) E H]
    exact h2

/-! vizard/vizardlaw11.InboxWhole -/
noncomputable def vizardlaw11_InboxWhole.body : Code := Try.f7.body.getD .skip
def vizardlaw11_InboxWhole.J5.vc (text0 : ByteArray) (l0 : Option Addr) (l1 : Nat) (l2 : Nat) (reads0 : Option Addr) (reads1 : Nat) (reads2 : Nat) (b0 : Option Addr) (out0 : ByteArray) (i0 : Int) (x0 : Bool) (Kn : Heap → Prop) (Kr : Bool → Heap → Prop) (E : Value → Heap → Prop) (h0 : Heap) : Prop :=
  (if x0 = true then
  Kr false h0
  else
  Kn h0)
structure vizardlaw11_InboxWhole.J5 (text0 : ByteArray) (l0 : Option Addr) (l1 : Nat) (l2 : Nat) (reads0 : Option Addr) (reads1 : Nat) (reads2 : Nat) (b0 : Option Addr) (out0 : ByteArray) (i0 : Int) (x0 : Bool) (Kn : Heap → Prop) (Kr : Bool → Heap → Prop) (E : Value → Heap → Prop) (H : Heap) : Prop where
  h : vizardlaw11_InboxWhole.J5.vc text0 l0 l1 l2 reads0 reads1 reads2 b0 out0 i0 x0 Kn Kr E H
def vizardlaw11_InboxWhole.J4.vc (text0 : ByteArray) (l0 : Option Addr) (l1 : Nat) (l2 : Nat) (reads0 : Option Addr) (reads1 : Nat) (reads2 : Nat) (b0 : Option Addr) (out0 : ByteArray) (i0 : Int) (Kn : Heap → Prop) (Kr : Bool → Heap → Prop) (E : Value → Heap → Prop) (h0 : Heap) : Prop :=
  (if (decide ((out0.size : Int) > (text0.size : Int))) = true then
  vizardlaw11_InboxWhole.J5 text0 l0 l1 l2 reads0 reads1 reads2 b0 out0 i0 true Kn Kr E h0
  else
  (0 : Int) ≤ (out0.size : Int) ∧ (out0.size : Int) ≤ (text0.size : Int) ∧
  vizardlaw11_InboxWhole.J5 text0 l0 l1 l2 reads0 reads1 reads2 b0 out0 i0 (!((text0.extract 0 (out0.size : Int).toNat).toList == out0.toList)) Kn Kr E h0)
structure vizardlaw11_InboxWhole.J4 (text0 : ByteArray) (l0 : Option Addr) (l1 : Nat) (l2 : Nat) (reads0 : Option Addr) (reads1 : Nat) (reads2 : Nat) (b0 : Option Addr) (out0 : ByteArray) (i0 : Int) (Kn : Heap → Prop) (Kr : Bool → Heap → Prop) (E : Value → Heap → Prop) (H : Heap) : Prop where
  h : vizardlaw11_InboxWhole.J4.vc text0 l0 l1 l2 reads0 reads1 reads2 b0 out0 i0 Kn Kr E H
def vizardlaw11_InboxWhole.J6.vc (text0 : ByteArray) (l0 : Option Addr) (l1 : Nat) (l2 : Nat) (reads0 : Option Addr) (reads1 : Nat) (reads2 : Nat) (b0 : Option Addr) (out0 : ByteArray) (i0 : Int) (Kn : Int → Heap → Prop) (E : Value → Heap → Prop) (h0 : Heap) : Prop :=
  Kn (IntKind.i64.wrap (i0 + 1)) h0
structure vizardlaw11_InboxWhole.J6 (text0 : ByteArray) (l0 : Option Addr) (l1 : Nat) (l2 : Nat) (reads0 : Option Addr) (reads1 : Nat) (reads2 : Nat) (b0 : Option Addr) (out0 : ByteArray) (i0 : Int) (Kn : Int → Heap → Prop) (E : Value → Heap → Prop) (H : Heap) : Prop where
  h : vizardlaw11_InboxWhole.J6.vc text0 l0 l1 l2 reads0 reads1 reads2 b0 out0 i0 Kn E H
def vizardlaw11_InboxWhole.J3.vc (text0 : ByteArray) (l0 : Option Addr) (l1 : Nat) (l2 : Nat) (reads0 : Option Addr) (reads1 : Nat) (reads2 : Nat) (b0 : Option Addr) (out0 : ByteArray) (i0 : Int) (Kn : ByteArray → Int → Heap → Prop) (Kr : Bool → Heap → Prop) (E : Value → Heap → Prop) (h0 : Heap) : Prop :=
  nilc l0 fun a0 => (0 : Int) ≤ i0 ∧ i0 < (l1 : Int) ∧
  ldI h0 .i64 ((a0.add (i0.toNat * 2)).add 0) fun x0 =>
  (IntKind.u64.wrap (IntKind.i64.wrap ((text0.size : Int) + 1))) ≠ (0 : Int) ∧
  nilc l0 fun a1 => (0 : Int) ≤ i0 ∧ i0 < (l1 : Int) ∧
  ldI h0 .i64 ((a1.add (i0.toNat * 2)).add 1) fun x1 =>
  500 ≠ (0 : Int) ∧
  (0 : Int) ≤ (IntKind.i64.wrap (Int.tmod (IntKind.u64.wrap x0) (IntKind.u64.wrap (IntKind.i64.wrap ((text0.size : Int) + 1))))) ∧ (IntKind.i64.wrap (Int.tmod (IntKind.u64.wrap x0) (IntKind.u64.wrap (IntKind.i64.wrap ((text0.size : Int) + 1))))) ≤ ((if (IntKind.i64.wrap ((IntKind.i64.wrap (Int.tmod (IntKind.u64.wrap x0) (IntKind.u64.wrap (IntKind.i64.wrap ((text0.size : Int) + 1))))) + (IntKind.i64.wrap (Int.tmod (IntKind.u64.wrap x1) 500)))) < (text0.size : Int) then (IntKind.i64.wrap ((IntKind.i64.wrap (Int.tmod (IntKind.u64.wrap x0) (IntKind.u64.wrap (IntKind.i64.wrap ((text0.size : Int) + 1))))) + (IntKind.i64.wrap (Int.tmod (IntKind.u64.wrap x1) 500)))) else (text0.size : Int)) : Int) ∧ (if (IntKind.i64.wrap ((IntKind.i64.wrap (Int.tmod (IntKind.u64.wrap x0) (IntKind.u64.wrap (IntKind.i64.wrap ((text0.size : Int) + 1))))) + (IntKind.i64.wrap (Int.tmod (IntKind.u64.wrap x1) 500)))) < (text0.size : Int) then (IntKind.i64.wrap ((IntKind.i64.wrap (Int.tmod (IntKind.u64.wrap x0) (IntKind.u64.wrap (IntKind.i64.wrap ((text0.size : Int) + 1))))) + (IntKind.i64.wrap (Int.tmod (IntKind.u64.wrap x1) 500)))) else (text0.size : Int)) ≤ (text0.size : Int) ∧
  inbox_Box_Put.c b0 (IntKind.i64.wrap (Int.tmod (IntKind.u64.wrap x0) (IntKind.u64.wrap (IntKind.i64.wrap ((text0.size : Int) + 1))))) (text0.extract (IntKind.i64.wrap (Int.tmod (IntKind.u64.wrap x0) (IntKind.u64.wrap (IntKind.i64.wrap ((text0.size : Int) + 1))))).toNat (if (IntKind.i64.wrap ((IntKind.i64.wrap (Int.tmod (IntKind.u64.wrap x0) (IntKind.u64.wrap (IntKind.i64.wrap ((text0.size : Int) + 1))))) + (IntKind.i64.wrap (Int.tmod (IntKind.u64.wrap x1) 500)))) < (text0.size : Int) then (IntKind.i64.wrap ((IntKind.i64.wrap (Int.tmod (IntKind.u64.wrap x0) (IntKind.u64.wrap (IntKind.i64.wrap ((text0.size : Int) + 1))))) + (IntKind.i64.wrap (Int.tmod (IntKind.u64.wrap x1) 500)))) else (text0.size : Int)).toNat) ((if (IntKind.i64.wrap ((IntKind.i64.wrap (Int.tmod (IntKind.u64.wrap x0) (IntKind.u64.wrap (IntKind.i64.wrap ((text0.size : Int) + 1))))) + (IntKind.i64.wrap (Int.tmod (IntKind.u64.wrap x1) 500)))) < (text0.size : Int) then (IntKind.i64.wrap ((IntKind.i64.wrap (Int.tmod (IntKind.u64.wrap x0) (IntKind.u64.wrap (IntKind.i64.wrap ((text0.size : Int) + 1))))) + (IntKind.i64.wrap (Int.tmod (IntKind.u64.wrap x1) 500)))) else (text0.size : Int)) == (text0.size : Int)) (fun x2 h1 =>
  (if (x2 != 0) = true then
  Kr false h1
  else
  (if (decide (i0 < (reads1 : Int))) = true then
  nilc reads0 fun a2 => (0 : Int) ≤ i0 ∧ i0 < (reads1 : Int) ∧
  ldI h1 .i64 (a2.add (i0.toNat * 1)) fun x3 =>
  100 ≠ (0 : Int) ∧
  inbox_Box_Read.c b0 (IntKind.i64.wrap (Int.tmod (IntKind.u64.wrap x3) 100)) (fun x4 h2 =>
  out0.size + x4.size ≤ 9223372036854775807 ∧
  vizardlaw11_InboxWhole.J4 text0 l0 l1 l2 reads0 reads1 reads2 b0 (out0 ++ x4) i0 (fun h3 =>
  vizardlaw11_InboxWhole.J6 text0 l0 l1 l2 reads0 reads1 reads2 b0 (out0 ++ x4) i0 (fun i1 h4 =>
  Kn (out0 ++ x4) i1 h4) E h3) Kr E h2) E h1
  else
  vizardlaw11_InboxWhole.J4 text0 l0 l1 l2 reads0 reads1 reads2 b0 out0 i0 (fun h6 =>
  vizardlaw11_InboxWhole.J6 text0 l0 l1 l2 reads0 reads1 reads2 b0 out0 i0 (fun i2 h7 =>
  Kn out0 i2 h7) E h6) Kr E h1))) E h0
structure vizardlaw11_InboxWhole.J3 (text0 : ByteArray) (l0 : Option Addr) (l1 : Nat) (l2 : Nat) (reads0 : Option Addr) (reads1 : Nat) (reads2 : Nat) (b0 : Option Addr) (out0 : ByteArray) (i0 : Int) (Kn : ByteArray → Int → Heap → Prop) (Kr : Bool → Heap → Prop) (E : Value → Heap → Prop) (H : Heap) : Prop where
  h : vizardlaw11_InboxWhole.J3.vc text0 l0 l1 l2 reads0 reads1 reads2 b0 out0 i0 Kn Kr E H
def vizardlaw11_InboxWhole.W2.vc (text0 : ByteArray) (l0 : Option Addr) (l1 : Nat) (l2 : Nat) (reads0 : Option Addr) (reads1 : Nat) (reads2 : Nat) (b0 : Option Addr) (out0 : ByteArray) (i0 : Int) (Kx0 : ByteArray → Heap → Prop) (Kr : Bool → Heap → Prop) (RR : ByteArray → Int → Heap → Prop) (E : Value → Heap → Prop) (h0 : Heap) : Prop :=
  (if (decide (i0 < (l1 : Int))) = true then
  (if (decide (i0 < 100)) = true then
  vizardlaw11_InboxWhole.J3 text0 l0 l1 l2 reads0 reads1 reads2 b0 out0 i0 RR Kr E h0
  else
  Kx0 out0 h0)
  else
  Kx0 out0 h0)
structure vizardlaw11_InboxWhole.W2 (text0 : ByteArray) (l0 : Option Addr) (l1 : Nat) (l2 : Nat) (reads0 : Option Addr) (reads1 : Nat) (reads2 : Nat) (b0 : Option Addr) (out0 : ByteArray) (i0 : Int) (Kx0 : ByteArray → Heap → Prop) (Kr : Bool → Heap → Prop) (E : Value → Heap → Prop) (H : Heap) : Prop where
  h : Loop (fun (RR : ByteArray × Int → Heap → Prop) (s : ByteArray × Int) (H : Heap) => vizardlaw11_InboxWhole.W2.vc text0 l0 l1 l2 reads0 reads1 reads2 b0 s.1 s.2 Kx0 Kr (fun out0 i0 H => RR (out0, i0) H) E H) (out0, i0) H
def vizardlaw11_InboxWhole.J1.vc (text0 : ByteArray) (l0 : Option Addr) (l1 : Nat) (l2 : Nat) (reads0 : Option Addr) (reads1 : Nat) (reads2 : Nat) (Kr : Bool → Heap → Prop) (E : Value → Heap → Prop) (h0 : Heap) : Prop :=
  inbox_New.c (fun x0 h1 =>
  vizardlaw11_InboxWhole.W2 text0 l0 l1 l2 reads0 reads1 reads2 x0 (⟨#[]⟩ : ByteArray) 0 (fun out0 h2 =>
  inbox_Box_Put.c x0 0 text0 true (fun x1 h3 =>
  (if (x1 != 0) = true then
  Kr false h3
  else
  inbox_Box_Read.c x0 (IntKind.i64.wrap ((text0.size : Int) + 1)) (fun x2 h4 =>
  out0.size + x2.size ≤ 9223372036854775807 ∧
  inbox_Box_State.c x0 (fun x3 x4 x5 h5 =>
  (if ((out0 ++ x2).toList == text0.toList) = true then
  (if (x3 == (text0.size : Int)) = true then
  (if (x5 == 1) = true then
  inbox_Box_Read.c x0 5 (fun x6 h6 =>
  Kr (x6.toList == (⟨#[]⟩ : ByteArray).toList) h6) E h5
  else
  Kr false h5)
  else
  Kr false h5)
  else
  Kr false h5)) E h4) E h3)) E h2) Kr E h1) E h0
structure vizardlaw11_InboxWhole.J1 (text0 : ByteArray) (l0 : Option Addr) (l1 : Nat) (l2 : Nat) (reads0 : Option Addr) (reads1 : Nat) (reads2 : Nat) (Kr : Bool → Heap → Prop) (E : Value → Heap → Prop) (H : Heap) : Prop where
  h : vizardlaw11_InboxWhole.J1.vc text0 l0 l1 l2 reads0 reads1 reads2 Kr E H
def vizardlaw11_InboxWhole.vc (text0 : ByteArray) (l0 : Option Addr) (l1 : Nat) (l2 : Nat) (reads0 : Option Addr) (reads1 : Nat) (reads2 : Nat) (K : Bool → Heap → Prop) (E : Value → Heap → Prop) (h0 : Heap) : Prop :=
  vizardlaw11_works.c (fun x0 h1 =>
  (if (!x0) = true then
  K false h1
  else
  (if (decide ((text0.size : Int) > 2000)) = true then
  (0 : Int) ≤ 2000 ∧ 2000 ≤ (text0.size : Int) ∧
  vizardlaw11_InboxWhole.J1 (text0.extract 0 2000) l0 l1 l2 reads0 reads1 reads2 K E h1
  else
  vizardlaw11_InboxWhole.J1 text0 l0 l1 l2 reads0 reads1 reads2 K E h1))) E h0
structure vizardlaw11_InboxWhole.c (text0 : ByteArray) (l0 : Option Addr) (l1 : Nat) (l2 : Nat) (reads0 : Option Addr) (reads1 : Nat) (reads2 : Nat) (K : Bool → Heap → Prop) (E : Value → Heap → Prop) (H : Heap) : Prop where
  h : vizardlaw11_InboxWhole.vc text0 l0 l1 l2 reads0 reads1 reads2 (fun r0_0 H => ∃ H', Heap.Le H' H ∧ K r0_0 H') E H
def vizardlaw11_InboxWhole.F : FT := fun args K E H => match args with
  | [(.string text0), (.slice l0 l1 l2), (.slice reads0 reads1 reads2)] => vizardlaw11_InboxWhole.c text0 l0 l1 l2 reads0 reads1 reads2 (fun r0_0 H => K (.bool r0_0) H) E H
  | _ => False
noncomputable def vizardlaw11_InboxWhole.Γ : FuncId → Option FT := Γof [(28, vizardlaw11_works.F), (29, inbox_New.F), (30, inbox_Box_Put.F), (31, inbox_Box_Read.F), (32, inbox_Box_State.F)]
theorem vizardlaw11_InboxWhole.hΓ : ∀ f F, vizardlaw11_InboxWhole.Γ f = some F → CalleeOk Try.prog f F := Γof_ok (List.forall_mem_cons.2 ⟨vizardlaw11_works.ok, List.forall_mem_cons.2 ⟨inbox_New.ok, List.forall_mem_cons.2 ⟨inbox_Box_Put.ok, List.forall_mem_cons.2 ⟨inbox_Box_Read.ok, List.forall_mem_cons.2 ⟨inbox_Box_State.ok, fun _ h => nomatch h⟩⟩⟩⟩⟩)
def vizardlaw11_InboxWhole.J5.t : CT := fun Q E fr H => lenIs 133 fr (slS fr 0 fun text0 => slSl fr 1 fun l0 l1 l2 => slSl fr 2 fun reads0 reads1 reads2 => slP fr 7 fun b0 => slS fr 8 fun out0 => slI fr 9 .i64 fun i0 => slB fr 97 fun x0 => vizardlaw11_InboxWhole.J5 text0 l0 l1 l2 reads0 reads1 reads2 b0 out0 i0 x0 (fun  H => Q .normal (mkF 133 [(0, (.string text0)), (1, (.slice l0 l1 l2)), (2, (.slice reads0 reads1 reads2)), (7, (.pointer b0)), (8, (.string out0)), (9, (.int .i64 i0))]) H) (fun y6_0 H => Q .ret (mkF 133 [(6, (.bool y6_0))]) H) E H)
noncomputable def vizardlaw11_InboxWhole.J5.plan : Plan := .go
theorem vizardlaw11_InboxWhole.J5.pok : PlanOk Try.prog vizardlaw11_InboxWhole.J5.plan (sub [1, 1, 1, 1, 1, 0, 1, 0, 0, 1, 0, 0, 1, 1, 1, 1, 1] vizardlaw11_InboxWhole.body) := by
  have e : PlanOk Try.prog vizardlaw11_InboxWhole.J5.plan (sub [1, 1, 1, 1, 1, 0, 1, 0, 0, 1, 0, 0, 1, 1, 1, 1, 1] vizardlaw11_InboxWhole.body) = (True) := by kernel_rfl
  exact e.mpr trivial
theorem vizardlaw11_InboxWhole.J5.eq (text0 : ByteArray) (l0 : Option Addr) (l1 : Nat) (l2 : Nat) (reads0 : Option Addr) (reads1 : Nat) (reads2 : Nat) (b0 : Option Addr) (out0 : ByteArray) (i0 : Int) (x0 : Bool) (Q : Ex → Fr → Heap → Prop) (E : Value → Heap → Prop) (H : Heap) :
    vizardlaw11_InboxWhole.J5.vc text0 l0 l1 l2 reads0 reads1 reads2 b0 out0 i0 x0 (fun  H => Q .normal (mkF 133 [(0, (.string text0)), (1, (.slice l0 l1 l2)), (2, (.slice reads0 reads1 reads2)), (7, (.pointer b0)), (8, (.string out0)), (9, (.int .i64 i0))]) H) (fun y6_0 H => Q .ret (mkF 133 [(6, (.bool y6_0))]) H) E H = keepT [0, 1, 2, 7, 8, 9] [6] (fun i => []) (wC Try.prog vizardlaw11_InboxWhole.Γ vizardlaw11_InboxWhole.J5.plan (sub [1, 1, 1, 1, 1, 0, 1, 0, 0, 1, 0, 0, 1, 1, 1, 1, 1] vizardlaw11_InboxWhole.body)) Q E (mkF 133 [(0, (.string text0)), (1, (.slice l0 l1 l2)), (2, (.slice reads0 reads1 reads2)), (7, (.pointer b0)), (8, (.string out0)), (9, (.int .i64 i0)), (97, (.bool x0))]) H := by
  kernel_rfl
theorem vizardlaw11_InboxWhole.J5.ok : SoundCode Try.prog (sub [1, 1, 1, 1, 1, 0, 1, 0, 0, 1, 0, 0, 1, 1, 1, 1, 1] vizardlaw11_InboxWhole.body) vizardlaw11_InboxWhole.J5.t := by
  refine piece_sound (keepT_sound [0, 1, 2, 7, 8, 9] [6] (fun i => []) (wC_sound vizardlaw11_InboxWhole.hΓ Try.hm vizardlaw11_InboxWhole.J5.plan _ vizardlaw11_InboxWhole.J5.pok)) ?_
  intro Q E fr H h
  unfold vizardlaw11_InboxWhole.J5.t at h
  obtain ⟨hl, h⟩ := lenIs_elim h
  obtain ⟨text0, q0, h⟩ := slS_elim h
  obtain ⟨l0, l1, l2, q1, h⟩ := slSl_elim h
  obtain ⟨reads0, reads1, reads2, q2, h⟩ := slSl_elim h
  obtain ⟨b0, q7, h⟩ := slP_elim h
  obtain ⟨out0, q8, h⟩ := slS_elim h
  obtain ⟨i0, q9, h⟩ := slI_elim h
  obtain ⟨x0, q97, h⟩ := slB_elim h
  refine ⟨(mkF 133 [(0, (.string text0)), (1, (.slice l0 l1 l2)), (2, (.slice reads0 reads1 reads2)), (7, (.pointer b0)), (8, (.string out0)), (9, (.int .i64 i0)), (97, (.bool x0))]), fun a ha => ha.mk (Nat.le_of_eq hl.symm) (List.forall_mem_cons.2 ⟨q0, List.forall_mem_cons.2 ⟨q1, List.forall_mem_cons.2 ⟨q2, List.forall_mem_cons.2 ⟨q7, List.forall_mem_cons.2 ⟨q8, List.forall_mem_cons.2 ⟨q9, List.forall_mem_cons.2 ⟨q97, fun _ h => nomatch h⟩⟩⟩⟩⟩⟩⟩), ?_⟩
  have e := vizardlaw11_InboxWhole.J5.eq text0 l0 l1 l2 reads0 reads1 reads2 b0 out0 i0 x0 Q E H
  rw [← e]
  exact h.h
def vizardlaw11_InboxWhole.J4.t : CT := fun Q E fr H => lenIs 133 fr (slS fr 0 fun text0 => slSl fr 1 fun l0 l1 l2 => slSl fr 2 fun reads0 reads1 reads2 => slP fr 7 fun b0 => slS fr 8 fun out0 => slI fr 9 .i64 fun i0 => vizardlaw11_InboxWhole.J4 text0 l0 l1 l2 reads0 reads1 reads2 b0 out0 i0 (fun  H => Q .normal (mkF 133 [(0, (.string text0)), (1, (.slice l0 l1 l2)), (2, (.slice reads0 reads1 reads2)), (7, (.pointer b0)), (8, (.string out0)), (9, (.int .i64 i0))]) H) (fun y6_0 H => Q .ret (mkF 133 [(6, (.bool y6_0))]) H) E H)
noncomputable def vizardlaw11_InboxWhole.J4.plan : Plan := .seq (.go) (.use vizardlaw11_InboxWhole.J5.t)
theorem vizardlaw11_InboxWhole.J4.pok : PlanOk Try.prog vizardlaw11_InboxWhole.J4.plan (sub [1, 1, 1, 1, 1, 0, 1, 0, 0, 1, 0, 0, 1, 1, 1, 1] vizardlaw11_InboxWhole.body) := by
  have e : PlanOk Try.prog vizardlaw11_InboxWhole.J4.plan (sub [1, 1, 1, 1, 1, 0, 1, 0, 0, 1, 0, 0, 1, 1, 1, 1] vizardlaw11_InboxWhole.body) = ((True) ∧ (SoundCode Try.prog (sub [1, 1, 1, 1, 1, 0, 1, 0, 0, 1, 0, 0, 1, 1, 1, 1, 1] vizardlaw11_InboxWhole.body) vizardlaw11_InboxWhole.J5.t)) := by kernel_rfl
  exact e.mpr ⟨trivial, vizardlaw11_InboxWhole.J5.ok⟩
theorem vizardlaw11_InboxWhole.J4.eq (text0 : ByteArray) (l0 : Option Addr) (l1 : Nat) (l2 : Nat) (reads0 : Option Addr) (reads1 : Nat) (reads2 : Nat) (b0 : Option Addr) (out0 : ByteArray) (i0 : Int) (Q : Ex → Fr → Heap → Prop) (E : Value → Heap → Prop) (H : Heap) :
    vizardlaw11_InboxWhole.J4.vc text0 l0 l1 l2 reads0 reads1 reads2 b0 out0 i0 (fun  H => Q .normal (mkF 133 [(0, (.string text0)), (1, (.slice l0 l1 l2)), (2, (.slice reads0 reads1 reads2)), (7, (.pointer b0)), (8, (.string out0)), (9, (.int .i64 i0))]) H) (fun y6_0 H => Q .ret (mkF 133 [(6, (.bool y6_0))]) H) E H = keepT [0, 1, 2, 7, 8, 9] [6] (fun i => []) (wC Try.prog vizardlaw11_InboxWhole.Γ vizardlaw11_InboxWhole.J4.plan (sub [1, 1, 1, 1, 1, 0, 1, 0, 0, 1, 0, 0, 1, 1, 1, 1] vizardlaw11_InboxWhole.body)) Q E (mkF 133 [(0, (.string text0)), (1, (.slice l0 l1 l2)), (2, (.slice reads0 reads1 reads2)), (7, (.pointer b0)), (8, (.string out0)), (9, (.int .i64 i0))]) H := by
  kernel_rfl
theorem vizardlaw11_InboxWhole.J4.ok : SoundCode Try.prog (sub [1, 1, 1, 1, 1, 0, 1, 0, 0, 1, 0, 0, 1, 1, 1, 1] vizardlaw11_InboxWhole.body) vizardlaw11_InboxWhole.J4.t := by
  refine piece_sound (keepT_sound [0, 1, 2, 7, 8, 9] [6] (fun i => []) (wC_sound vizardlaw11_InboxWhole.hΓ Try.hm vizardlaw11_InboxWhole.J4.plan _ vizardlaw11_InboxWhole.J4.pok)) ?_
  intro Q E fr H h
  unfold vizardlaw11_InboxWhole.J4.t at h
  obtain ⟨hl, h⟩ := lenIs_elim h
  obtain ⟨text0, q0, h⟩ := slS_elim h
  obtain ⟨l0, l1, l2, q1, h⟩ := slSl_elim h
  obtain ⟨reads0, reads1, reads2, q2, h⟩ := slSl_elim h
  obtain ⟨b0, q7, h⟩ := slP_elim h
  obtain ⟨out0, q8, h⟩ := slS_elim h
  obtain ⟨i0, q9, h⟩ := slI_elim h
  refine ⟨(mkF 133 [(0, (.string text0)), (1, (.slice l0 l1 l2)), (2, (.slice reads0 reads1 reads2)), (7, (.pointer b0)), (8, (.string out0)), (9, (.int .i64 i0))]), fun a ha => ha.mk (Nat.le_of_eq hl.symm) (List.forall_mem_cons.2 ⟨q0, List.forall_mem_cons.2 ⟨q1, List.forall_mem_cons.2 ⟨q2, List.forall_mem_cons.2 ⟨q7, List.forall_mem_cons.2 ⟨q8, List.forall_mem_cons.2 ⟨q9, fun _ h => nomatch h⟩⟩⟩⟩⟩⟩), ?_⟩
  have e := vizardlaw11_InboxWhole.J4.eq text0 l0 l1 l2 reads0 reads1 reads2 b0 out0 i0 Q E H
  rw [← e]
  exact h.h
def vizardlaw11_InboxWhole.J6.t : CT := fun Q E fr H => lenIs 133 fr (slS fr 0 fun text0 => slSl fr 1 fun l0 l1 l2 => slSl fr 2 fun reads0 reads1 reads2 => slP fr 7 fun b0 => slS fr 8 fun out0 => slI fr 9 .i64 fun i0 => vizardlaw11_InboxWhole.J6 text0 l0 l1 l2 reads0 reads1 reads2 b0 out0 i0 (fun y9_0 H => Q .normal (mkF 133 [(0, (.string text0)), (1, (.slice l0 l1 l2)), (2, (.slice reads0 reads1 reads2)), (7, (.pointer b0)), (8, (.string out0)), (9, (.int .i64 y9_0))]) H) E H)
noncomputable def vizardlaw11_InboxWhole.J6.plan : Plan := .go
theorem vizardlaw11_InboxWhole.J6.pok : PlanOk Try.prog vizardlaw11_InboxWhole.J6.plan (sub [1, 1, 1, 1, 1, 0, 1, 0, 0, 1, 1] vizardlaw11_InboxWhole.body) := by
  have e : PlanOk Try.prog vizardlaw11_InboxWhole.J6.plan (sub [1, 1, 1, 1, 1, 0, 1, 0, 0, 1, 1] vizardlaw11_InboxWhole.body) = (True) := by kernel_rfl
  exact e.mpr trivial
theorem vizardlaw11_InboxWhole.J6.eq (text0 : ByteArray) (l0 : Option Addr) (l1 : Nat) (l2 : Nat) (reads0 : Option Addr) (reads1 : Nat) (reads2 : Nat) (b0 : Option Addr) (out0 : ByteArray) (i0 : Int) (Q : Ex → Fr → Heap → Prop) (E : Value → Heap → Prop) (H : Heap) :
    vizardlaw11_InboxWhole.J6.vc text0 l0 l1 l2 reads0 reads1 reads2 b0 out0 i0 (fun y9_0 H => Q .normal (mkF 133 [(0, (.string text0)), (1, (.slice l0 l1 l2)), (2, (.slice reads0 reads1 reads2)), (7, (.pointer b0)), (8, (.string out0)), (9, (.int .i64 y9_0))]) H) E H = keepT [0, 1, 2, 7, 8, 9] [] (fun i => []) (wC Try.prog vizardlaw11_InboxWhole.Γ vizardlaw11_InboxWhole.J6.plan (sub [1, 1, 1, 1, 1, 0, 1, 0, 0, 1, 1] vizardlaw11_InboxWhole.body)) Q E (mkF 133 [(0, (.string text0)), (1, (.slice l0 l1 l2)), (2, (.slice reads0 reads1 reads2)), (7, (.pointer b0)), (8, (.string out0)), (9, (.int .i64 i0))]) H := by
  kernel_rfl
theorem vizardlaw11_InboxWhole.J6.ok : SoundCode Try.prog (sub [1, 1, 1, 1, 1, 0, 1, 0, 0, 1, 1] vizardlaw11_InboxWhole.body) vizardlaw11_InboxWhole.J6.t := by
  refine piece_sound (keepT_sound [0, 1, 2, 7, 8, 9] [] (fun i => []) (wC_sound vizardlaw11_InboxWhole.hΓ Try.hm vizardlaw11_InboxWhole.J6.plan _ vizardlaw11_InboxWhole.J6.pok)) ?_
  intro Q E fr H h
  unfold vizardlaw11_InboxWhole.J6.t at h
  obtain ⟨hl, h⟩ := lenIs_elim h
  obtain ⟨text0, q0, h⟩ := slS_elim h
  obtain ⟨l0, l1, l2, q1, h⟩ := slSl_elim h
  obtain ⟨reads0, reads1, reads2, q2, h⟩ := slSl_elim h
  obtain ⟨b0, q7, h⟩ := slP_elim h
  obtain ⟨out0, q8, h⟩ := slS_elim h
  obtain ⟨i0, q9, h⟩ := slI_elim h
  refine ⟨(mkF 133 [(0, (.string text0)), (1, (.slice l0 l1 l2)), (2, (.slice reads0 reads1 reads2)), (7, (.pointer b0)), (8, (.string out0)), (9, (.int .i64 i0))]), fun a ha => ha.mk (Nat.le_of_eq hl.symm) (List.forall_mem_cons.2 ⟨q0, List.forall_mem_cons.2 ⟨q1, List.forall_mem_cons.2 ⟨q2, List.forall_mem_cons.2 ⟨q7, List.forall_mem_cons.2 ⟨q8, List.forall_mem_cons.2 ⟨q9, fun _ h => nomatch h⟩⟩⟩⟩⟩⟩), ?_⟩
  have e := vizardlaw11_InboxWhole.J6.eq text0 l0 l1 l2 reads0 reads1 reads2 b0 out0 i0 Q E H
  rw [← e]
  exact h.h
def vizardlaw11_InboxWhole.J3.t : CT := fun Q E fr H => lenIs 133 fr (slS fr 0 fun text0 => slSl fr 1 fun l0 l1 l2 => slSl fr 2 fun reads0 reads1 reads2 => slP fr 7 fun b0 => slS fr 8 fun out0 => slI fr 9 .i64 fun i0 => vizardlaw11_InboxWhole.J3 text0 l0 l1 l2 reads0 reads1 reads2 b0 out0 i0 (fun y8_0 y9_0 H => Q .normal (mkF 133 [(0, (.string text0)), (1, (.slice l0 l1 l2)), (2, (.slice reads0 reads1 reads2)), (7, (.pointer b0)), (8, (.string y8_0)), (9, (.int .i64 y9_0))]) H) (fun y6_0 H => Q .ret (mkF 133 [(6, (.bool y6_0))]) H) E H)
noncomputable def vizardlaw11_InboxWhole.J3.plan : Plan := .seq (.block (.seq (.go) (.seq (.go) (.seq (.go) (.seq (.go) (.use vizardlaw11_InboxWhole.J4.t)))))) (.use vizardlaw11_InboxWhole.J6.t)
theorem vizardlaw11_InboxWhole.J3.pok : PlanOk Try.prog vizardlaw11_InboxWhole.J3.plan (sub [1, 1, 1, 1, 1, 0, 1, 0, 0, 1] vizardlaw11_InboxWhole.body) := by
  have e : PlanOk Try.prog vizardlaw11_InboxWhole.J3.plan (sub [1, 1, 1, 1, 1, 0, 1, 0, 0, 1] vizardlaw11_InboxWhole.body) = (((True) ∧ ((True) ∧ ((True) ∧ ((True) ∧ (SoundCode Try.prog (sub [1, 1, 1, 1, 1, 0, 1, 0, 0, 1, 0, 0, 1, 1, 1, 1] vizardlaw11_InboxWhole.body) vizardlaw11_InboxWhole.J4.t))))) ∧ (SoundCode Try.prog (sub [1, 1, 1, 1, 1, 0, 1, 0, 0, 1, 1] vizardlaw11_InboxWhole.body) vizardlaw11_InboxWhole.J6.t)) := by kernel_rfl
  exact e.mpr ⟨⟨trivial, ⟨trivial, ⟨trivial, ⟨trivial, vizardlaw11_InboxWhole.J4.ok⟩⟩⟩⟩, vizardlaw11_InboxWhole.J6.ok⟩
theorem vizardlaw11_InboxWhole.J3.eq (text0 : ByteArray) (l0 : Option Addr) (l1 : Nat) (l2 : Nat) (reads0 : Option Addr) (reads1 : Nat) (reads2 : Nat) (b0 : Option Addr) (out0 : ByteArray) (i0 : Int) (Q : Ex → Fr → Heap → Prop) (E : Value → Heap → Prop) (H : Heap) :
    vizardlaw11_InboxWhole.J3.vc text0 l0 l1 l2 reads0 reads1 reads2 b0 out0 i0 (fun y8_0 y9_0 H => Q .normal (mkF 133 [(0, (.string text0)), (1, (.slice l0 l1 l2)), (2, (.slice reads0 reads1 reads2)), (7, (.pointer b0)), (8, (.string y8_0)), (9, (.int .i64 y9_0))]) H) (fun y6_0 H => Q .ret (mkF 133 [(6, (.bool y6_0))]) H) E H = keepT [0, 1, 2, 7, 8, 9] [6] (fun i => []) (wC Try.prog vizardlaw11_InboxWhole.Γ vizardlaw11_InboxWhole.J3.plan (sub [1, 1, 1, 1, 1, 0, 1, 0, 0, 1] vizardlaw11_InboxWhole.body)) Q E (mkF 133 [(0, (.string text0)), (1, (.slice l0 l1 l2)), (2, (.slice reads0 reads1 reads2)), (7, (.pointer b0)), (8, (.string out0)), (9, (.int .i64 i0))]) H := by
  kernel_rfl
theorem vizardlaw11_InboxWhole.J3.ok : SoundCode Try.prog (sub [1, 1, 1, 1, 1, 0, 1, 0, 0, 1] vizardlaw11_InboxWhole.body) vizardlaw11_InboxWhole.J3.t := by
  refine piece_sound (keepT_sound [0, 1, 2, 7, 8, 9] [6] (fun i => []) (wC_sound vizardlaw11_InboxWhole.hΓ Try.hm vizardlaw11_InboxWhole.J3.plan _ vizardlaw11_InboxWhole.J3.pok)) ?_
  intro Q E fr H h
  unfold vizardlaw11_InboxWhole.J3.t at h
  obtain ⟨hl, h⟩ := lenIs_elim h
  obtain ⟨text0, q0, h⟩ := slS_elim h
  obtain ⟨l0, l1, l2, q1, h⟩ := slSl_elim h
  obtain ⟨reads0, reads1, reads2, q2, h⟩ := slSl_elim h
  obtain ⟨b0, q7, h⟩ := slP_elim h
  obtain ⟨out0, q8, h⟩ := slS_elim h
  obtain ⟨i0, q9, h⟩ := slI_elim h
  refine ⟨(mkF 133 [(0, (.string text0)), (1, (.slice l0 l1 l2)), (2, (.slice reads0 reads1 reads2)), (7, (.pointer b0)), (8, (.string out0)), (9, (.int .i64 i0))]), fun a ha => ha.mk (Nat.le_of_eq hl.symm) (List.forall_mem_cons.2 ⟨q0, List.forall_mem_cons.2 ⟨q1, List.forall_mem_cons.2 ⟨q2, List.forall_mem_cons.2 ⟨q7, List.forall_mem_cons.2 ⟨q8, List.forall_mem_cons.2 ⟨q9, fun _ h => nomatch h⟩⟩⟩⟩⟩⟩), ?_⟩
  have e := vizardlaw11_InboxWhole.J3.eq text0 l0 l1 l2 reads0 reads1 reads2 b0 out0 i0 Q E H
  rw [← e]
  exact h.h
def vizardlaw11_InboxWhole.W2.t : CT := fun Q E fr H => lenIs 133 fr (slS fr 0 fun text0 => slSl fr 1 fun l0 l1 l2 => slSl fr 2 fun reads0 reads1 reads2 => slP fr 7 fun b0 => slS fr 8 fun out0 => slI fr 9 .i64 fun i0 => vizardlaw11_InboxWhole.W2 text0 l0 l1 l2 reads0 reads1 reads2 b0 out0 i0 (fun y8_0 H => Q (.exit 0) (mkF 133 [(0, (.string text0)), (7, (.pointer b0)), (8, (.string y8_0))]) H) (fun y6_0 H => Q .ret (mkF 133 [(6, (.bool y6_0))]) H) E H)
noncomputable def vizardlaw11_InboxWhole.W2.plan : Plan := .seq (.go) (.use vizardlaw11_InboxWhole.J3.t)
theorem vizardlaw11_InboxWhole.W2.pok : PlanOk Try.prog vizardlaw11_InboxWhole.W2.plan (sub [1, 1, 1, 1, 1, 0, 1, 0, 0] vizardlaw11_InboxWhole.body) := by
  have e : PlanOk Try.prog vizardlaw11_InboxWhole.W2.plan (sub [1, 1, 1, 1, 1, 0, 1, 0, 0] vizardlaw11_InboxWhole.body) = ((True) ∧ (SoundCode Try.prog (sub [1, 1, 1, 1, 1, 0, 1, 0, 0, 1] vizardlaw11_InboxWhole.body) vizardlaw11_InboxWhole.J3.t)) := by kernel_rfl
  exact e.mpr ⟨trivial, vizardlaw11_InboxWhole.J3.ok⟩
theorem vizardlaw11_InboxWhole.W2.eq (text0 : ByteArray) (l0 : Option Addr) (l1 : Nat) (l2 : Nat) (reads0 : Option Addr) (reads1 : Nat) (reads2 : Nat) (b0 : Option Addr) (Q : Ex → Fr → Heap → Prop) (E : Value → Heap → Prop) (RR : Fr → Heap → Prop) (s : ByteArray × Int) (H : Heap) :
    (fun (RR : ByteArray × Int → Heap → Prop) (s : ByteArray × Int) (H : Heap) => vizardlaw11_InboxWhole.W2.vc text0 l0 l1 l2 reads0 reads1 reads2 b0 s.1 s.2 (fun y8_0 H => Q (.exit 0) (mkF 133 [(0, (.string text0)), (7, (.pointer b0)), (8, (.string y8_0))]) H) (fun y6_0 H => Q .ret (mkF 133 [(6, (.bool y6_0))]) H) (fun out0 i0 H => RR (out0, i0) H) E H) (fun s' H' => RR ((fun (s : ByteArray × Int) => (mkF 133 [(0, (.string text0)), (1, (.slice l0 l1 l2)), (2, (.slice reads0 reads1 reads2)), (7, (.pointer b0)), (8, (.string s.1)), (9, (.int .i64 s.2))])) s') H') s H = keepT [0, 1, 2, 7, 8, 9] [6] (fun i => if i = 0 then [0, 7, 8] else []) (wC Try.prog vizardlaw11_InboxWhole.Γ vizardlaw11_InboxWhole.W2.plan (sub [1, 1, 1, 1, 1, 0, 1, 0, 0] vizardlaw11_InboxWhole.body)) (fun e fr' H' => match e with | .normal => RR fr' H' | .exit id => Q (.exit id) fr' H' | .ret => Q .ret fr' H') E ((fun (s : ByteArray × Int) => (mkF 133 [(0, (.string text0)), (1, (.slice l0 l1 l2)), (2, (.slice reads0 reads1 reads2)), (7, (.pointer b0)), (8, (.string s.1)), (9, (.int .i64 s.2))])) s) H := by
  kernel_rfl
theorem vizardlaw11_InboxWhole.W2.ok : SoundCode Try.prog (sub [1, 1, 1, 1, 1, 0, 1, 0] vizardlaw11_InboxWhole.body) vizardlaw11_InboxWhole.W2.t := by
  have e : (sub [1, 1, 1, 1, 1, 0, 1, 0] vizardlaw11_InboxWhole.body) = .loop (sub [1, 1, 1, 1, 1, 0, 1, 0, 0] vizardlaw11_InboxWhole.body) := by kernel_rfl
  rw [e]
  refine piece_sound (loopN_sound (keepT_sound [0, 1, 2, 7, 8, 9] [6] (fun i => if i = 0 then [0, 7, 8] else []) (wC_sound vizardlaw11_InboxWhole.hΓ Try.hm vizardlaw11_InboxWhole.W2.plan _ vizardlaw11_InboxWhole.W2.pok))) ?_
  intro Q E fr H h
  unfold vizardlaw11_InboxWhole.W2.t at h
  obtain ⟨hl, h⟩ := lenIs_elim h
  obtain ⟨text0, q0, h⟩ := slS_elim h
  obtain ⟨l0, l1, l2, q1, h⟩ := slSl_elim h
  obtain ⟨reads0, reads1, reads2, q2, h⟩ := slSl_elim h
  obtain ⟨b0, q7, h⟩ := slP_elim h
  obtain ⟨out0, q8, h⟩ := slS_elim h
  obtain ⟨i0, q9, h⟩ := slI_elim h
  obtain ⟨m, h⟩ := h.h
  refine ⟨(mkF 133 [(0, (.string text0)), (1, (.slice l0 l1 l2)), (2, (.slice reads0 reads1 reads2)), (7, (.pointer b0)), (8, (.string out0)), (9, (.int .i64 i0))]), fun a ha => ha.mk (Nat.le_of_eq hl.symm) (List.forall_mem_cons.2 ⟨q0, List.forall_mem_cons.2 ⟨q1, List.forall_mem_cons.2 ⟨q2, List.forall_mem_cons.2 ⟨q7, List.forall_mem_cons.2 ⟨q8, List.forall_mem_cons.2 ⟨q9, fun _ h => nomatch h⟩⟩⟩⟩⟩⟩), m, ?_⟩
  have e := loopS_eq (B := (fun (RR : ByteArray × Int → Heap → Prop) (s : ByteArray × Int) (H : Heap) => vizardlaw11_InboxWhole.W2.vc text0 l0 l1 l2 reads0 reads1 reads2 b0 s.1 s.2 (fun y8_0 H => Q (.exit 0) (mkF 133 [(0, (.string text0)), (7, (.pointer b0)), (8, (.string y8_0))]) H) (fun y6_0 H => Q .ret (mkF 133 [(6, (.bool y6_0))]) H) (fun out0 i0 H => RR (out0, i0) H) E H)) (A := keepT [0, 1, 2, 7, 8, 9] [6] (fun i => if i = 0 then [0, 7, 8] else []) (wC Try.prog vizardlaw11_InboxWhole.Γ vizardlaw11_InboxWhole.W2.plan (sub [1, 1, 1, 1, 1, 0, 1, 0, 0] vizardlaw11_InboxWhole.body))) (m := (fun (s : ByteArray × Int) => (mkF 133 [(0, (.string text0)), (1, (.slice l0 l1 l2)), (2, (.slice reads0 reads1 reads2)), (7, (.pointer b0)), (8, (.string s.1)), (9, (.int .i64 s.2))]))) (Q := Q) (E := E) (fun RR s H => vizardlaw11_InboxWhole.W2.eq text0 l0 l1 l2 reads0 reads1 reads2 b0 Q E RR s H) m (out0, i0) H
  exact cast e h
def vizardlaw11_InboxWhole.J1.t : CT := fun Q E fr H => lenIs 133 fr (slS fr 0 fun text0 => slSl fr 1 fun l0 l1 l2 => slSl fr 2 fun reads0 reads1 reads2 => vizardlaw11_InboxWhole.J1 text0 l0 l1 l2 reads0 reads1 reads2 (fun y6_0 H => Q .ret (mkF 133 [(6, (.bool y6_0))]) H) E H)
noncomputable def vizardlaw11_InboxWhole.J1.plan : Plan := .seq (.go) (.seq (.go) (.seq (.seq (.go) (.block (.use vizardlaw11_InboxWhole.W2.t))) (.go)))
theorem vizardlaw11_InboxWhole.J1.pok : PlanOk Try.prog vizardlaw11_InboxWhole.J1.plan (sub [1, 1, 1] vizardlaw11_InboxWhole.body) := by
  have e : PlanOk Try.prog vizardlaw11_InboxWhole.J1.plan (sub [1, 1, 1] vizardlaw11_InboxWhole.body) = ((True) ∧ ((True) ∧ (((True) ∧ (SoundCode Try.prog (sub [1, 1, 1, 1, 1, 0, 1, 0] vizardlaw11_InboxWhole.body) vizardlaw11_InboxWhole.W2.t)) ∧ (True)))) := by kernel_rfl
  exact e.mpr ⟨trivial, ⟨trivial, ⟨⟨trivial, vizardlaw11_InboxWhole.W2.ok⟩, trivial⟩⟩⟩
theorem vizardlaw11_InboxWhole.J1.eq (text0 : ByteArray) (l0 : Option Addr) (l1 : Nat) (l2 : Nat) (reads0 : Option Addr) (reads1 : Nat) (reads2 : Nat) (Q : Ex → Fr → Heap → Prop) (E : Value → Heap → Prop) (H : Heap) :
    vizardlaw11_InboxWhole.J1.vc text0 l0 l1 l2 reads0 reads1 reads2 (fun y6_0 H => Q .ret (mkF 133 [(6, (.bool y6_0))]) H) E H = keepT [] [6] (fun i => []) (wC Try.prog vizardlaw11_InboxWhole.Γ vizardlaw11_InboxWhole.J1.plan (sub [1, 1, 1] vizardlaw11_InboxWhole.body)) Q E (mkF 133 [(0, (.string text0)), (1, (.slice l0 l1 l2)), (2, (.slice reads0 reads1 reads2))]) H := by
  kernel_rfl
theorem vizardlaw11_InboxWhole.J1.ok : SoundCode Try.prog (sub [1, 1, 1] vizardlaw11_InboxWhole.body) vizardlaw11_InboxWhole.J1.t := by
  refine piece_sound (keepT_sound [] [6] (fun i => []) (wC_sound vizardlaw11_InboxWhole.hΓ Try.hm vizardlaw11_InboxWhole.J1.plan _ vizardlaw11_InboxWhole.J1.pok)) ?_
  intro Q E fr H h
  unfold vizardlaw11_InboxWhole.J1.t at h
  obtain ⟨hl, h⟩ := lenIs_elim h
  obtain ⟨text0, q0, h⟩ := slS_elim h
  obtain ⟨l0, l1, l2, q1, h⟩ := slSl_elim h
  obtain ⟨reads0, reads1, reads2, q2, h⟩ := slSl_elim h
  refine ⟨(mkF 133 [(0, (.string text0)), (1, (.slice l0 l1 l2)), (2, (.slice reads0 reads1 reads2))]), fun a ha => ha.mk (Nat.le_of_eq hl.symm) (List.forall_mem_cons.2 ⟨q0, List.forall_mem_cons.2 ⟨q1, List.forall_mem_cons.2 ⟨q2, fun _ h => nomatch h⟩⟩⟩), ?_⟩
  have e := vizardlaw11_InboxWhole.J1.eq text0 l0 l1 l2 reads0 reads1 reads2 Q E H
  rw [← e]
  exact h.h
noncomputable def vizardlaw11_InboxWhole.plan : Plan := .seq (.go) (.seq (.go) (.seq (.go) (.use vizardlaw11_InboxWhole.J1.t)))
theorem vizardlaw11_InboxWhole.pok : PlanOk Try.prog vizardlaw11_InboxWhole.plan vizardlaw11_InboxWhole.body := by
  have e : PlanOk Try.prog vizardlaw11_InboxWhole.plan vizardlaw11_InboxWhole.body = ((True) ∧ ((True) ∧ ((True) ∧ (SoundCode Try.prog (sub [1, 1, 1] vizardlaw11_InboxWhole.body) vizardlaw11_InboxWhole.J1.t)))) := by kernel_rfl
  exact e.mpr ⟨trivial, ⟨trivial, ⟨trivial, vizardlaw11_InboxWhole.J1.ok⟩⟩⟩
theorem vizardlaw11_InboxWhole.eq (text0 : ByteArray) (l0 : Option Addr) (l1 : Nat) (l2 : Nat) (reads0 : Option Addr) (reads1 : Nat) (reads2 : Nat) (K : Value → Heap → Prop) (E : Value → Heap → Prop) (H : Heap) :
    fnT Try.prog Try.f7 (wC Try.prog vizardlaw11_InboxWhole.Γ vizardlaw11_InboxWhole.plan vizardlaw11_InboxWhole.body) [(.string text0), (.slice l0 l1 l2), (.slice reads0 reads1 reads2)] K E H = vizardlaw11_InboxWhole.vc text0 l0 l1 l2 reads0 reads1 reads2 (fun r0_0 H => K (.bool r0_0) H) E H := by
  kernel_rfl
theorem vizardlaw11_InboxWhole.Fe {args : List Value} {K E : Value → Heap → Prop} {H : Heap} (h : vizardlaw11_InboxWhole.F args K E H) : ∃ text0 l0 l1 l2 reads0 reads1 reads2, args = [(.string text0), (.slice l0 l1 l2), (.slice reads0 reads1 reads2)] ∧ vizardlaw11_InboxWhole.c text0 l0 l1 l2 reads0 reads1 reads2 (fun r0_0 H => K (.bool r0_0) H) E H := by
  unfold vizardlaw11_InboxWhole.F at h
  split at h
  · exact ⟨_, _, _, _, _, _, _, rfl, h⟩
  · exact h.elim
theorem vizardlaw11_InboxWhole.ok : CalleeOk Try.prog 7 vizardlaw11_InboxWhole.F :=
  callee_ok vizardlaw11_InboxWhole.hΓ (fn := Try.f7) (c := vizardlaw11_InboxWhole.body) (T := wC Try.prog vizardlaw11_InboxWhole.Γ vizardlaw11_InboxWhole.plan vizardlaw11_InboxWhole.body) (by kernel_rfl) (by kernel_rfl) (by kernel_rfl) (wC_sound vizardlaw11_InboxWhole.hΓ Try.hm vizardlaw11_InboxWhole.plan _ vizardlaw11_InboxWhole.pok) fun _ K E H h => by
    obtain ⟨z0, z1, z2, z3, z4, z5, z6, e, h⟩ := vizardlaw11_InboxWhole.Fe h
    subst e
    have h2 : vizardlaw11_InboxWhole.vc z0 z1 z2 z3 z4 z5 z6 (fun r0_0 H => ∃ H', Heap.Le H' H ∧ K (.bool r0_0) H') E H := h.h
    rw [vizardlaw11_InboxWhole.eq z0 z1 z2 z3 z4 z5 z6 (Fg K) E H]
    exact h2

/-! vizard/vizardlaw11.InboxFlow -/
noncomputable def vizardlaw11_InboxFlow.body : Code := Try.f8.body.getD .skip
def vizardlaw11_InboxFlow.J3.vc (reads0 : Option Addr) (reads1 : Nat) (reads2 : Nat) (b0 : Option Addr) (i0 : Int) (limit0 : Int) (x0 : Bool) (Kn : Heap → Prop) (Kr : Bool → Heap → Prop) (E : Value → Heap → Prop) (h0 : Heap) : Prop :=
  (if x0 = true then
  Kr false h0
  else
  Kn h0)
structure vizardlaw11_InboxFlow.J3 (reads0 : Option Addr) (reads1 : Nat) (reads2 : Nat) (b0 : Option Addr) (i0 : Int) (limit0 : Int) (x0 : Bool) (Kn : Heap → Prop) (Kr : Bool → Heap → Prop) (E : Value → Heap → Prop) (H : Heap) : Prop where
  h : vizardlaw11_InboxFlow.J3.vc reads0 reads1 reads2 b0 i0 limit0 x0 Kn Kr E H
def vizardlaw11_InboxFlow.J4.vc (reads0 : Option Addr) (reads1 : Nat) (reads2 : Nat) (b0 : Option Addr) (i0 : Int) (limit0 : Int) (Kn : Int → Heap → Prop) (Kr : Bool → Heap → Prop) (E : Value → Heap → Prop) (h0 : Heap) : Prop :=
  nilc reads0 fun a0 => (0 : Int) ≤ i0 ∧ i0 < (reads1 : Int) ∧
  ldI h0 .i64 (a0.add (i0.toNat * 1)) fun x0 =>
  4097 ≠ (0 : Int) ∧
  inbox_Box_Read.c b0 (IntKind.i64.wrap (Int.tmod (IntKind.u64.wrap x0) 4097)) (fun x1 h1 =>
  (if ((x1.size : Int) != (IntKind.i64.wrap (Int.tmod (IntKind.u64.wrap x0) 4097))) = true then
  Kr false h1
  else
  Kn limit0 h1)) E h0
structure vizardlaw11_InboxFlow.J4 (reads0 : Option Addr) (reads1 : Nat) (reads2 : Nat) (b0 : Option Addr) (i0 : Int) (limit0 : Int) (Kn : Int → Heap → Prop) (Kr : Bool → Heap → Prop) (E : Value → Heap → Prop) (H : Heap) : Prop where
  h : vizardlaw11_InboxFlow.J4.vc reads0 reads1 reads2 b0 i0 limit0 Kn Kr E H
def vizardlaw11_InboxFlow.J5.vc (reads0 : Option Addr) (reads1 : Nat) (reads2 : Nat) (b0 : Option Addr) (at0 : Int) (i0 : Int) (Kn : Int → Heap → Prop) (E : Value → Heap → Prop) (h0 : Heap) : Prop :=
  Kn (IntKind.i64.wrap (i0 + 1)) h0
structure vizardlaw11_InboxFlow.J5 (reads0 : Option Addr) (reads1 : Nat) (reads2 : Nat) (b0 : Option Addr) (at0 : Int) (i0 : Int) (Kn : Int → Heap → Prop) (E : Value → Heap → Prop) (H : Heap) : Prop where
  h : vizardlaw11_InboxFlow.J5.vc reads0 reads1 reads2 b0 at0 i0 Kn E H
def vizardlaw11_InboxFlow.J2.vc (reads0 : Option Addr) (reads1 : Nat) (reads2 : Nat) (b0 : Option Addr) (at0 : Int) (i0 : Int) (Kn : Int → Int → Heap → Prop) (Kr : Bool → Heap → Prop) (E : Value → Heap → Prop) (h0 : Heap) : Prop :=
  inbox_Box_State.c b0 (fun x0 x1 x2 h1 =>
  (if (x1 != (IntKind.i64.wrap (x0 + 4096))) = true then
  vizardlaw11_InboxFlow.J3 reads0 reads1 reads2 b0 i0 x1 true (fun h2 =>
  vizardlaw11_InboxFlow.J4 reads0 reads1 reads2 b0 i0 x1 (fun at1 h3 =>
  vizardlaw11_InboxFlow.J5 reads0 reads1 reads2 b0 at1 i0 (fun i1 h4 =>
  Kn at1 i1 h4) E h3) Kr E h2) Kr E h1
  else
  (if (decide (x1 < at0)) = true then
  vizardlaw11_InboxFlow.J3 reads0 reads1 reads2 b0 i0 x1 true (fun h7 =>
  vizardlaw11_InboxFlow.J4 reads0 reads1 reads2 b0 i0 x1 (fun at2 h8 =>
  vizardlaw11_InboxFlow.J5 reads0 reads1 reads2 b0 at2 i0 (fun i2 h9 =>
  Kn at2 i2 h9) E h8) Kr E h7) Kr E h1
  else
  (if (decide (x1 > (IntKind.i64.wrap (at0 + 4096)))) = true then
  vizardlaw11_InboxFlow.J3 reads0 reads1 reads2 b0 i0 x1 true (fun h12 =>
  vizardlaw11_InboxFlow.J4 reads0 reads1 reads2 b0 i0 x1 (fun at3 h13 =>
  vizardlaw11_InboxFlow.J5 reads0 reads1 reads2 b0 at3 i0 (fun i3 h14 =>
  Kn at3 i3 h14) E h13) Kr E h12) Kr E h1
  else
  inbox_Box_Put.c b0 x1 (⟨#[120]⟩ : ByteArray) false (fun x9 h17 =>
  (if (x9 != 12) = true then
  vizardlaw11_InboxFlow.J3 reads0 reads1 reads2 b0 i0 x1 true (fun h18 =>
  vizardlaw11_InboxFlow.J4 reads0 reads1 reads2 b0 i0 x1 (fun at4 h19 =>
  vizardlaw11_InboxFlow.J5 reads0 reads1 reads2 b0 at4 i0 (fun i4 h20 =>
  Kn at4 i4 h20) E h19) Kr E h18) Kr E h17
  else
  (0 : Int) ≤ (IntKind.i64.wrap (x1 - at0)) ∧ ((IntKind.i64.wrap (x1 - at0)) : Int) ≤ (IntKind.i64.wrap (x1 - at0)) ∧ ((IntKind.i64.wrap (x1 - at0)) : Int) ≤ 9223372036854775807 ∧ ((IntKind.i64.wrap (x1 - at0)) : Int) * 1 ≤ 281474976710656 ∧ newB (.cells (zerosOf (.int .u8 0) (IntKind.i64.wrap (x1 - at0)).toNat).toArray 5) (fun b1 h23 =>
  rdBytes h23 (some (⟨b1, 0, none⟩ : Addr)) (IntKind.i64.wrap (x1 - at0)).toNat fun x12 =>
  inbox_Box_Put.c b0 at0 x12 false (fun x13 h24 =>
  vizardlaw11_InboxFlow.J3 reads0 reads1 reads2 b0 i0 x1 (x13 != 0) (fun h25 =>
  vizardlaw11_InboxFlow.J4 reads0 reads1 reads2 b0 i0 x1 (fun at5 h26 =>
  vizardlaw11_InboxFlow.J5 reads0 reads1 reads2 b0 at5 i0 (fun i5 h27 =>
  Kn at5 i5 h27) E h26) Kr E h25) Kr E h24) E h23) h17)) E h1)))) E h0
structure vizardlaw11_InboxFlow.J2 (reads0 : Option Addr) (reads1 : Nat) (reads2 : Nat) (b0 : Option Addr) (at0 : Int) (i0 : Int) (Kn : Int → Int → Heap → Prop) (Kr : Bool → Heap → Prop) (E : Value → Heap → Prop) (H : Heap) : Prop where
  h : vizardlaw11_InboxFlow.J2.vc reads0 reads1 reads2 b0 at0 i0 Kn Kr E H
def vizardlaw11_InboxFlow.W1.vc (reads0 : Option Addr) (reads1 : Nat) (reads2 : Nat) (b0 : Option Addr) (at0 : Int) (i0 : Int) (Kx0 : Heap → Prop) (Kr : Bool → Heap → Prop) (RR : Int → Int → Heap → Prop) (E : Value → Heap → Prop) (h0 : Heap) : Prop :=
  (if (decide (i0 < (reads1 : Int))) = true then
  (if (decide (i0 < 12)) = true then
  vizardlaw11_InboxFlow.J2 reads0 reads1 reads2 b0 at0 i0 RR Kr E h0
  else
  Kx0 h0)
  else
  Kx0 h0)
structure vizardlaw11_InboxFlow.W1 (reads0 : Option Addr) (reads1 : Nat) (reads2 : Nat) (b0 : Option Addr) (at0 : Int) (i0 : Int) (Kx0 : Heap → Prop) (Kr : Bool → Heap → Prop) (E : Value → Heap → Prop) (H : Heap) : Prop where
  h : Loop (fun (RR : Int × Int → Heap → Prop) (s : Int × Int) (H : Heap) => vizardlaw11_InboxFlow.W1.vc reads0 reads1 reads2 b0 s.1 s.2 Kx0 Kr (fun at0 i0 H => RR (at0, i0) H) E H) (at0, i0) H
def vizardlaw11_InboxFlow.vc (reads0 : Option Addr) (reads1 : Nat) (reads2 : Nat) (K : Bool → Heap → Prop) (E : Value → Heap → Prop) (h0 : Heap) : Prop :=
  vizardlaw11_works.c (fun x0 h1 =>
  (if (!x0) = true then
  K false h1
  else
  inbox_New.c (fun x1 h2 =>
  vizardlaw11_InboxFlow.W1 reads0 reads1 reads2 x1 0 0 (fun h3 =>
  K true h3) K E h2) E h1)) E h0
structure vizardlaw11_InboxFlow.c (reads0 : Option Addr) (reads1 : Nat) (reads2 : Nat) (K : Bool → Heap → Prop) (E : Value → Heap → Prop) (H : Heap) : Prop where
  h : vizardlaw11_InboxFlow.vc reads0 reads1 reads2 (fun r0_0 H => ∃ H', Heap.Le H' H ∧ K r0_0 H') E H
def vizardlaw11_InboxFlow.F : FT := fun args K E H => match args with
  | [(.slice reads0 reads1 reads2)] => vizardlaw11_InboxFlow.c reads0 reads1 reads2 (fun r0_0 H => K (.bool r0_0) H) E H
  | _ => False
noncomputable def vizardlaw11_InboxFlow.Γ : FuncId → Option FT := Γof [(28, vizardlaw11_works.F), (29, inbox_New.F), (30, inbox_Box_Put.F), (31, inbox_Box_Read.F), (32, inbox_Box_State.F)]
theorem vizardlaw11_InboxFlow.hΓ : ∀ f F, vizardlaw11_InboxFlow.Γ f = some F → CalleeOk Try.prog f F := Γof_ok (List.forall_mem_cons.2 ⟨vizardlaw11_works.ok, List.forall_mem_cons.2 ⟨inbox_New.ok, List.forall_mem_cons.2 ⟨inbox_Box_Put.ok, List.forall_mem_cons.2 ⟨inbox_Box_Read.ok, List.forall_mem_cons.2 ⟨inbox_Box_State.ok, fun _ h => nomatch h⟩⟩⟩⟩⟩)
def vizardlaw11_InboxFlow.J3.t : CT := fun Q E fr H => lenIs 75 fr (slSl fr 0 fun reads0 reads1 reads2 => slP fr 3 fun b0 => slI fr 5 .i64 fun i0 => slI fr 7 .i64 fun limit0 => slB fr 60 fun x0 => vizardlaw11_InboxFlow.J3 reads0 reads1 reads2 b0 i0 limit0 x0 (fun  H => Q .normal (mkF 75 [(0, (.slice reads0 reads1 reads2)), (3, (.pointer b0)), (5, (.int .i64 i0)), (7, (.int .i64 limit0))]) H) (fun y2_0 H => Q .ret (mkF 75 [(2, (.bool y2_0))]) H) E H)
noncomputable def vizardlaw11_InboxFlow.J3.plan : Plan := .go
theorem vizardlaw11_InboxFlow.J3.pok : PlanOk Try.prog vizardlaw11_InboxFlow.J3.plan (sub [1, 1, 1, 1, 0, 1, 0, 0, 1, 0, 0, 1, 0, 1] vizardlaw11_InboxFlow.body) := by
  have e : PlanOk Try.prog vizardlaw11_InboxFlow.J3.plan (sub [1, 1, 1, 1, 0, 1, 0, 0, 1, 0, 0, 1, 0, 1] vizardlaw11_InboxFlow.body) = (True) := by kernel_rfl
  exact e.mpr trivial
theorem vizardlaw11_InboxFlow.J3.eq (reads0 : Option Addr) (reads1 : Nat) (reads2 : Nat) (b0 : Option Addr) (i0 : Int) (limit0 : Int) (x0 : Bool) (Q : Ex → Fr → Heap → Prop) (E : Value → Heap → Prop) (H : Heap) :
    vizardlaw11_InboxFlow.J3.vc reads0 reads1 reads2 b0 i0 limit0 x0 (fun  H => Q .normal (mkF 75 [(0, (.slice reads0 reads1 reads2)), (3, (.pointer b0)), (5, (.int .i64 i0)), (7, (.int .i64 limit0))]) H) (fun y2_0 H => Q .ret (mkF 75 [(2, (.bool y2_0))]) H) E H = keepT [0, 3, 5, 7] [2] (fun i => []) (wC Try.prog vizardlaw11_InboxFlow.Γ vizardlaw11_InboxFlow.J3.plan (sub [1, 1, 1, 1, 0, 1, 0, 0, 1, 0, 0, 1, 0, 1] vizardlaw11_InboxFlow.body)) Q E (mkF 75 [(0, (.slice reads0 reads1 reads2)), (3, (.pointer b0)), (5, (.int .i64 i0)), (7, (.int .i64 limit0)), (60, (.bool x0))]) H := by
  kernel_rfl
theorem vizardlaw11_InboxFlow.J3.ok : SoundCode Try.prog (sub [1, 1, 1, 1, 0, 1, 0, 0, 1, 0, 0, 1, 0, 1] vizardlaw11_InboxFlow.body) vizardlaw11_InboxFlow.J3.t := by
  refine piece_sound (keepT_sound [0, 3, 5, 7] [2] (fun i => []) (wC_sound vizardlaw11_InboxFlow.hΓ Try.hm vizardlaw11_InboxFlow.J3.plan _ vizardlaw11_InboxFlow.J3.pok)) ?_
  intro Q E fr H h
  unfold vizardlaw11_InboxFlow.J3.t at h
  obtain ⟨hl, h⟩ := lenIs_elim h
  obtain ⟨reads0, reads1, reads2, q0, h⟩ := slSl_elim h
  obtain ⟨b0, q3, h⟩ := slP_elim h
  obtain ⟨i0, q5, h⟩ := slI_elim h
  obtain ⟨limit0, q7, h⟩ := slI_elim h
  obtain ⟨x0, q60, h⟩ := slB_elim h
  refine ⟨(mkF 75 [(0, (.slice reads0 reads1 reads2)), (3, (.pointer b0)), (5, (.int .i64 i0)), (7, (.int .i64 limit0)), (60, (.bool x0))]), fun a ha => ha.mk (Nat.le_of_eq hl.symm) (List.forall_mem_cons.2 ⟨q0, List.forall_mem_cons.2 ⟨q3, List.forall_mem_cons.2 ⟨q5, List.forall_mem_cons.2 ⟨q7, List.forall_mem_cons.2 ⟨q60, fun _ h => nomatch h⟩⟩⟩⟩⟩), ?_⟩
  have e := vizardlaw11_InboxFlow.J3.eq reads0 reads1 reads2 b0 i0 limit0 x0 Q E H
  rw [← e]
  exact h.h
def vizardlaw11_InboxFlow.J4.t : CT := fun Q E fr H => lenIs 75 fr (slSl fr 0 fun reads0 reads1 reads2 => slP fr 3 fun b0 => slI fr 5 .i64 fun i0 => slI fr 7 .i64 fun limit0 => vizardlaw11_InboxFlow.J4 reads0 reads1 reads2 b0 i0 limit0 (fun y4_0 H => Q .normal (mkF 75 [(0, (.slice reads0 reads1 reads2)), (3, (.pointer b0)), (4, (.int .i64 y4_0)), (5, (.int .i64 i0))]) H) (fun y2_0 H => Q .ret (mkF 75 [(2, (.bool y2_0))]) H) E H)
noncomputable def vizardlaw11_InboxFlow.J4.plan : Plan := .go
theorem vizardlaw11_InboxFlow.J4.pok : PlanOk Try.prog vizardlaw11_InboxFlow.J4.plan (sub [1, 1, 1, 1, 0, 1, 0, 0, 1, 0, 0, 1, 1] vizardlaw11_InboxFlow.body) := by
  have e : PlanOk Try.prog vizardlaw11_InboxFlow.J4.plan (sub [1, 1, 1, 1, 0, 1, 0, 0, 1, 0, 0, 1, 1] vizardlaw11_InboxFlow.body) = (True) := by kernel_rfl
  exact e.mpr trivial
theorem vizardlaw11_InboxFlow.J4.eq (reads0 : Option Addr) (reads1 : Nat) (reads2 : Nat) (b0 : Option Addr) (i0 : Int) (limit0 : Int) (Q : Ex → Fr → Heap → Prop) (E : Value → Heap → Prop) (H : Heap) :
    vizardlaw11_InboxFlow.J4.vc reads0 reads1 reads2 b0 i0 limit0 (fun y4_0 H => Q .normal (mkF 75 [(0, (.slice reads0 reads1 reads2)), (3, (.pointer b0)), (4, (.int .i64 y4_0)), (5, (.int .i64 i0))]) H) (fun y2_0 H => Q .ret (mkF 75 [(2, (.bool y2_0))]) H) E H = keepT [0, 3, 4, 5] [2] (fun i => []) (wC Try.prog vizardlaw11_InboxFlow.Γ vizardlaw11_InboxFlow.J4.plan (sub [1, 1, 1, 1, 0, 1, 0, 0, 1, 0, 0, 1, 1] vizardlaw11_InboxFlow.body)) Q E (mkF 75 [(0, (.slice reads0 reads1 reads2)), (3, (.pointer b0)), (5, (.int .i64 i0)), (7, (.int .i64 limit0))]) H := by
  kernel_rfl
theorem vizardlaw11_InboxFlow.J4.ok : SoundCode Try.prog (sub [1, 1, 1, 1, 0, 1, 0, 0, 1, 0, 0, 1, 1] vizardlaw11_InboxFlow.body) vizardlaw11_InboxFlow.J4.t := by
  refine piece_sound (keepT_sound [0, 3, 4, 5] [2] (fun i => []) (wC_sound vizardlaw11_InboxFlow.hΓ Try.hm vizardlaw11_InboxFlow.J4.plan _ vizardlaw11_InboxFlow.J4.pok)) ?_
  intro Q E fr H h
  unfold vizardlaw11_InboxFlow.J4.t at h
  obtain ⟨hl, h⟩ := lenIs_elim h
  obtain ⟨reads0, reads1, reads2, q0, h⟩ := slSl_elim h
  obtain ⟨b0, q3, h⟩ := slP_elim h
  obtain ⟨i0, q5, h⟩ := slI_elim h
  obtain ⟨limit0, q7, h⟩ := slI_elim h
  refine ⟨(mkF 75 [(0, (.slice reads0 reads1 reads2)), (3, (.pointer b0)), (5, (.int .i64 i0)), (7, (.int .i64 limit0))]), fun a ha => ha.mk (Nat.le_of_eq hl.symm) (List.forall_mem_cons.2 ⟨q0, List.forall_mem_cons.2 ⟨q3, List.forall_mem_cons.2 ⟨q5, List.forall_mem_cons.2 ⟨q7, fun _ h => nomatch h⟩⟩⟩⟩), ?_⟩
  have e := vizardlaw11_InboxFlow.J4.eq reads0 reads1 reads2 b0 i0 limit0 Q E H
  rw [← e]
  exact h.h
def vizardlaw11_InboxFlow.J5.t : CT := fun Q E fr H => lenIs 75 fr (slSl fr 0 fun reads0 reads1 reads2 => slP fr 3 fun b0 => slI fr 4 .i64 fun at0 => slI fr 5 .i64 fun i0 => vizardlaw11_InboxFlow.J5 reads0 reads1 reads2 b0 at0 i0 (fun y5_0 H => Q .normal (mkF 75 [(0, (.slice reads0 reads1 reads2)), (3, (.pointer b0)), (4, (.int .i64 at0)), (5, (.int .i64 y5_0))]) H) E H)
noncomputable def vizardlaw11_InboxFlow.J5.plan : Plan := .go
theorem vizardlaw11_InboxFlow.J5.pok : PlanOk Try.prog vizardlaw11_InboxFlow.J5.plan (sub [1, 1, 1, 1, 0, 1, 0, 0, 1, 1] vizardlaw11_InboxFlow.body) := by
  have e : PlanOk Try.prog vizardlaw11_InboxFlow.J5.plan (sub [1, 1, 1, 1, 0, 1, 0, 0, 1, 1] vizardlaw11_InboxFlow.body) = (True) := by kernel_rfl
  exact e.mpr trivial
theorem vizardlaw11_InboxFlow.J5.eq (reads0 : Option Addr) (reads1 : Nat) (reads2 : Nat) (b0 : Option Addr) (at0 : Int) (i0 : Int) (Q : Ex → Fr → Heap → Prop) (E : Value → Heap → Prop) (H : Heap) :
    vizardlaw11_InboxFlow.J5.vc reads0 reads1 reads2 b0 at0 i0 (fun y5_0 H => Q .normal (mkF 75 [(0, (.slice reads0 reads1 reads2)), (3, (.pointer b0)), (4, (.int .i64 at0)), (5, (.int .i64 y5_0))]) H) E H = keepT [0, 3, 4, 5] [] (fun i => []) (wC Try.prog vizardlaw11_InboxFlow.Γ vizardlaw11_InboxFlow.J5.plan (sub [1, 1, 1, 1, 0, 1, 0, 0, 1, 1] vizardlaw11_InboxFlow.body)) Q E (mkF 75 [(0, (.slice reads0 reads1 reads2)), (3, (.pointer b0)), (4, (.int .i64 at0)), (5, (.int .i64 i0))]) H := by
  kernel_rfl
theorem vizardlaw11_InboxFlow.J5.ok : SoundCode Try.prog (sub [1, 1, 1, 1, 0, 1, 0, 0, 1, 1] vizardlaw11_InboxFlow.body) vizardlaw11_InboxFlow.J5.t := by
  refine piece_sound (keepT_sound [0, 3, 4, 5] [] (fun i => []) (wC_sound vizardlaw11_InboxFlow.hΓ Try.hm vizardlaw11_InboxFlow.J5.plan _ vizardlaw11_InboxFlow.J5.pok)) ?_
  intro Q E fr H h
  unfold vizardlaw11_InboxFlow.J5.t at h
  obtain ⟨hl, h⟩ := lenIs_elim h
  obtain ⟨reads0, reads1, reads2, q0, h⟩ := slSl_elim h
  obtain ⟨b0, q3, h⟩ := slP_elim h
  obtain ⟨at0, q4, h⟩ := slI_elim h
  obtain ⟨i0, q5, h⟩ := slI_elim h
  refine ⟨(mkF 75 [(0, (.slice reads0 reads1 reads2)), (3, (.pointer b0)), (4, (.int .i64 at0)), (5, (.int .i64 i0))]), fun a ha => ha.mk (Nat.le_of_eq hl.symm) (List.forall_mem_cons.2 ⟨q0, List.forall_mem_cons.2 ⟨q3, List.forall_mem_cons.2 ⟨q4, List.forall_mem_cons.2 ⟨q5, fun _ h => nomatch h⟩⟩⟩⟩), ?_⟩
  have e := vizardlaw11_InboxFlow.J5.eq reads0 reads1 reads2 b0 at0 i0 Q E H
  rw [← e]
  exact h.h
def vizardlaw11_InboxFlow.J2.t : CT := fun Q E fr H => lenIs 75 fr (slSl fr 0 fun reads0 reads1 reads2 => slP fr 3 fun b0 => slI fr 4 .i64 fun at0 => slI fr 5 .i64 fun i0 => vizardlaw11_InboxFlow.J2 reads0 reads1 reads2 b0 at0 i0 (fun y4_0 y5_0 H => Q .normal (mkF 75 [(0, (.slice reads0 reads1 reads2)), (3, (.pointer b0)), (4, (.int .i64 y4_0)), (5, (.int .i64 y5_0))]) H) (fun y2_0 H => Q .ret (mkF 75 [(2, (.bool y2_0))]) H) E H)
noncomputable def vizardlaw11_InboxFlow.J2.plan : Plan := .seq (.block (.seq (.go) (.seq (.seq (.go) (.use vizardlaw11_InboxFlow.J3.t)) (.use vizardlaw11_InboxFlow.J4.t)))) (.use vizardlaw11_InboxFlow.J5.t)
theorem vizardlaw11_InboxFlow.J2.pok : PlanOk Try.prog vizardlaw11_InboxFlow.J2.plan (sub [1, 1, 1, 1, 0, 1, 0, 0, 1] vizardlaw11_InboxFlow.body) := by
  have e : PlanOk Try.prog vizardlaw11_InboxFlow.J2.plan (sub [1, 1, 1, 1, 0, 1, 0, 0, 1] vizardlaw11_InboxFlow.body) = (((True) ∧ (((True) ∧ (SoundCode Try.prog (sub [1, 1, 1, 1, 0, 1, 0, 0, 1, 0, 0, 1, 0, 1] vizardlaw11_InboxFlow.body) vizardlaw11_InboxFlow.J3.t)) ∧ (SoundCode Try.prog (sub [1, 1, 1, 1, 0, 1, 0, 0, 1, 0, 0, 1, 1] vizardlaw11_InboxFlow.body) vizardlaw11_InboxFlow.J4.t))) ∧ (SoundCode Try.prog (sub [1, 1, 1, 1, 0, 1, 0, 0, 1, 1] vizardlaw11_InboxFlow.body) vizardlaw11_InboxFlow.J5.t)) := by kernel_rfl
  exact e.mpr ⟨⟨trivial, ⟨⟨trivial, vizardlaw11_InboxFlow.J3.ok⟩, vizardlaw11_InboxFlow.J4.ok⟩⟩, vizardlaw11_InboxFlow.J5.ok⟩
theorem vizardlaw11_InboxFlow.J2.eq (reads0 : Option Addr) (reads1 : Nat) (reads2 : Nat) (b0 : Option Addr) (at0 : Int) (i0 : Int) (Q : Ex → Fr → Heap → Prop) (E : Value → Heap → Prop) (H : Heap) :
    vizardlaw11_InboxFlow.J2.vc reads0 reads1 reads2 b0 at0 i0 (fun y4_0 y5_0 H => Q .normal (mkF 75 [(0, (.slice reads0 reads1 reads2)), (3, (.pointer b0)), (4, (.int .i64 y4_0)), (5, (.int .i64 y5_0))]) H) (fun y2_0 H => Q .ret (mkF 75 [(2, (.bool y2_0))]) H) E H = keepT [0, 3, 4, 5] [2] (fun i => []) (wC Try.prog vizardlaw11_InboxFlow.Γ vizardlaw11_InboxFlow.J2.plan (sub [1, 1, 1, 1, 0, 1, 0, 0, 1] vizardlaw11_InboxFlow.body)) Q E (mkF 75 [(0, (.slice reads0 reads1 reads2)), (3, (.pointer b0)), (4, (.int .i64 at0)), (5, (.int .i64 i0))]) H := by
  kernel_rfl
theorem vizardlaw11_InboxFlow.J2.ok : SoundCode Try.prog (sub [1, 1, 1, 1, 0, 1, 0, 0, 1] vizardlaw11_InboxFlow.body) vizardlaw11_InboxFlow.J2.t := by
  refine piece_sound (keepT_sound [0, 3, 4, 5] [2] (fun i => []) (wC_sound vizardlaw11_InboxFlow.hΓ Try.hm vizardlaw11_InboxFlow.J2.plan _ vizardlaw11_InboxFlow.J2.pok)) ?_
  intro Q E fr H h
  unfold vizardlaw11_InboxFlow.J2.t at h
  obtain ⟨hl, h⟩ := lenIs_elim h
  obtain ⟨reads0, reads1, reads2, q0, h⟩ := slSl_elim h
  obtain ⟨b0, q3, h⟩ := slP_elim h
  obtain ⟨at0, q4, h⟩ := slI_elim h
  obtain ⟨i0, q5, h⟩ := slI_elim h
  refine ⟨(mkF 75 [(0, (.slice reads0 reads1 reads2)), (3, (.pointer b0)), (4, (.int .i64 at0)), (5, (.int .i64 i0))]), fun a ha => ha.mk (Nat.le_of_eq hl.symm) (List.forall_mem_cons.2 ⟨q0, List.forall_mem_cons.2 ⟨q3, List.forall_mem_cons.2 ⟨q4, List.forall_mem_cons.2 ⟨q5, fun _ h => nomatch h⟩⟩⟩⟩), ?_⟩
  have e := vizardlaw11_InboxFlow.J2.eq reads0 reads1 reads2 b0 at0 i0 Q E H
  rw [← e]
  exact h.h
def vizardlaw11_InboxFlow.W1.t : CT := fun Q E fr H => lenIs 75 fr (slSl fr 0 fun reads0 reads1 reads2 => slP fr 3 fun b0 => slI fr 4 .i64 fun at0 => slI fr 5 .i64 fun i0 => vizardlaw11_InboxFlow.W1 reads0 reads1 reads2 b0 at0 i0 (fun  H => Q (.exit 0) (mkF 75 []) H) (fun y2_0 H => Q .ret (mkF 75 [(2, (.bool y2_0))]) H) E H)
noncomputable def vizardlaw11_InboxFlow.W1.plan : Plan := .seq (.go) (.use vizardlaw11_InboxFlow.J2.t)
theorem vizardlaw11_InboxFlow.W1.pok : PlanOk Try.prog vizardlaw11_InboxFlow.W1.plan (sub [1, 1, 1, 1, 0, 1, 0, 0] vizardlaw11_InboxFlow.body) := by
  have e : PlanOk Try.prog vizardlaw11_InboxFlow.W1.plan (sub [1, 1, 1, 1, 0, 1, 0, 0] vizardlaw11_InboxFlow.body) = ((True) ∧ (SoundCode Try.prog (sub [1, 1, 1, 1, 0, 1, 0, 0, 1] vizardlaw11_InboxFlow.body) vizardlaw11_InboxFlow.J2.t)) := by kernel_rfl
  exact e.mpr ⟨trivial, vizardlaw11_InboxFlow.J2.ok⟩
theorem vizardlaw11_InboxFlow.W1.eq (reads0 : Option Addr) (reads1 : Nat) (reads2 : Nat) (b0 : Option Addr) (Q : Ex → Fr → Heap → Prop) (E : Value → Heap → Prop) (RR : Fr → Heap → Prop) (s : Int × Int) (H : Heap) :
    (fun (RR : Int × Int → Heap → Prop) (s : Int × Int) (H : Heap) => vizardlaw11_InboxFlow.W1.vc reads0 reads1 reads2 b0 s.1 s.2 (fun  H => Q (.exit 0) (mkF 75 []) H) (fun y2_0 H => Q .ret (mkF 75 [(2, (.bool y2_0))]) H) (fun at0 i0 H => RR (at0, i0) H) E H) (fun s' H' => RR ((fun (s : Int × Int) => (mkF 75 [(0, (.slice reads0 reads1 reads2)), (3, (.pointer b0)), (4, (.int .i64 s.1)), (5, (.int .i64 s.2))])) s') H') s H = keepT [0, 3, 4, 5] [2] (fun i => if i = 0 then [] else []) (wC Try.prog vizardlaw11_InboxFlow.Γ vizardlaw11_InboxFlow.W1.plan (sub [1, 1, 1, 1, 0, 1, 0, 0] vizardlaw11_InboxFlow.body)) (fun e fr' H' => match e with | .normal => RR fr' H' | .exit id => Q (.exit id) fr' H' | .ret => Q .ret fr' H') E ((fun (s : Int × Int) => (mkF 75 [(0, (.slice reads0 reads1 reads2)), (3, (.pointer b0)), (4, (.int .i64 s.1)), (5, (.int .i64 s.2))])) s) H := by
  kernel_rfl
theorem vizardlaw11_InboxFlow.W1.ok : SoundCode Try.prog (sub [1, 1, 1, 1, 0, 1, 0] vizardlaw11_InboxFlow.body) vizardlaw11_InboxFlow.W1.t := by
  have e : (sub [1, 1, 1, 1, 0, 1, 0] vizardlaw11_InboxFlow.body) = .loop (sub [1, 1, 1, 1, 0, 1, 0, 0] vizardlaw11_InboxFlow.body) := by kernel_rfl
  rw [e]
  refine piece_sound (loopN_sound (keepT_sound [0, 3, 4, 5] [2] (fun i => if i = 0 then [] else []) (wC_sound vizardlaw11_InboxFlow.hΓ Try.hm vizardlaw11_InboxFlow.W1.plan _ vizardlaw11_InboxFlow.W1.pok))) ?_
  intro Q E fr H h
  unfold vizardlaw11_InboxFlow.W1.t at h
  obtain ⟨hl, h⟩ := lenIs_elim h
  obtain ⟨reads0, reads1, reads2, q0, h⟩ := slSl_elim h
  obtain ⟨b0, q3, h⟩ := slP_elim h
  obtain ⟨at0, q4, h⟩ := slI_elim h
  obtain ⟨i0, q5, h⟩ := slI_elim h
  obtain ⟨m, h⟩ := h.h
  refine ⟨(mkF 75 [(0, (.slice reads0 reads1 reads2)), (3, (.pointer b0)), (4, (.int .i64 at0)), (5, (.int .i64 i0))]), fun a ha => ha.mk (Nat.le_of_eq hl.symm) (List.forall_mem_cons.2 ⟨q0, List.forall_mem_cons.2 ⟨q3, List.forall_mem_cons.2 ⟨q4, List.forall_mem_cons.2 ⟨q5, fun _ h => nomatch h⟩⟩⟩⟩), m, ?_⟩
  have e := loopS_eq (B := (fun (RR : Int × Int → Heap → Prop) (s : Int × Int) (H : Heap) => vizardlaw11_InboxFlow.W1.vc reads0 reads1 reads2 b0 s.1 s.2 (fun  H => Q (.exit 0) (mkF 75 []) H) (fun y2_0 H => Q .ret (mkF 75 [(2, (.bool y2_0))]) H) (fun at0 i0 H => RR (at0, i0) H) E H)) (A := keepT [0, 3, 4, 5] [2] (fun i => if i = 0 then [] else []) (wC Try.prog vizardlaw11_InboxFlow.Γ vizardlaw11_InboxFlow.W1.plan (sub [1, 1, 1, 1, 0, 1, 0, 0] vizardlaw11_InboxFlow.body))) (m := (fun (s : Int × Int) => (mkF 75 [(0, (.slice reads0 reads1 reads2)), (3, (.pointer b0)), (4, (.int .i64 s.1)), (5, (.int .i64 s.2))]))) (Q := Q) (E := E) (fun RR s H => vizardlaw11_InboxFlow.W1.eq reads0 reads1 reads2 b0 Q E RR s H) m (at0, i0) H
  exact cast e h
noncomputable def vizardlaw11_InboxFlow.plan : Plan := .seq (.go) (.seq (.go) (.seq (.go) (.seq (.go) (.seq (.seq (.go) (.block (.use vizardlaw11_InboxFlow.W1.t))) (.go)))))
theorem vizardlaw11_InboxFlow.pok : PlanOk Try.prog vizardlaw11_InboxFlow.plan vizardlaw11_InboxFlow.body := by
  have e : PlanOk Try.prog vizardlaw11_InboxFlow.plan vizardlaw11_InboxFlow.body = ((True) ∧ ((True) ∧ ((True) ∧ ((True) ∧ (((True) ∧ (SoundCode Try.prog (sub [1, 1, 1, 1, 0, 1, 0] vizardlaw11_InboxFlow.body) vizardlaw11_InboxFlow.W1.t)) ∧ (True)))))) := by kernel_rfl
  exact e.mpr ⟨trivial, ⟨trivial, ⟨trivial, ⟨trivial, ⟨⟨trivial, vizardlaw11_InboxFlow.W1.ok⟩, trivial⟩⟩⟩⟩⟩
theorem vizardlaw11_InboxFlow.eq (reads0 : Option Addr) (reads1 : Nat) (reads2 : Nat) (K : Value → Heap → Prop) (E : Value → Heap → Prop) (H : Heap) :
    fnT Try.prog Try.f8 (wC Try.prog vizardlaw11_InboxFlow.Γ vizardlaw11_InboxFlow.plan vizardlaw11_InboxFlow.body) [(.slice reads0 reads1 reads2)] K E H = vizardlaw11_InboxFlow.vc reads0 reads1 reads2 (fun r0_0 H => K (.bool r0_0) H) E H := by
  kernel_rfl
theorem vizardlaw11_InboxFlow.Fe {args : List Value} {K E : Value → Heap → Prop} {H : Heap} (h : vizardlaw11_InboxFlow.F args K E H) : ∃ reads0 reads1 reads2, args = [(.slice reads0 reads1 reads2)] ∧ vizardlaw11_InboxFlow.c reads0 reads1 reads2 (fun r0_0 H => K (.bool r0_0) H) E H := by
  unfold vizardlaw11_InboxFlow.F at h
  split at h
  · exact ⟨_, _, _, rfl, h⟩
  · exact h.elim
theorem vizardlaw11_InboxFlow.ok : CalleeOk Try.prog 8 vizardlaw11_InboxFlow.F :=
  callee_ok vizardlaw11_InboxFlow.hΓ (fn := Try.f8) (c := vizardlaw11_InboxFlow.body) (T := wC Try.prog vizardlaw11_InboxFlow.Γ vizardlaw11_InboxFlow.plan vizardlaw11_InboxFlow.body) (by kernel_rfl) (by kernel_rfl) (by kernel_rfl) (wC_sound vizardlaw11_InboxFlow.hΓ Try.hm vizardlaw11_InboxFlow.plan _ vizardlaw11_InboxFlow.pok) fun _ K E H h => by
    obtain ⟨z0, z1, z2, e, h⟩ := vizardlaw11_InboxFlow.Fe h
    subst e
    have h2 : vizardlaw11_InboxFlow.vc z0 z1 z2 (fun r0_0 H => ∃ H', Heap.Le H' H ∧ K (.bool r0_0) H') E H := h.h
    rw [vizardlaw11_InboxFlow.eq z0 z1 z2 (Fg K) E H]
    exact h2

/-! vizard/vizardref11.New -/
noncomputable def vizardref11_New.body : Code := Try.f33.body.getD .skip
def vizardref11_New.vc (K : Option Addr → Heap → Prop) (E : Value → Heap → Prop) (h0 : Heap) : Prop :=
  newB (.map #[] 0) (fun b0 h1 =>
  newB (.cells #[(.map (some b0)), (.int .i64 0), (.int .i64 (-1)), (.int .i64 0), (.bool false)] 64) (fun b1 h2 =>
  K (some (⟨b1, 0, none⟩ : Addr)) h2) h1) h0
structure vizardref11_New.c (K : Option Addr → Heap → Prop) (E : Value → Heap → Prop) (H : Heap) : Prop where
  h : vizardref11_New.vc  (fun r0_0 H => ∃ H', Heap.Le H' H ∧ K r0_0 H') E H
def vizardref11_New.F : FT := fun args K E H => match args with
  | [] => vizardref11_New.c  (fun r0_0 H => K (.pointer r0_0) H) E H
  | _ => False
noncomputable def vizardref11_New.Γ : FuncId → Option FT := Γof []
theorem vizardref11_New.hΓ : ∀ f F, vizardref11_New.Γ f = some F → CalleeOk Try.prog f F := Γof_ok (fun _ h => nomatch h)
noncomputable def vizardref11_New.plan : Plan := .go
theorem vizardref11_New.pok : PlanOk Try.prog vizardref11_New.plan vizardref11_New.body := by
  have e : PlanOk Try.prog vizardref11_New.plan vizardref11_New.body = (True) := by kernel_rfl
  exact e.mpr trivial
theorem vizardref11_New.eq (K : Value → Heap → Prop) (E : Value → Heap → Prop) (H : Heap) :
    fnT Try.prog Try.f33 (wC Try.prog vizardref11_New.Γ vizardref11_New.plan vizardref11_New.body) [] K E H = vizardref11_New.vc  (fun r0_0 H => K (.pointer r0_0) H) E H := by
  kernel_rfl
theorem vizardref11_New.Fe {args : List Value} {K E : Value → Heap → Prop} {H : Heap} (h : vizardref11_New.F args K E H) : args = [] ∧ vizardref11_New.c  (fun r0_0 H => K (.pointer r0_0) H) E H := by
  unfold vizardref11_New.F at h
  split at h
  · exact ⟨rfl, h⟩
  · exact h.elim
theorem vizardref11_New.ok : CalleeOk Try.prog 33 vizardref11_New.F :=
  callee_ok vizardref11_New.hΓ (fn := Try.f33) (c := vizardref11_New.body) (T := wC Try.prog vizardref11_New.Γ vizardref11_New.plan vizardref11_New.body) (by kernel_rfl) (by kernel_rfl) (by kernel_rfl) (wC_sound vizardref11_New.hΓ Try.hm vizardref11_New.plan _ vizardref11_New.pok) fun _ K E H h => by
    obtain ⟨e, h⟩ := vizardref11_New.Fe h
    subst e
    have h2 : vizardref11_New.vc (fun r0_0 H => ∃ H', Heap.Le H' H ∧ K (.pointer r0_0) H') E H := h.h
    rw [vizardref11_New.eq (Fg K) E H]
    exact h2

/-! vizard/vizardref11.place -/
noncomputable def vizardref11_place.body : Code := Try.f59.body.getD .skip
def vizardref11_place.vc (n0 : Int) (K : Bool → Heap → Prop) (E : Value → Heap → Prop) (h0 : Heap) : Prop :=
  (if (decide (n0 ≥ 0)) = true then
  K (decide (n0 ≤ 4611686018427387903)) h0
  else
  K false h0)
structure vizardref11_place.c (n0 : Int) (K : Bool → Heap → Prop) (E : Value → Heap → Prop) (H : Heap) : Prop where
  h : vizardref11_place.vc n0 (fun r0_0 H => ∃ H', Heap.Le H' H ∧ K r0_0 H') E H
def vizardref11_place.F : FT := fun args K E H => match args with
  | [(.int .i64 n0)] => vizardref11_place.c n0 (fun r0_0 H => K (.bool r0_0) H) E H
  | _ => False
noncomputable def vizardref11_place.Γ : FuncId → Option FT := Γof []
theorem vizardref11_place.hΓ : ∀ f F, vizardref11_place.Γ f = some F → CalleeOk Try.prog f F := Γof_ok (fun _ h => nomatch h)
noncomputable def vizardref11_place.plan : Plan := .go
theorem vizardref11_place.pok : PlanOk Try.prog vizardref11_place.plan vizardref11_place.body := by
  have e : PlanOk Try.prog vizardref11_place.plan vizardref11_place.body = (True) := by kernel_rfl
  exact e.mpr trivial
theorem vizardref11_place.eq (n0 : Int) (K : Value → Heap → Prop) (E : Value → Heap → Prop) (H : Heap) :
    fnT Try.prog Try.f59 (wC Try.prog vizardref11_place.Γ vizardref11_place.plan vizardref11_place.body) [(.int .i64 n0)] K E H = vizardref11_place.vc n0 (fun r0_0 H => K (.bool r0_0) H) E H := by
  kernel_rfl
theorem vizardref11_place.Fe {args : List Value} {K E : Value → Heap → Prop} {H : Heap} (h : vizardref11_place.F args K E H) : ∃ n0, args = [(.int .i64 n0)] ∧ vizardref11_place.c n0 (fun r0_0 H => K (.bool r0_0) H) E H := by
  unfold vizardref11_place.F at h
  split at h
  · exact ⟨_, rfl, h⟩
  · exact h.elim
theorem vizardref11_place.ok : CalleeOk Try.prog 59 vizardref11_place.F :=
  callee_ok vizardref11_place.hΓ (fn := Try.f59) (c := vizardref11_place.body) (T := wC Try.prog vizardref11_place.Γ vizardref11_place.plan vizardref11_place.body) (by kernel_rfl) (by kernel_rfl) (by kernel_rfl) (wC_sound vizardref11_place.hΓ Try.hm vizardref11_place.plan _ vizardref11_place.pok) fun _ K E H h => by
    obtain ⟨z0, e, h⟩ := vizardref11_place.Fe h
    subst e
    have h2 : vizardref11_place.vc z0 (fun r0_0 H => ∃ H', Heap.Le H' H ∧ K (.bool r0_0) H') E H := h.h
    rw [vizardref11_place.eq z0 (Fg K) E H]
    exact h2

/-! (*vizard/vizardref11.Box).Limit -/
noncomputable def vizardref11_Box_Limit.body : Code := Try.f38.body.getD .skip
def vizardref11_Box_Limit.vc (b0 : Option Addr) (K : Int → Heap → Prop) (E : Value → Heap → Prop) (h0 : Heap) : Prop :=
  nilc b0 fun a0 =>
  ldI h0 .i64 (a0.add 1) fun x0 =>
  K (IntKind.i64.wrap (x0 + 4096)) h0
structure vizardref11_Box_Limit.c (b0 : Option Addr) (K : Int → Heap → Prop) (E : Value → Heap → Prop) (H : Heap) : Prop where
  h : vizardref11_Box_Limit.vc b0 (fun r0_0 H => ∃ H', Heap.Le H' H ∧ K r0_0 H') E H
def vizardref11_Box_Limit.F : FT := fun args K E H => match args with
  | [(.pointer b0)] => vizardref11_Box_Limit.c b0 (fun r0_0 H => K (.int .i64 r0_0) H) E H
  | _ => False
noncomputable def vizardref11_Box_Limit.Γ : FuncId → Option FT := Γof []
theorem vizardref11_Box_Limit.hΓ : ∀ f F, vizardref11_Box_Limit.Γ f = some F → CalleeOk Try.prog f F := Γof_ok (fun _ h => nomatch h)
noncomputable def vizardref11_Box_Limit.plan : Plan := .go
theorem vizardref11_Box_Limit.pok : PlanOk Try.prog vizardref11_Box_Limit.plan vizardref11_Box_Limit.body := by
  have e : PlanOk Try.prog vizardref11_Box_Limit.plan vizardref11_Box_Limit.body = (True) := by kernel_rfl
  exact e.mpr trivial
theorem vizardref11_Box_Limit.eq (b0 : Option Addr) (K : Value → Heap → Prop) (E : Value → Heap → Prop) (H : Heap) :
    fnT Try.prog Try.f38 (wC Try.prog vizardref11_Box_Limit.Γ vizardref11_Box_Limit.plan vizardref11_Box_Limit.body) [(.pointer b0)] K E H = vizardref11_Box_Limit.vc b0 (fun r0_0 H => K (.int .i64 r0_0) H) E H := by
  kernel_rfl
theorem vizardref11_Box_Limit.Fe {args : List Value} {K E : Value → Heap → Prop} {H : Heap} (h : vizardref11_Box_Limit.F args K E H) : ∃ b0, args = [(.pointer b0)] ∧ vizardref11_Box_Limit.c b0 (fun r0_0 H => K (.int .i64 r0_0) H) E H := by
  unfold vizardref11_Box_Limit.F at h
  split at h
  · exact ⟨_, rfl, h⟩
  · exact h.elim
theorem vizardref11_Box_Limit.ok : CalleeOk Try.prog 38 vizardref11_Box_Limit.F :=
  callee_ok vizardref11_Box_Limit.hΓ (fn := Try.f38) (c := vizardref11_Box_Limit.body) (T := wC Try.prog vizardref11_Box_Limit.Γ vizardref11_Box_Limit.plan vizardref11_Box_Limit.body) (by kernel_rfl) (by kernel_rfl) (by kernel_rfl) (wC_sound vizardref11_Box_Limit.hΓ Try.hm vizardref11_Box_Limit.plan _ vizardref11_Box_Limit.pok) fun _ K E H h => by
    obtain ⟨z0, e, h⟩ := vizardref11_Box_Limit.Fe h
    subst e
    have h2 : vizardref11_Box_Limit.vc z0 (fun r0_0 H => ∃ H', Heap.Le H' H ∧ K (.int .i64 r0_0) H') E H := h.h
    rw [vizardref11_Box_Limit.eq z0 (Fg K) E H]
    exact h2

/-! (*vizard/vizardref11.Box).Put -/
noncomputable def vizardref11_Box_Put.body : Code := Try.f34.body.getD .skip
def vizardref11_Box_Put.J2.vc (b0 : Option Addr) (off0 : Int) (data0 : ByteArray) (fin0 : Bool) (end0 : Int) (x0 : Bool) (Kn : Heap → Prop) (Kr : Int → Heap → Prop) (E : Value → Heap → Prop) (h0 : Heap) : Prop :=
  (if x0 = true then
  Kr 13 h0
  else
  Kn h0)
structure vizardref11_Box_Put.J2 (b0 : Option Addr) (off0 : Int) (data0 : ByteArray) (fin0 : Bool) (end0 : Int) (x0 : Bool) (Kn : Heap → Prop) (Kr : Int → Heap → Prop) (E : Value → Heap → Prop) (H : Heap) : Prop where
  h : vizardref11_Box_Put.J2.vc b0 off0 data0 fin0 end0 x0 Kn Kr E H
def vizardref11_Box_Put.J1.vc (b0 : Option Addr) (off0 : Int) (data0 : ByteArray) (fin0 : Bool) (end0 : Int) (x0 : Bool) (Kn : Heap → Prop) (Kr : Int → Heap → Prop) (E : Value → Heap → Prop) (h0 : Heap) : Prop :=
  (if x0 = true then
  Kr 13 h0
  else
  (if fin0 = true then
  nilc b0 fun a0 =>
  ldI h0 .i64 (a0.add 3) fun x1 =>
  vizardref11_Box_Put.J2 b0 off0 data0 fin0 end0 (decide (x1 > end0)) Kn Kr E h0
  else
  vizardref11_Box_Put.J2 b0 off0 data0 fin0 end0 false Kn Kr E h0))
structure vizardref11_Box_Put.J1 (b0 : Option Addr) (off0 : Int) (data0 : ByteArray) (fin0 : Bool) (end0 : Int) (x0 : Bool) (Kn : Heap → Prop) (Kr : Int → Heap → Prop) (E : Value → Heap → Prop) (H : Heap) : Prop where
  h : vizardref11_Box_Put.J1.vc b0 off0 data0 fin0 end0 x0 Kn Kr E H
def vizardref11_Box_Put.J6.vc (b0 : Option Addr) (off0 : Int) (data0 : ByteArray) (fin0 : Bool) (end0 : Int) (i0 : Int) (at0 : Int) (x0 : Bool) (Kn : Heap → Prop) (E : Value → Heap → Prop) (h0 : Heap) : Prop :=
  (if x0 = true then
  nilc b0 fun a0 =>
  ldM h0 (a0.add 0) fun x1 =>
  (0 : Int) ≤ i0 ∧ i0 < (data0.size : Int) ∧
  putW (.int .i64) x1 (.int .i64 at0) (.int .u8 (bt data0 i0)) (fun h1 =>
  Kn h1) h0
  else
  Kn h0)
structure vizardref11_Box_Put.J6 (b0 : Option Addr) (off0 : Int) (data0 : ByteArray) (fin0 : Bool) (end0 : Int) (i0 : Int) (at0 : Int) (x0 : Bool) (Kn : Heap → Prop) (E : Value → Heap → Prop) (H : Heap) : Prop where
  h : vizardref11_Box_Put.J6.vc b0 off0 data0 fin0 end0 i0 at0 x0 Kn E H
def vizardref11_Box_Put.J5.vc (b0 : Option Addr) (off0 : Int) (data0 : ByteArray) (fin0 : Bool) (end0 : Int) (i0 : Int) (at0 : Int) (ok0 : Bool) (Kn : Heap → Prop) (E : Value → Heap → Prop) (h0 : Heap) : Prop :=
  nilc b0 fun a0 =>
  ldI h0 .i64 (a0.add 1) fun x0 =>
  (if (decide (at0 ≥ x0)) = true then
  vizardref11_Box_Put.J6 b0 off0 data0 fin0 end0 i0 at0 (!ok0) Kn E h0
  else
  vizardref11_Box_Put.J6 b0 off0 data0 fin0 end0 i0 at0 false Kn E h0)
structure vizardref11_Box_Put.J5 (b0 : Option Addr) (off0 : Int) (data0 : ByteArray) (fin0 : Bool) (end0 : Int) (i0 : Int) (at0 : Int) (ok0 : Bool) (Kn : Heap → Prop) (E : Value → Heap → Prop) (H : Heap) : Prop where
  h : vizardref11_Box_Put.J5.vc b0 off0 data0 fin0 end0 i0 at0 ok0 Kn E H
def vizardref11_Box_Put.J7.vc (b0 : Option Addr) (off0 : Int) (data0 : ByteArray) (fin0 : Bool) (end0 : Int) (i0 : Int) (Kn : Int → Heap → Prop) (E : Value → Heap → Prop) (h0 : Heap) : Prop :=
  Kn (IntKind.i64.wrap (i0 + 1)) h0
structure vizardref11_Box_Put.J7 (b0 : Option Addr) (off0 : Int) (data0 : ByteArray) (fin0 : Bool) (end0 : Int) (i0 : Int) (Kn : Int → Heap → Prop) (E : Value → Heap → Prop) (H : Heap) : Prop where
  h : vizardref11_Box_Put.J7.vc b0 off0 data0 fin0 end0 i0 Kn E H
def vizardref11_Box_Put.W4.vc (b0 : Option Addr) (off0 : Int) (data0 : ByteArray) (fin0 : Bool) (end0 : Int) (i0 : Int) (Kx1 : Heap → Prop) (RR : Int → Heap → Prop) (E : Value → Heap → Prop) (h0 : Heap) : Prop :=
  (if (decide (i0 < (data0.size : Int))) = true then
  nilc b0 fun a0 =>
  ldM h0 (a0.add 0) fun x0 =>
  lookI (.int .i64) x0 (.int .i64 (IntKind.i64.wrap (off0 + i0))) .u8 0 (fun x1 ok0 =>
  vizardref11_Box_Put.J5 b0 off0 data0 fin0 end0 i0 (IntKind.i64.wrap (off0 + i0)) ok0 (fun h1 =>
  vizardref11_Box_Put.J7 b0 off0 data0 fin0 end0 i0 RR E h1) E h0) h0
  else
  Kx1 h0)
structure vizardref11_Box_Put.W4 (b0 : Option Addr) (off0 : Int) (data0 : ByteArray) (fin0 : Bool) (end0 : Int) (i0 : Int) (Kx1 : Heap → Prop) (E : Value → Heap → Prop) (H : Heap) : Prop where
  h : Loop (fun (RR : Int → Heap → Prop) (s : Int) (H : Heap) => vizardref11_Box_Put.W4.vc b0 off0 data0 fin0 end0 s Kx1 (fun i0 H => RR (i0) H) E H) (i0) H
def vizardref11_Box_Put.J8.vc (b0 : Option Addr) (fin0 : Bool) (end0 : Int) (Kr : Int → Heap → Prop) (E : Value → Heap → Prop) (h0 : Heap) : Prop :=
  (if fin0 = true then
  nilc b0 fun a0 =>
  stc h0 (a0.add 2) (.int .i64 end0) fun h1 =>
  Kr 0 h1
  else
  Kr 0 h0)
structure vizardref11_Box_Put.J8 (b0 : Option Addr) (fin0 : Bool) (end0 : Int) (Kr : Int → Heap → Prop) (E : Value → Heap → Prop) (H : Heap) : Prop where
  h : vizardref11_Box_Put.J8.vc b0 fin0 end0 Kr E H
def vizardref11_Box_Put.J3.vc (b0 : Option Addr) (off0 : Int) (data0 : ByteArray) (fin0 : Bool) (end0 : Int) (Kr : Int → Heap → Prop) (E : Value → Heap → Prop) (h0 : Heap) : Prop :=
  nilc b0 fun a0 =>
  ldB h0 (a0.add 4) fun x0 =>
  (if x0 = true then
  Kr 0 h0
  else
  vizardref11_Box_Put.W4 b0 off0 data0 fin0 end0 0 (fun h1 =>
  (if (decide ((data0.size : Int) > 0)) = true then
  nilc b0 fun a1 =>
  ldI h1 .i64 (a1.add 3) fun x1 =>
  nilc b0 fun a2 =>
  stc h1 (a2.add 3) (.int .i64 (if end0 > x1 then end0 else x1)) fun h2 =>
  vizardref11_Box_Put.J8 b0 fin0 end0 Kr E h2
  else
  vizardref11_Box_Put.J8 b0 fin0 end0 Kr E h1)) E h0)
structure vizardref11_Box_Put.J3 (b0 : Option Addr) (off0 : Int) (data0 : ByteArray) (fin0 : Bool) (end0 : Int) (Kr : Int → Heap → Prop) (E : Value → Heap → Prop) (H : Heap) : Prop where
  h : vizardref11_Box_Put.J3.vc b0 off0 data0 fin0 end0 Kr E H
def vizardref11_Box_Put.vc (b0 : Option Addr) (off0 : Int) (data0 : ByteArray) (fin0 : Bool) (K : Int → Heap → Prop) (E : Value → Heap → Prop) (h0 : Heap) : Prop :=
  vizardref11_place.c off0 (fun x0 h1 =>
  (if (!x0) = true then
  K 2 h1
  else
  vizardref11_Box_Limit.c b0 (fun x1 h2 =>
  (if (decide ((IntKind.i64.wrap (off0 + (data0.size : Int))) > x1)) = true then
  K 12 h2
  else
  nilc b0 fun a0 =>
  ldI h2 .i64 (a0.add 2) fun x2 =>
  (if (decide (x2 ≥ 0)) = true then
  nilc b0 fun a1 =>
  ldI h2 .i64 (a1.add 2) fun x3 =>
  (if (decide ((IntKind.i64.wrap (off0 + (data0.size : Int))) > x3)) = true then
  vizardref11_Box_Put.J1 b0 off0 data0 fin0 (IntKind.i64.wrap (off0 + (data0.size : Int))) true (fun h3 =>
  vizardref11_Box_Put.J3 b0 off0 data0 fin0 (IntKind.i64.wrap (off0 + (data0.size : Int))) K E h3) K E h2
  else
  (if fin0 = true then
  nilc b0 fun a2 =>
  ldI h2 .i64 (a2.add 2) fun x6 =>
  vizardref11_Box_Put.J1 b0 off0 data0 fin0 (IntKind.i64.wrap (off0 + (data0.size : Int))) ((IntKind.i64.wrap (off0 + (data0.size : Int))) != x6) (fun h6 =>
  vizardref11_Box_Put.J3 b0 off0 data0 fin0 (IntKind.i64.wrap (off0 + (data0.size : Int))) K E h6) K E h2
  else
  vizardref11_Box_Put.J1 b0 off0 data0 fin0 (IntKind.i64.wrap (off0 + (data0.size : Int))) false (fun h9 =>
  vizardref11_Box_Put.J3 b0 off0 data0 fin0 (IntKind.i64.wrap (off0 + (data0.size : Int))) K E h9) K E h2))
  else
  vizardref11_Box_Put.J1 b0 off0 data0 fin0 (IntKind.i64.wrap (off0 + (data0.size : Int))) false (fun h12 =>
  vizardref11_Box_Put.J3 b0 off0 data0 fin0 (IntKind.i64.wrap (off0 + (data0.size : Int))) K E h12) K E h2))) E h1)) E h0
structure vizardref11_Box_Put.c (b0 : Option Addr) (off0 : Int) (data0 : ByteArray) (fin0 : Bool) (K : Int → Heap → Prop) (E : Value → Heap → Prop) (H : Heap) : Prop where
  h : vizardref11_Box_Put.vc b0 off0 data0 fin0 (fun r0_0 H => ∃ H', Heap.Le H' H ∧ K r0_0 H') E H
def vizardref11_Box_Put.F : FT := fun args K E H => match args with
  | [(.pointer b0), (.int .i64 off0), (.string data0), (.bool fin0)] => vizardref11_Box_Put.c b0 off0 data0 fin0 (fun r0_0 H => K (.int .i64 r0_0) H) E H
  | _ => False
noncomputable def vizardref11_Box_Put.Γ : FuncId → Option FT := Γof [(38, vizardref11_Box_Limit.F), (59, vizardref11_place.F)]
theorem vizardref11_Box_Put.hΓ : ∀ f F, vizardref11_Box_Put.Γ f = some F → CalleeOk Try.prog f F := Γof_ok (List.forall_mem_cons.2 ⟨vizardref11_Box_Limit.ok, List.forall_mem_cons.2 ⟨vizardref11_place.ok, fun _ h => nomatch h⟩⟩)
def vizardref11_Box_Put.J2.t : CT := fun Q E fr H => lenIs 118 fr (slP fr 0 fun b0 => slI fr 1 .i64 fun off0 => slS fr 2 fun data0 => slB fr 3 fun fin0 => slI fr 9 .i64 fun end0 => slB fr 51 fun x0 => vizardref11_Box_Put.J2 b0 off0 data0 fin0 end0 x0 (fun  H => Q .normal (mkF 118 [(0, (.pointer b0)), (1, (.int .i64 off0)), (2, (.string data0)), (3, (.bool fin0)), (9, (.int .i64 end0))]) H) (fun y8_0 H => Q .ret (mkF 118 [(8, (.int .i64 y8_0))]) H) E H)
noncomputable def vizardref11_Box_Put.J2.plan : Plan := .go
theorem vizardref11_Box_Put.J2.pok : PlanOk Try.prog vizardref11_Box_Put.J2.plan (sub [1, 1, 1, 0, 0, 1, 1, 1, 1, 1] vizardref11_Box_Put.body) := by
  have e : PlanOk Try.prog vizardref11_Box_Put.J2.plan (sub [1, 1, 1, 0, 0, 1, 1, 1, 1, 1] vizardref11_Box_Put.body) = (True) := by kernel_rfl
  exact e.mpr trivial
theorem vizardref11_Box_Put.J2.eq (b0 : Option Addr) (off0 : Int) (data0 : ByteArray) (fin0 : Bool) (end0 : Int) (x0 : Bool) (Q : Ex → Fr → Heap → Prop) (E : Value → Heap → Prop) (H : Heap) :
    vizardref11_Box_Put.J2.vc b0 off0 data0 fin0 end0 x0 (fun  H => Q .normal (mkF 118 [(0, (.pointer b0)), (1, (.int .i64 off0)), (2, (.string data0)), (3, (.bool fin0)), (9, (.int .i64 end0))]) H) (fun y8_0 H => Q .ret (mkF 118 [(8, (.int .i64 y8_0))]) H) E H = keepT [0, 1, 2, 3, 9] [8] (fun i => []) (wC Try.prog vizardref11_Box_Put.Γ vizardref11_Box_Put.J2.plan (sub [1, 1, 1, 0, 0, 1, 1, 1, 1, 1] vizardref11_Box_Put.body)) Q E (mkF 118 [(0, (.pointer b0)), (1, (.int .i64 off0)), (2, (.string data0)), (3, (.bool fin0)), (9, (.int .i64 end0)), (51, (.bool x0))]) H := by
  kernel_rfl
theorem vizardref11_Box_Put.J2.ok : SoundCode Try.prog (sub [1, 1, 1, 0, 0, 1, 1, 1, 1, 1] vizardref11_Box_Put.body) vizardref11_Box_Put.J2.t := by
  refine piece_sound (keepT_sound [0, 1, 2, 3, 9] [8] (fun i => []) (wC_sound vizardref11_Box_Put.hΓ Try.hm vizardref11_Box_Put.J2.plan _ vizardref11_Box_Put.J2.pok)) ?_
  intro Q E fr H h
  unfold vizardref11_Box_Put.J2.t at h
  obtain ⟨hl, h⟩ := lenIs_elim h
  obtain ⟨b0, q0, h⟩ := slP_elim h
  obtain ⟨off0, q1, h⟩ := slI_elim h
  obtain ⟨data0, q2, h⟩ := slS_elim h
  obtain ⟨fin0, q3, h⟩ := slB_elim h
  obtain ⟨end0, q9, h⟩ := slI_elim h
  obtain ⟨x0, q51, h⟩ := slB_elim h
  refine ⟨(mkF 118 [(0, (.pointer b0)), (1, (.int .i64 off0)), (2, (.string data0)), (3, (.bool fin0)), (9, (.int .i64 end0)), (51, (.bool x0))]), fun a ha => ha.mk (Nat.le_of_eq hl.symm) (List.forall_mem_cons.2 ⟨q0, List.forall_mem_cons.2 ⟨q1, List.forall_mem_cons.2 ⟨q2, List.forall_mem_cons.2 ⟨q3, List.forall_mem_cons.2 ⟨q9, List.forall_mem_cons.2 ⟨q51, fun _ h => nomatch h⟩⟩⟩⟩⟩⟩), ?_⟩
  have e := vizardref11_Box_Put.J2.eq b0 off0 data0 fin0 end0 x0 Q E H
  rw [← e]
  exact h.h
def vizardref11_Box_Put.J1.t : CT := fun Q E fr H => lenIs 118 fr (slP fr 0 fun b0 => slI fr 1 .i64 fun off0 => slS fr 2 fun data0 => slB fr 3 fun fin0 => slI fr 9 .i64 fun end0 => slB fr 26 fun x0 => vizardref11_Box_Put.J1 b0 off0 data0 fin0 end0 x0 (fun  H => Q .normal (mkF 118 [(0, (.pointer b0)), (1, (.int .i64 off0)), (2, (.string data0)), (3, (.bool fin0)), (9, (.int .i64 end0))]) H) (fun y8_0 H => Q .ret (mkF 118 [(8, (.int .i64 y8_0))]) H) E H)
noncomputable def vizardref11_Box_Put.J1.plan : Plan := .cond (.go) (.seq (.go) (.use vizardref11_Box_Put.J2.t))
theorem vizardref11_Box_Put.J1.pok : PlanOk Try.prog vizardref11_Box_Put.J1.plan (sub [1, 1, 1, 0, 0, 1, 1, 1] vizardref11_Box_Put.body) := by
  have e : PlanOk Try.prog vizardref11_Box_Put.J1.plan (sub [1, 1, 1, 0, 0, 1, 1, 1] vizardref11_Box_Put.body) = ((True) ∧ ((True) ∧ (SoundCode Try.prog (sub [1, 1, 1, 0, 0, 1, 1, 1, 1, 1] vizardref11_Box_Put.body) vizardref11_Box_Put.J2.t))) := by kernel_rfl
  exact e.mpr ⟨trivial, ⟨trivial, vizardref11_Box_Put.J2.ok⟩⟩
theorem vizardref11_Box_Put.J1.eq (b0 : Option Addr) (off0 : Int) (data0 : ByteArray) (fin0 : Bool) (end0 : Int) (x0 : Bool) (Q : Ex → Fr → Heap → Prop) (E : Value → Heap → Prop) (H : Heap) :
    vizardref11_Box_Put.J1.vc b0 off0 data0 fin0 end0 x0 (fun  H => Q .normal (mkF 118 [(0, (.pointer b0)), (1, (.int .i64 off0)), (2, (.string data0)), (3, (.bool fin0)), (9, (.int .i64 end0))]) H) (fun y8_0 H => Q .ret (mkF 118 [(8, (.int .i64 y8_0))]) H) E H = keepT [0, 1, 2, 3, 9] [8] (fun i => []) (wC Try.prog vizardref11_Box_Put.Γ vizardref11_Box_Put.J1.plan (sub [1, 1, 1, 0, 0, 1, 1, 1] vizardref11_Box_Put.body)) Q E (mkF 118 [(0, (.pointer b0)), (1, (.int .i64 off0)), (2, (.string data0)), (3, (.bool fin0)), (9, (.int .i64 end0)), (26, (.bool x0))]) H := by
  kernel_rfl
theorem vizardref11_Box_Put.J1.ok : SoundCode Try.prog (sub [1, 1, 1, 0, 0, 1, 1, 1] vizardref11_Box_Put.body) vizardref11_Box_Put.J1.t := by
  refine piece_sound (keepT_sound [0, 1, 2, 3, 9] [8] (fun i => []) (wC_sound vizardref11_Box_Put.hΓ Try.hm vizardref11_Box_Put.J1.plan _ vizardref11_Box_Put.J1.pok)) ?_
  intro Q E fr H h
  unfold vizardref11_Box_Put.J1.t at h
  obtain ⟨hl, h⟩ := lenIs_elim h
  obtain ⟨b0, q0, h⟩ := slP_elim h
  obtain ⟨off0, q1, h⟩ := slI_elim h
  obtain ⟨data0, q2, h⟩ := slS_elim h
  obtain ⟨fin0, q3, h⟩ := slB_elim h
  obtain ⟨end0, q9, h⟩ := slI_elim h
  obtain ⟨x0, q26, h⟩ := slB_elim h
  refine ⟨(mkF 118 [(0, (.pointer b0)), (1, (.int .i64 off0)), (2, (.string data0)), (3, (.bool fin0)), (9, (.int .i64 end0)), (26, (.bool x0))]), fun a ha => ha.mk (Nat.le_of_eq hl.symm) (List.forall_mem_cons.2 ⟨q0, List.forall_mem_cons.2 ⟨q1, List.forall_mem_cons.2 ⟨q2, List.forall_mem_cons.2 ⟨q3, List.forall_mem_cons.2 ⟨q9, List.forall_mem_cons.2 ⟨q26, fun _ h => nomatch h⟩⟩⟩⟩⟩⟩), ?_⟩
  have e := vizardref11_Box_Put.J1.eq b0 off0 data0 fin0 end0 x0 Q E H
  rw [← e]
  exact h.h
def vizardref11_Box_Put.J6.t : CT := fun Q E fr H => lenIs 118 fr (slP fr 0 fun b0 => slI fr 1 .i64 fun off0 => slS fr 2 fun data0 => slB fr 3 fun fin0 => slI fr 9 .i64 fun end0 => slI fr 10 .i64 fun i0 => slI fr 11 .i64 fun at0 => slB fr 92 fun x0 => vizardref11_Box_Put.J6 b0 off0 data0 fin0 end0 i0 at0 x0 (fun  H => Q .normal (mkF 118 [(0, (.pointer b0)), (1, (.int .i64 off0)), (2, (.string data0)), (3, (.bool fin0)), (9, (.int .i64 end0)), (10, (.int .i64 i0))]) H) E H)
noncomputable def vizardref11_Box_Put.J6.plan : Plan := .cond (.draw ⟨[0, 1, 2, 3, 4, 5, 6, 7, 8], (dl [(0, []), (1, []), (2, []), (3, []), (4, []), (5, []), (6, []), (7, []), (8, [3, 4, 7, 0, 1, 2, 5, 6])] .fin), []⟩) (.go)
theorem vizardref11_Box_Put.J6.pok : PlanOk Try.prog vizardref11_Box_Put.J6.plan (sub [1, 1, 1, 1, 1, 0, 1, 0, 0, 1, 0, 0, 1, 1, 1] vizardref11_Box_Put.body) := by
  have e : PlanOk Try.prog vizardref11_Box_Put.J6.plan (sub [1, 1, 1, 1, 1, 0, 1, 0, 0, 1, 0, 0, 1, 1, 1] vizardref11_Box_Put.body) = ((True) ∧ (True)) := by kernel_rfl
  exact e.mpr ⟨trivial, trivial⟩
theorem vizardref11_Box_Put.J6.eq (b0 : Option Addr) (off0 : Int) (data0 : ByteArray) (fin0 : Bool) (end0 : Int) (i0 : Int) (at0 : Int) (x0 : Bool) (Q : Ex → Fr → Heap → Prop) (E : Value → Heap → Prop) (H : Heap) :
    vizardref11_Box_Put.J6.vc b0 off0 data0 fin0 end0 i0 at0 x0 (fun  H => Q .normal (mkF 118 [(0, (.pointer b0)), (1, (.int .i64 off0)), (2, (.string data0)), (3, (.bool fin0)), (9, (.int .i64 end0)), (10, (.int .i64 i0))]) H) E H = keepT [0, 1, 2, 3, 9, 10] [] (fun i => []) (wC Try.prog vizardref11_Box_Put.Γ vizardref11_Box_Put.J6.plan (sub [1, 1, 1, 1, 1, 0, 1, 0, 0, 1, 0, 0, 1, 1, 1] vizardref11_Box_Put.body)) Q E (mkF 118 [(0, (.pointer b0)), (1, (.int .i64 off0)), (2, (.string data0)), (3, (.bool fin0)), (9, (.int .i64 end0)), (10, (.int .i64 i0)), (11, (.int .i64 at0)), (92, (.bool x0))]) H := by
  kernel_rfl
theorem vizardref11_Box_Put.J6.ok : SoundCode Try.prog (sub [1, 1, 1, 1, 1, 0, 1, 0, 0, 1, 0, 0, 1, 1, 1] vizardref11_Box_Put.body) vizardref11_Box_Put.J6.t := by
  refine piece_sound (keepT_sound [0, 1, 2, 3, 9, 10] [] (fun i => []) (wC_sound vizardref11_Box_Put.hΓ Try.hm vizardref11_Box_Put.J6.plan _ vizardref11_Box_Put.J6.pok)) ?_
  intro Q E fr H h
  unfold vizardref11_Box_Put.J6.t at h
  obtain ⟨hl, h⟩ := lenIs_elim h
  obtain ⟨b0, q0, h⟩ := slP_elim h
  obtain ⟨off0, q1, h⟩ := slI_elim h
  obtain ⟨data0, q2, h⟩ := slS_elim h
  obtain ⟨fin0, q3, h⟩ := slB_elim h
  obtain ⟨end0, q9, h⟩ := slI_elim h
  obtain ⟨i0, q10, h⟩ := slI_elim h
  obtain ⟨at0, q11, h⟩ := slI_elim h
  obtain ⟨x0, q92, h⟩ := slB_elim h
  refine ⟨(mkF 118 [(0, (.pointer b0)), (1, (.int .i64 off0)), (2, (.string data0)), (3, (.bool fin0)), (9, (.int .i64 end0)), (10, (.int .i64 i0)), (11, (.int .i64 at0)), (92, (.bool x0))]), fun a ha => ha.mk (Nat.le_of_eq hl.symm) (List.forall_mem_cons.2 ⟨q0, List.forall_mem_cons.2 ⟨q1, List.forall_mem_cons.2 ⟨q2, List.forall_mem_cons.2 ⟨q3, List.forall_mem_cons.2 ⟨q9, List.forall_mem_cons.2 ⟨q10, List.forall_mem_cons.2 ⟨q11, List.forall_mem_cons.2 ⟨q92, fun _ h => nomatch h⟩⟩⟩⟩⟩⟩⟩⟩), ?_⟩
  have e := vizardref11_Box_Put.J6.eq b0 off0 data0 fin0 end0 i0 at0 x0 Q E H
  rw [← e]
  exact h.h
def vizardref11_Box_Put.J5.t : CT := fun Q E fr H => lenIs 118 fr (slP fr 0 fun b0 => slI fr 1 .i64 fun off0 => slS fr 2 fun data0 => slB fr 3 fun fin0 => slI fr 9 .i64 fun end0 => slI fr 10 .i64 fun i0 => slI fr 11 .i64 fun at0 => slB fr 13 fun ok0 => vizardref11_Box_Put.J5 b0 off0 data0 fin0 end0 i0 at0 ok0 (fun  H => Q .normal (mkF 118 [(0, (.pointer b0)), (1, (.int .i64 off0)), (2, (.string data0)), (3, (.bool fin0)), (9, (.int .i64 end0)), (10, (.int .i64 i0))]) H) E H)
noncomputable def vizardref11_Box_Put.J5.plan : Plan := .seq (.go) (.use vizardref11_Box_Put.J6.t)
theorem vizardref11_Box_Put.J5.pok : PlanOk Try.prog vizardref11_Box_Put.J5.plan (sub [1, 1, 1, 1, 1, 0, 1, 0, 0, 1, 0, 0, 1, 1] vizardref11_Box_Put.body) := by
  have e : PlanOk Try.prog vizardref11_Box_Put.J5.plan (sub [1, 1, 1, 1, 1, 0, 1, 0, 0, 1, 0, 0, 1, 1] vizardref11_Box_Put.body) = ((True) ∧ (SoundCode Try.prog (sub [1, 1, 1, 1, 1, 0, 1, 0, 0, 1, 0, 0, 1, 1, 1] vizardref11_Box_Put.body) vizardref11_Box_Put.J6.t)) := by kernel_rfl
  exact e.mpr ⟨trivial, vizardref11_Box_Put.J6.ok⟩
theorem vizardref11_Box_Put.J5.eq (b0 : Option Addr) (off0 : Int) (data0 : ByteArray) (fin0 : Bool) (end0 : Int) (i0 : Int) (at0 : Int) (ok0 : Bool) (Q : Ex → Fr → Heap → Prop) (E : Value → Heap → Prop) (H : Heap) :
    vizardref11_Box_Put.J5.vc b0 off0 data0 fin0 end0 i0 at0 ok0 (fun  H => Q .normal (mkF 118 [(0, (.pointer b0)), (1, (.int .i64 off0)), (2, (.string data0)), (3, (.bool fin0)), (9, (.int .i64 end0)), (10, (.int .i64 i0))]) H) E H = keepT [0, 1, 2, 3, 9, 10] [] (fun i => []) (wC Try.prog vizardref11_Box_Put.Γ vizardref11_Box_Put.J5.plan (sub [1, 1, 1, 1, 1, 0, 1, 0, 0, 1, 0, 0, 1, 1] vizardref11_Box_Put.body)) Q E (mkF 118 [(0, (.pointer b0)), (1, (.int .i64 off0)), (2, (.string data0)), (3, (.bool fin0)), (9, (.int .i64 end0)), (10, (.int .i64 i0)), (11, (.int .i64 at0)), (13, (.bool ok0))]) H := by
  kernel_rfl
theorem vizardref11_Box_Put.J5.ok : SoundCode Try.prog (sub [1, 1, 1, 1, 1, 0, 1, 0, 0, 1, 0, 0, 1, 1] vizardref11_Box_Put.body) vizardref11_Box_Put.J5.t := by
  refine piece_sound (keepT_sound [0, 1, 2, 3, 9, 10] [] (fun i => []) (wC_sound vizardref11_Box_Put.hΓ Try.hm vizardref11_Box_Put.J5.plan _ vizardref11_Box_Put.J5.pok)) ?_
  intro Q E fr H h
  unfold vizardref11_Box_Put.J5.t at h
  obtain ⟨hl, h⟩ := lenIs_elim h
  obtain ⟨b0, q0, h⟩ := slP_elim h
  obtain ⟨off0, q1, h⟩ := slI_elim h
  obtain ⟨data0, q2, h⟩ := slS_elim h
  obtain ⟨fin0, q3, h⟩ := slB_elim h
  obtain ⟨end0, q9, h⟩ := slI_elim h
  obtain ⟨i0, q10, h⟩ := slI_elim h
  obtain ⟨at0, q11, h⟩ := slI_elim h
  obtain ⟨ok0, q13, h⟩ := slB_elim h
  refine ⟨(mkF 118 [(0, (.pointer b0)), (1, (.int .i64 off0)), (2, (.string data0)), (3, (.bool fin0)), (9, (.int .i64 end0)), (10, (.int .i64 i0)), (11, (.int .i64 at0)), (13, (.bool ok0))]), fun a ha => ha.mk (Nat.le_of_eq hl.symm) (List.forall_mem_cons.2 ⟨q0, List.forall_mem_cons.2 ⟨q1, List.forall_mem_cons.2 ⟨q2, List.forall_mem_cons.2 ⟨q3, List.forall_mem_cons.2 ⟨q9, List.forall_mem_cons.2 ⟨q10, List.forall_mem_cons.2 ⟨q11, List.forall_mem_cons.2 ⟨q13, fun _ h => nomatch h⟩⟩⟩⟩⟩⟩⟩⟩), ?_⟩
  have e := vizardref11_Box_Put.J5.eq b0 off0 data0 fin0 end0 i0 at0 ok0 Q E H
  rw [← e]
  exact h.h
def vizardref11_Box_Put.J7.t : CT := fun Q E fr H => lenIs 118 fr (slP fr 0 fun b0 => slI fr 1 .i64 fun off0 => slS fr 2 fun data0 => slB fr 3 fun fin0 => slI fr 9 .i64 fun end0 => slI fr 10 .i64 fun i0 => vizardref11_Box_Put.J7 b0 off0 data0 fin0 end0 i0 (fun y10_0 H => Q .normal (mkF 118 [(0, (.pointer b0)), (1, (.int .i64 off0)), (2, (.string data0)), (3, (.bool fin0)), (9, (.int .i64 end0)), (10, (.int .i64 y10_0))]) H) E H)
noncomputable def vizardref11_Box_Put.J7.plan : Plan := .go
theorem vizardref11_Box_Put.J7.pok : PlanOk Try.prog vizardref11_Box_Put.J7.plan (sub [1, 1, 1, 1, 1, 0, 1, 0, 0, 1, 1] vizardref11_Box_Put.body) := by
  have e : PlanOk Try.prog vizardref11_Box_Put.J7.plan (sub [1, 1, 1, 1, 1, 0, 1, 0, 0, 1, 1] vizardref11_Box_Put.body) = (True) := by kernel_rfl
  exact e.mpr trivial
theorem vizardref11_Box_Put.J7.eq (b0 : Option Addr) (off0 : Int) (data0 : ByteArray) (fin0 : Bool) (end0 : Int) (i0 : Int) (Q : Ex → Fr → Heap → Prop) (E : Value → Heap → Prop) (H : Heap) :
    vizardref11_Box_Put.J7.vc b0 off0 data0 fin0 end0 i0 (fun y10_0 H => Q .normal (mkF 118 [(0, (.pointer b0)), (1, (.int .i64 off0)), (2, (.string data0)), (3, (.bool fin0)), (9, (.int .i64 end0)), (10, (.int .i64 y10_0))]) H) E H = keepT [0, 1, 2, 3, 9, 10] [] (fun i => []) (wC Try.prog vizardref11_Box_Put.Γ vizardref11_Box_Put.J7.plan (sub [1, 1, 1, 1, 1, 0, 1, 0, 0, 1, 1] vizardref11_Box_Put.body)) Q E (mkF 118 [(0, (.pointer b0)), (1, (.int .i64 off0)), (2, (.string data0)), (3, (.bool fin0)), (9, (.int .i64 end0)), (10, (.int .i64 i0))]) H := by
  kernel_rfl
theorem vizardref11_Box_Put.J7.ok : SoundCode Try.prog (sub [1, 1, 1, 1, 1, 0, 1, 0, 0, 1, 1] vizardref11_Box_Put.body) vizardref11_Box_Put.J7.t := by
  refine piece_sound (keepT_sound [0, 1, 2, 3, 9, 10] [] (fun i => []) (wC_sound vizardref11_Box_Put.hΓ Try.hm vizardref11_Box_Put.J7.plan _ vizardref11_Box_Put.J7.pok)) ?_
  intro Q E fr H h
  unfold vizardref11_Box_Put.J7.t at h
  obtain ⟨hl, h⟩ := lenIs_elim h
  obtain ⟨b0, q0, h⟩ := slP_elim h
  obtain ⟨off0, q1, h⟩ := slI_elim h
  obtain ⟨data0, q2, h⟩ := slS_elim h
  obtain ⟨fin0, q3, h⟩ := slB_elim h
  obtain ⟨end0, q9, h⟩ := slI_elim h
  obtain ⟨i0, q10, h⟩ := slI_elim h
  refine ⟨(mkF 118 [(0, (.pointer b0)), (1, (.int .i64 off0)), (2, (.string data0)), (3, (.bool fin0)), (9, (.int .i64 end0)), (10, (.int .i64 i0))]), fun a ha => ha.mk (Nat.le_of_eq hl.symm) (List.forall_mem_cons.2 ⟨q0, List.forall_mem_cons.2 ⟨q1, List.forall_mem_cons.2 ⟨q2, List.forall_mem_cons.2 ⟨q3, List.forall_mem_cons.2 ⟨q9, List.forall_mem_cons.2 ⟨q10, fun _ h => nomatch h⟩⟩⟩⟩⟩⟩), ?_⟩
  have e := vizardref11_Box_Put.J7.eq b0 off0 data0 fin0 end0 i0 Q E H
  rw [← e]
  exact h.h
def vizardref11_Box_Put.W4.t : CT := fun Q E fr H => lenIs 118 fr (slP fr 0 fun b0 => slI fr 1 .i64 fun off0 => slS fr 2 fun data0 => slB fr 3 fun fin0 => slI fr 9 .i64 fun end0 => slI fr 10 .i64 fun i0 => vizardref11_Box_Put.W4 b0 off0 data0 fin0 end0 i0 (fun  H => Q (.exit 1) (mkF 118 [(0, (.pointer b0)), (2, (.string data0)), (3, (.bool fin0)), (9, (.int .i64 end0))]) H) E H)
noncomputable def vizardref11_Box_Put.W4.plan : Plan := .seq (.go) (.seq (.block (.seq (.go) (.seq (.go) (.use vizardref11_Box_Put.J5.t)))) (.use vizardref11_Box_Put.J7.t))
theorem vizardref11_Box_Put.W4.pok : PlanOk Try.prog vizardref11_Box_Put.W4.plan (sub [1, 1, 1, 1, 1, 0, 1, 0, 0] vizardref11_Box_Put.body) := by
  have e : PlanOk Try.prog vizardref11_Box_Put.W4.plan (sub [1, 1, 1, 1, 1, 0, 1, 0, 0] vizardref11_Box_Put.body) = ((True) ∧ (((True) ∧ ((True) ∧ (SoundCode Try.prog (sub [1, 1, 1, 1, 1, 0, 1, 0, 0, 1, 0, 0, 1, 1] vizardref11_Box_Put.body) vizardref11_Box_Put.J5.t))) ∧ (SoundCode Try.prog (sub [1, 1, 1, 1, 1, 0, 1, 0, 0, 1, 1] vizardref11_Box_Put.body) vizardref11_Box_Put.J7.t))) := by kernel_rfl
  exact e.mpr ⟨trivial, ⟨⟨trivial, ⟨trivial, vizardref11_Box_Put.J5.ok⟩⟩, vizardref11_Box_Put.J7.ok⟩⟩
theorem vizardref11_Box_Put.W4.eq (b0 : Option Addr) (off0 : Int) (data0 : ByteArray) (fin0 : Bool) (end0 : Int) (Q : Ex → Fr → Heap → Prop) (E : Value → Heap → Prop) (RR : Fr → Heap → Prop) (s : Int) (H : Heap) :
    (fun (RR : Int → Heap → Prop) (s : Int) (H : Heap) => vizardref11_Box_Put.W4.vc b0 off0 data0 fin0 end0 s (fun  H => Q (.exit 1) (mkF 118 [(0, (.pointer b0)), (2, (.string data0)), (3, (.bool fin0)), (9, (.int .i64 end0))]) H) (fun i0 H => RR (i0) H) E H) (fun s' H' => RR ((fun (s : Int) => (mkF 118 [(0, (.pointer b0)), (1, (.int .i64 off0)), (2, (.string data0)), (3, (.bool fin0)), (9, (.int .i64 end0)), (10, (.int .i64 s))])) s') H') s H = keepT [0, 1, 2, 3, 9, 10] [] (fun i => if i = 1 then [0, 2, 3, 9] else []) (wC Try.prog vizardref11_Box_Put.Γ vizardref11_Box_Put.W4.plan (sub [1, 1, 1, 1, 1, 0, 1, 0, 0] vizardref11_Box_Put.body)) (fun e fr' H' => match e with | .normal => RR fr' H' | .exit id => Q (.exit id) fr' H' | .ret => Q .ret fr' H') E ((fun (s : Int) => (mkF 118 [(0, (.pointer b0)), (1, (.int .i64 off0)), (2, (.string data0)), (3, (.bool fin0)), (9, (.int .i64 end0)), (10, (.int .i64 s))])) s) H := by
  kernel_rfl
theorem vizardref11_Box_Put.W4.ok : SoundCode Try.prog (sub [1, 1, 1, 1, 1, 0, 1, 0] vizardref11_Box_Put.body) vizardref11_Box_Put.W4.t := by
  have e : (sub [1, 1, 1, 1, 1, 0, 1, 0] vizardref11_Box_Put.body) = .loop (sub [1, 1, 1, 1, 1, 0, 1, 0, 0] vizardref11_Box_Put.body) := by kernel_rfl
  rw [e]
  refine piece_sound (loopN_sound (keepT_sound [0, 1, 2, 3, 9, 10] [] (fun i => if i = 1 then [0, 2, 3, 9] else []) (wC_sound vizardref11_Box_Put.hΓ Try.hm vizardref11_Box_Put.W4.plan _ vizardref11_Box_Put.W4.pok))) ?_
  intro Q E fr H h
  unfold vizardref11_Box_Put.W4.t at h
  obtain ⟨hl, h⟩ := lenIs_elim h
  obtain ⟨b0, q0, h⟩ := slP_elim h
  obtain ⟨off0, q1, h⟩ := slI_elim h
  obtain ⟨data0, q2, h⟩ := slS_elim h
  obtain ⟨fin0, q3, h⟩ := slB_elim h
  obtain ⟨end0, q9, h⟩ := slI_elim h
  obtain ⟨i0, q10, h⟩ := slI_elim h
  obtain ⟨m, h⟩ := h.h
  refine ⟨(mkF 118 [(0, (.pointer b0)), (1, (.int .i64 off0)), (2, (.string data0)), (3, (.bool fin0)), (9, (.int .i64 end0)), (10, (.int .i64 i0))]), fun a ha => ha.mk (Nat.le_of_eq hl.symm) (List.forall_mem_cons.2 ⟨q0, List.forall_mem_cons.2 ⟨q1, List.forall_mem_cons.2 ⟨q2, List.forall_mem_cons.2 ⟨q3, List.forall_mem_cons.2 ⟨q9, List.forall_mem_cons.2 ⟨q10, fun _ h => nomatch h⟩⟩⟩⟩⟩⟩), m, ?_⟩
  have e := loopS_eq (B := (fun (RR : Int → Heap → Prop) (s : Int) (H : Heap) => vizardref11_Box_Put.W4.vc b0 off0 data0 fin0 end0 s (fun  H => Q (.exit 1) (mkF 118 [(0, (.pointer b0)), (2, (.string data0)), (3, (.bool fin0)), (9, (.int .i64 end0))]) H) (fun i0 H => RR (i0) H) E H)) (A := keepT [0, 1, 2, 3, 9, 10] [] (fun i => if i = 1 then [0, 2, 3, 9] else []) (wC Try.prog vizardref11_Box_Put.Γ vizardref11_Box_Put.W4.plan (sub [1, 1, 1, 1, 1, 0, 1, 0, 0] vizardref11_Box_Put.body))) (m := (fun (s : Int) => (mkF 118 [(0, (.pointer b0)), (1, (.int .i64 off0)), (2, (.string data0)), (3, (.bool fin0)), (9, (.int .i64 end0)), (10, (.int .i64 s))]))) (Q := Q) (E := E) (fun RR s H => vizardref11_Box_Put.W4.eq b0 off0 data0 fin0 end0 Q E RR s H) m (i0) H
  exact cast e h
def vizardref11_Box_Put.J8.t : CT := fun Q E fr H => lenIs 118 fr (slP fr 0 fun b0 => slB fr 3 fun fin0 => slI fr 9 .i64 fun end0 => vizardref11_Box_Put.J8 b0 fin0 end0 (fun y8_0 H => Q .ret (mkF 118 [(8, (.int .i64 y8_0))]) H) E H)
noncomputable def vizardref11_Box_Put.J8.plan : Plan := .go
theorem vizardref11_Box_Put.J8.pok : PlanOk Try.prog vizardref11_Box_Put.J8.plan (sub [1, 1, 1, 1, 1, 1, 1] vizardref11_Box_Put.body) := by
  have e : PlanOk Try.prog vizardref11_Box_Put.J8.plan (sub [1, 1, 1, 1, 1, 1, 1] vizardref11_Box_Put.body) = (True) := by kernel_rfl
  exact e.mpr trivial
theorem vizardref11_Box_Put.J8.eq (b0 : Option Addr) (fin0 : Bool) (end0 : Int) (Q : Ex → Fr → Heap → Prop) (E : Value → Heap → Prop) (H : Heap) :
    vizardref11_Box_Put.J8.vc b0 fin0 end0 (fun y8_0 H => Q .ret (mkF 118 [(8, (.int .i64 y8_0))]) H) E H = keepT [] [8] (fun i => []) (wC Try.prog vizardref11_Box_Put.Γ vizardref11_Box_Put.J8.plan (sub [1, 1, 1, 1, 1, 1, 1] vizardref11_Box_Put.body)) Q E (mkF 118 [(0, (.pointer b0)), (3, (.bool fin0)), (9, (.int .i64 end0))]) H := by
  kernel_rfl
theorem vizardref11_Box_Put.J8.ok : SoundCode Try.prog (sub [1, 1, 1, 1, 1, 1, 1] vizardref11_Box_Put.body) vizardref11_Box_Put.J8.t := by
  refine piece_sound (keepT_sound [] [8] (fun i => []) (wC_sound vizardref11_Box_Put.hΓ Try.hm vizardref11_Box_Put.J8.plan _ vizardref11_Box_Put.J8.pok)) ?_
  intro Q E fr H h
  unfold vizardref11_Box_Put.J8.t at h
  obtain ⟨hl, h⟩ := lenIs_elim h
  obtain ⟨b0, q0, h⟩ := slP_elim h
  obtain ⟨fin0, q3, h⟩ := slB_elim h
  obtain ⟨end0, q9, h⟩ := slI_elim h
  refine ⟨(mkF 118 [(0, (.pointer b0)), (3, (.bool fin0)), (9, (.int .i64 end0))]), fun a ha => ha.mk (Nat.le_of_eq hl.symm) (List.forall_mem_cons.2 ⟨q0, List.forall_mem_cons.2 ⟨q3, List.forall_mem_cons.2 ⟨q9, fun _ h => nomatch h⟩⟩⟩), ?_⟩
  have e := vizardref11_Box_Put.J8.eq b0 fin0 end0 Q E H
  rw [← e]
  exact h.h
def vizardref11_Box_Put.J3.t : CT := fun Q E fr H => lenIs 118 fr (slP fr 0 fun b0 => slI fr 1 .i64 fun off0 => slS fr 2 fun data0 => slB fr 3 fun fin0 => slI fr 9 .i64 fun end0 => vizardref11_Box_Put.J3 b0 off0 data0 fin0 end0 (fun y8_0 H => Q .ret (mkF 118 [(8, (.int .i64 y8_0))]) H) E H)
noncomputable def vizardref11_Box_Put.J3.plan : Plan := .seq (.go) (.seq (.seq (.go) (.block (.use vizardref11_Box_Put.W4.t))) (.seq (.go) (.use vizardref11_Box_Put.J8.t)))
theorem vizardref11_Box_Put.J3.pok : PlanOk Try.prog vizardref11_Box_Put.J3.plan (sub [1, 1, 1, 1] vizardref11_Box_Put.body) := by
  have e : PlanOk Try.prog vizardref11_Box_Put.J3.plan (sub [1, 1, 1, 1] vizardref11_Box_Put.body) = ((True) ∧ (((True) ∧ (SoundCode Try.prog (sub [1, 1, 1, 1, 1, 0, 1, 0] vizardref11_Box_Put.body) vizardref11_Box_Put.W4.t)) ∧ ((True) ∧ (SoundCode Try.prog (sub [1, 1, 1, 1, 1, 1, 1] vizardref11_Box_Put.body) vizardref11_Box_Put.J8.t)))) := by kernel_rfl
  exact e.mpr ⟨trivial, ⟨⟨trivial, vizardref11_Box_Put.W4.ok⟩, ⟨trivial, vizardref11_Box_Put.J8.ok⟩⟩⟩
theorem vizardref11_Box_Put.J3.eq (b0 : Option Addr) (off0 : Int) (data0 : ByteArray) (fin0 : Bool) (end0 : Int) (Q : Ex → Fr → Heap → Prop) (E : Value → Heap → Prop) (H : Heap) :
    vizardref11_Box_Put.J3.vc b0 off0 data0 fin0 end0 (fun y8_0 H => Q .ret (mkF 118 [(8, (.int .i64 y8_0))]) H) E H = keepT [] [8] (fun i => []) (wC Try.prog vizardref11_Box_Put.Γ vizardref11_Box_Put.J3.plan (sub [1, 1, 1, 1] vizardref11_Box_Put.body)) Q E (mkF 118 [(0, (.pointer b0)), (1, (.int .i64 off0)), (2, (.string data0)), (3, (.bool fin0)), (9, (.int .i64 end0))]) H := by
  kernel_rfl
theorem vizardref11_Box_Put.J3.ok : SoundCode Try.prog (sub [1, 1, 1, 1] vizardref11_Box_Put.body) vizardref11_Box_Put.J3.t := by
  refine piece_sound (keepT_sound [] [8] (fun i => []) (wC_sound vizardref11_Box_Put.hΓ Try.hm vizardref11_Box_Put.J3.plan _ vizardref11_Box_Put.J3.pok)) ?_
  intro Q E fr H h
  unfold vizardref11_Box_Put.J3.t at h
  obtain ⟨hl, h⟩ := lenIs_elim h
  obtain ⟨b0, q0, h⟩ := slP_elim h
  obtain ⟨off0, q1, h⟩ := slI_elim h
  obtain ⟨data0, q2, h⟩ := slS_elim h
  obtain ⟨fin0, q3, h⟩ := slB_elim h
  obtain ⟨end0, q9, h⟩ := slI_elim h
  refine ⟨(mkF 118 [(0, (.pointer b0)), (1, (.int .i64 off0)), (2, (.string data0)), (3, (.bool fin0)), (9, (.int .i64 end0))]), fun a ha => ha.mk (Nat.le_of_eq hl.symm) (List.forall_mem_cons.2 ⟨q0, List.forall_mem_cons.2 ⟨q1, List.forall_mem_cons.2 ⟨q2, List.forall_mem_cons.2 ⟨q3, List.forall_mem_cons.2 ⟨q9, fun _ h => nomatch h⟩⟩⟩⟩⟩), ?_⟩
  have e := vizardref11_Box_Put.J3.eq b0 off0 data0 fin0 end0 Q E H
  rw [← e]
  exact h.h
noncomputable def vizardref11_Box_Put.plan : Plan := .seq (.go) (.seq (.go) (.seq (.go) (.seq (.block (.seq (.go) (.cond (.go) (.seq (.go) (.use vizardref11_Box_Put.J1.t))))) (.use vizardref11_Box_Put.J3.t))))
theorem vizardref11_Box_Put.pok : PlanOk Try.prog vizardref11_Box_Put.plan vizardref11_Box_Put.body := by
  have e : PlanOk Try.prog vizardref11_Box_Put.plan vizardref11_Box_Put.body = ((True) ∧ ((True) ∧ ((True) ∧ (((True) ∧ ((True) ∧ ((True) ∧ (SoundCode Try.prog (sub [1, 1, 1, 0, 0, 1, 1, 1] vizardref11_Box_Put.body) vizardref11_Box_Put.J1.t)))) ∧ (SoundCode Try.prog (sub [1, 1, 1, 1] vizardref11_Box_Put.body) vizardref11_Box_Put.J3.t))))) := by kernel_rfl
  exact e.mpr ⟨trivial, ⟨trivial, ⟨trivial, ⟨⟨trivial, ⟨trivial, ⟨trivial, vizardref11_Box_Put.J1.ok⟩⟩⟩, vizardref11_Box_Put.J3.ok⟩⟩⟩⟩
theorem vizardref11_Box_Put.eq (b0 : Option Addr) (off0 : Int) (data0 : ByteArray) (fin0 : Bool) (K : Value → Heap → Prop) (E : Value → Heap → Prop) (H : Heap) :
    fnT Try.prog Try.f34 (wC Try.prog vizardref11_Box_Put.Γ vizardref11_Box_Put.plan vizardref11_Box_Put.body) [(.pointer b0), (.int .i64 off0), (.string data0), (.bool fin0)] K E H = vizardref11_Box_Put.vc b0 off0 data0 fin0 (fun r0_0 H => K (.int .i64 r0_0) H) E H := by
  kernel_rfl
theorem vizardref11_Box_Put.Fe {args : List Value} {K E : Value → Heap → Prop} {H : Heap} (h : vizardref11_Box_Put.F args K E H) : ∃ b0 off0 data0 fin0, args = [(.pointer b0), (.int .i64 off0), (.string data0), (.bool fin0)] ∧ vizardref11_Box_Put.c b0 off0 data0 fin0 (fun r0_0 H => K (.int .i64 r0_0) H) E H := by
  unfold vizardref11_Box_Put.F at h
  split at h
  · exact ⟨_, _, _, _, rfl, h⟩
  · exact h.elim
theorem vizardref11_Box_Put.ok : CalleeOk Try.prog 34 vizardref11_Box_Put.F :=
  callee_ok vizardref11_Box_Put.hΓ (fn := Try.f34) (c := vizardref11_Box_Put.body) (T := wC Try.prog vizardref11_Box_Put.Γ vizardref11_Box_Put.plan vizardref11_Box_Put.body) (by kernel_rfl) (by kernel_rfl) (by kernel_rfl) (wC_sound vizardref11_Box_Put.hΓ Try.hm vizardref11_Box_Put.plan _ vizardref11_Box_Put.pok) fun _ K E H h => by
    obtain ⟨z0, z1, z2, z3, e, h⟩ := vizardref11_Box_Put.Fe h
    subst e
    have h2 : vizardref11_Box_Put.vc z0 z1 z2 z3 (fun r0_0 H => ∃ H', Heap.Le H' H ∧ K (.int .i64 r0_0) H') E H := h.h
    rw [vizardref11_Box_Put.eq z0 z1 z2 z3 (Fg K) E H]
    exact h2

/-! (*vizard/inbox.Box).Reset -/
noncomputable def inbox_Box_Reset.body : Code := Try.f35.body.getD .skip
def inbox_Box_Reset.vc (b0 : Option Addr) (size0 : Int) (K : Int → Heap → Prop) (E : Value → Heap → Prop) (h0 : Heap) : Prop :=
  inbox_place.c size0 (fun x0 h1 =>
  (if (!x0) = true then
  K 2 h1
  else
  inbox_Box_fits.c b0 size0 true (fun x1 h2 =>
  (if (x1 != 0) = true then
  K x1 h2
  else
  nilc b0 fun a0 =>
  ldI h2 .i64 (a0.add 2) fun x2 =>
  nilc b0 fun a1 =>
  ldI h2 .i64 (a1.add 1) fun x3 =>
  (if (x2 != x3) = true then
  nilc b0 fun a2 =>
  stc h2 (a2.add 4) (.bool true) fun h3 =>
  nilc b0 fun a3 =>
  stc h3 (a3.add 2) (.int .i64 size0) fun h4 =>
  K 0 h4
  else
  K 0 h2))) E h1)) E h0
structure inbox_Box_Reset.c (b0 : Option Addr) (size0 : Int) (K : Int → Heap → Prop) (E : Value → Heap → Prop) (H : Heap) : Prop where
  h : inbox_Box_Reset.vc b0 size0 (fun r0_0 H => ∃ H', Heap.Le H' H ∧ K r0_0 H') E H
def inbox_Box_Reset.F : FT := fun args K E H => match args with
  | [(.pointer b0), (.int .i64 size0)] => inbox_Box_Reset.c b0 size0 (fun r0_0 H => K (.int .i64 r0_0) H) E H
  | _ => False
noncomputable def inbox_Box_Reset.Γ : FuncId → Option FT := Γof [(57, inbox_place.F), (58, inbox_Box_fits.F)]
theorem inbox_Box_Reset.hΓ : ∀ f F, inbox_Box_Reset.Γ f = some F → CalleeOk Try.prog f F := Γof_ok (List.forall_mem_cons.2 ⟨inbox_place.ok, List.forall_mem_cons.2 ⟨inbox_Box_fits.ok, fun _ h => nomatch h⟩⟩)
noncomputable def inbox_Box_Reset.plan : Plan := .seq (.go) (.seq (.go) (.seq (.go) (.seq (.seq (.draw ⟨[0, 1, 2, 3, 4, 5, 6, 7, 8], (dl [(0, []), (1, []), (2, []), (3, []), (4, []), (5, []), (6, []), (7, []), (8, [])] .fin), []⟩) (.go)) (.go))))
theorem inbox_Box_Reset.pok : PlanOk Try.prog inbox_Box_Reset.plan inbox_Box_Reset.body := by
  have e : PlanOk Try.prog inbox_Box_Reset.plan inbox_Box_Reset.body = ((True) ∧ ((True) ∧ ((True) ∧ (((True) ∧ (True)) ∧ (True))))) := by kernel_rfl
  exact e.mpr ⟨trivial, ⟨trivial, ⟨trivial, ⟨⟨trivial, trivial⟩, trivial⟩⟩⟩⟩
theorem inbox_Box_Reset.eq (b0 : Option Addr) (size0 : Int) (K : Value → Heap → Prop) (E : Value → Heap → Prop) (H : Heap) :
    fnT Try.prog Try.f35 (wC Try.prog inbox_Box_Reset.Γ inbox_Box_Reset.plan inbox_Box_Reset.body) [(.pointer b0), (.int .i64 size0)] K E H = inbox_Box_Reset.vc b0 size0 (fun r0_0 H => K (.int .i64 r0_0) H) E H := by
  kernel_rfl
theorem inbox_Box_Reset.Fe {args : List Value} {K E : Value → Heap → Prop} {H : Heap} (h : inbox_Box_Reset.F args K E H) : ∃ b0 size0, args = [(.pointer b0), (.int .i64 size0)] ∧ inbox_Box_Reset.c b0 size0 (fun r0_0 H => K (.int .i64 r0_0) H) E H := by
  unfold inbox_Box_Reset.F at h
  split at h
  · exact ⟨_, _, rfl, h⟩
  · exact h.elim
theorem inbox_Box_Reset.ok : CalleeOk Try.prog 35 inbox_Box_Reset.F :=
  callee_ok inbox_Box_Reset.hΓ (fn := Try.f35) (c := inbox_Box_Reset.body) (T := wC Try.prog inbox_Box_Reset.Γ inbox_Box_Reset.plan inbox_Box_Reset.body) (by kernel_rfl) (by kernel_rfl) (by kernel_rfl) (wC_sound inbox_Box_Reset.hΓ Try.hm inbox_Box_Reset.plan _ inbox_Box_Reset.pok) fun _ K E H h => by
    obtain ⟨z0, z1, e, h⟩ := inbox_Box_Reset.Fe h
    subst e
    have h2 : inbox_Box_Reset.vc z0 z1 (fun r0_0 H => ∃ H', Heap.Le H' H ∧ K (.int .i64 r0_0) H') E H := h.h
    rw [inbox_Box_Reset.eq z0 z1 (Fg K) E H]
    exact h2

/-! (*vizard/vizardref11.Box).Ended -/
noncomputable def vizardref11_Box_Ended.body : Code := Try.f39.body.getD .skip
def vizardref11_Box_Ended.vc (b0 : Option Addr) (K : Int → Heap → Prop) (E : Value → Heap → Prop) (h0 : Heap) : Prop :=
  nilc b0 fun a0 =>
  ldB h0 (a0.add 4) fun x0 =>
  (if x0 = true then
  K 2 h0
  else
  nilc b0 fun a1 =>
  ldI h0 .i64 (a1.add 2) fun x1 =>
  nilc b0 fun a2 =>
  ldI h0 .i64 (a2.add 1) fun x2 =>
  (if (x1 == x2) = true then
  K 1 h0
  else
  K 0 h0))
structure vizardref11_Box_Ended.c (b0 : Option Addr) (K : Int → Heap → Prop) (E : Value → Heap → Prop) (H : Heap) : Prop where
  h : vizardref11_Box_Ended.vc b0 (fun r0_0 H => ∃ H', Heap.Le H' H ∧ K r0_0 H') E H
def vizardref11_Box_Ended.F : FT := fun args K E H => match args with
  | [(.pointer b0)] => vizardref11_Box_Ended.c b0 (fun r0_0 H => K (.int .i64 r0_0) H) E H
  | _ => False
noncomputable def vizardref11_Box_Ended.Γ : FuncId → Option FT := Γof []
theorem vizardref11_Box_Ended.hΓ : ∀ f F, vizardref11_Box_Ended.Γ f = some F → CalleeOk Try.prog f F := Γof_ok (fun _ h => nomatch h)
noncomputable def vizardref11_Box_Ended.plan : Plan := .seq (.go) (.seq (.block (.seq (.go) (.cond (.go) (.seq (.draw ⟨[0, 1, 2, 3, 4, 5, 6, 7, 8, 9], (dl [(0, []), (1, []), (2, []), (3, []), (4, []), (5, []), (6, []), (7, []), (8, []), (9, [])] .fin), []⟩) (.go))))) (.go))
theorem vizardref11_Box_Ended.pok : PlanOk Try.prog vizardref11_Box_Ended.plan vizardref11_Box_Ended.body := by
  have e : PlanOk Try.prog vizardref11_Box_Ended.plan vizardref11_Box_Ended.body = ((True) ∧ (((True) ∧ ((True) ∧ ((True) ∧ (True)))) ∧ (True))) := by kernel_rfl
  exact e.mpr ⟨trivial, ⟨⟨trivial, ⟨trivial, ⟨trivial, trivial⟩⟩⟩, trivial⟩⟩
theorem vizardref11_Box_Ended.eq (b0 : Option Addr) (K : Value → Heap → Prop) (E : Value → Heap → Prop) (H : Heap) :
    fnT Try.prog Try.f39 (wC Try.prog vizardref11_Box_Ended.Γ vizardref11_Box_Ended.plan vizardref11_Box_Ended.body) [(.pointer b0)] K E H = vizardref11_Box_Ended.vc b0 (fun r0_0 H => K (.int .i64 r0_0) H) E H := by
  kernel_rfl
theorem vizardref11_Box_Ended.Fe {args : List Value} {K E : Value → Heap → Prop} {H : Heap} (h : vizardref11_Box_Ended.F args K E H) : ∃ b0, args = [(.pointer b0)] ∧ vizardref11_Box_Ended.c b0 (fun r0_0 H => K (.int .i64 r0_0) H) E H := by
  unfold vizardref11_Box_Ended.F at h
  split at h
  · exact ⟨_, rfl, h⟩
  · exact h.elim
theorem vizardref11_Box_Ended.ok : CalleeOk Try.prog 39 vizardref11_Box_Ended.F :=
  callee_ok vizardref11_Box_Ended.hΓ (fn := Try.f39) (c := vizardref11_Box_Ended.body) (T := wC Try.prog vizardref11_Box_Ended.Γ vizardref11_Box_Ended.plan vizardref11_Box_Ended.body) (by kernel_rfl) (by kernel_rfl) (by kernel_rfl) (wC_sound vizardref11_Box_Ended.hΓ Try.hm vizardref11_Box_Ended.plan _ vizardref11_Box_Ended.pok) fun _ K E H h => by
    obtain ⟨z0, e, h⟩ := vizardref11_Box_Ended.Fe h
    subst e
    have h2 : vizardref11_Box_Ended.vc z0 (fun r0_0 H => ∃ H', Heap.Le H' H ∧ K (.int .i64 r0_0) H') E H := h.h
    rw [vizardref11_Box_Ended.eq z0 (Fg K) E H]
    exact h2

/-! (*vizard/vizardref11.Box).End -/
noncomputable def vizardref11_Box_End.body : Code := Try.f36.body.getD .skip
def vizardref11_Box_End.J1.vc (b0 : Option Addr) (size0 : Int) (x0 : Bool) (Kn : Heap → Prop) (Kr : Int → Heap → Prop) (E : Value → Heap → Prop) (h0 : Heap) : Prop :=
  (if x0 = true then
  Kr 13 h0
  else
  Kn h0)
structure vizardref11_Box_End.J1 (b0 : Option Addr) (size0 : Int) (x0 : Bool) (Kn : Heap → Prop) (Kr : Int → Heap → Prop) (E : Value → Heap → Prop) (H : Heap) : Prop where
  h : vizardref11_Box_End.J1.vc b0 size0 x0 Kn Kr E H
def vizardref11_Box_End.J2.vc (b0 : Option Addr) (size0 : Int) (Kr : Int → Heap → Prop) (E : Value → Heap → Prop) (h0 : Heap) : Prop :=
  vizardref11_Box_Ended.c b0 (fun x0 h1 =>
  (if (x0 != 1) = true then
  nilc b0 fun a0 =>
  stc h1 (a0.add 4) (.bool true) fun h2 =>
  nilc b0 fun a1 =>
  stc h2 (a1.add 2) (.int .i64 size0) fun h3 =>
  Kr 0 h3
  else
  Kr 0 h1)) E h0
structure vizardref11_Box_End.J2 (b0 : Option Addr) (size0 : Int) (Kr : Int → Heap → Prop) (E : Value → Heap → Prop) (H : Heap) : Prop where
  h : vizardref11_Box_End.J2.vc b0 size0 Kr E H
def vizardref11_Box_End.vc (b0 : Option Addr) (size0 : Int) (K : Int → Heap → Prop) (E : Value → Heap → Prop) (h0 : Heap) : Prop :=
  vizardref11_place.c size0 (fun x0 h1 =>
  (if (!x0) = true then
  K 2 h1
  else
  vizardref11_Box_Limit.c b0 (fun x1 h2 =>
  (if (decide (size0 > x1)) = true then
  K 12 h2
  else
  nilc b0 fun a0 =>
  ldI h2 .i64 (a0.add 2) fun x2 =>
  (if (decide (x2 ≥ 0)) = true then
  nilc b0 fun a1 =>
  ldI h2 .i64 (a1.add 2) fun x3 =>
  (if (size0 != x3) = true then
  vizardref11_Box_End.J1 b0 size0 true (fun h3 =>
  vizardref11_Box_End.J2 b0 size0 K E h3) K E h2
  else
  nilc b0 fun a2 =>
  ldI h2 .i64 (a2.add 3) fun x6 =>
  vizardref11_Box_End.J1 b0 size0 (decide (x6 > size0)) (fun h6 =>
  vizardref11_Box_End.J2 b0 size0 K E h6) K E h2)
  else
  nilc b0 fun a3 =>
  ldI h2 .i64 (a3.add 3) fun x9 =>
  vizardref11_Box_End.J1 b0 size0 (decide (x9 > size0)) (fun h9 =>
  vizardref11_Box_End.J2 b0 size0 K E h9) K E h2))) E h1)) E h0
structure vizardref11_Box_End.c (b0 : Option Addr) (size0 : Int) (K : Int → Heap → Prop) (E : Value → Heap → Prop) (H : Heap) : Prop where
  h : vizardref11_Box_End.vc b0 size0 (fun r0_0 H => ∃ H', Heap.Le H' H ∧ K r0_0 H') E H
def vizardref11_Box_End.F : FT := fun args K E H => match args with
  | [(.pointer b0), (.int .i64 size0)] => vizardref11_Box_End.c b0 size0 (fun r0_0 H => K (.int .i64 r0_0) H) E H
  | _ => False
noncomputable def vizardref11_Box_End.Γ : FuncId → Option FT := Γof [(38, vizardref11_Box_Limit.F), (39, vizardref11_Box_Ended.F), (59, vizardref11_place.F)]
theorem vizardref11_Box_End.hΓ : ∀ f F, vizardref11_Box_End.Γ f = some F → CalleeOk Try.prog f F := Γof_ok (List.forall_mem_cons.2 ⟨vizardref11_Box_Limit.ok, List.forall_mem_cons.2 ⟨vizardref11_Box_Ended.ok, List.forall_mem_cons.2 ⟨vizardref11_place.ok, fun _ h => nomatch h⟩⟩⟩)
def vizardref11_Box_End.J1.t : CT := fun Q E fr H => lenIs 46 fr (slP fr 0 fun b0 => slI fr 1 .i64 fun size0 => slB fr 14 fun x0 => vizardref11_Box_End.J1 b0 size0 x0 (fun  H => Q .normal (mkF 46 [(0, (.pointer b0)), (1, (.int .i64 size0))]) H) (fun y4_0 H => Q .ret (mkF 46 [(4, (.int .i64 y4_0))]) H) E H)
noncomputable def vizardref11_Box_End.J1.plan : Plan := .go
theorem vizardref11_Box_End.J1.pok : PlanOk Try.prog vizardref11_Box_End.J1.plan (sub [1, 0, 0, 1, 1, 1, 1, 1] vizardref11_Box_End.body) := by
  have e : PlanOk Try.prog vizardref11_Box_End.J1.plan (sub [1, 0, 0, 1, 1, 1, 1, 1] vizardref11_Box_End.body) = (True) := by kernel_rfl
  exact e.mpr trivial
theorem vizardref11_Box_End.J1.eq (b0 : Option Addr) (size0 : Int) (x0 : Bool) (Q : Ex → Fr → Heap → Prop) (E : Value → Heap → Prop) (H : Heap) :
    vizardref11_Box_End.J1.vc b0 size0 x0 (fun  H => Q .normal (mkF 46 [(0, (.pointer b0)), (1, (.int .i64 size0))]) H) (fun y4_0 H => Q .ret (mkF 46 [(4, (.int .i64 y4_0))]) H) E H = keepT [0, 1] [4] (fun i => []) (wC Try.prog vizardref11_Box_End.Γ vizardref11_Box_End.J1.plan (sub [1, 0, 0, 1, 1, 1, 1, 1] vizardref11_Box_End.body)) Q E (mkF 46 [(0, (.pointer b0)), (1, (.int .i64 size0)), (14, (.bool x0))]) H := by
  kernel_rfl
theorem vizardref11_Box_End.J1.ok : SoundCode Try.prog (sub [1, 0, 0, 1, 1, 1, 1, 1] vizardref11_Box_End.body) vizardref11_Box_End.J1.t := by
  refine piece_sound (keepT_sound [0, 1] [4] (fun i => []) (wC_sound vizardref11_Box_End.hΓ Try.hm vizardref11_Box_End.J1.plan _ vizardref11_Box_End.J1.pok)) ?_
  intro Q E fr H h
  unfold vizardref11_Box_End.J1.t at h
  obtain ⟨hl, h⟩ := lenIs_elim h
  obtain ⟨b0, q0, h⟩ := slP_elim h
  obtain ⟨size0, q1, h⟩ := slI_elim h
  obtain ⟨x0, q14, h⟩ := slB_elim h
  refine ⟨(mkF 46 [(0, (.pointer b0)), (1, (.int .i64 size0)), (14, (.bool x0))]), fun a ha => ha.mk (Nat.le_of_eq hl.symm) (List.forall_mem_cons.2 ⟨q0, List.forall_mem_cons.2 ⟨q1, List.forall_mem_cons.2 ⟨q14, fun _ h => nomatch h⟩⟩⟩), ?_⟩
  have e := vizardref11_Box_End.J1.eq b0 size0 x0 Q E H
  rw [← e]
  exact h.h
def vizardref11_Box_End.J2.t : CT := fun Q E fr H => lenIs 46 fr (slP fr 0 fun b0 => slI fr 1 .i64 fun size0 => vizardref11_Box_End.J2 b0 size0 (fun y4_0 H => Q .ret (mkF 46 [(4, (.int .i64 y4_0))]) H) E H)
noncomputable def vizardref11_Box_End.J2.plan : Plan := .go
theorem vizardref11_Box_End.J2.pok : PlanOk Try.prog vizardref11_Box_End.J2.plan (sub [1, 1] vizardref11_Box_End.body) := by
  have e : PlanOk Try.prog vizardref11_Box_End.J2.plan (sub [1, 1] vizardref11_Box_End.body) = (True) := by kernel_rfl
  exact e.mpr trivial
theorem vizardref11_Box_End.J2.eq (b0 : Option Addr) (size0 : Int) (Q : Ex → Fr → Heap → Prop) (E : Value → Heap → Prop) (H : Heap) :
    vizardref11_Box_End.J2.vc b0 size0 (fun y4_0 H => Q .ret (mkF 46 [(4, (.int .i64 y4_0))]) H) E H = keepT [] [4] (fun i => []) (wC Try.prog vizardref11_Box_End.Γ vizardref11_Box_End.J2.plan (sub [1, 1] vizardref11_Box_End.body)) Q E (mkF 46 [(0, (.pointer b0)), (1, (.int .i64 size0))]) H := by
  kernel_rfl
theorem vizardref11_Box_End.J2.ok : SoundCode Try.prog (sub [1, 1] vizardref11_Box_End.body) vizardref11_Box_End.J2.t := by
  refine piece_sound (keepT_sound [] [4] (fun i => []) (wC_sound vizardref11_Box_End.hΓ Try.hm vizardref11_Box_End.J2.plan _ vizardref11_Box_End.J2.pok)) ?_
  intro Q E fr H h
  unfold vizardref11_Box_End.J2.t at h
  obtain ⟨hl, h⟩ := lenIs_elim h
  obtain ⟨b0, q0, h⟩ := slP_elim h
  obtain ⟨size0, q1, h⟩ := slI_elim h
  refine ⟨(mkF 46 [(0, (.pointer b0)), (1, (.int .i64 size0))]), fun a ha => ha.mk (Nat.le_of_eq hl.symm) (List.forall_mem_cons.2 ⟨q0, List.forall_mem_cons.2 ⟨q1, fun _ h => nomatch h⟩⟩), ?_⟩
  have e := vizardref11_Box_End.J2.eq b0 size0 Q E H
  rw [← e]
  exact h.h
noncomputable def vizardref11_Box_End.plan : Plan := .seq (.go) (.seq (.block (.seq (.go) (.cond (.go) (.seq (.go) (.cond (.go) (.seq (.go) (.use vizardref11_Box_End.J1.t))))))) (.use vizardref11_Box_End.J2.t))
theorem vizardref11_Box_End.pok : PlanOk Try.prog vizardref11_Box_End.plan vizardref11_Box_End.body := by
  have e : PlanOk Try.prog vizardref11_Box_End.plan vizardref11_Box_End.body = ((True) ∧ (((True) ∧ ((True) ∧ ((True) ∧ ((True) ∧ ((True) ∧ (SoundCode Try.prog (sub [1, 0, 0, 1, 1, 1, 1, 1] vizardref11_Box_End.body) vizardref11_Box_End.J1.t)))))) ∧ (SoundCode Try.prog (sub [1, 1] vizardref11_Box_End.body) vizardref11_Box_End.J2.t))) := by kernel_rfl
  exact e.mpr ⟨trivial, ⟨⟨trivial, ⟨trivial, ⟨trivial, ⟨trivial, ⟨trivial, vizardref11_Box_End.J1.ok⟩⟩⟩⟩⟩, vizardref11_Box_End.J2.ok⟩⟩
theorem vizardref11_Box_End.eq (b0 : Option Addr) (size0 : Int) (K : Value → Heap → Prop) (E : Value → Heap → Prop) (H : Heap) :
    fnT Try.prog Try.f36 (wC Try.prog vizardref11_Box_End.Γ vizardref11_Box_End.plan vizardref11_Box_End.body) [(.pointer b0), (.int .i64 size0)] K E H = vizardref11_Box_End.vc b0 size0 (fun r0_0 H => K (.int .i64 r0_0) H) E H := by
  kernel_rfl
theorem vizardref11_Box_End.Fe {args : List Value} {K E : Value → Heap → Prop} {H : Heap} (h : vizardref11_Box_End.F args K E H) : ∃ b0 size0, args = [(.pointer b0), (.int .i64 size0)] ∧ vizardref11_Box_End.c b0 size0 (fun r0_0 H => K (.int .i64 r0_0) H) E H := by
  unfold vizardref11_Box_End.F at h
  split at h
  · exact ⟨_, _, rfl, h⟩
  · exact h.elim
theorem vizardref11_Box_End.ok : CalleeOk Try.prog 36 vizardref11_Box_End.F :=
  callee_ok vizardref11_Box_End.hΓ (fn := Try.f36) (c := vizardref11_Box_End.body) (T := wC Try.prog vizardref11_Box_End.Γ vizardref11_Box_End.plan vizardref11_Box_End.body) (by kernel_rfl) (by kernel_rfl) (by kernel_rfl) (wC_sound vizardref11_Box_End.hΓ Try.hm vizardref11_Box_End.plan _ vizardref11_Box_End.pok) fun _ K E H h => by
    obtain ⟨z0, z1, e, h⟩ := vizardref11_Box_End.Fe h
    subst e
    have h2 : vizardref11_Box_End.vc z0 z1 (fun r0_0 H => ∃ H', Heap.Le H' H ∧ K (.int .i64 r0_0) H') E H := h.h
    rw [vizardref11_Box_End.eq z0 z1 (Fg K) E H]
    exact h2

/-! (*vizard/vizardref11.Box).Take -/
noncomputable def vizardref11_Box_Take.body : Code := Try.f37.body.getD .skip
def vizardref11_Box_Take.J4.vc (b0 : Option Addr) (n0 : Int) (out0 : Option Addr) (out1 : Nat) (out2 : Nat) (Kn : Heap → Prop) (E : Value → Heap → Prop) (h0 : Heap) : Prop :=
  nilc b0 fun a0 =>
  ldI h0 .i64 (a0.add 1) fun x0 =>
  nilc b0 fun a1 =>
  stc h0 (a1.add 1) (.int .i64 (IntKind.i64.wrap (x0 + 1))) fun h1 =>
  Kn h1
structure vizardref11_Box_Take.J4 (b0 : Option Addr) (n0 : Int) (out0 : Option Addr) (out1 : Nat) (out2 : Nat) (Kn : Heap → Prop) (E : Value → Heap → Prop) (H : Heap) : Prop where
  h : vizardref11_Box_Take.J4.vc b0 n0 out0 out1 out2 Kn E H
def vizardref11_Box_Take.J3.vc (b0 : Option Addr) (n0 : Int) (out0 : Option Addr) (out1 : Nat) (out2 : Nat) (c0 : Int) (ok0 : Bool) (Kx0 : Option Addr → Nat → Nat → Heap → Prop) (Kn : Option Addr → Nat → Nat → Heap → Prop) (E : Value → Heap → Prop) (h0 : Heap) : Prop :=
  (if (!ok0) = true then
  Kx0 out0 out1 out2 h0
  else
  newB (.cells #[(.int .u8 c0)] 5) (fun b1 h1 =>
  rdRow h1 (some (⟨b1, 0, none⟩ : Addr)) (1 * 1) fun cs0 =>
  appT 5 (.int .u8 0) out0 out1 1 out2 1 1 cs0 (fun p0 n1 c1 h2 =>
  vizardref11_Box_Take.J4 b0 n0 p0 n1 c1 (fun h3 =>
  Kn p0 n1 c1 h3) E h2) h1) h0)
structure vizardref11_Box_Take.J3 (b0 : Option Addr) (n0 : Int) (out0 : Option Addr) (out1 : Nat) (out2 : Nat) (c0 : Int) (ok0 : Bool) (Kx0 : Option Addr → Nat → Nat → Heap → Prop) (Kn : Option Addr → Nat → Nat → Heap → Prop) (E : Value → Heap → Prop) (H : Heap) : Prop where
  h : vizardref11_Box_Take.J3.vc b0 n0 out0 out1 out2 c0 ok0 Kx0 Kn E H
def vizardref11_Box_Take.J2.vc (b0 : Option Addr) (n0 : Int) (out0 : Option Addr) (out1 : Nat) (out2 : Nat) (Kx0 : Option Addr → Nat → Nat → Heap → Prop) (Kn : Option Addr → Nat → Nat → Heap → Prop) (E : Value → Heap → Prop) (h0 : Heap) : Prop :=
  nilc b0 fun a0 =>
  ldM h0 (a0.add 0) fun x0 =>
  nilc b0 fun a1 =>
  ldI h0 .i64 (a1.add 1) fun x1 =>
  lookI (.int .i64) x0 (.int .i64 x1) .u8 0 (fun x2 ok0 =>
  vizardref11_Box_Take.J3 b0 n0 out0 out1 out2 x2 ok0 Kx0 Kn E h0) h0
structure vizardref11_Box_Take.J2 (b0 : Option Addr) (n0 : Int) (out0 : Option Addr) (out1 : Nat) (out2 : Nat) (Kx0 : Option Addr → Nat → Nat → Heap → Prop) (Kn : Option Addr → Nat → Nat → Heap → Prop) (E : Value → Heap → Prop) (H : Heap) : Prop where
  h : vizardref11_Box_Take.J2.vc b0 n0 out0 out1 out2 Kx0 Kn E H
def vizardref11_Box_Take.W1.vc (b0 : Option Addr) (n0 : Int) (out0 : Option Addr) (out1 : Nat) (out2 : Nat) (Kx0 : Option Addr → Nat → Nat → Heap → Prop) (RR : Option Addr → Nat → Nat → Heap → Prop) (E : Value → Heap → Prop) (h0 : Heap) : Prop :=
  (if (decide ((out1 : Int) < n0)) = true then
  nilc b0 fun a0 =>
  ldB h0 (a0.add 4) fun x0 =>
  (if (!x0) = true then
  vizardref11_Box_Take.J2 b0 n0 out0 out1 out2 Kx0 RR E h0
  else
  Kx0 out0 out1 out2 h0)
  else
  Kx0 out0 out1 out2 h0)
structure vizardref11_Box_Take.W1 (b0 : Option Addr) (n0 : Int) (out0 : Option Addr) (out1 : Nat) (out2 : Nat) (Kx0 : Option Addr → Nat → Nat → Heap → Prop) (E : Value → Heap → Prop) (H : Heap) : Prop where
  h : Loop (fun (RR : Option Addr × Nat × Nat → Heap → Prop) (s : Option Addr × Nat × Nat) (H : Heap) => vizardref11_Box_Take.W1.vc b0 n0 s.1 s.2.1 s.2.2 Kx0 (fun out0 out1 out2 H => RR (out0, out1, out2) H) E H) (out0, out1, out2) H
def vizardref11_Box_Take.vc (b0 : Option Addr) (n0 : Int) (K : ByteArray → Heap → Prop) (E : Value → Heap → Prop) (h0 : Heap) : Prop :=
  vizardref11_Box_Take.W1 b0 n0 none 0 0 (fun out0 out1 out2 h1 =>
  rdBytes h1 out0 out1 fun x0 =>
  K x0 h1) E h0
structure vizardref11_Box_Take.c (b0 : Option Addr) (n0 : Int) (K : ByteArray → Heap → Prop) (E : Value → Heap → Prop) (H : Heap) : Prop where
  h : vizardref11_Box_Take.vc b0 n0 (fun r0_0 H => ∃ H', Heap.Le H' H ∧ K r0_0 H') E H
def vizardref11_Box_Take.F : FT := fun args K E H => match args with
  | [(.pointer b0), (.int .i64 n0)] => vizardref11_Box_Take.c b0 n0 (fun r0_0 H => K (.string r0_0) H) E H
  | _ => False
noncomputable def vizardref11_Box_Take.Γ : FuncId → Option FT := Γof []
theorem vizardref11_Box_Take.hΓ : ∀ f F, vizardref11_Box_Take.Γ f = some F → CalleeOk Try.prog f F := Γof_ok (fun _ h => nomatch h)
def vizardref11_Box_Take.J4.t : CT := fun Q E fr H => lenIs 46 fr (slP fr 0 fun b0 => slI fr 1 .i64 fun n0 => slSl fr 5 fun out0 out1 out2 => vizardref11_Box_Take.J4 b0 n0 out0 out1 out2 (fun  H => Q .normal (mkF 46 [(0, (.pointer b0)), (1, (.int .i64 n0)), (5, (.slice out0 out1 out2))]) H) E H)
noncomputable def vizardref11_Box_Take.J4.plan : Plan := .go
theorem vizardref11_Box_Take.J4.pok : PlanOk Try.prog vizardref11_Box_Take.J4.plan (sub [1, 1, 0, 0, 0, 1, 0, 1, 1, 1] vizardref11_Box_Take.body) := by
  have e : PlanOk Try.prog vizardref11_Box_Take.J4.plan (sub [1, 1, 0, 0, 0, 1, 0, 1, 1, 1] vizardref11_Box_Take.body) = (True) := by kernel_rfl
  exact e.mpr trivial
theorem vizardref11_Box_Take.J4.eq (b0 : Option Addr) (n0 : Int) (out0 : Option Addr) (out1 : Nat) (out2 : Nat) (Q : Ex → Fr → Heap → Prop) (E : Value → Heap → Prop) (H : Heap) :
    vizardref11_Box_Take.J4.vc b0 n0 out0 out1 out2 (fun  H => Q .normal (mkF 46 [(0, (.pointer b0)), (1, (.int .i64 n0)), (5, (.slice out0 out1 out2))]) H) E H = keepT [0, 1, 5] [] (fun i => []) (wC Try.prog vizardref11_Box_Take.Γ vizardref11_Box_Take.J4.plan (sub [1, 1, 0, 0, 0, 1, 0, 1, 1, 1] vizardref11_Box_Take.body)) Q E (mkF 46 [(0, (.pointer b0)), (1, (.int .i64 n0)), (5, (.slice out0 out1 out2))]) H := by
  kernel_rfl
theorem vizardref11_Box_Take.J4.ok : SoundCode Try.prog (sub [1, 1, 0, 0, 0, 1, 0, 1, 1, 1] vizardref11_Box_Take.body) vizardref11_Box_Take.J4.t := by
  refine piece_sound (keepT_sound [0, 1, 5] [] (fun i => []) (wC_sound vizardref11_Box_Take.hΓ Try.hm vizardref11_Box_Take.J4.plan _ vizardref11_Box_Take.J4.pok)) ?_
  intro Q E fr H h
  unfold vizardref11_Box_Take.J4.t at h
  obtain ⟨hl, h⟩ := lenIs_elim h
  obtain ⟨b0, q0, h⟩ := slP_elim h
  obtain ⟨n0, q1, h⟩ := slI_elim h
  obtain ⟨out0, out1, out2, q5, h⟩ := slSl_elim h
  refine ⟨(mkF 46 [(0, (.pointer b0)), (1, (.int .i64 n0)), (5, (.slice out0 out1 out2))]), fun a ha => ha.mk (Nat.le_of_eq hl.symm) (List.forall_mem_cons.2 ⟨q0, List.forall_mem_cons.2 ⟨q1, List.forall_mem_cons.2 ⟨q5, fun _ h => nomatch h⟩⟩⟩), ?_⟩
  have e := vizardref11_Box_Take.J4.eq b0 n0 out0 out1 out2 Q E H
  rw [← e]
  exact h.h
def vizardref11_Box_Take.J3.t : CT := fun Q E fr H => lenIs 46 fr (slP fr 0 fun b0 => slI fr 1 .i64 fun n0 => slSl fr 5 fun out0 out1 out2 => slI fr 6 .u8 fun c0 => slB fr 7 fun ok0 => vizardref11_Box_Take.J3 b0 n0 out0 out1 out2 c0 ok0 (fun y5_0 y5_1 y5_2 H => Q (.exit 0) (mkF 46 [(5, (.slice y5_0 y5_1 y5_2))]) H) (fun y5_0 y5_1 y5_2 H => Q .normal (mkF 46 [(0, (.pointer b0)), (1, (.int .i64 n0)), (5, (.slice y5_0 y5_1 y5_2))]) H) E H)
noncomputable def vizardref11_Box_Take.J3.plan : Plan := .seq (.go) (.seq (.go) (.use vizardref11_Box_Take.J4.t))
theorem vizardref11_Box_Take.J3.pok : PlanOk Try.prog vizardref11_Box_Take.J3.plan (sub [1, 1, 0, 0, 0, 1, 0, 1] vizardref11_Box_Take.body) := by
  have e : PlanOk Try.prog vizardref11_Box_Take.J3.plan (sub [1, 1, 0, 0, 0, 1, 0, 1] vizardref11_Box_Take.body) = ((True) ∧ ((True) ∧ (SoundCode Try.prog (sub [1, 1, 0, 0, 0, 1, 0, 1, 1, 1] vizardref11_Box_Take.body) vizardref11_Box_Take.J4.t))) := by kernel_rfl
  exact e.mpr ⟨trivial, ⟨trivial, vizardref11_Box_Take.J4.ok⟩⟩
theorem vizardref11_Box_Take.J3.eq (b0 : Option Addr) (n0 : Int) (out0 : Option Addr) (out1 : Nat) (out2 : Nat) (c0 : Int) (ok0 : Bool) (Q : Ex → Fr → Heap → Prop) (E : Value → Heap → Prop) (H : Heap) :
    vizardref11_Box_Take.J3.vc b0 n0 out0 out1 out2 c0 ok0 (fun y5_0 y5_1 y5_2 H => Q (.exit 0) (mkF 46 [(5, (.slice y5_0 y5_1 y5_2))]) H) (fun y5_0 y5_1 y5_2 H => Q .normal (mkF 46 [(0, (.pointer b0)), (1, (.int .i64 n0)), (5, (.slice y5_0 y5_1 y5_2))]) H) E H = keepT [0, 1, 5] [] (fun i => if i = 0 then [5] else []) (wC Try.prog vizardref11_Box_Take.Γ vizardref11_Box_Take.J3.plan (sub [1, 1, 0, 0, 0, 1, 0, 1] vizardref11_Box_Take.body)) Q E (mkF 46 [(0, (.pointer b0)), (1, (.int .i64 n0)), (5, (.slice out0 out1 out2)), (6, (.int .u8 c0)), (7, (.bool ok0))]) H := by
  kernel_rfl
theorem vizardref11_Box_Take.J3.ok : SoundCode Try.prog (sub [1, 1, 0, 0, 0, 1, 0, 1] vizardref11_Box_Take.body) vizardref11_Box_Take.J3.t := by
  refine piece_sound (keepT_sound [0, 1, 5] [] (fun i => if i = 0 then [5] else []) (wC_sound vizardref11_Box_Take.hΓ Try.hm vizardref11_Box_Take.J3.plan _ vizardref11_Box_Take.J3.pok)) ?_
  intro Q E fr H h
  unfold vizardref11_Box_Take.J3.t at h
  obtain ⟨hl, h⟩ := lenIs_elim h
  obtain ⟨b0, q0, h⟩ := slP_elim h
  obtain ⟨n0, q1, h⟩ := slI_elim h
  obtain ⟨out0, out1, out2, q5, h⟩ := slSl_elim h
  obtain ⟨c0, q6, h⟩ := slI_elim h
  obtain ⟨ok0, q7, h⟩ := slB_elim h
  refine ⟨(mkF 46 [(0, (.pointer b0)), (1, (.int .i64 n0)), (5, (.slice out0 out1 out2)), (6, (.int .u8 c0)), (7, (.bool ok0))]), fun a ha => ha.mk (Nat.le_of_eq hl.symm) (List.forall_mem_cons.2 ⟨q0, List.forall_mem_cons.2 ⟨q1, List.forall_mem_cons.2 ⟨q5, List.forall_mem_cons.2 ⟨q6, List.forall_mem_cons.2 ⟨q7, fun _ h => nomatch h⟩⟩⟩⟩⟩), ?_⟩
  have e := vizardref11_Box_Take.J3.eq b0 n0 out0 out1 out2 c0 ok0 Q E H
  rw [← e]
  exact h.h
def vizardref11_Box_Take.J2.t : CT := fun Q E fr H => lenIs 46 fr (slP fr 0 fun b0 => slI fr 1 .i64 fun n0 => slSl fr 5 fun out0 out1 out2 => vizardref11_Box_Take.J2 b0 n0 out0 out1 out2 (fun y5_0 y5_1 y5_2 H => Q (.exit 0) (mkF 46 [(5, (.slice y5_0 y5_1 y5_2))]) H) (fun y5_0 y5_1 y5_2 H => Q .normal (mkF 46 [(0, (.pointer b0)), (1, (.int .i64 n0)), (5, (.slice y5_0 y5_1 y5_2))]) H) E H)
noncomputable def vizardref11_Box_Take.J2.plan : Plan := .block (.seq (.draw ⟨[0, 1, 2, 3, 4, 5, 6, 7, 8, 9, 10, 11, 12], (dl [(0, []), (1, []), (2, []), (3, []), (4, []), (5, []), (6, []), (7, []), (8, []), (9, []), (10, []), (11, []), (12, [])] .fin), [13]⟩) (.use vizardref11_Box_Take.J3.t))
theorem vizardref11_Box_Take.J2.pok : PlanOk Try.prog vizardref11_Box_Take.J2.plan (sub [1, 1, 0, 0, 0, 1] vizardref11_Box_Take.body) := by
  have e : PlanOk Try.prog vizardref11_Box_Take.J2.plan (sub [1, 1, 0, 0, 0, 1] vizardref11_Box_Take.body) = ((True) ∧ (SoundCode Try.prog (sub [1, 1, 0, 0, 0, 1, 0, 1] vizardref11_Box_Take.body) vizardref11_Box_Take.J3.t)) := by kernel_rfl
  exact e.mpr ⟨trivial, vizardref11_Box_Take.J3.ok⟩
theorem vizardref11_Box_Take.J2.eq (b0 : Option Addr) (n0 : Int) (out0 : Option Addr) (out1 : Nat) (out2 : Nat) (Q : Ex → Fr → Heap → Prop) (E : Value → Heap → Prop) (H : Heap) :
    vizardref11_Box_Take.J2.vc b0 n0 out0 out1 out2 (fun y5_0 y5_1 y5_2 H => Q (.exit 0) (mkF 46 [(5, (.slice y5_0 y5_1 y5_2))]) H) (fun y5_0 y5_1 y5_2 H => Q .normal (mkF 46 [(0, (.pointer b0)), (1, (.int .i64 n0)), (5, (.slice y5_0 y5_1 y5_2))]) H) E H = keepT [0, 1, 5] [] (fun i => if i = 0 then [5] else []) (wC Try.prog vizardref11_Box_Take.Γ vizardref11_Box_Take.J2.plan (sub [1, 1, 0, 0, 0, 1] vizardref11_Box_Take.body)) Q E (mkF 46 [(0, (.pointer b0)), (1, (.int .i64 n0)), (5, (.slice out0 out1 out2))]) H := by
  kernel_rfl
theorem vizardref11_Box_Take.J2.ok : SoundCode Try.prog (sub [1, 1, 0, 0, 0, 1] vizardref11_Box_Take.body) vizardref11_Box_Take.J2.t := by
  refine piece_sound (keepT_sound [0, 1, 5] [] (fun i => if i = 0 then [5] else []) (wC_sound vizardref11_Box_Take.hΓ Try.hm vizardref11_Box_Take.J2.plan _ vizardref11_Box_Take.J2.pok)) ?_
  intro Q E fr H h
  unfold vizardref11_Box_Take.J2.t at h
  obtain ⟨hl, h⟩ := lenIs_elim h
  obtain ⟨b0, q0, h⟩ := slP_elim h
  obtain ⟨n0, q1, h⟩ := slI_elim h
  obtain ⟨out0, out1, out2, q5, h⟩ := slSl_elim h
  refine ⟨(mkF 46 [(0, (.pointer b0)), (1, (.int .i64 n0)), (5, (.slice out0 out1 out2))]), fun a ha => ha.mk (Nat.le_of_eq hl.symm) (List.forall_mem_cons.2 ⟨q0, List.forall_mem_cons.2 ⟨q1, List.forall_mem_cons.2 ⟨q5, fun _ h => nomatch h⟩⟩⟩), ?_⟩
  have e := vizardref11_Box_Take.J2.eq b0 n0 out0 out1 out2 Q E H
  rw [← e]
  exact h.h
def vizardref11_Box_Take.W1.t : CT := fun Q E fr H => lenIs 46 fr (slP fr 0 fun b0 => slI fr 1 .i64 fun n0 => slSl fr 5 fun out0 out1 out2 => vizardref11_Box_Take.W1 b0 n0 out0 out1 out2 (fun y5_0 y5_1 y5_2 H => Q (.exit 0) (mkF 46 [(5, (.slice y5_0 y5_1 y5_2))]) H) E H)
noncomputable def vizardref11_Box_Take.W1.plan : Plan := .seq (.go) (.use vizardref11_Box_Take.J2.t)
theorem vizardref11_Box_Take.W1.pok : PlanOk Try.prog vizardref11_Box_Take.W1.plan (sub [1, 1, 0, 0, 0] vizardref11_Box_Take.body) := by
  have e : PlanOk Try.prog vizardref11_Box_Take.W1.plan (sub [1, 1, 0, 0, 0] vizardref11_Box_Take.body) = ((True) ∧ (SoundCode Try.prog (sub [1, 1, 0, 0, 0, 1] vizardref11_Box_Take.body) vizardref11_Box_Take.J2.t)) := by kernel_rfl
  exact e.mpr ⟨trivial, vizardref11_Box_Take.J2.ok⟩
theorem vizardref11_Box_Take.W1.eq (b0 : Option Addr) (n0 : Int) (Q : Ex → Fr → Heap → Prop) (E : Value → Heap → Prop) (RR : Fr → Heap → Prop) (s : Option Addr × Nat × Nat) (H : Heap) :
    (fun (RR : Option Addr × Nat × Nat → Heap → Prop) (s : Option Addr × Nat × Nat) (H : Heap) => vizardref11_Box_Take.W1.vc b0 n0 s.1 s.2.1 s.2.2 (fun y5_0 y5_1 y5_2 H => Q (.exit 0) (mkF 46 [(5, (.slice y5_0 y5_1 y5_2))]) H) (fun out0 out1 out2 H => RR (out0, out1, out2) H) E H) (fun s' H' => RR ((fun (s : Option Addr × Nat × Nat) => (mkF 46 [(0, (.pointer b0)), (1, (.int .i64 n0)), (5, (.slice s.1 s.2.1 s.2.2))])) s') H') s H = keepT [0, 1, 5] [] (fun i => if i = 0 then [5] else []) (wC Try.prog vizardref11_Box_Take.Γ vizardref11_Box_Take.W1.plan (sub [1, 1, 0, 0, 0] vizardref11_Box_Take.body)) (fun e fr' H' => match e with | .normal => RR fr' H' | .exit id => Q (.exit id) fr' H' | .ret => Q .ret fr' H') E ((fun (s : Option Addr × Nat × Nat) => (mkF 46 [(0, (.pointer b0)), (1, (.int .i64 n0)), (5, (.slice s.1 s.2.1 s.2.2))])) s) H := by
  kernel_rfl
theorem vizardref11_Box_Take.W1.ok : SoundCode Try.prog (sub [1, 1, 0, 0] vizardref11_Box_Take.body) vizardref11_Box_Take.W1.t := by
  have e : (sub [1, 1, 0, 0] vizardref11_Box_Take.body) = .loop (sub [1, 1, 0, 0, 0] vizardref11_Box_Take.body) := by kernel_rfl
  rw [e]
  refine piece_sound (loopN_sound (keepT_sound [0, 1, 5] [] (fun i => if i = 0 then [5] else []) (wC_sound vizardref11_Box_Take.hΓ Try.hm vizardref11_Box_Take.W1.plan _ vizardref11_Box_Take.W1.pok))) ?_
  intro Q E fr H h
  unfold vizardref11_Box_Take.W1.t at h
  obtain ⟨hl, h⟩ := lenIs_elim h
  obtain ⟨b0, q0, h⟩ := slP_elim h
  obtain ⟨n0, q1, h⟩ := slI_elim h
  obtain ⟨out0, out1, out2, q5, h⟩ := slSl_elim h
  obtain ⟨m, h⟩ := h.h
  refine ⟨(mkF 46 [(0, (.pointer b0)), (1, (.int .i64 n0)), (5, (.slice out0 out1 out2))]), fun a ha => ha.mk (Nat.le_of_eq hl.symm) (List.forall_mem_cons.2 ⟨q0, List.forall_mem_cons.2 ⟨q1, List.forall_mem_cons.2 ⟨q5, fun _ h => nomatch h⟩⟩⟩), m, ?_⟩
  have e := loopS_eq (B := (fun (RR : Option Addr × Nat × Nat → Heap → Prop) (s : Option Addr × Nat × Nat) (H : Heap) => vizardref11_Box_Take.W1.vc b0 n0 s.1 s.2.1 s.2.2 (fun y5_0 y5_1 y5_2 H => Q (.exit 0) (mkF 46 [(5, (.slice y5_0 y5_1 y5_2))]) H) (fun out0 out1 out2 H => RR (out0, out1, out2) H) E H)) (A := keepT [0, 1, 5] [] (fun i => if i = 0 then [5] else []) (wC Try.prog vizardref11_Box_Take.Γ vizardref11_Box_Take.W1.plan (sub [1, 1, 0, 0, 0] vizardref11_Box_Take.body))) (m := (fun (s : Option Addr × Nat × Nat) => (mkF 46 [(0, (.pointer b0)), (1, (.int .i64 n0)), (5, (.slice s.1 s.2.1 s.2.2))]))) (Q := Q) (E := E) (fun RR s H => vizardref11_Box_Take.W1.eq b0 n0 Q E RR s H) m (out0, out1, out2) H
  exact cast e h
noncomputable def vizardref11_Box_Take.plan : Plan := .seq (.go) (.seq (.go) (.seq (.block (.use vizardref11_Box_Take.W1.t)) (.go)))
theorem vizardref11_Box_Take.pok : PlanOk Try.prog vizardref11_Box_Take.plan vizardref11_Box_Take.body := by
  have e : PlanOk Try.prog vizardref11_Box_Take.plan vizardref11_Box_Take.body = ((True) ∧ ((True) ∧ ((SoundCode Try.prog (sub [1, 1, 0, 0] vizardref11_Box_Take.body) vizardref11_Box_Take.W1.t) ∧ (True)))) := by kernel_rfl
  exact e.mpr ⟨trivial, ⟨trivial, ⟨vizardref11_Box_Take.W1.ok, trivial⟩⟩⟩
theorem vizardref11_Box_Take.eq (b0 : Option Addr) (n0 : Int) (K : Value → Heap → Prop) (E : Value → Heap → Prop) (H : Heap) :
    fnT Try.prog Try.f37 (wC Try.prog vizardref11_Box_Take.Γ vizardref11_Box_Take.plan vizardref11_Box_Take.body) [(.pointer b0), (.int .i64 n0)] K E H = vizardref11_Box_Take.vc b0 n0 (fun r0_0 H => K (.string r0_0) H) E H := by
  kernel_rfl
theorem vizardref11_Box_Take.Fe {args : List Value} {K E : Value → Heap → Prop} {H : Heap} (h : vizardref11_Box_Take.F args K E H) : ∃ b0 n0, args = [(.pointer b0), (.int .i64 n0)] ∧ vizardref11_Box_Take.c b0 n0 (fun r0_0 H => K (.string r0_0) H) E H := by
  unfold vizardref11_Box_Take.F at h
  split at h
  · exact ⟨_, _, rfl, h⟩
  · exact h.elim
theorem vizardref11_Box_Take.ok : CalleeOk Try.prog 37 vizardref11_Box_Take.F :=
  callee_ok vizardref11_Box_Take.hΓ (fn := Try.f37) (c := vizardref11_Box_Take.body) (T := wC Try.prog vizardref11_Box_Take.Γ vizardref11_Box_Take.plan vizardref11_Box_Take.body) (by kernel_rfl) (by kernel_rfl) (by kernel_rfl) (wC_sound vizardref11_Box_Take.hΓ Try.hm vizardref11_Box_Take.plan _ vizardref11_Box_Take.pok) fun _ K E H h => by
    obtain ⟨z0, z1, e, h⟩ := vizardref11_Box_Take.Fe h
    subst e
    have h2 : vizardref11_Box_Take.vc z0 z1 (fun r0_0 H => ∃ H', Heap.Le H' H ∧ K (.string r0_0) H') E H := h.h
    rw [vizardref11_Box_Take.eq z0 z1 (Fg K) E H]
    exact h2

/-! vizard/vizardlaw11.InboxDoes -/
noncomputable def vizardlaw11_InboxDoes.body : Code := Try.f9.body.getD .skip
def vizardlaw11_InboxDoes.J4.vc (l0 : Option Addr) (l1 : Nat) (l2 : Nat) (b0 : Option Addr) (r0 : Option Addr) (i0 : Int) (x0 : Bool) (Kn : Heap → Prop) (Kr : Bool → Heap → Prop) (E : Value → Heap → Prop) (h0 : Heap) : Prop :=
  (if x0 = true then
  Kr false h0
  else
  Kn h0)
structure vizardlaw11_InboxDoes.J4 (l0 : Option Addr) (l1 : Nat) (l2 : Nat) (b0 : Option Addr) (r0 : Option Addr) (i0 : Int) (x0 : Bool) (Kn : Heap → Prop) (Kr : Bool → Heap → Prop) (E : Value → Heap → Prop) (H : Heap) : Prop where
  h : vizardlaw11_InboxDoes.J4.vc l0 l1 l2 b0 r0 i0 x0 Kn Kr E H
def vizardlaw11_InboxDoes.J3.vc (l0 : Option Addr) (l1 : Nat) (l2 : Nat) (b0 : Option Addr) (r0 : Option Addr) (i0 : Int) (Kn : Heap → Prop) (Kr : Bool → Heap → Prop) (E : Value → Heap → Prop) (h0 : Heap) : Prop :=
  inbox_Box_State.c b0 (fun x0 x1 x2 h1 =>
  nilc r0 fun a0 =>
  ldI h1 .i64 (a0.add 1) fun x3 =>
  (if (x0 != x3) = true then
  vizardlaw11_InboxDoes.J4 l0 l1 l2 b0 r0 i0 true Kn Kr E h1
  else
  vizardref11_Box_Limit.c r0 (fun x5 h4 =>
  (if (x1 != x5) = true then
  vizardlaw11_InboxDoes.J4 l0 l1 l2 b0 r0 i0 true Kn Kr E h4
  else
  vizardref11_Box_Ended.c r0 (fun x7 h7 =>
  vizardlaw11_InboxDoes.J4 l0 l1 l2 b0 r0 i0 (x2 != x7) Kn Kr E h7) E h4)) E h1)) E h0
structure vizardlaw11_InboxDoes.J3 (l0 : Option Addr) (l1 : Nat) (l2 : Nat) (b0 : Option Addr) (r0 : Option Addr) (i0 : Int) (Kn : Heap → Prop) (Kr : Bool → Heap → Prop) (E : Value → Heap → Prop) (H : Heap) : Prop where
  h : vizardlaw11_InboxDoes.J3.vc l0 l1 l2 b0 r0 i0 Kn Kr E H
def vizardlaw11_InboxDoes.J5.vc (l0 : Option Addr) (l1 : Nat) (l2 : Nat) (b0 : Option Addr) (r0 : Option Addr) (i0 : Int) (Kn : Int → Heap → Prop) (E : Value → Heap → Prop) (h0 : Heap) : Prop :=
  Kn (IntKind.i64.wrap (i0 + 1)) h0
structure vizardlaw11_InboxDoes.J5 (l0 : Option Addr) (l1 : Nat) (l2 : Nat) (b0 : Option Addr) (r0 : Option Addr) (i0 : Int) (Kn : Int → Heap → Prop) (E : Value → Heap → Prop) (H : Heap) : Prop where
  h : vizardlaw11_InboxDoes.J5.vc l0 l1 l2 b0 r0 i0 Kn E H
def vizardlaw11_InboxDoes.J2.vc (l0 : Option Addr) (l1 : Nat) (l2 : Nat) (b0 : Option Addr) (r0 : Option Addr) (i0 : Int) (Kn : Int → Heap → Prop) (Kr : Bool → Heap → Prop) (E : Value → Heap → Prop) (h0 : Heap) : Prop :=
  nilc l0 fun a0 => (0 : Int) ≤ i0 ∧ i0 < (l1 : Int) ∧
  ldI h0 .i64 ((a0.add (i0.toNat * 5)).add 0) fun x0 => ldI h0 .i64 ((a0.add (i0.toNat * 5)).add 1) fun x1 => ldS h0 ((a0.add (i0.toNat * 5)).add 2) fun x2 => ldB h0 ((a0.add (i0.toNat * 5)).add 3) fun x3 => ldI h0 .i64 ((a0.add (i0.toNat * 5)).add 4) fun x4 =>
  newB (.cells #[(.int .i64 0), (.int .i64 0), (.string (⟨#[]⟩ : ByteArray)), (.bool false), (.int .i64 0)] 60) (fun b1 h1 =>
  stc h1 ((⟨b1, 0, none⟩ : Addr).add 0) (.int .i64 x0) fun h2 =>
  stc h2 ((⟨b1, 0, none⟩ : Addr).add 1) (.int .i64 x1) fun h3 =>
  stc h3 ((⟨b1, 0, none⟩ : Addr).add 2) (.string x2) fun h4 =>
  stc h4 ((⟨b1, 0, none⟩ : Addr).add 3) (.bool x3) fun h5 =>
  stc h5 ((⟨b1, 0, none⟩ : Addr).add 4) (.int .i64 x4) fun h6 =>
  ldS h6 ((⟨b1, 0, none⟩ : Addr).add 2) fun x5 =>
  (if (decide ((x5.size : Int) > 6000)) = true then
  Kr true h6
  else
  ldI h6 .i64 ((⟨b1, 0, none⟩ : Addr).add 0) fun x6 =>
  (if (x6 == 0) = true then
  ldI h6 .i64 ((⟨b1, 0, none⟩ : Addr).add 1) fun x7 =>
  ldS h6 ((⟨b1, 0, none⟩ : Addr).add 2) fun x8 =>
  ldB h6 ((⟨b1, 0, none⟩ : Addr).add 3) fun x9 =>
  ldI h6 .i64 ((⟨b1, 0, none⟩ : Addr).add 1) fun x10 =>
  ldS h6 ((⟨b1, 0, none⟩ : Addr).add 2) fun x11 =>
  ldB h6 ((⟨b1, 0, none⟩ : Addr).add 3) fun x12 =>
  inbox_Box_Put.c b0 x7 x8 x9 (fun x13 h7 =>
  (ldB h7 ((⟨b1, 0, none⟩ : Addr).add 3) fun x14 =>
  eqv h7 h7 (some (.bool x12)) (.bool x14)) ∧
  (ldS h7 ((⟨b1, 0, none⟩ : Addr).add 2) fun x15 =>
  eqv h7 h7 (some (.string x11)) (.string x15)) ∧
  (ldI h7 .i64 ((⟨b1, 0, none⟩ : Addr).add 1) fun x16 =>
  eqv h7 h7 (some (.int .i64 x10)) (.int .i64 x16)) ∧
  vizardref11_Box_Put.c r0 x10 x11 x12 (fun x17 h8 =>
  (if (x13 != x17) = true then
  Kr false h8
  else
  vizardlaw11_InboxDoes.J3 l0 l1 l2 b0 r0 i0 (fun h9 =>
  vizardlaw11_InboxDoes.J5 l0 l1 l2 b0 r0 i0 Kn E h9) Kr E h8)) E h7) E h6
  else
  (if (x6 == 1) = true then
  ldI h6 .i64 ((⟨b1, 0, none⟩ : Addr).add 1) fun x19 =>
  ldI h6 .i64 ((⟨b1, 0, none⟩ : Addr).add 1) fun x20 =>
  inbox_Box_Reset.c b0 x19 (fun x21 h12 =>
  (ldI h12 .i64 ((⟨b1, 0, none⟩ : Addr).add 1) fun x22 =>
  eqv h12 h12 (some (.int .i64 x20)) (.int .i64 x22)) ∧
  vizardref11_Box_End.c r0 x20 (fun x23 h13 =>
  (if (x21 != x23) = true then
  Kr false h13
  else
  vizardlaw11_InboxDoes.J3 l0 l1 l2 b0 r0 i0 (fun h14 =>
  vizardlaw11_InboxDoes.J5 l0 l1 l2 b0 r0 i0 Kn E h14) Kr E h13)) E h12) E h6
  else
  (if (x6 == 2) = true then
  ldI h6 .i64 ((⟨b1, 0, none⟩ : Addr).add 4) fun x25 =>
  ldI h6 .i64 ((⟨b1, 0, none⟩ : Addr).add 4) fun x26 =>
  inbox_Box_Read.c b0 x25 (fun x27 h17 =>
  (ldI h17 .i64 ((⟨b1, 0, none⟩ : Addr).add 4) fun x28 =>
  eqv h17 h17 (some (.int .i64 x26)) (.int .i64 x28)) ∧
  vizardref11_Box_Take.c r0 x26 (fun x29 h18 =>
  (if (!(x27.toList == x29.toList)) = true then
  Kr false h18
  else
  vizardlaw11_InboxDoes.J3 l0 l1 l2 b0 r0 i0 (fun h19 =>
  vizardlaw11_InboxDoes.J5 l0 l1 l2 b0 r0 i0 Kn E h19) Kr E h18)) E h17) E h6
  else
  vizardlaw11_InboxDoes.J3 l0 l1 l2 b0 r0 i0 (fun h22 =>
  vizardlaw11_InboxDoes.J5 l0 l1 l2 b0 r0 i0 Kn E h22) Kr E h6))))) h0
structure vizardlaw11_InboxDoes.J2 (l0 : Option Addr) (l1 : Nat) (l2 : Nat) (b0 : Option Addr) (r0 : Option Addr) (i0 : Int) (Kn : Int → Heap → Prop) (Kr : Bool → Heap → Prop) (E : Value → Heap → Prop) (H : Heap) : Prop where
  h : vizardlaw11_InboxDoes.J2.vc l0 l1 l2 b0 r0 i0 Kn Kr E H
def vizardlaw11_InboxDoes.W1.vc (l0 : Option Addr) (l1 : Nat) (l2 : Nat) (b0 : Option Addr) (r0 : Option Addr) (i0 : Int) (Kx0 : Heap → Prop) (Kr : Bool → Heap → Prop) (RR : Int → Heap → Prop) (E : Value → Heap → Prop) (h0 : Heap) : Prop :=
  (if (decide (i0 < (l1 : Int))) = true then
  (if (decide (i0 < 100)) = true then
  vizardlaw11_InboxDoes.J2 l0 l1 l2 b0 r0 i0 RR Kr E h0
  else
  Kx0 h0)
  else
  Kx0 h0)
structure vizardlaw11_InboxDoes.W1 (l0 : Option Addr) (l1 : Nat) (l2 : Nat) (b0 : Option Addr) (r0 : Option Addr) (i0 : Int) (Kx0 : Heap → Prop) (Kr : Bool → Heap → Prop) (E : Value → Heap → Prop) (H : Heap) : Prop where
  h : Loop (fun (RR : Int → Heap → Prop) (s : Int) (H : Heap) => vizardlaw11_InboxDoes.W1.vc l0 l1 l2 b0 r0 s Kx0 Kr (fun i0 H => RR (i0) H) E H) (i0) H
def vizardlaw11_InboxDoes.vc (l0 : Option Addr) (l1 : Nat) (l2 : Nat) (K : Bool → Heap → Prop) (E : Value → Heap → Prop) (h0 : Heap) : Prop :=
  inbox_New.c (fun x0 h1 =>
  vizardref11_New.c (fun x1 h2 =>
  (if (Option.isNone x0) = true then
  K false h2
  else
  vizardlaw11_InboxDoes.W1 l0 l1 l2 x0 x1 0 (fun h3 =>
  K true h3) K E h2)) E h1) E h0
structure vizardlaw11_InboxDoes.c (l0 : Option Addr) (l1 : Nat) (l2 : Nat) (K : Bool → Heap → Prop) (E : Value → Heap → Prop) (H : Heap) : Prop where
  h : vizardlaw11_InboxDoes.vc l0 l1 l2 (fun r0_0 H => ∃ H', Heap.Le H' H ∧ K r0_0 H') E H
def vizardlaw11_InboxDoes.F : FT := fun args K E H => match args with
  | [(.slice l0 l1 l2)] => vizardlaw11_InboxDoes.c l0 l1 l2 (fun r0_0 H => K (.bool r0_0) H) E H
  | _ => False
noncomputable def vizardlaw11_InboxDoes.Γ : FuncId → Option FT := Γof [(29, inbox_New.F), (30, inbox_Box_Put.F), (31, inbox_Box_Read.F), (32, inbox_Box_State.F), (33, vizardref11_New.F), (34, vizardref11_Box_Put.F), (35, inbox_Box_Reset.F), (36, vizardref11_Box_End.F), (37, vizardref11_Box_Take.F), (38, vizardref11_Box_Limit.F), (39, vizardref11_Box_Ended.F)]
theorem vizardlaw11_InboxDoes.hΓ : ∀ f F, vizardlaw11_InboxDoes.Γ f = some F → CalleeOk Try.prog f F := Γof_ok (List.forall_mem_cons.2 ⟨inbox_New.ok, List.forall_mem_cons.2 ⟨inbox_Box_Put.ok, List.forall_mem_cons.2 ⟨inbox_Box_Read.ok, List.forall_mem_cons.2 ⟨inbox_Box_State.ok, List.forall_mem_cons.2 ⟨vizardref11_New.ok, List.forall_mem_cons.2 ⟨vizardref11_Box_Put.ok, List.forall_mem_cons.2 ⟨inbox_Box_Reset.ok, List.forall_mem_cons.2 ⟨vizardref11_Box_End.ok, List.forall_mem_cons.2 ⟨vizardref11_Box_Take.ok, List.forall_mem_cons.2 ⟨vizardref11_Box_Limit.ok, List.forall_mem_cons.2 ⟨vizardref11_Box_Ended.ok, fun _ h => nomatch h⟩⟩⟩⟩⟩⟩⟩⟩⟩⟩⟩)
def vizardlaw11_InboxDoes.J4.t : CT := fun Q E fr H => lenIs 99 fr (slSl fr 0 fun l0 l1 l2 => slP fr 3 fun b0 => slP fr 4 fun r0 => slI fr 5 .i64 fun i0 => slB fr 98 fun x0 => vizardlaw11_InboxDoes.J4 l0 l1 l2 b0 r0 i0 x0 (fun  H => Q .normal (mkF 99 [(0, (.slice l0 l1 l2)), (3, (.pointer b0)), (4, (.pointer r0)), (5, (.int .i64 i0))]) H) (fun y2_0 H => Q .ret (mkF 99 [(2, (.bool y2_0))]) H) E H)
noncomputable def vizardlaw11_InboxDoes.J4.plan : Plan := .go
theorem vizardlaw11_InboxDoes.J4.pok : PlanOk Try.prog vizardlaw11_InboxDoes.J4.plan (sub [1, 1, 1, 0, 1, 0, 0, 1, 0, 0, 1, 1, 1, 1, 1] vizardlaw11_InboxDoes.body) := by
  have e : PlanOk Try.prog vizardlaw11_InboxDoes.J4.plan (sub [1, 1, 1, 0, 1, 0, 0, 1, 0, 0, 1, 1, 1, 1, 1] vizardlaw11_InboxDoes.body) = (True) := by kernel_rfl
  exact e.mpr trivial
theorem vizardlaw11_InboxDoes.J4.eq (l0 : Option Addr) (l1 : Nat) (l2 : Nat) (b0 : Option Addr) (r0 : Option Addr) (i0 : Int) (x0 : Bool) (Q : Ex → Fr → Heap → Prop) (E : Value → Heap → Prop) (H : Heap) :
    vizardlaw11_InboxDoes.J4.vc l0 l1 l2 b0 r0 i0 x0 (fun  H => Q .normal (mkF 99 [(0, (.slice l0 l1 l2)), (3, (.pointer b0)), (4, (.pointer r0)), (5, (.int .i64 i0))]) H) (fun y2_0 H => Q .ret (mkF 99 [(2, (.bool y2_0))]) H) E H = keepT [0, 3, 4, 5] [2] (fun i => []) (wC Try.prog vizardlaw11_InboxDoes.Γ vizardlaw11_InboxDoes.J4.plan (sub [1, 1, 1, 0, 1, 0, 0, 1, 0, 0, 1, 1, 1, 1, 1] vizardlaw11_InboxDoes.body)) Q E (mkF 99 [(0, (.slice l0 l1 l2)), (3, (.pointer b0)), (4, (.pointer r0)), (5, (.int .i64 i0)), (98, (.bool x0))]) H := by
  kernel_rfl
theorem vizardlaw11_InboxDoes.J4.ok : SoundCode Try.prog (sub [1, 1, 1, 0, 1, 0, 0, 1, 0, 0, 1, 1, 1, 1, 1] vizardlaw11_InboxDoes.body) vizardlaw11_InboxDoes.J4.t := by
  refine piece_sound (keepT_sound [0, 3, 4, 5] [2] (fun i => []) (wC_sound vizardlaw11_InboxDoes.hΓ Try.hm vizardlaw11_InboxDoes.J4.plan _ vizardlaw11_InboxDoes.J4.pok)) ?_
  intro Q E fr H h
  unfold vizardlaw11_InboxDoes.J4.t at h
  obtain ⟨hl, h⟩ := lenIs_elim h
  obtain ⟨l0, l1, l2, q0, h⟩ := slSl_elim h
  obtain ⟨b0, q3, h⟩ := slP_elim h
  obtain ⟨r0, q4, h⟩ := slP_elim h
  obtain ⟨i0, q5, h⟩ := slI_elim h
  obtain ⟨x0, q98, h⟩ := slB_elim h
  refine ⟨(mkF 99 [(0, (.slice l0 l1 l2)), (3, (.pointer b0)), (4, (.pointer r0)), (5, (.int .i64 i0)), (98, (.bool x0))]), fun a ha => ha.mk (Nat.le_of_eq hl.symm) (List.forall_mem_cons.2 ⟨q0, List.forall_mem_cons.2 ⟨q3, List.forall_mem_cons.2 ⟨q4, List.forall_mem_cons.2 ⟨q5, List.forall_mem_cons.2 ⟨q98, fun _ h => nomatch h⟩⟩⟩⟩⟩), ?_⟩
  have e := vizardlaw11_InboxDoes.J4.eq l0 l1 l2 b0 r0 i0 x0 Q E H
  rw [← e]
  exact h.h
def vizardlaw11_InboxDoes.J3.t : CT := fun Q E fr H => lenIs 99 fr (slSl fr 0 fun l0 l1 l2 => slP fr 3 fun b0 => slP fr 4 fun r0 => slI fr 5 .i64 fun i0 => vizardlaw11_InboxDoes.J3 l0 l1 l2 b0 r0 i0 (fun  H => Q .normal (mkF 99 [(0, (.slice l0 l1 l2)), (3, (.pointer b0)), (4, (.pointer r0)), (5, (.int .i64 i0))]) H) (fun y2_0 H => Q .ret (mkF 99 [(2, (.bool y2_0))]) H) E H)
noncomputable def vizardlaw11_InboxDoes.J3.plan : Plan := .seq (.go) (.seq (.go) (.use vizardlaw11_InboxDoes.J4.t))
theorem vizardlaw11_InboxDoes.J3.pok : PlanOk Try.prog vizardlaw11_InboxDoes.J3.plan (sub [1, 1, 1, 0, 1, 0, 0, 1, 0, 0, 1, 1, 1] vizardlaw11_InboxDoes.body) := by
  have e : PlanOk Try.prog vizardlaw11_InboxDoes.J3.plan (sub [1, 1, 1, 0, 1, 0, 0, 1, 0, 0, 1, 1, 1] vizardlaw11_InboxDoes.body) = ((True) ∧ ((True) ∧ (SoundCode Try.prog (sub [1, 1, 1, 0, 1, 0, 0, 1, 0, 0, 1, 1, 1, 1, 1] vizardlaw11_InboxDoes.body) vizardlaw11_InboxDoes.J4.t))) := by kernel_rfl
  exact e.mpr ⟨trivial, ⟨trivial, vizardlaw11_InboxDoes.J4.ok⟩⟩
theorem vizardlaw11_InboxDoes.J3.eq (l0 : Option Addr) (l1 : Nat) (l2 : Nat) (b0 : Option Addr) (r0 : Option Addr) (i0 : Int) (Q : Ex → Fr → Heap → Prop) (E : Value → Heap → Prop) (H : Heap) :
    vizardlaw11_InboxDoes.J3.vc l0 l1 l2 b0 r0 i0 (fun  H => Q .normal (mkF 99 [(0, (.slice l0 l1 l2)), (3, (.pointer b0)), (4, (.pointer r0)), (5, (.int .i64 i0))]) H) (fun y2_0 H => Q .ret (mkF 99 [(2, (.bool y2_0))]) H) E H = keepT [0, 3, 4, 5] [2] (fun i => []) (wC Try.prog vizardlaw11_InboxDoes.Γ vizardlaw11_InboxDoes.J3.plan (sub [1, 1, 1, 0, 1, 0, 0, 1, 0, 0, 1, 1, 1] vizardlaw11_InboxDoes.body)) Q E (mkF 99 [(0, (.slice l0 l1 l2)), (3, (.pointer b0)), (4, (.pointer r0)), (5, (.int .i64 i0))]) H := by
  kernel_rfl
theorem vizardlaw11_InboxDoes.J3.ok : SoundCode Try.prog (sub [1, 1, 1, 0, 1, 0, 0, 1, 0, 0, 1, 1, 1] vizardlaw11_InboxDoes.body) vizardlaw11_InboxDoes.J3.t := by
  refine piece_sound (keepT_sound [0, 3, 4, 5] [2] (fun i => []) (wC_sound vizardlaw11_InboxDoes.hΓ Try.hm vizardlaw11_InboxDoes.J3.plan _ vizardlaw11_InboxDoes.J3.pok)) ?_
  intro Q E fr H h
  unfold vizardlaw11_InboxDoes.J3.t at h
  obtain ⟨hl, h⟩ := lenIs_elim h
  obtain ⟨l0, l1, l2, q0, h⟩ := slSl_elim h
  obtain ⟨b0, q3, h⟩ := slP_elim h
  obtain ⟨r0, q4, h⟩ := slP_elim h
  obtain ⟨i0, q5, h⟩ := slI_elim h
  refine ⟨(mkF 99 [(0, (.slice l0 l1 l2)), (3, (.pointer b0)), (4, (.pointer r0)), (5, (.int .i64 i0))]), fun a ha => ha.mk (Nat.le_of_eq hl.symm) (List.forall_mem_cons.2 ⟨q0, List.forall_mem_cons.2 ⟨q3, List.forall_mem_cons.2 ⟨q4, List.forall_mem_cons.2 ⟨q5, fun _ h => nomatch h⟩⟩⟩⟩), ?_⟩
  have e := vizardlaw11_InboxDoes.J3.eq l0 l1 l2 b0 r0 i0 Q E H
  rw [← e]
  exact h.h
def vizardlaw11_InboxDoes.J5.t : CT := fun Q E fr H => lenIs 99 fr (slSl fr 0 fun l0 l1 l2 => slP fr 3 fun b0 => slP fr 4 fun r0 => slI fr 5 .i64 fun i0 => vizardlaw11_InboxDoes.J5 l0 l1 l2 b0 r0 i0 (fun y5_0 H => Q .normal (mkF 99 [(0, (.slice l0 l1 l2)), (3, (.pointer b0)), (4, (.pointer r0)), (5, (.int .i64 y5_0))]) H) E H)
noncomputable def vizardlaw11_InboxDoes.J5.plan : Plan := .go
theorem vizardlaw11_InboxDoes.J5.pok : PlanOk Try.prog vizardlaw11_InboxDoes.J5.plan (sub [1, 1, 1, 0, 1, 0, 0, 1, 1] vizardlaw11_InboxDoes.body) := by
  have e : PlanOk Try.prog vizardlaw11_InboxDoes.J5.plan (sub [1, 1, 1, 0, 1, 0, 0, 1, 1] vizardlaw11_InboxDoes.body) = (True) := by kernel_rfl
  exact e.mpr trivial
theorem vizardlaw11_InboxDoes.J5.eq (l0 : Option Addr) (l1 : Nat) (l2 : Nat) (b0 : Option Addr) (r0 : Option Addr) (i0 : Int) (Q : Ex → Fr → Heap → Prop) (E : Value → Heap → Prop) (H : Heap) :
    vizardlaw11_InboxDoes.J5.vc l0 l1 l2 b0 r0 i0 (fun y5_0 H => Q .normal (mkF 99 [(0, (.slice l0 l1 l2)), (3, (.pointer b0)), (4, (.pointer r0)), (5, (.int .i64 y5_0))]) H) E H = keepT [0, 3, 4, 5] [] (fun i => []) (wC Try.prog vizardlaw11_InboxDoes.Γ vizardlaw11_InboxDoes.J5.plan (sub [1, 1, 1, 0, 1, 0, 0, 1, 1] vizardlaw11_InboxDoes.body)) Q E (mkF 99 [(0, (.slice l0 l1 l2)), (3, (.pointer b0)), (4, (.pointer r0)), (5, (.int .i64 i0))]) H := by
  kernel_rfl
theorem vizardlaw11_InboxDoes.J5.ok : SoundCode Try.prog (sub [1, 1, 1, 0, 1, 0, 0, 1, 1] vizardlaw11_InboxDoes.body) vizardlaw11_InboxDoes.J5.t := by
  refine piece_sound (keepT_sound [0, 3, 4, 5] [] (fun i => []) (wC_sound vizardlaw11_InboxDoes.hΓ Try.hm vizardlaw11_InboxDoes.J5.plan _ vizardlaw11_InboxDoes.J5.pok)) ?_
  intro Q E fr H h
  unfold vizardlaw11_InboxDoes.J5.t at h
  obtain ⟨hl, h⟩ := lenIs_elim h
  obtain ⟨l0, l1, l2, q0, h⟩ := slSl_elim h
  obtain ⟨b0, q3, h⟩ := slP_elim h
  obtain ⟨r0, q4, h⟩ := slP_elim h
  obtain ⟨i0, q5, h⟩ := slI_elim h
  refine ⟨(mkF 99 [(0, (.slice l0 l1 l2)), (3, (.pointer b0)), (4, (.pointer r0)), (5, (.int .i64 i0))]), fun a ha => ha.mk (Nat.le_of_eq hl.symm) (List.forall_mem_cons.2 ⟨q0, List.forall_mem_cons.2 ⟨q3, List.forall_mem_cons.2 ⟨q4, List.forall_mem_cons.2 ⟨q5, fun _ h => nomatch h⟩⟩⟩⟩), ?_⟩
  have e := vizardlaw11_InboxDoes.J5.eq l0 l1 l2 b0 r0 i0 Q E H
  rw [← e]
  exact h.h
def vizardlaw11_InboxDoes.J2.t : CT := fun Q E fr H => lenIs 99 fr (slSl fr 0 fun l0 l1 l2 => slP fr 3 fun b0 => slP fr 4 fun r0 => slI fr 5 .i64 fun i0 => vizardlaw11_InboxDoes.J2 l0 l1 l2 b0 r0 i0 (fun y5_0 H => Q .normal (mkF 99 [(0, (.slice l0 l1 l2)), (3, (.pointer b0)), (4, (.pointer r0)), (5, (.int .i64 y5_0))]) H) (fun y2_0 H => Q .ret (mkF 99 [(2, (.bool y2_0))]) H) E H)
noncomputable def vizardlaw11_InboxDoes.J2.plan : Plan := .seq (.block (.seq (.go) (.seq (.go) (.seq (.seq (.go) (.block (.seq (.go) (.cond (.seq (.draw ⟨[0, 1, 2, 3, 4, 5, 6, 7, 8, 9, 10, 11, 12, 13, 14, 15, 16], (dl [(0, []), (1, []), (2, []), (3, []), (4, []), (5, []), (6, []), (8, []), (9, []), (10, []), (11, []), (12, []), (13, []), (14, []), (7, [0, 2, 4, 6, 1, 3, 5]), (15, [8, 10, 12, 14, 7, 9, 11, 13, 0, 2, 4, 6, 1, 3, 5]), (16, [])] .fin), []⟩) (.go)) (.seq (.go) (.cond (.seq (.draw ⟨[0, 1, 2, 3, 4, 5, 6, 7, 8], (dl [(0, []), (1, []), (2, []), (4, []), (5, []), (6, []), (3, [0, 2, 1]), (7, [4, 6, 3, 5, 0, 2, 1]), (8, [])] .fin), []⟩) (.go)) (.seq (.go) (.cond (.seq (.draw ⟨[0, 1, 2, 3, 4, 5, 6, 7, 8], (dl [(0, []), (1, []), (2, []), (4, []), (5, []), (6, []), (3, [0, 2, 1]), (7, [4, 6, 3, 5, 0, 2, 1]), (8, [])] .fin), []⟩) (.go)) (.go))))))))) (.use vizardlaw11_InboxDoes.J3.t))))) (.use vizardlaw11_InboxDoes.J5.t)
theorem vizardlaw11_InboxDoes.J2.pok : PlanOk Try.prog vizardlaw11_InboxDoes.J2.plan (sub [1, 1, 1, 0, 1, 0, 0, 1] vizardlaw11_InboxDoes.body) := by
  have e : PlanOk Try.prog vizardlaw11_InboxDoes.J2.plan (sub [1, 1, 1, 0, 1, 0, 0, 1] vizardlaw11_InboxDoes.body) = (((True) ∧ ((True) ∧ (((True) ∧ ((True) ∧ (((True) ∧ (True)) ∧ ((True) ∧ (((True) ∧ (True)) ∧ ((True) ∧ (((True) ∧ (True)) ∧ (True)))))))) ∧ (SoundCode Try.prog (sub [1, 1, 1, 0, 1, 0, 0, 1, 0, 0, 1, 1, 1] vizardlaw11_InboxDoes.body) vizardlaw11_InboxDoes.J3.t)))) ∧ (SoundCode Try.prog (sub [1, 1, 1, 0, 1, 0, 0, 1, 1] vizardlaw11_InboxDoes.body) vizardlaw11_InboxDoes.J5.t)) := by kernel_rfl
  exact e.mpr ⟨⟨trivial, ⟨trivial, ⟨⟨trivial, ⟨trivial, ⟨⟨trivial, trivial⟩, ⟨trivial, ⟨⟨trivial, trivial⟩, ⟨trivial, ⟨⟨trivial, trivial⟩, trivial⟩⟩⟩⟩⟩⟩⟩, vizardlaw11_InboxDoes.J3.ok⟩⟩⟩, vizardlaw11_InboxDoes.J5.ok⟩
theorem vizardlaw11_InboxDoes.J2.eq (l0 : Option Addr) (l1 : Nat) (l2 : Nat) (b0 : Option Addr) (r0 : Option Addr) (i0 : Int) (Q : Ex → Fr → Heap → Prop) (E : Value → Heap → Prop) (H : Heap) :
    vizardlaw11_InboxDoes.J2.vc l0 l1 l2 b0 r0 i0 (fun y5_0 H => Q .normal (mkF 99 [(0, (.slice l0 l1 l2)), (3, (.pointer b0)), (4, (.pointer r0)), (5, (.int .i64 y5_0))]) H) (fun y2_0 H => Q .ret (mkF 99 [(2, (.bool y2_0))]) H) E H = keepT [0, 3, 4, 5] [2] (fun i => []) (wC Try.prog vizardlaw11_InboxDoes.Γ vizardlaw11_InboxDoes.J2.plan (sub [1, 1, 1, 0, 1, 0, 0, 1] vizardlaw11_InboxDoes.body)) Q E (mkF 99 [(0, (.slice l0 l1 l2)), (3, (.pointer b0)), (4, (.pointer r0)), (5, (.int .i64 i0))]) H := by
  kernel_rfl
theorem vizardlaw11_InboxDoes.J2.ok : SoundCode Try.prog (sub [1, 1, 1, 0, 1, 0, 0, 1] vizardlaw11_InboxDoes.body) vizardlaw11_InboxDoes.J2.t := by
  refine piece_sound (keepT_sound [0, 3, 4, 5] [2] (fun i => []) (wC_sound vizardlaw11_InboxDoes.hΓ Try.hm vizardlaw11_InboxDoes.J2.plan _ vizardlaw11_InboxDoes.J2.pok)) ?_
  intro Q E fr H h
  unfold vizardlaw11_InboxDoes.J2.t at h
  obtain ⟨hl, h⟩ := lenIs_elim h
  obtain ⟨l0, l1, l2, q0, h⟩ := slSl_elim h
  obtain ⟨b0, q3, h⟩ := slP_elim h
  obtain ⟨r0, q4, h⟩ := slP_elim h
  obtain ⟨i0, q5, h⟩ := slI_elim h
  refine ⟨(mkF 99 [(0, (.slice l0 l1 l2)), (3, (.pointer b0)), (4, (.pointer r0)), (5, (.int .i64 i0))]), fun a ha => ha.mk (Nat.le_of_eq hl.symm) (List.forall_mem_cons.2 ⟨q0, List.forall_mem_cons.2 ⟨q3, List.forall_mem_cons.2 ⟨q4, List.forall_mem_cons.2 ⟨q5, fun _ h => nomatch h⟩⟩⟩⟩), ?_⟩
  have e := vizardlaw11_InboxDoes.J2.eq l0 l1 l2 b0 r0 i0 Q E H
  rw [← e]
  exact h.h
def vizardlaw11_InboxDoes.W1.t : CT := fun Q E fr H => lenIs 99 fr (slSl fr 0 fun l0 l1 l2 => slP fr 3 fun b0 => slP fr 4 fun r0 => slI fr 5 .i64 fun i0 => vizardlaw11_InboxDoes.W1 l0 l1 l2 b0 r0 i0 (fun  H => Q (.exit 0) (mkF 99 []) H) (fun y2_0 H => Q .ret (mkF 99 [(2, (.bool y2_0))]) H) E H)
noncomputable def vizardlaw11_InboxDoes.W1.plan : Plan := .seq (.go) (.use vizardlaw11_InboxDoes.J2.t)
theorem vizardlaw11_InboxDoes.W1.pok : PlanOk Try.prog vizardlaw11_InboxDoes.W1.plan (sub [1, 1, 1, 0, 1, 0, 0] vizardlaw11_InboxDoes.body) := by
  have e : PlanOk Try.prog vizardlaw11_InboxDoes.W1.plan (sub [1, 1, 1, 0, 1, 0, 0] vizardlaw11_InboxDoes.body) = ((True) ∧ (SoundCode Try.prog (sub [1, 1, 1, 0, 1, 0, 0, 1] vizardlaw11_InboxDoes.body) vizardlaw11_InboxDoes.J2.t)) := by kernel_rfl
  exact e.mpr ⟨trivial, vizardlaw11_InboxDoes.J2.ok⟩
theorem vizardlaw11_InboxDoes.W1.eq (l0 : Option Addr) (l1 : Nat) (l2 : Nat) (b0 : Option Addr) (r0 : Option Addr) (Q : Ex → Fr → Heap → Prop) (E : Value → Heap → Prop) (RR : Fr → Heap → Prop) (s : Int) (H : Heap) :
    (fun (RR : Int → Heap → Prop) (s : Int) (H : Heap) => vizardlaw11_InboxDoes.W1.vc l0 l1 l2 b0 r0 s (fun  H => Q (.exit 0) (mkF 99 []) H) (fun y2_0 H => Q .ret (mkF 99 [(2, (.bool y2_0))]) H) (fun i0 H => RR (i0) H) E H) (fun s' H' => RR ((fun (s : Int) => (mkF 99 [(0, (.slice l0 l1 l2)), (3, (.pointer b0)), (4, (.pointer r0)), (5, (.int .i64 s))])) s') H') s H = keepT [0, 3, 4, 5] [2] (fun i => if i = 0 then [] else []) (wC Try.prog vizardlaw11_InboxDoes.Γ vizardlaw11_InboxDoes.W1.plan (sub [1, 1, 1, 0, 1, 0, 0] vizardlaw11_InboxDoes.body)) (fun e fr' H' => match e with | .normal => RR fr' H' | .exit id => Q (.exit id) fr' H' | .ret => Q .ret fr' H') E ((fun (s : Int) => (mkF 99 [(0, (.slice l0 l1 l2)), (3, (.pointer b0)), (4, (.pointer r0)), (5, (.int .i64 s))])) s) H := by
  kernel_rfl
theorem vizardlaw11_InboxDoes.W1.ok : SoundCode Try.prog (sub [1, 1, 1, 0, 1, 0] vizardlaw11_InboxDoes.body) vizardlaw11_InboxDoes.W1.t := by
  have e : (sub [1, 1, 1, 0, 1, 0] vizardlaw11_InboxDoes.body) = .loop (sub [1, 1, 1, 0, 1, 0, 0] vizardlaw11_InboxDoes.body) := by kernel_rfl
  rw [e]
  refine piece_sound (loopN_sound (keepT_sound [0, 3, 4, 5] [2] (fun i => if i = 0 then [] else []) (wC_sound vizardlaw11_InboxDoes.hΓ Try.hm vizardlaw11_InboxDoes.W1.plan _ vizardlaw11_InboxDoes.W1.pok))) ?_
  intro Q E fr H h
  unfold vizardlaw11_InboxDoes.W1.t at h
  obtain ⟨hl, h⟩ := lenIs_elim h
  obtain ⟨l0, l1, l2, q0, h⟩ := slSl_elim h
  obtain ⟨b0, q3, h⟩ := slP_elim h
  obtain ⟨r0, q4, h⟩ := slP_elim h
  obtain ⟨i0, q5, h⟩ := slI_elim h
  obtain ⟨m, h⟩ := h.h
  refine ⟨(mkF 99 [(0, (.slice l0 l1 l2)), (3, (.pointer b0)), (4, (.pointer r0)), (5, (.int .i64 i0))]), fun a ha => ha.mk (Nat.le_of_eq hl.symm) (List.forall_mem_cons.2 ⟨q0, List.forall_mem_cons.2 ⟨q3, List.forall_mem_cons.2 ⟨q4, List.forall_mem_cons.2 ⟨q5, fun _ h => nomatch h⟩⟩⟩⟩), m, ?_⟩
  have e := loopS_eq (B := (fun (RR : Int → Heap → Prop) (s : Int) (H : Heap) => vizardlaw11_InboxDoes.W1.vc l0 l1 l2 b0 r0 s (fun  H => Q (.exit 0) (mkF 99 []) H) (fun y2_0 H => Q .ret (mkF 99 [(2, (.bool y2_0))]) H) (fun i0 H => RR (i0) H) E H)) (A := keepT [0, 3, 4, 5] [2] (fun i => if i = 0 then [] else []) (wC Try.prog vizardlaw11_InboxDoes.Γ vizardlaw11_InboxDoes.W1.plan (sub [1, 1, 1, 0, 1, 0, 0] vizardlaw11_InboxDoes.body))) (m := (fun (s : Int) => (mkF 99 [(0, (.slice l0 l1 l2)), (3, (.pointer b0)), (4, (.pointer r0)), (5, (.int .i64 s))]))) (Q := Q) (E := E) (fun RR s H => vizardlaw11_InboxDoes.W1.eq l0 l1 l2 b0 r0 Q E RR s H) m (i0) H
  exact cast e h
noncomputable def vizardlaw11_InboxDoes.plan : Plan := .seq (.go) (.seq (.go) (.seq (.go) (.seq (.seq (.go) (.block (.use vizardlaw11_InboxDoes.W1.t))) (.go))))
theorem vizardlaw11_InboxDoes.pok : PlanOk Try.prog vizardlaw11_InboxDoes.plan vizardlaw11_InboxDoes.body := by
  have e : PlanOk Try.prog vizardlaw11_InboxDoes.plan vizardlaw11_InboxDoes.body = ((True) ∧ ((True) ∧ ((True) ∧ (((True) ∧ (SoundCode Try.prog (sub [1, 1, 1, 0, 1, 0] vizardlaw11_InboxDoes.body) vizardlaw11_InboxDoes.W1.t)) ∧ (True))))) := by kernel_rfl
  exact e.mpr ⟨trivial, ⟨trivial, ⟨trivial, ⟨⟨trivial, vizardlaw11_InboxDoes.W1.ok⟩, trivial⟩⟩⟩⟩
theorem vizardlaw11_InboxDoes.eq (l0 : Option Addr) (l1 : Nat) (l2 : Nat) (K : Value → Heap → Prop) (E : Value → Heap → Prop) (H : Heap) :
    fnT Try.prog Try.f9 (wC Try.prog vizardlaw11_InboxDoes.Γ vizardlaw11_InboxDoes.plan vizardlaw11_InboxDoes.body) [(.slice l0 l1 l2)] K E H = vizardlaw11_InboxDoes.vc l0 l1 l2 (fun r0_0 H => K (.bool r0_0) H) E H := by
  kernel_rfl
theorem vizardlaw11_InboxDoes.Fe {args : List Value} {K E : Value → Heap → Prop} {H : Heap} (h : vizardlaw11_InboxDoes.F args K E H) : ∃ l0 l1 l2, args = [(.slice l0 l1 l2)] ∧ vizardlaw11_InboxDoes.c l0 l1 l2 (fun r0_0 H => K (.bool r0_0) H) E H := by
  unfold vizardlaw11_InboxDoes.F at h
  split at h
  · exact ⟨_, _, _, rfl, h⟩
  · exact h.elim
theorem vizardlaw11_InboxDoes.ok : CalleeOk Try.prog 9 vizardlaw11_InboxDoes.F :=
  callee_ok vizardlaw11_InboxDoes.hΓ (fn := Try.f9) (c := vizardlaw11_InboxDoes.body) (T := wC Try.prog vizardlaw11_InboxDoes.Γ vizardlaw11_InboxDoes.plan vizardlaw11_InboxDoes.body) (by kernel_rfl) (by kernel_rfl) (by kernel_rfl) (wC_sound vizardlaw11_InboxDoes.hΓ Try.hm vizardlaw11_InboxDoes.plan _ vizardlaw11_InboxDoes.pok) fun _ K E H h => by
    obtain ⟨z0, z1, z2, e, h⟩ := vizardlaw11_InboxDoes.Fe h
    subst e
    have h2 : vizardlaw11_InboxDoes.vc z0 z1 z2 (fun r0_0 H => ∃ H', Heap.Le H' H ∧ K (.bool r0_0) H') E H := h.h
    rw [vizardlaw11_InboxDoes.eq z0 z1 z2 (Fg K) E H]
    exact h2
end Go.Sh
