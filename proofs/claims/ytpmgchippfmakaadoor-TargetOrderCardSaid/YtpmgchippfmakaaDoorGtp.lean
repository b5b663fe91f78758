/- PRINTED by a program (sh.py): what the walk over each function asks, and that it asks just that. -/
import Derived.Test.YtpmgchippfmakaaDoorPaq
import Derived.Test.YtpmgchippfmakaaDoorLib2
import Derived.Test.YtpmgchippfmakaaDoorTck
namespace Go.Sh
open Go.Proofs
set_option linter.unusedVariables false
set_option maxRecDepth 8000
/-! vizard/fields.letter -/
noncomputable def fields_letter.body : Code := Tryd.f47.body.getD .skip
def fields_letter.vc (c0 : Int) (K : Bool → Heap → Prop) (E : Value → Heap → Prop) (h0 : Heap) : Prop :=
  (if (decide (c0 ≥ 97)) = true then
  (if (decide (c0 ≤ 122)) = true then
  K true h0
  else
  (if (decide (c0 ≥ 48)) = true then
  (if (decide (c0 ≤ 57)) = true then
  K true h0
  else
  (if (c0 == 45) = true then
  K true h0
  else
  K (c0 == 58) h0))
  else
  (if (c0 == 45) = true then
  K true h0
  else
  K (c0 == 58) h0)))
  else
  (if (decide (c0 ≥ 48)) = true then
  (if (decide (c0 ≤ 57)) = true then
  K true h0
  else
  (if (c0 == 45) = true then
  K true h0
  else
  K (c0 == 58) h0))
  else
  (if (c0 == 45) = true then
  K true h0
  else
  K (c0 == 58) h0)))
structure fields_letter.c (c0 : Int) (K : Bool → Heap → Prop) (E : Value → Heap → Prop) (H : Heap) : Prop where
  h : fields_letter.vc c0 (fun r0_0 H => ∃ H', Heap.Le H' H ∧ K r0_0 H') E H
def fields_letter.F : FT := fun args K E H => match args with
  | [(.int .u8 c0)] => fields_letter.c c0 (fun r0_0 H => K (.bool r0_0) H) E H
  | _ => False
noncomputable def fields_letter.Γ : FuncId → Option FT := Γof []
theorem fields_letter.hΓ : ∀ f F, fields_letter.Γ f = some F → CalleeOk Tryd.prog f F := Γof_ok (fun _ h => nomatch h)
noncomputable def fields_letter.plan : Plan := .go
theorem fields_letter.pok : PlanOk Tryd.prog fields_letter.plan fields_letter.body := by
  have e : PlanOk Tryd.prog fields_letter.plan fields_letter.body = (True) := by kernel_rfl
  exact e.mpr trivial
theorem fields_letter.eq (c0 : Int) (K : Value → Heap → Prop) (E : Value → Heap → Prop) (H : Heap) :
    fnT Tryd.prog Tryd.f47 (wC Tryd.prog fields_letter.Γ fields_letter.plan fields_letter.body) [(.int .u8 c0)] K E H = fields_letter.vc c0 (fun r0_0 H => K (.bool r0_0) H) E H := by
  kernel_rfl
theorem fields_letter.Fe {args : List Value} {K E : Value → Heap → Prop} {H : Heap} (h : fields_letter.F args K E H) : ∃ c0, args = [(.int .u8 c0)] ∧ fields_letter.c c0 (fun r0_0 H => K (.bool r0_0) H) E H := by
  unfold fields_letter.F at h
  split at h
  · exact ⟨_, rfl, h⟩
  · exact h.elim
theorem fields_letter.ok : CalleeOk Tryd.prog 47 fields_letter.F :=
  callee_ok fields_letter.hΓ (fn := Tryd.f47) (c := fields_letter.body) (T := wC Tryd.prog fields_letter.Γ fields_letter.plan fields_letter.body) (by kernel_rfl) (by kernel_rfl) (by kernel_rfl) (wC_sound fields_letter.hΓ Tryd.hm fields_letter.plan _ fields_letter.pok) fun _ K E H h => by
    obtain ⟨z0, e, h⟩ := fields_letter.Fe h
    subst e
    have h2 : fields_letter.vc z0 (fun r0_0 H => ∃ H', Heap.Le H' H ∧ K (.bool r0_0) H') E H := h.h
    rw [fields_letter.eq z0 (Fg K) E H]
    exact h2

/-! vizard/fields.check -/
noncomputable def fields_check.body : Code := Tryd.f35.body.getD .skip
def fields_check.J1.vc (f0 : Addr) (x0 : Bool) (Kn : Heap → Prop) (Kr : Int → Heap → Prop) (E : Value → Heap → Prop) (h0 : Heap) : Prop :=
  (if x0 = true then
  Kr 8 h0
  else
  ldS h0 (f0.add 0) fun x1 =>
  (if (x1.toList == (⟨#[]⟩ : ByteArray).toList) = true then
  Kr 3 h0
  else
  Kn h0))
structure fields_check.J1 (f0 : Addr) (x0 : Bool) (Kn : Heap → Prop) (Kr : Int → Heap → Prop) (E : Value → Heap → Prop) (H : Heap) : Prop where
  h : fields_check.J1.vc f0 x0 Kn Kr E H
def fields_check.W3.vc (f0 : Addr) (x0 : Option Addr) (x1 : Nat) (x2 : Nat) (x3 : Int) (x4 : Int) (Kx1 : Heap → Prop) (Kr : Int → Heap → Prop) (RR : Int → Heap → Prop) (E : Value → Heap → Prop) (h0 : Heap) : Prop :=
  (if (decide (x4 < x3)) = true then
  nilc x0 fun a0 => (0 : Int) ≤ x4 ∧ x4 < (x1 : Int) ∧
  ldI h0 .u8 (a0.add (x4.toNat * 1)) fun x5 =>
  fields_letter.c x5 (fun x6 h1 =>
  (if (!x6) = true then
  Kr 3 h1
  else
  RR (IntKind.i64.wrap (x4 + 1)) h1)) E h0
  else
  Kx1 h0)
structure fields_check.W3 (f0 : Addr) (x0 : Option Addr) (x1 : Nat) (x2 : Nat) (x3 : Int) (x4 : Int) (Kx1 : Heap → Prop) (Kr : Int → Heap → Prop) (E : Value → Heap → Prop) (H : Heap) : Prop where
  h : Loop (fun (RR : Int → Heap → Prop) (s : Int) (H : Heap) => fields_check.W3.vc f0 x0 x1 x2 x3 s Kx1 Kr (fun x4 H => RR (x4) H) E H) (x4) H
def fields_check.J5.vc (x0 : Option Addr) (x1 : Nat) (x2 : Nat) (x3 : Int) (x4 : Int) (x5 : Bool) (Kn : Heap → Prop) (Kr : Int → Heap → Prop) (E : Value → Heap → Prop) (h0 : Heap) : Prop :=
  (if x5 = true then
  Kr 3 h0
  else
  Kn h0)
structure fields_check.J5 (x0 : Option Addr) (x1 : Nat) (x2 : Nat) (x3 : Int) (x4 : Int) (x5 : Bool) (Kn : Heap → Prop) (Kr : Int → Heap → Prop) (E : Value → Heap → Prop) (H : Heap) : Prop where
  h : fields_check.J5.vc x0 x1 x2 x3 x4 x5 Kn Kr E H
def fields_check.J6.vc (x0 : Option Addr) (x1 : Nat) (x2 : Nat) (x3 : Int) (x4 : Int) (Kn : Int → Heap → Prop) (E : Value → Heap → Prop) (h0 : Heap) : Prop :=
  Kn (IntKind.i64.wrap (x4 + 1)) h0
structure fields_check.J6 (x0 : Option Addr) (x1 : Nat) (x2 : Nat) (x3 : Int) (x4 : Int) (Kn : Int → Heap → Prop) (E : Value → Heap → Prop) (H : Heap) : Prop where
  h : fields_check.J6.vc x0 x1 x2 x3 x4 Kn E H
def fields_check.W4.vc (x0 : Option Addr) (x1 : Nat) (x2 : Nat) (x3 : Int) (x4 : Int) (Kx3 : Heap → Prop) (Kr : Int → Heap → Prop) (RR : Int → Heap → Prop) (E : Value → Heap → Prop) (h0 : Heap) : Prop :=
  (if (decide (x4 < x3)) = true then
  nilc x0 fun a0 => (0 : Int) ≤ x4 ∧ x4 < (x1 : Int) ∧
  ldI h0 .u8 (a0.add (x4.toNat * 1)) fun x5 =>
  (if (decide (x5 < 32)) = true then
  fields_check.J5 x0 x1 x2 x3 x4 true (fun h1 =>
  fields_check.J6 x0 x1 x2 x3 x4 RR E h1) Kr E h0
  else
  fields_check.J5 x0 x1 x2 x3 x4 (decide (x5 > 126)) (fun h4 =>
  fields_check.J6 x0 x1 x2 x3 x4 RR E h4) Kr E h0)
  else
  Kx3 h0)
structure fields_check.W4 (x0 : Option Addr) (x1 : Nat) (x2 : Nat) (x3 : Int) (x4 : Int) (Kx3 : Heap → Prop) (Kr : Int → Heap → Prop) (E : Value → Heap → Prop) (H : Heap) : Prop where
  h : Loop (fun (RR : Int → Heap → Prop) (s : Int) (H : Heap) => fields_check.W4.vc x0 x1 x2 x3 s Kx3 Kr (fun x4 H => RR (x4) H) E H) (x4) H
def fields_check.J2.vc (f0 : Addr) (Kr : Int → Heap → Prop) (E : Value → Heap → Prop) (h0 : Heap) : Prop :=
  ldS h0 (f0.add 0) fun x0 =>
  ∀ j0, newB (.cells ((byteVals x0).toArray ++ Array.replicate j0 (.int .u8 0)) 5 (x0.size + j0, x0.size + j0 + 1)) (fun b0 h1 =>
  fields_check.W3 f0 (some (⟨b0, 0, none⟩ : Addr)) x0.size (x0.size + j0) (x0.size : Int) 0 (fun h2 =>
  ldS h2 (f0.add 1) fun x1 =>
  ∀ j1, newB (.cells ((byteVals x1).toArray ++ Array.replicate j1 (.int .u8 0)) 5 (x1.size + j1, x1.size + j1 + 1)) (fun b1 h3 =>
  fields_check.W4 (some (⟨b1, 0, none⟩ : Addr)) x1.size (x1.size + j1) (x1.size : Int) 0 (fun h4 =>
  Kr 0 h4) Kr E h3) h2) Kr E h1) h0
structure fields_check.J2 (f0 : Addr) (Kr : Int → Heap → Prop) (E : Value → Heap → Prop) (H : Heap) : Prop where
  h : fields_check.J2.vc f0 Kr E H
def fields_check.vc (f0 : ByteArray) (f1 : ByteArray) (K : Int → Heap → Prop) (E : Value → Heap → Prop) (h0 : Heap) : Prop :=
  newB (.cells #[(.string f0), (.string f1)] 35) (fun b0 h1 =>
  ldS h1 ((⟨b0, 0, none⟩ : Addr).add 0) fun x0 =>
  (if (decide ((x0.size : Int) > 256)) = true then
  fields_check.J1 (⟨b0, 0, none⟩ : Addr) true (fun h2 =>
  fields_check.J2 (⟨b0, 0, none⟩ : Addr) K E h2) K E h1
  else
  ldS h1 ((⟨b0, 0, none⟩ : Addr).add 1) fun x3 =>
  fields_check.J1 (⟨b0, 0, none⟩ : Addr) (decide ((x3.size : Int) > 256)) (fun h5 =>
  fields_check.J2 (⟨b0, 0, none⟩ : Addr) K E h5) K E h1)) h0
structure fields_check.c (f0 : ByteArray) (f1 : ByteArray) (K : Int → Heap → Prop) (E : Value → Heap → Prop) (H : Heap) : Prop where
  h : fields_check.vc f0 f1 (fun r0_0 H => ∃ H', Heap.Le H' H ∧ K r0_0 H') E H
def fields_check.F : FT := fun args K E H => match args with
  | [(.agg ⟨[(.string f0), (.string f1)]⟩)] => fields_check.c f0 f1 (fun r0_0 H => K (.int .i64 r0_0) H) E H
  | _ => False
noncomputable def fields_check.Γ : FuncId → Option FT := Γof [(47, fields_letter.F)]
theorem fields_check.hΓ : ∀ f F, fields_check.Γ f = some F → CalleeOk Tryd.prog f F := Γof_ok (List.forall_mem_cons.2 ⟨fields_letter.ok, fun _ h => nomatch h⟩)
def fields_check.J1.t : CT := fun Q E fr H => lenIs 49 fr (slPA fr 1 fun f0 => slB fr 7 fun x0 => fields_check.J1 f0 x0 (fun  H => Q .normal (mkF 49 [(1, (.pointer (some f0)))]) H) (fun y2_0 H => Q .ret (mkF 49 [(2, (.int .i64 y2_0))]) H) E H)
noncomputable def fields_check.J1.plan : Plan := .go
theorem fields_check.J1.pok : PlanOk Tryd.prog fields_check.J1.plan (sub [1, 0, 0, 1] fields_check.body) := by
  have e : PlanOk Tryd.prog fields_check.J1.plan (sub [1, 0, 0, 1] fields_check.body) = (True) := by kernel_rfl
  exact e.mpr trivial
theorem fields_check.J1.eq (f0 : Addr) (x0 : Bool) (Q : Ex → Fr → Heap → Prop) (E : Value → Heap → Prop) (H : Heap) :
    fields_check.J1.vc f0 x0 (fun  H => Q .normal (mkF 49 [(1, (.pointer (some f0)))]) H) (fun y2_0 H => Q .ret (mkF 49 [(2, (.int .i64 y2_0))]) H) E H = keepT [1] [2] (fun i => []) (wC Tryd.prog fields_check.Γ fields_check.J1.plan (sub [1, 0, 0, 1] fields_check.body)) Q E (mkF 49 [(1, (.pointer (some f0))), (7, (.bool x0))]) H := by
  kernel_rfl
theorem fields_check.J1.ok : SoundCode Tryd.prog (sub [1, 0, 0, 1] fields_check.body) fields_check.J1.t := by
  refine piece_sound (keepT_sound [1] [2] (fun i => []) (wC_sound fields_check.hΓ Tryd.hm fields_check.J1.plan _ fields_check.J1.pok)) ?_
  intro Q E fr H h
  unfold fields_check.J1.t at h
  obtain ⟨hl, h⟩ := lenIs_elim h
  obtain ⟨f0, q1, h⟩ := slPA_elim h
  obtain ⟨x0, q7, h⟩ := slB_elim h
  refine ⟨(mkF 49 [(1, (.pointer (some f0))), (7, (.bool x0))]), fun a ha => ha.mk (Nat.le_of_eq hl.symm) (List.forall_mem_cons.2 ⟨q1, List.forall_mem_cons.2 ⟨q7, fun _ h => nomatch h⟩⟩), ?_⟩
  have e := fields_check.J1.eq f0 x0 Q E H
  rw [← e]
  exact h.h
def fields_check.W3.t : CT := fun Q E fr H => lenIs 49 fr (slPA fr 1 fun f0 => slSl fr 24 fun x0 x1 x2 => slI fr 25 .i64 fun x3 => slI fr 26 .i64 fun x4 => fields_check.W3 f0 x0 x1 x2 x3 x4 (fun  H => Q (.exit 1) (mkF 49 [(1, (.pointer (some f0)))]) H) (fun y2_0 H => Q .ret (mkF 49 [(2, (.int .i64 y2_0))]) H) E H)
noncomputable def fields_check.W3.plan : Plan := .go
theorem fields_check.W3.pok : PlanOk Tryd.prog fields_check.W3.plan (sub [1, 1, 0, 1, 0, 0] fields_check.body) := by
  have e : PlanOk Tryd.prog fields_check.W3.plan (sub [1, 1, 0, 1, 0, 0] fields_check.body) = (True) := by kernel_rfl
  exact e.mpr trivial
theorem fields_check.W3.eq (f0 : Addr) (x0 : Option Addr) (x1 : Nat) (x2 : Nat) (x3 : Int) (Q : Ex → Fr → Heap → Prop) (E : Value → Heap → Prop) (RR : Fr → Heap → Prop) (s : Int) (H : Heap) :
    (fun (RR : Int → Heap → Prop) (s : Int) (H : Heap) => fields_check.W3.vc f0 x0 x1 x2 x3 s (fun  H => Q (.exit 1) (mkF 49 [(1, (.pointer (some f0)))]) H) (fun y2_0 H => Q .ret (mkF 49 [(2, (.int .i64 y2_0))]) H) (fun x4 H => RR (x4) H) E H) (fun s' H' => RR ((fun (s : Int) => (mkF 49 [(1, (.pointer (some f0))), (24, (.slice x0 x1 x2)), (25, (.int .i64 x3)), (26, (.int .i64 s))])) s') H') s H = keepT [1, 24, 25, 26] [2] (fun i => if i = 1 then [1] else []) (wC Tryd.prog fields_check.Γ fields_check.W3.plan (sub [1, 1, 0, 1, 0, 0] fields_check.body)) (fun e fr' H' => match e with | .normal => RR fr' H' | .exit id => Q (.exit id) fr' H' | .ret => Q .ret fr' H') E ((fun (s : Int) => (mkF 49 [(1, (.pointer (some f0))), (24, (.slice x0 x1 x2)), (25, (.int .i64 x3)), (26, (.int .i64 s))])) s) H := by
  kernel_rfl
theorem fields_check.W3.ok : SoundCode Tryd.prog (sub [1, 1, 0, 1, 0] fields_check.body) fields_check.W3.t := by
  have e : (sub [1, 1, 0, 1, 0] fields_check.body) = .loop (sub [1, 1, 0, 1, 0, 0] fields_check.body) := by kernel_rfl
  rw [e]
  refine piece_sound (loopN_sound (keepT_sound [1, 24, 25, 26] [2] (fun i => if i = 1 then [1] else []) (wC_sound fields_check.hΓ Tryd.hm fields_check.W3.plan _ fields_check.W3.pok))) ?_
  intro Q E fr H h
  unfold fields_check.W3.t at h
  obtain ⟨hl, h⟩ := lenIs_elim h
  obtain ⟨f0, q1, h⟩ := slPA_elim h
  obtain ⟨x0, x1, x2, q24, h⟩ := slSl_elim h
  obtain ⟨x3, q25, h⟩ := slI_elim h
  obtain ⟨x4, q26, h⟩ := slI_elim h
  obtain ⟨m, h⟩ := h.h
  refine ⟨(mkF 49 [(1, (.pointer (some f0))), (24, (.slice x0 x1 x2)), (25, (.int .i64 x3)), (26, (.int .i64 x4))]), fun a ha => ha.mk (Nat.le_of_eq hl.symm) (List.forall_mem_cons.2 ⟨q1, List.forall_mem_cons.2 ⟨q24, List.forall_mem_cons.2 ⟨q25, List.forall_mem_cons.2 ⟨q26, fun _ h => nomatch h⟩⟩⟩⟩), m, ?_⟩
  have e := loopS_eq (B := (fun (RR : Int → Heap → Prop) (s : Int) (H : Heap) => fields_check.W3.vc f0 x0 x1 x2 x3 s (fun  H => Q (.exit 1) (mkF 49 [(1, (.pointer (some f0)))]) H) (fun y2_0 H => Q .ret (mkF 49 [(2, (.int .i64 y2_0))]) H) (fun x4 H => RR (x4) H) E H)) (A := keepT [1, 24, 25, 26] [2] (fun i => if i = 1 then [1] else []) (wC Tryd.prog fields_check.Γ fields_check.W3.plan (sub [1, 1, 0, 1, 0, 0] fields_check.body))) (m := (fun (s : Int) => (mkF 49 [(1, (.pointer (some f0))), (24, (.slice x0 x1 x2)), (25, (.int .i64 x3)), (26, (.int .i64 s))]))) (Q := Q) (E := E) (fun RR s H => fields_check.W3.eq f0 x0 x1 x2 x3 Q E RR s H) m (x4) H
  exact cast e h
def fields_check.J5.t : CT := fun Q E fr H => lenIs 49 fr (slSl fr 36 fun x0 x1 x2 => slI fr 37 .i64 fun x3 => slI fr 38 .i64 fun x4 => slB fr 47 fun x5 => fields_check.J5 x0 x1 x2 x3 x4 x5 (fun  H => Q .normal (mkF 49 [(36, (.slice x0 x1 x2)), (37, (.int .i64 x3)), (38, (.int .i64 x4))]) H) (fun y2_0 H => Q .ret (mkF 49 [(2, (.int .i64 y2_0))]) H) E H)
noncomputable def fields_check.J5.plan : Plan := .go
theorem fields_check.J5.pok : PlanOk Tryd.prog fields_check.J5.plan (sub [1, 1, 1, 0, 1, 0, 0, 1, 1, 0, 0, 1, 1] fields_check.body) := by
  have e : PlanOk Tryd.prog fields_check.J5.plan (sub [1, 1, 1, 0, 1, 0, 0, 1, 1, 0, 0, 1, 1] fields_check.body) = (True) := by kernel_rfl
  exact e.mpr trivial
theorem fields_check.J5.eq (x0 : Option Addr) (x1 : Nat) (x2 : Nat) (x3 : Int) (x4 : Int) (x5 : Bool) (Q : Ex → Fr → Heap → Prop) (E : Value → Heap → Prop) (H : Heap) :
    fields_check.J5.vc x0 x1 x2 x3 x4 x5 (fun  H => Q .normal (mkF 49 [(36, (.slice x0 x1 x2)), (37, (.int .i64 x3)), (38, (.int .i64 x4))]) H) (fun y2_0 H => Q .ret (mkF 49 [(2, (.int .i64 y2_0))]) H) E H = keepT [36, 37, 38] [2] (fun i => []) (wC Tryd.prog fields_check.Γ fields_check.J5.plan (sub [1, 1, 1, 0, 1, 0, 0, 1, 1, 0, 0, 1, 1] fields_check.body)) Q E (mkF 49 [(36, (.slice x0 x1 x2)), (37, (.int .i64 x3)), (38, (.int .i64 x4)), (47, (.bool x5))]) H := by
  kernel_rfl
theorem fields_check.J5.ok : SoundCode Tryd.prog (sub [1, 1, 1, 0, 1, 0, 0, 1, 1, 0, 0, 1, 1] fields_check.body) fields_check.J5.t := by
  refine piece_sound (keepT_sound [36, 37, 38] [2] (fun i => []) (wC_sound fields_check.hΓ Tryd.hm fields_check.J5.plan _ fields_check.J5.pok)) ?_
  intro Q E fr H h
  unfold fields_check.J5.t at h
  obtain ⟨hl, h⟩ := lenIs_elim h
  obtain ⟨x0, x1, x2, q36, h⟩ := slSl_elim h
  obtain ⟨x3, q37, h⟩ := slI_elim h
  obtain ⟨x4, q38, h⟩ := slI_elim h
  obtain ⟨x5, q47, h⟩ := slB_elim h
  refine ⟨(mkF 49 [(36, (.slice x0 x1 x2)), (37, (.int .i64 x3)), (38, (.int .i64 x4)), (47, (.bool x5))]), fun a ha => ha.mk (Nat.le_of_eq hl.symm) (List.forall_mem_cons.2 ⟨q36, List.forall_mem_cons.2 ⟨q37, List.forall_mem_cons.2 ⟨q38, List.forall_mem_cons.2 ⟨q47, fun _ h => nomatch h⟩⟩⟩⟩), ?_⟩
  have e := fields_check.J5.eq x0 x1 x2 x3 x4 x5 Q E H
  rw [← e]
  exact h.h
def fields_check.J6.t : CT := fun Q E fr H => lenIs 49 fr (slSl fr 36 fun x0 x1 x2 => slI fr 37 .i64 fun x3 => slI fr 38 .i64 fun x4 => fields_check.J6 x0 x1 x2 x3 x4 (fun y38_0 H => Q .normal (mkF 49 [(36, (.slice x0 x1 x2)), (37, (.int .i64 x3)), (38, (.int .i64 y38_0))]) H) E H)
noncomputable def fields_check.J6.plan : Plan := .go
theorem fields_check.J6.pok : PlanOk Tryd.prog fields_check.J6.plan (sub [1, 1, 1, 0, 1, 0, 0, 1, 1, 1] fields_check.body) := by
  have e : PlanOk Tryd.prog fields_check.J6.plan (sub [1, 1, 1, 0, 1, 0, 0, 1, 1, 1] fields_check.body) = (True) := by kernel_rfl
  exact e.mpr trivial
theorem fields_check.J6.eq (x0 : Option Addr) (x1 : Nat) (x2 : Nat) (x3 : Int) (x4 : Int) (Q : Ex → Fr → Heap → Prop) (E : Value → Heap → Prop) (H : Heap) :
    fields_check.J6.vc x0 x1 x2 x3 x4 (fun y38_0 H => Q .normal (mkF 49 [(36, (.slice x0 x1 x2)), (37, (.int .i64 x3)), (38, (.int .i64 y38_0))]) H) E H = keepT [36, 37, 38] [] (fun i => []) (wC Tryd.prog fields_check.Γ fields_check.J6.plan (sub [1, 1, 1, 0, 1, 0, 0, 1, 1, 1] fields_check.body)) Q E (mkF 49 [(36, (.slice x0 x1 x2)), (37, (.int .i64 x3)), (38, (.int .i64 x4))]) H := by
  kernel_rfl
theorem fields_check.J6.ok : SoundCode Tryd.prog (sub [1, 1, 1, 0, 1, 0, 0, 1, 1, 1] fields_check.body) fields_check.J6.t := by
  refine piece_sound (keepT_sound [36, 37, 38] [] (fun i => []) (wC_sound fields_check.hΓ Tryd.hm fields_check.J6.plan _ fields_check.J6.pok)) ?_
  intro Q E fr H h
  unfold fields_check.J6.t at h
  obtain ⟨hl, h⟩ := lenIs_elim h
  obtain ⟨x0, x1, x2, q36, h⟩ := slSl_elim h
  obtain ⟨x3, q37, h⟩ := slI_elim h
  obtain ⟨x4, q38, h⟩ := slI_elim h
  refine ⟨(mkF 49 [(36, (.slice x0 x1 x2)), (37, (.int .i64 x3)), (38, (.int .i64 x4))]), fun a ha => ha.mk (Nat.le_of_eq hl.symm) (List.forall_mem_cons.2 ⟨q36, List.forall_mem_cons.2 ⟨q37, List.forall_mem_cons.2 ⟨q38, fun _ h => nomatch h⟩⟩⟩), ?_⟩
  have e := fields_check.J6.eq x0 x1 x2 x3 x4 Q E H
  rw [← e]
  exact h.h
def fields_check.W4.t : CT := fun Q E fr H => lenIs 49 fr (slSl fr 36 fun x0 x1 x2 => slI fr 37 .i64 fun x3 => slI fr 38 .i64 fun x4 => fields_check.W4 x0 x1 x2 x3 x4 (fun  H => Q (.exit 3) (mkF 49 []) H) (fun y2_0 H => Q .ret (mkF 49 [(2, (.int .i64 y2_0))]) H) E H)
noncomputable def fields_check.W4.plan : Plan := .seq (.go) (.seq (.go) (.seq (.block (.seq (.go) (.seq (.go) (.use fields_check.J5.t)))) (.use fields_check.J6.t)))
theorem fields_check.W4.pok : PlanOk Tryd.prog fields_check.W4.plan (sub [1, 1, 1, 0, 1, 0, 0] fields_check.body) := by
  have e : PlanOk Tryd.prog fields_check.W4.plan (sub [1, 1, 1, 0, 1, 0, 0] fields_check.body) = ((True) ∧ ((True) ∧ (((True) ∧ ((True) ∧ (SoundCode Tryd.prog (sub [1, 1, 1, 0, 1, 0, 0, 1, 1, 0, 0, 1, 1] fields_check.body) fields_check.J5.t))) ∧ (SoundCode Tryd.prog (sub [1, 1, 1, 0, 1, 0, 0, 1, 1, 1] fields_check.body) fields_check.J6.t)))) := by kernel_rfl
  exact e.mpr ⟨trivial, ⟨trivial, ⟨⟨trivial, ⟨trivial, fields_check.J5.ok⟩⟩, fields_check.J6.ok⟩⟩⟩
theorem fields_check.W4.eq (x0 : Option Addr) (x1 : Nat) (x2 : Nat) (x3 : Int) (Q : Ex → Fr → Heap → Prop) (E : Value → Heap → Prop) (RR : Fr → Heap → Prop) (s : Int) (H : Heap) :
    (fun (RR : Int → Heap → Prop) (s : Int) (H : Heap) => fields_check.W4.vc x0 x1 x2 x3 s (fun  H => Q (.exit 3) (mkF 49 []) H) (fun y2_0 H => Q .ret (mkF 49 [(2, (.int .i64 y2_0))]) H) (fun x4 H => RR (x4) H) E H) (fun s' H' => RR ((fun (s : Int) => (mkF 49 [(36, (.slice x0 x1 x2)), (37, (.int .i64 x3)), (38, (.int .i64 s))])) s') H') s H = keepT [36, 37, 38] [2] (fun i => if i = 3 then [] else []) (wC Tryd.prog fields_check.Γ fields_check.W4.plan (sub [1, 1, 1, 0, 1, 0, 0] fields_check.body)) (fun e fr' H' => match e with | .normal => RR fr' H' | .exit id => Q (.exit id) fr' H' | .ret => Q .ret fr' H') E ((fun (s : Int) => (mkF 49 [(36, (.slice x0 x1 x2)), (37, (.int .i64 x3)), (38, (.int .i64 s))])) s) H := by
  kernel_rfl
theorem fields_check.W4.ok : SoundCode Tryd.prog (sub [1, 1, 1, 0, 1, 0] fields_check.body) fields_check.W4.t := by
  have e : (sub [1, 1, 1, 0, 1, 0] fields_check.body) = .loop (sub [1, 1, 1, 0, 1, 0, 0] fields_check.body) := by kernel_rfl
  rw [e]
  refine piece_sound (loopN_sound (keepT_sound [36, 37, 38] [2] (fun i => if i = 3 then [] else []) (wC_sound fields_check.hΓ Tryd.hm fields_check.W4.plan _ fields_check.W4.pok))) ?_
  intro Q E fr H h
  unfold fields_check.W4.t at h
  obtain ⟨hl, h⟩ := lenIs_elim h
  obtain ⟨x0, x1, x2, q36, h⟩ := slSl_elim h
  obtain ⟨x3, q37, h⟩ := slI_elim h
  obtain ⟨x4, q38, h⟩ := slI_elim h
  obtain ⟨m, h⟩ := h.h
  refine ⟨(mkF 49 [(36, (.slice x0 x1 x2)), (37, (.int .i64 x3)), (38, (.int .i64 x4))]), fun a ha => ha.mk (Nat.le_of_eq hl.symm) (List.forall_mem_cons.2 ⟨q36, List.forall_mem_cons.2 ⟨q37, List.forall_mem_cons.2 ⟨q38, fun _ h => nomatch h⟩⟩⟩), m, ?_⟩
  have e := loopS_eq (B := (fun (RR : Int → Heap → Prop) (s : Int) (H : Heap) => fields_check.W4.vc x0 x1 x2 x3 s (fun  H => Q (.exit 3) (mkF 49 []) H) (fun y2_0 H => Q .ret (mkF 49 [(2, (.int .i64 y2_0))]) H) (fun x4 H => RR (x4) H) E H)) (A := keepT [36, 37, 38] [2] (fun i => if i = 3 then [] else []) (wC Tryd.prog fields_check.Γ fields_check.W4.plan (sub [1, 1, 1, 0, 1, 0, 0] fields_check.body))) (m := (fun (s : Int) => (mkF 49 [(36, (.slice x0 x1 x2)), (37, (.int .i64 x3)), (38, (.int .i64 s))]))) (Q := Q) (E := E) (fun RR s H => fields_check.W4.eq x0 x1 x2 x3 Q E RR s H) m (x4) H
  exact cast e h
def fields_check.J2.t : CT := fun Q E fr H => lenIs 49 fr (slPA fr 1 fun f0 => fields_check.J2 f0 (fun y2_0 H => Q .ret (mkF 49 [(2, (.int .i64 y2_0))]) H) E H)
noncomputable def fields_check.J2.plan : Plan := .seq (.seq (.go) (.block (.use fields_check.W3.t))) (.seq (.seq (.go) (.block (.use fields_check.W4.t))) (.go))
theorem fields_check.J2.pok : PlanOk Tryd.prog fields_check.J2.plan (sub [1, 1] fields_check.body) := by
  have e : PlanOk Tryd.prog fields_check.J2.plan (sub [1, 1] fields_check.body) = (((True) ∧ (SoundCode Tryd.prog (sub [1, 1, 0, 1, 0] fields_check.body) fields_check.W3.t)) ∧ (((True) ∧ (SoundCode Tryd.prog (sub [1, 1, 1, 0, 1, 0] fields_check.body) fields_check.W4.t)) ∧ (True))) := by kernel_rfl
  exact e.mpr ⟨⟨trivial, fields_check.W3.ok⟩, ⟨⟨trivial, fields_check.W4.ok⟩, trivial⟩⟩
theorem fields_check.J2.eq (f0 : Addr) (Q : Ex → Fr → Heap → Prop) (E : Value → Heap → Prop) (H : Heap) :
    fields_check.J2.vc f0 (fun y2_0 H => Q .ret (mkF 49 [(2, (.int .i64 y2_0))]) H) E H = keepT [] [2] (fun i => []) (wC Tryd.prog fields_check.Γ fields_check.J2.plan (sub [1, 1] fields_check.body)) Q E (mkF 49 [(1, (.pointer (some f0)))]) H := by
  kernel_rfl
theorem fields_check.J2.ok : SoundCode Tryd.prog (sub [1, 1] fields_check.body) fields_check.J2.t := by
  refine piece_sound (keepT_sound [] [2] (fun i => []) (wC_sound fields_check.hΓ Tryd.hm fields_check.J2.plan _ fields_check.J2.pok)) ?_
  intro Q E fr H h
  unfold fields_check.J2.t at h
  obtain ⟨hl, h⟩ := lenIs_elim h
  obtain ⟨f0, q1, h⟩ := slPA_elim h
  refine ⟨(mkF 49 [(1, (.pointer (some f0)))]), fun a ha => ha.mk (Nat.le_of_eq hl.symm) (List.forall_mem_cons.2 ⟨q1, fun _ h => nomatch h⟩), ?_⟩
  have e := fields_check.J2.eq f0 Q E H
  rw [← e]
  exact h.h
noncomputable def fields_check.plan : Plan := .seq (.go) (.seq (.block (.seq (.go) (.use fields_check.J1.t))) (.use fields_check.J2.t))
theorem fields_check.pok : PlanOk Tryd.prog fields_check.plan fields_check.body := by
  have e : PlanOk Tryd.prog fields_check.plan fields_check.body = ((True) ∧ (((True) ∧ (SoundCode Tryd.prog (sub [1, 0, 0, 1] fields_check.body) fields_check.J1.t)) ∧ (SoundCode Tryd.prog (sub [1, 1] fields_check.body) fields_check.J2.t))) := by kernel_rfl
  exact e.mpr ⟨trivial, ⟨⟨trivial, fields_check.J1.ok⟩, fields_check.J2.ok⟩⟩
theorem fields_check.eq (f0 : ByteArray) (f1 : ByteArray) (K : Value → Heap → Prop) (E : Value → Heap → Prop) (H : Heap) :
    fnT Tryd.prog Tryd.f35 (wC Tryd.prog fields_check.Γ fields_check.plan fields_check.body) [(.agg #[(.string f0), (.string f1)])] K E H = fields_check.vc f0 f1 (fun r0_0 H => K (.int .i64 r0_0) H) E H := by
  kernel_rfl
theorem fields_check.Fe {args : List Value} {K E : Value → Heap → Prop} {H : Heap} (h : fields_check.F args K E H) : ∃ f0 f1, args = [(.agg #[(.string f0), (.string f1)])] ∧ fields_check.c f0 f1 (fun r0_0 H => K (.int .i64 r0_0) H) E H := by
  unfold fields_check.F at h
  split at h
  · exact ⟨_, _, rfl, h⟩
  · exact h.elim
theorem fields_check.ok : CalleeOk Tryd.prog 35 fields_check.F :=
  callee_ok fields_check.hΓ (fn := Tryd.f35) (c := fields_check.body) (T := wC Tryd.prog fields_check.Γ fields_check.plan fields_check.body) (by kernel_rfl) (by kernel_rfl) (by kernel_rfl) (wC_sound fields_check.hΓ Tryd.hm fields_check.plan _ fields_check.pok) fun _ K E H h => by
    obtain ⟨z0, z1, e, h⟩ := fields_check.Fe h
    subst e
    have h2 : fields_check.vc z0 z1 (fun r0_0 H => ∃ H', Heap.Le H' H ∧ K (.int .i64 r0_0) H') E H := h.h
    rw [fields_check.eq z0 z1 (Fg K) E H]
    exact h2

/-! vizard/fields.Check -/
noncomputable def fields_Check.body : Code := Tryd.f25.body.getD .skip
def fields_Check.W1.vc (x0 : Option Addr) (x1 : Nat) (x2 : Nat) (x3 : Int) (x4 : Int) (Kx0 : Heap → Prop) (Kr : Int → Heap → Prop) (RR : Int → Heap → Prop) (E : Value → Heap → Prop) (h0 : Heap) : Prop :=
  (if (decide (x4 < x3)) = true then
  nilc x0 fun a0 => (0 : Int) ≤ x4 ∧ x4 < (x1 : Int) ∧
  ldS h0 ((a0.add (x4.toNat * 2)).add 0) fun x5 => ldS h0 ((a0.add (x4.toNat * 2)).add 1) fun x6 =>
  newB (.cells #[(.string (⟨#[]⟩ : ByteArray)), (.string (⟨#[]⟩ : ByteArray))] 35) (fun b0 h1 =>
  stc h1 ((⟨b0, 0, none⟩ : Addr).add 0) (.string x5) fun h2 =>
  stc h2 ((⟨b0, 0, none⟩ : Addr).add 1) (.string x6) fun h3 =>
  ldS h3 ((⟨b0, 0, none⟩ : Addr).add 0) fun x7 => ldS h3 ((⟨b0, 0, none⟩ : Addr).add 1) fun x8 =>
  fields_check.c x7 x8 (fun x9 h4 =>
  (if (x9 != 0) = true then
  Kr x9 h4
  else
  RR (IntKind.i64.wrap (x4 + 1)) h4)) E h3) h0
  else
  Kx0 h0)
structure fields_Check.W1 (x0 : Option Addr) (x1 : Nat) (x2 : Nat) (x3 : Int) (x4 : Int) (Kx0 : Heap → Prop) (Kr : Int → Heap → Prop) (E : Value → Heap → Prop) (H : Heap) : Prop where
  h : Loop (fun (RR : Int → Heap → Prop) (s : Int) (H : Heap) => fields_Check.W1.vc x0 x1 x2 x3 s Kx0 Kr (fun x4 H => RR (x4) H) E H) (x4) H
def fields_Check.vc (l0 : Option Addr) (l1 : Nat) (l2 : Nat) (K : Int → Heap → Prop) (E : Value → Heap → Prop) (h0 : Heap) : Prop :=
  (if (decide ((l1 : Int) > 16)) = true then
  K 8 h0
  else
  fields_Check.W1 l0 l1 l2 (l1 : Int) 0 (fun h1 =>
  K 0 h1) K E h0)
structure fields_Check.c (l0 : Option Addr) (l1 : Nat) (l2 : Nat) (K : Int → Heap → Prop) (E : Value → Heap → Prop) (H : Heap) : Prop where
  h : fields_Check.vc l0 l1 l2 (fun r0_0 H => ∃ H', Heap.Le H' H ∧ K r0_0 H') E H
def fields_Check.F : FT := fun args K E H => match args with
  | [(.slice l0 l1 l2)] => fields_Check.c l0 l1 l2 (fun r0_0 H => K (.int .i64 r0_0) H) E H
  | _ => False
noncomputable def fields_Check.Γ : FuncId → Option FT := Γof [(35, fields_check.F)]
theorem fields_Check.hΓ : ∀ f F, fields_Check.Γ f = some F → CalleeOk Tryd.prog f F := Γof_ok (List.forall_mem_cons.2 ⟨fields_check.ok, fun _ h => nomatch h⟩)
def fields_Check.W1.t : CT := fun Q E fr H => lenIs 21 fr (slSl fr 9 fun x0 x1 x2 => slI fr 10 .i64 fun x3 => slI fr 11 .i64 fun x4 => fields_Check.W1 x0 x1 x2 x3 x4 (fun  H => Q (.exit 0) (mkF 21 []) H) (fun y2_0 H => Q .ret (mkF 21 [(2, (.int .i64 y2_0))]) H) E H)
noncomputable def fields_Check.W1.plan : Plan := .go
theorem fields_Check.W1.pok : PlanOk Tryd.prog fields_Check.W1.plan (sub [1, 1, 0, 1, 0, 0] fields_Check.body) := by
  have e : PlanOk Tryd.prog fields_Check.W1.plan (sub [1, 1, 0, 1, 0, 0] fields_Check.body) = (True) := by kernel_rfl
  exact e.mpr trivial
theorem fields_Check.W1.eq (x0 : Option Addr) (x1 : Nat) (x2 : Nat) (x3 : Int) (Q : Ex → Fr → Heap → Prop) (E : Value → Heap → Prop) (RR : Fr → Heap → Prop) (s : Int) (H : Heap) :
    (fun (RR : Int → Heap → Prop) (s : Int) (H : Heap) => fields_Check.W1.vc x0 x1 x2 x3 s (fun  H => Q (.exit 0) (mkF 21 []) H) (fun y2_0 H => Q .ret (mkF 21 [(2, (.int .i64 y2_0))]) H) (fun x4 H => RR (x4) H) E H) (fun s' H' => RR ((fun (s : Int) => (mkF 21 [(9, (.slice x0 x1 x2)), (10, (.int .i64 x3)), (11, (.int .i64 s))])) s') H') s H = keepT [9, 10, 11] [2] (fun i => if i = 0 then [] else []) (wC Tryd.prog fields_Check.Γ fields_Check.W1.plan (sub [1, 1, 0, 1, 0, 0] fields_Check.body)) (fun e fr' H' => match e with | .normal => RR fr' H' | .exit id => Q (.exit id) fr' H' | .ret => Q .ret fr' H') E ((fun (s : Int) => (mkF 21 [(9, (.slice x0 x1 x2)), (10, (.int .i64 x3)), (11, (.int .i64 s))])) s) H := by
  kernel_rfl
theorem fields_Check.W1.ok : SoundCode Tryd.prog (sub [1, 1, 0, 1, 0] fields_Check.body) fields_Check.W1.t := by
  have e : (sub [1, 1, 0, 1, 0] fields_Check.body) = .loop (sub [1, 1, 0, 1, 0, 0] fields_Check.body) := by kernel_rfl
  rw [e]
  refine piece_sound (loopN_sound (keepT_sound [9, 10, 11] [2] (fun i => if i = 0 then [] else []) (wC_sound fields_Check.hΓ Tryd.hm fields_Check.W1.plan _ fields_Check.W1.pok))) ?_
  intro Q E fr H h
  unfold fields_Check.W1.t at h
  obtain ⟨hl, h⟩ := lenIs_elim h
  obtain ⟨x0, x1, x2, q9, h⟩ := slSl_elim h
  obtain ⟨x3, q10, h⟩ := slI_elim h
  obtain ⟨x4, q11, h⟩ := slI_elim h
  obtain ⟨m, h⟩ := h.h
  refine ⟨(mkF 21 [(9, (.slice x0 x1 x2)), (10, (.int .i64 x3)), (11, (.int .i64 x4))]), fun a ha => ha.mk (Nat.le_of_eq hl.symm) (List.forall_mem_cons.2 ⟨q9, List.forall_mem_cons.2 ⟨q10, List.forall_mem_cons.2 ⟨q11, fun _ h => nomatch h⟩⟩⟩), m, ?_⟩
  have e := loopS_eq (B := (fun (RR : Int → Heap → Prop) (s : Int) (H : Heap) => fields_Check.W1.vc x0 x1 x2 x3 s (fun  H => Q (.exit 0) (mkF 21 []) H) (fun y2_0 H => Q .ret (mkF 21 [(2, (.int .i64 y2_0))]) H) (fun x4 H => RR (x4) H) E H)) (A := keepT [9, 10, 11] [2] (fun i => if i = 0 then [] else []) (wC Tryd.prog fields_Check.Γ fields_Check.W1.plan (sub [1, 1, 0, 1, 0, 0] fields_Check.body))) (m := (fun (s : Int) => (mkF 21 [(9, (.slice x0 x1 x2)), (10, (.int .i64 x3)), (11, (.int .i64 s))]))) (Q := Q) (E := E) (fun RR s H => fields_Check.W1.eq x0 x1 x2 x3 Q E RR s H) m (x4) H
  exact cast e h
noncomputable def fields_Check.plan : Plan := .seq (.go) (.seq (.go) (.seq (.seq (.go) (.block (.use fields_Check.W1.t))) (.go)))
theorem fields_Check.pok : PlanOk Tryd.prog fields_Check.plan fields_Check.body := by
  have e : PlanOk Tryd.prog fields_Check.plan fields_Check.body = ((True) ∧ ((True) ∧ (((True) ∧ (SoundCode Tryd.prog (sub [1, 1, 0, 1, 0] fields_Check.body) fields_Check.W1.t)) ∧ (True)))) := by kernel_rfl
  exact e.mpr ⟨trivial, ⟨trivial, ⟨⟨trivial, fields_Check.W1.ok⟩, trivial⟩⟩⟩
theorem fields_Check.eq (l0 : Option Addr) (l1 : Nat) (l2 : Nat) (K : Value → Heap → Prop) (E : Value → Heap → Prop) (H : Heap) :
    fnT Tryd.prog Tryd.f25 (wC Tryd.prog fields_Check.Γ fields_Check.plan fields_Check.body) [(.slice l0 l1 l2)] K E H = fields_Check.vc l0 l1 l2 (fun r0_0 H => K (.int .i64 r0_0) H) E H := by
  kernel_rfl
theorem fields_Check.Fe {args : List Value} {K E : Value → Heap → Prop} {H : Heap} (h : fields_Check.F args K E H) : ∃ l0 l1 l2, args = [(.slice l0 l1 l2)] ∧ fields_Check.c l0 l1 l2 (fun r0_0 H => K (.int .i64 r0_0) H) E H := by
  unfold fields_Check.F at h
  split at h
  · exact ⟨_, _, _, rfl, h⟩
  · exact h.elim
theorem fields_Check.ok : CalleeOk Tryd.prog 25 fields_Check.F :=
  callee_ok fields_Check.hΓ (fn := Tryd.f25) (c := fields_Check.body) (T := wC Tryd.prog fields_Check.Γ fields_Check.plan fields_Check.body) (by kernel_rfl) (by kernel_rfl) (by kernel_rfl) (wC_sound fields_Check.hΓ Tryd.hm fields_Check.plan _ fields_Check.pok) fun _ K E H h => by
    obtain ⟨z0, z1, z2, e, h⟩ := fields_Check.Fe h
    subst e
    have h2 : fields_Check.vc z0 z1 z2 (fun r0_0 H => ∃ H', Heap.Le H' H ∧ K (.int .i64 r0_0) H') E H := h.h
    rw [fields_Check.eq z0 z1 z2 (Fg K) E H]
    exact h2

/-! vizard/fields.Get -/
noncomputable def fields_Get.body : Code := Tryd.f27.body.getD .skip
def fields_Get.J2.vc (name0 : ByteArray) (value0 : ByteArray) (count0 : Int) (x0 : Option Addr) (x1 : Nat) (x2 : Nat) (x3 : Int) (x4 : Int) (Kn : Int → Heap → Prop) (E : Value → Heap → Prop) (h0 : Heap) : Prop :=
  Kn (IntKind.i64.wrap (x4 + 1)) h0
structure fields_Get.J2 (name0 : ByteArray) (value0 : ByteArray) (count0 : Int) (x0 : Option Addr) (x1 : Nat) (x2 : Nat) (x3 : Int) (x4 : Int) (Kn : Int → Heap → Prop) (E : Value → Heap → Prop) (H : Heap) : Prop where
  h : fields_Get.J2.vc name0 value0 count0 x0 x1 x2 x3 x4 Kn E H
def fields_Get.W1.vc (name0 : ByteArray) (value0 : ByteArray) (count0 : Int) (x0 : Option Addr) (x1 : Nat) (x2 : Nat) (x3 : Int) (x4 : Int) (Kx0 : ByteArray → Int → Heap → Prop) (RR : ByteArray → Int → Int → Heap → Prop) (E : Value → Heap → Prop) (h0 : Heap) : Prop :=
  (if (decide (x4 < x3)) = true then
  nilc x0 fun a0 => (0 : Int) ≤ x4 ∧ x4 < (x1 : Int) ∧
  ldS h0 ((a0.add (x4.toNat * 2)).add 0) fun x5 => ldS h0 ((a0.add (x4.toNat * 2)).add 1) fun x6 =>
  newB (.cells #[(.string (⟨#[]⟩ : ByteArray)), (.string (⟨#[]⟩ : ByteArray))] 35) (fun b0 h1 =>
  stc h1 ((⟨b0, 0, none⟩ : Addr).add 0) (.string x5) fun h2 =>
  stc h2 ((⟨b0, 0, none⟩ : Addr).add 1) (.string x6) fun h3 =>
  ldS h3 ((⟨b0, 0, none⟩ : Addr).add 0) fun x7 =>
  (if (x7.toList == name0.toList) = true then
  ldS h3 ((⟨b0, 0, none⟩ : Addr).add 1) fun x8 =>
  fields_Get.J2 name0 x8 (IntKind.i64.wrap (count0 + 1)) x0 x1 x2 x3 x4 (fun x9 h4 =>
  RR x8 (IntKind.i64.wrap (count0 + 1)) x9 h4) E h3
  else
  fields_Get.J2 name0 value0 count0 x0 x1 x2 x3 x4 (fun x10 h5 =>
  RR value0 count0 x10 h5) E h3)) h0
  else
  Kx0 value0 count0 h0)
structure fields_Get.W1 (name0 : ByteArray) (value0 : ByteArray) (count0 : Int) (x0 : Option Addr) (x1 : Nat) (x2 : Nat) (x3 : Int) (x4 : Int) (Kx0 : ByteArray → Int → Heap → Prop) (E : Value → Heap → Prop) (H : Heap) : Prop where
  h : Loop (fun (RR : ByteArray × Int × Int → Heap → Prop) (s : ByteArray × Int × Int) (H : Heap) => fields_Get.W1.vc name0 s.1 s.2.1 x0 x1 x2 x3 s.2.2 Kx0 (fun value0 count0 x4 H => RR (value0, count0, x4) H) E H) (value0, count0, x4) H
def fields_Get.vc (l0 : Option Addr) (l1 : Nat) (l2 : Nat) (name0 : ByteArray) (K : ByteArray → Bool → Heap → Prop) (E : Value → Heap → Prop) (h0 : Heap) : Prop :=
  fields_Get.W1 name0 (⟨#[]⟩ : ByteArray) 0 l0 l1 l2 (l1 : Int) 0 (fun value0 count0 h1 =>
  (if (count0 != 1) = true then
  K (⟨#[]⟩ : ByteArray) false h1
  else
  K value0 true h1)) E h0
structure fields_Get.c (l0 : Option Addr) (l1 : Nat) (l2 : Nat) (name0 : ByteArray) (K : ByteArray → Bool → Heap → Prop) (E : Value → Heap → Prop) (H : Heap) : Prop where
  h : fields_Get.vc l0 l1 l2 name0 (fun r0_0 r1_0 H => ∃ H', Heap.Le H' H ∧ K r0_0 r1_0 H') E H
def fields_Get.F : FT := fun args K E H => match args with
  | [(.slice l0 l1 l2), (.string name0)] => fields_Get.c l0 l1 l2 name0 (fun r0_0 r1_0 H => K (.tuple #[(.string r0_0), (.bool r1_0)]) H) E H
  | _ => False
noncomputable def fields_Get.Γ : FuncId → Option FT := Γof []
theorem fields_Get.hΓ : ∀ f F, fields_Get.Γ f = some F → CalleeOk Tryd.prog f F := Γof_ok (fun _ h => nomatch h)
def fields_Get.J2.t : CT := fun Q E fr H => lenIs 28 fr (slS fr 1 fun name0 => slS fr 6 fun value0 => slI fr 7 .i64 fun count0 => slSl fr 10 fun x0 x1 x2 => slI fr 11 .i64 fun x3 => slI fr 12 .i64 fun x4 => fields_Get.J2 name0 value0 count0 x0 x1 x2 x3 x4 (fun y12_0 H => Q .normal (mkF 28 [(1, (.string name0)), (6, (.string value0)), (7, (.int .i64 count0)), (10, (.slice x0 x1 x2)), (11, (.int .i64 x3)), (12, (.int .i64 y12_0))]) H) E H)
noncomputable def fields_Get.J2.plan : Plan := .go
theorem fields_Get.J2.pok : PlanOk Tryd.prog fields_Get.J2.plan (sub [1, 1, 0, 1, 0, 0, 1, 1, 1] fields_Get.body) := by
  have e : PlanOk Tryd.prog fields_Get.J2.plan (sub [1, 1, 0, 1, 0, 0, 1, 1, 1] fields_Get.body) = (True) := by kernel_rfl
  exact e.mpr trivial
theorem fields_Get.J2.eq (name0 : ByteArray) (value0 : ByteArray) (count0 : Int) (x0 : Option Addr) (x1 : Nat) (x2 : Nat) (x3 : Int) (x4 : Int) (Q : Ex → Fr → Heap → Prop) (E : Value → Heap → Prop) (H : Heap) :
    fields_Get.J2.vc name0 value0 count0 x0 x1 x2 x3 x4 (fun y12_0 H => Q .normal (mkF 28 [(1, (.string name0)), (6, (.string value0)), (7, (.int .i64 count0)), (10, (.slice x0 x1 x2)), (11, (.int .i64 x3)), (12, (.int .i64 y12_0))]) H) E H = keepT [1, 6, 7, 10, 11, 12] [] (fun i => []) (wC Tryd.prog fields_Get.Γ fields_Get.J2.plan (sub [1, 1, 0, 1, 0, 0, 1, 1, 1] fields_Get.body)) Q E (mkF 28 [(1, (.string name0)), (6, (.string value0)), (7, (.int .i64 count0)), (10, (.slice x0 x1 x2)), (11, (.int .i64 x3)), (12, (.int .i64 x4))]) H := by
  kernel_rfl
theorem fields_Get.J2.ok : SoundCode Tryd.prog (sub [1, 1, 0, 1, 0, 0, 1, 1, 1] fields_Get.body) fields_Get.J2.t := by
  refine piece_sound (keepT_sound [1, 6, 7, 10, 11, 12] [] (fun i => []) (wC_sound fields_Get.hΓ Tryd.hm fields_Get.J2.plan _ fields_Get.J2.pok)) ?_
  intro Q E fr H h
  unfold fields_Get.J2.t at h
  obtain ⟨hl, h⟩ := lenIs_elim h
  obtain ⟨name0, q1, h⟩ := slS_elim h
  obtain ⟨value0, q6, h⟩ := slS_elim h
  obtain ⟨count0, q7, h⟩ := slI_elim h
  obtain ⟨x0, x1, x2, q10, h⟩ := slSl_elim h
  obtain ⟨x3, q11, h⟩ := slI_elim h
  obtain ⟨x4, q12, h⟩ := slI_elim h
  refine ⟨(mkF 28 [(1, (.string name0)), (6, (.string value0)), (7, (.int .i64 count0)), (10, (.slice x0 x1 x2)), (11, (.int .i64 x3)), (12, (.int .i64 x4))]), fun a ha => ha.mk (Nat.le_of_eq hl.symm) (List.forall_mem_cons.2 ⟨q1, List.forall_mem_cons.2 ⟨q6, List.forall_mem_cons.2 ⟨q7, List.forall_mem_cons.2 ⟨q10, List.forall_mem_cons.2 ⟨q11, List.forall_mem_cons.2 ⟨q12, fun _ h => nomatch h⟩⟩⟩⟩⟩⟩), ?_⟩
  have e := fields_Get.J2.eq name0 value0 count0 x0 x1 x2 x3 x4 Q E H
  rw [← e]
  exact h.h
def fields_Get.W1.t : CT := fun Q E fr H => lenIs 28 fr (slS fr 1 fun name0 => slS fr 6 fun value0 => slI fr 7 .i64 fun count0 => slSl fr 10 fun x0 x1 x2 => slI fr 11 .i64 fun x3 => slI fr 12 .i64 fun x4 => fields_Get.W1 name0 value0 count0 x0 x1 x2 x3 x4 (fun y6_0 y7_0 H => Q (.exit 0) (mkF 28 [(6, (.string y6_0)), (7, (.int .i64 y7_0))]) H) E H)
noncomputable def fields_Get.W1.plan : Plan := .seq (.go) (.seq (.go) (.seq (.go) (.use fields_Get.J2.t)))
theorem fields_Get.W1.pok : PlanOk Tryd.prog fields_Get.W1.plan (sub [1, 1, 0, 1, 0, 0] fields_Get.body) := by
  have e : PlanOk Tryd.prog fields_Get.W1.plan (sub [1, 1, 0, 1, 0, 0] fields_Get.body) = ((True) ∧ ((True) ∧ ((True) ∧ (SoundCode Tryd.prog (sub [1, 1, 0, 1, 0, 0, 1, 1, 1] fields_Get.body) fields_Get.J2.t)))) := by kernel_rfl
  exact e.mpr ⟨trivial, ⟨trivial, ⟨trivial, fields_Get.J2.ok⟩⟩⟩
theorem fields_Get.W1.eq (name0 : ByteArray) (x0 : Option Addr) (x1 : Nat) (x2 : Nat) (x3 : Int) (Q : Ex → Fr → Heap → Prop) (E : Value → Heap → Prop) (RR : Fr → Heap → Prop) (s : ByteArray × Int × Int) (H : Heap) :
    (fun (RR : ByteArray × Int × Int → Heap → Prop) (s : ByteArray × Int × Int) (H : Heap) => fields_Get.W1.vc name0 s.1 s.2.1 x0 x1 x2 x3 s.2.2 (fun y6_0 y7_0 H => Q (.exit 0) (mkF 28 [(6, (.string y6_0)), (7, (.int .i64 y7_0))]) H) (fun value0 count0 x4 H => RR (value0, count0, x4) H) E H) (fun s' H' => RR ((fun (s : ByteArray × Int × Int) => (mkF 28 [(1, (.string name0)), (6, (.string s.1)), (7, (.int .i64 s.2.1)), (10, (.slice x0 x1 x2)), (11, (.int .i64 x3)), (12, (.int .i64 s.2.2))])) s') H') s H = keepT [1, 6, 7, 10, 11, 12] [] (fun i => if i = 0 then [6, 7] else []) (wC Tryd.prog fields_Get.Γ fields_Get.W1.plan (sub [1, 1, 0, 1, 0, 0] fields_Get.body)) (fun e fr' H' => match e with | .normal => RR fr' H' | .exit id => Q (.exit id) fr' H' | .ret => Q .ret fr' H') E ((fun (s : ByteArray × Int × Int) => (mkF 28 [(1, (.string name0)), (6, (.string s.1)), (7, (.int .i64 s.2.1)), (10, (.slice x0 x1 x2)), (11, (.int .i64 x3)), (12, (.int .i64 s.2.2))])) s) H := by
  kernel_rfl
theorem fields_Get.W1.ok : SoundCode Tryd.prog (sub [1, 1, 0, 1, 0] fields_Get.body) fields_Get.W1.t := by
  have e : (sub [1, 1, 0, 1, 0] fields_Get.body) = .loop (sub [1, 1, 0, 1, 0, 0] fields_Get.body) := by kernel_rfl
  rw [e]
  refine piece_sound (loopN_sound (keepT_sound [1, 6, 7, 10, 11, 12] [] (fun i => if i = 0 then [6, 7] else []) (wC_sound fields_Get.hΓ Tryd.hm fields_Get.W1.plan _ fields_Get.W1.pok))) ?_
  intro Q E fr H h
  unfold fields_Get.W1.t at h
  obtain ⟨hl, h⟩ := lenIs_elim h
  obtain ⟨name0, q1, h⟩ := slS_elim h
  obtain ⟨value0, q6, h⟩ := slS_elim h
  obtain ⟨count0, q7, h⟩ := slI_elim h
  obtain ⟨x0, x1, x2, q10, h⟩ := slSl_elim h
  obtain ⟨x3, q11, h⟩ := slI_elim h
  obtain ⟨x4, q12, h⟩ := slI_elim h
  obtain ⟨m, h⟩ := h.h
  refine ⟨(mkF 28 [(1, (.string name0)), (6, (.string value0)), (7, (.int .i64 count0)), (10, (.slice x0 x1 x2)), (11, (.int .i64 x3)), (12, (.int .i64 x4))]), fun a ha => ha.mk (Nat.le_of_eq hl.symm) (List.forall_mem_cons.2 ⟨q1, List.forall_mem_cons.2 ⟨q6, List.forall_mem_cons.2 ⟨q7, List.forall_mem_cons.2 ⟨q10, List.forall_mem_cons.2 ⟨q11, List.forall_mem_cons.2 ⟨q12, fun _ h => nomatch h⟩⟩⟩⟩⟩⟩), m, ?_⟩
  have e := loopS_eq (B := (fun (RR : ByteArray × Int × Int → Heap → Prop) (s : ByteArray × Int × Int) (H : Heap) => fields_Get.W1.vc name0 s.1 s.2.1 x0 x1 x2 x3 s.2.2 (fun y6_0 y7_0 H => Q (.exit 0) (mkF 28 [(6, (.string y6_0)), (7, (.int .i64 y7_0))]) H) (fun value0 count0 x4 H => RR (value0, count0, x4) H) E H)) (A := keepT [1, 6, 7, 10, 11, 12] [] (fun i => if i = 0 then [6, 7] else []) (wC Tryd.prog fields_Get.Γ fields_Get.W1.plan (sub [1, 1, 0, 1, 0, 0] fields_Get.body))) (m := (fun (s : ByteArray × Int × Int) => (mkF 28 [(1, (.string name0)), (6, (.string s.1)), (7, (.int .i64 s.2.1)), (10, (.slice x0 x1 x2)), (11, (.int .i64 x3)), (12, (.int .i64 s.2.2))]))) (Q := Q) (E := E) (fun RR s H => fields_Get.W1.eq name0 x0 x1 x2 x3 Q E RR s H) m (value0, count0, x4) H
  exact cast e h
noncomputable def fields_Get.plan : Plan := .seq (.go) (.seq (.go) (.seq (.seq (.go) (.block (.use fields_Get.W1.t))) (.go)))
theorem fields_Get.pok : PlanOk Tryd.prog fields_Get.plan fields_Get.body := by
  have e : PlanOk Tryd.prog fields_Get.plan fields_Get.body = ((True) ∧ ((True) ∧ (((True) ∧ (SoundCode Tryd.prog (sub [1, 1, 0, 1, 0] fields_Get.body) fields_Get.W1.t)) ∧ (True)))) := by kernel_rfl
  exact e.mpr ⟨trivial, ⟨trivial, ⟨⟨trivial, fields_Get.W1.ok⟩, trivial⟩⟩⟩
theorem fields_Get.eq (l0 : Option Addr) (l1 : Nat) (l2 : Nat) (name0 : ByteArray) (K : Value → Heap → Prop) (E : Value → Heap → Prop) (H : Heap) :
    fnT Tryd.prog Tryd.f27 (wC Tryd.prog fields_Get.Γ fields_Get.plan fields_Get.body) [(.slice l0 l1 l2), (.string name0)] K E H = fields_Get.vc l0 l1 l2 name0 (fun r0_0 r1_0 H => K (.tuple #[(.string r0_0), (.bool r1_0)]) H) E H := by
  kernel_rfl
theorem fields_Get.Fe {args : List Value} {K E : Value → Heap → Prop} {H : Heap} (h : fields_Get.F args K E H) : ∃ l0 l1 l2 name0, args = [(.slice l0 l1 l2), (.string name0)] ∧ fields_Get.c l0 l1 l2 name0 (fun r0_0 r1_0 H => K (.tuple #[(.string r0_0), (.bool r1_0)]) H) E H := by
  unfold fields_Get.F at h
  split at h
  · exact ⟨_, _, _, _, rfl, h⟩
  · exact h.elim
theorem fields_Get.ok : CalleeOk Tryd.prog 27 fields_Get.F :=
  callee_ok fields_Get.hΓ (fn := Tryd.f27) (c := fields_Get.body) (T := wC Tryd.prog fields_Get.Γ fields_Get.plan fields_Get.body) (by kernel_rfl) (by kernel_rfl) (by kernel_rfl) (wC_sound fields_Get.hΓ Tryd.hm fields_Get.plan _ fields_Get.pok) fun _ K E H h => by
    obtain ⟨z0, z1, z2, z3, e, h⟩ := fields_Get.Fe h
    subst e
    have h2 : fields_Get.vc z0 z1 z2 z3 (fun r0_0 r1_0 H => ∃ H', Heap.Le H' H ∧ K (.tuple #[(.string r0_0), (.bool r1_0)]) H') E H := h.h
    rw [fields_Get.eq z0 z1 z2 z3 (Fg K) E H]
    exact h2

/-! vizard/target.shape -/
noncomputable def target_shape.body : Code := Tryd.f26.body.getD .skip
def target_shape.J2.vc (l0 : Option Addr) (l1 : Nat) (l2 : Nat) (behind0 : Bool) (x0 : Option Addr) (x1 : Nat) (x2 : Nat) (x3 : Int) (x4 : Int) (Kn : Int → Heap → Prop) (E : Value → Heap → Prop) (h0 : Heap) : Prop :=
  Kn (IntKind.i64.wrap (x4 + 1)) h0
structure target_shape.J2 (l0 : Option Addr) (l1 : Nat) (l2 : Nat) (behind0 : Bool) (x0 : Option Addr) (x1 : Nat) (x2 : Nat) (x3 : Int) (x4 : Int) (Kn : Int → Heap → Prop) (E : Value → Heap → Prop) (H : Heap) : Prop where
  h : target_shape.J2.vc l0 l1 l2 behind0 x0 x1 x2 x3 x4 Kn E H
def target_shape.J4.vc (l0 : Option Addr) (l1 : Nat) (l2 : Nat) (behind0 : Bool) (x0 : Option Addr) (x1 : Nat) (x2 : Nat) (x3 : Int) (x4 : Int) (x5 : Bool) (Kn : Heap → Prop) (E : Value → Heap → Prop) (h0 : Heap) : Prop :=
  (if x5 = true then
  Kn h0
  else
  target_check.c false 400 Kn E h0)
structure target_shape.J4 (l0 : Option Addr) (l1 : Nat) (l2 : Nat) (behind0 : Bool) (x0 : Option Addr) (x1 : Nat) (x2 : Nat) (x3 : Int) (x4 : Int) (x5 : Bool) (Kn : Heap → Prop) (E : Value → Heap → Prop) (H : Heap) : Prop where
  h : target_shape.J4.vc l0 l1 l2 behind0 x0 x1 x2 x3 x4 x5 Kn E H
def target_shape.J3.vc (l0 : Option Addr) (l1 : Nat) (l2 : Nat) (behind0 : Bool) (f0 : Addr) (x0 : Option Addr) (x1 : Nat) (x2 : Nat) (x3 : Int) (x4 : Int) (Kn : Heap → Prop) (E : Value → Heap → Prop) (h0 : Heap) : Prop :=
  ldS h0 (f0.add 0) fun x5 =>
  (if (x5.toList == (⟨#[58, 109, 101, 116, 104, 111, 100]⟩ : ByteArray).toList) = true then
  target_shape.J4 l0 l1 l2 behind0 x0 x1 x2 x3 x4 (x5.toList == (⟨#[58, 109, 101, 116, 104, 111, 100]⟩ : ByteArray).toList) Kn E h0
  else
  (if (x5.toList == (⟨#[58, 115, 99, 104, 101, 109, 101]⟩ : ByteArray).toList) = true then
  target_shape.J4 l0 l1 l2 behind0 x0 x1 x2 x3 x4 (x5.toList == (⟨#[58, 115, 99, 104, 101, 109, 101]⟩ : ByteArray).toList) Kn E h0
  else
  (if (x5.toList == (⟨#[58, 97, 117, 116, 104, 111, 114, 105, 116, 121]⟩ : ByteArray).toList) = true then
  target_shape.J4 l0 l1 l2 behind0 x0 x1 x2 x3 x4 (x5.toList == (⟨#[58, 97, 117, 116, 104, 111, 114, 105, 116, 121]⟩ : ByteArray).toList) Kn E h0
  else
  (if (x5.toList == (⟨#[58, 112, 97, 116, 104]⟩ : ByteArray).toList) = true then
  target_shape.J4 l0 l1 l2 behind0 x0 x1 x2 x3 x4 (x5.toList == (⟨#[58, 112, 97, 116, 104]⟩ : ByteArray).toList) Kn E h0
  else
  target_shape.J4 l0 l1 l2 behind0 x0 x1 x2 x3 x4 (x5.toList == (⟨#[58, 112, 114, 111, 116, 111, 99, 111, 108]⟩ : ByteArray).toList) Kn E h0))))
structure target_shape.J3 (l0 : Option Addr) (l1 : Nat) (l2 : Nat) (behind0 : Bool) (f0 : Addr) (x0 : Option Addr) (x1 : Nat) (x2 : Nat) (x3 : Int) (x4 : Int) (Kn : Heap → Prop) (E : Value → Heap → Prop) (H : Heap) : Prop where
  h : target_shape.J3.vc l0 l1 l2 behind0 f0 x0 x1 x2 x3 x4 Kn E H
def target_shape.W1.vc (l0 : Option Addr) (l1 : Nat) (l2 : Nat) (behind0 : Bool) (x0 : Option Addr) (x1 : Nat) (x2 : Nat) (x3 : Int) (x4 : Int) (Kx0 : Heap → Prop) (RR : Bool → Int → Heap → Prop) (E : Value → Heap → Prop) (h0 : Heap) : Prop :=
  (if (decide (x4 < x3)) = true then
  nilc x0 fun a0 => (0 : Int) ≤ x4 ∧ x4 < (x1 : Int) ∧
  ldS h0 ((a0.add (x4.toNat * 2)).add 0) fun x5 => ldS h0 ((a0.add (x4.toNat * 2)).add 1) fun x6 =>
  newB (.cells #[(.string (⟨#[]⟩ : ByteArray)), (.string (⟨#[]⟩ : ByteArray))] 35) (fun b0 h1 =>
  stc h1 ((⟨b0, 0, none⟩ : Addr).add 0) (.string x5) fun h2 =>
  stc h2 ((⟨b0, 0, none⟩ : Addr).add 1) (.string x6) fun h3 =>
  ldS h3 ((⟨b0, 0, none⟩ : Addr).add 0) fun x7 =>
  strings_HasPrefix.c x7 (⟨#[58]⟩ : ByteArray) (fun x8 h4 =>
  (if (!x8) = true then
  target_shape.J2 l0 l1 l2 true x0 x1 x2 x3 x4 (fun x9 h5 =>
  RR true x9 h5) E h4
  else
  ldS h4 ((⟨b0, 0, none⟩ : Addr).add 0) fun x10 =>
  fields_Get.c l0 l1 l2 x10 (fun x11 x12 h6 =>
  (if x12 = true then
  target_check.c (!behind0) 400 (fun h7 =>
  target_shape.J3 l0 l1 l2 behind0 (⟨b0, 0, none⟩ : Addr) x0 x1 x2 x3 x4 (fun h8 =>
  target_shape.J2 l0 l1 l2 behind0 x0 x1 x2 x3 x4 (fun x13 h9 =>
  RR behind0 x13 h9) E h8) E h7) E h6
  else
  target_check.c false 400 (fun h10 =>
  target_shape.J3 l0 l1 l2 behind0 (⟨b0, 0, none⟩ : Addr) x0 x1 x2 x3 x4 (fun h11 =>
  target_shape.J2 l0 l1 l2 behind0 x0 x1 x2 x3 x4 (fun x14 h12 =>
  RR behind0 x14 h12) E h11) E h10) E h6)) E h4)) E h3) h0
  else
  Kx0 h0)
structure target_shape.W1 (l0 : Option Addr) (l1 : Nat) (l2 : Nat) (behind0 : Bool) (x0 : Option Addr) (x1 : Nat) (x2 : Nat) (x3 : Int) (x4 : Int) (Kx0 : Heap → Prop) (E : Value → Heap → Prop) (H : Heap) : Prop where
  h : Loop (fun (RR : Bool × Int → Heap → Prop) (s : Bool × Int) (H : Heap) => target_shape.W1.vc l0 l1 l2 s.1 x0 x1 x2 x3 s.2 Kx0 (fun behind0 x4 H => RR (behind0, x4) H) E H) (behind0, x4) H
def target_shape.vc (l0 : Option Addr) (l1 : Nat) (l2 : Nat) (K : Heap → Prop) (E : Value → Heap → Prop) (h0 : Heap) : Prop :=
  target_shape.W1 l0 l1 l2 false l0 l1 l2 (l1 : Int) 0 K E h0
structure target_shape.c (l0 : Option Addr) (l1 : Nat) (l2 : Nat) (K : Heap → Prop) (E : Value → Heap → Prop) (H : Heap) : Prop where
  h : target_shape.vc l0 l1 l2 (fun  H => ∃ H', Heap.Le H' H ∧ K  H') E H
def target_shape.F : FT := fun args K E H => match args with
  | [(.slice l0 l1 l2)] => target_shape.c l0 l1 l2 (fun  H => K (.tuple #[]) H) E H
  | _ => False
noncomputable def target_shape.Γ : FuncId → Option FT := Γof [(24, target_check.F), (27, fields_Get.F), (36, strings_HasPrefix.F)]
theorem target_shape.hΓ : ∀ f F, target_shape.Γ f = some F → CalleeOk Tryd.prog f F := Γof_ok (List.forall_mem_cons.2 ⟨target_check.ok, List.forall_mem_cons.2 ⟨fields_Get.ok, List.forall_mem_cons.2 ⟨strings_HasPrefix.ok, fun _ h => nomatch h⟩⟩⟩)
def target_shape.J2.t : CT := fun Q E fr H => lenIs 40 fr (slSl fr 0 fun l0 l1 l2 => slB fr 2 fun behind0 => slSl fr 7 fun x0 x1 x2 => slI fr 8 .i64 fun x3 => slI fr 9 .i64 fun x4 => target_shape.J2 l0 l1 l2 behind0 x0 x1 x2 x3 x4 (fun y9_0 H => Q .normal (mkF 40 [(0, (.slice l0 l1 l2)), (2, (.bool behind0)), (7, (.slice x0 x1 x2)), (8, (.int .i64 x3)), (9, (.int .i64 y9_0))]) H) E H)
noncomputable def target_shape.J2.plan : Plan := .go
theorem target_shape.J2.pok : PlanOk Tryd.prog target_shape.J2.plan (sub [1, 1, 0, 0, 1, 1, 1] target_shape.body) := by
  have e : PlanOk Tryd.prog target_shape.J2.plan (sub [1, 1, 0, 0, 1, 1, 1] target_shape.body) = (True) := by kernel_rfl
  exact e.mpr trivial
theorem target_shape.J2.eq (l0 : Option Addr) (l1 : Nat) (l2 : Nat) (behind0 : Bool) (x0 : Option Addr) (x1 : Nat) (x2 : Nat) (x3 : Int) (x4 : Int) (Q : Ex → Fr → Heap → Prop) (E : Value → Heap → Prop) (H : Heap) :
    target_shape.J2.vc l0 l1 l2 behind0 x0 x1 x2 x3 x4 (fun y9_0 H => Q .normal (mkF 40 [(0, (.slice l0 l1 l2)), (2, (.bool behind0)), (7, (.slice x0 x1 x2)), (8, (.int .i64 x3)), (9, (.int .i64 y9_0))]) H) E H = keepT [0, 2, 7, 8, 9] [] (fun i => []) (wC Tryd.prog target_shape.Γ target_shape.J2.plan (sub [1, 1, 0, 0, 1, 1, 1] target_shape.body)) Q E (mkF 40 [(0, (.slice l0 l1 l2)), (2, (.bool behind0)), (7, (.slice x0 x1 x2)), (8, (.int .i64 x3)), (9, (.int .i64 x4))]) H := by
  kernel_rfl
theorem target_shape.J2.ok : SoundCode Tryd.prog (sub [1, 1, 0, 0, 1, 1, 1] target_shape.body) target_shape.J2.t := by
  refine piece_sound (keepT_sound [0, 2, 7, 8, 9] [] (fun i => []) (wC_sound target_shape.hΓ Tryd.hm target_shape.J2.plan _ target_shape.J2.pok)) ?_
  intro Q E fr H h
  unfold target_shape.J2.t at h
  obtain ⟨hl, h⟩ := lenIs_elim h
  obtain ⟨l0, l1, l2, q0, h⟩ := slSl_elim h
  obtain ⟨behind0, q2, h⟩ := slB_elim h
  obtain ⟨x0, x1, x2, q7, h⟩ := slSl_elim h
  obtain ⟨x3, q8, h⟩ := slI_elim h
  obtain ⟨x4, q9, h⟩ := slI_elim h
  refine ⟨(mkF 40 [(0, (.slice l0 l1 l2)), (2, (.bool behind0)), (7, (.slice x0 x1 x2)), (8, (.int .i64 x3)), (9, (.int .i64 x4))]), fun a ha => ha.mk (Nat.le_of_eq hl.symm) (List.forall_mem_cons.2 ⟨q0, List.forall_mem_cons.2 ⟨q2, List.forall_mem_cons.2 ⟨q7, List.forall_mem_cons.2 ⟨q8, List.forall_mem_cons.2 ⟨q9, fun _ h => nomatch h⟩⟩⟩⟩⟩), ?_⟩
  have e := target_shape.J2.eq l0 l1 l2 behind0 x0 x1 x2 x3 x4 Q E H
  rw [← e]
  exact h.h
def target_shape.J4.t : CT := fun Q E fr H => lenIs 40 fr (slSl fr 0 fun l0 l1 l2 => slB fr 2 fun behind0 => slSl fr 7 fun x0 x1 x2 => slI fr 8 .i64 fun x3 => slI fr 9 .i64 fun x4 => slB fr 33 fun x5 => target_shape.J4 l0 l1 l2 behind0 x0 x1 x2 x3 x4 x5 (fun  H => Q .normal (mkF 40 [(0, (.slice l0 l1 l2)), (2, (.bool behind0)), (7, (.slice x0 x1 x2)), (8, (.int .i64 x3)), (9, (.int .i64 x4))]) H) E H)
noncomputable def target_shape.J4.plan : Plan := .go
theorem target_shape.J4.pok : PlanOk Tryd.prog target_shape.J4.plan (sub [1, 1, 0, 0, 1, 1, 0, 0, 1, 1, 1, 1, 1, 0, 1] target_shape.body) := by
  have e : PlanOk Tryd.prog target_shape.J4.plan (sub [1, 1, 0, 0, 1, 1, 0, 0, 1, 1, 1, 1, 1, 0, 1] target_shape.body) = (True) := by kernel_rfl
  exact e.mpr trivial
theorem target_shape.J4.eq (l0 : Option Addr) (l1 : Nat) (l2 : Nat) (behind0 : Bool) (x0 : Option Addr) (x1 : Nat) (x2 : Nat) (x3 : Int) (x4 : Int) (x5 : Bool) (Q : Ex → Fr → Heap → Prop) (E : Value → Heap → Prop) (H : Heap) :
    target_shape.J4.vc l0 l1 l2 behind0 x0 x1 x2 x3 x4 x5 (fun  H => Q .normal (mkF 40 [(0, (.slice l0 l1 l2)), (2, (.bool behind0)), (7, (.slice x0 x1 x2)), (8, (.int .i64 x3)), (9, (.int .i64 x4))]) H) E H = keepT [0, 2, 7, 8, 9] [] (fun i => []) (wC Tryd.prog target_shape.Γ target_shape.J4.plan (sub [1, 1, 0, 0, 1, 1, 0, 0, 1, 1, 1, 1, 1, 0, 1] target_shape.body)) Q E (mkF 40 [(0, (.slice l0 l1 l2)), (2, (.bool behind0)), (7, (.slice x0 x1 x2)), (8, (.int .i64 x3)), (9, (.int .i64 x4)), (33, (.bool x5))]) H := by
  kernel_rfl
theorem target_shape.J4.ok : SoundCode Tryd.prog (sub [1, 1, 0, 0, 1, 1, 0, 0, 1, 1, 1, 1, 1, 0, 1] target_shape.body) target_shape.J4.t := by
  refine piece_sound (keepT_sound [0, 2, 7, 8, 9] [] (fun i => []) (wC_sound target_shape.hΓ Tryd.hm target_shape.J4.plan _ target_shape.J4.pok)) ?_
  intro Q E fr H h
  unfold target_shape.J4.t at h
  obtain ⟨hl, h⟩ := lenIs_elim h
  obtain ⟨l0, l1, l2, q0, h⟩ := slSl_elim h
  obtain ⟨behind0, q2, h⟩ := slB_elim h
  obtain ⟨x0, x1, x2, q7, h⟩ := slSl_elim h
  obtain ⟨x3, q8, h⟩ := slI_elim h
  obtain ⟨x4, q9, h⟩ := slI_elim h
  obtain ⟨x5, q33, h⟩ := slB_elim h
  refine ⟨(mkF 40 [(0, (.slice l0 l1 l2)), (2, (.bool behind0)), (7, (.slice x0 x1 x2)), (8, (.int .i64 x3)), (9, (.int .i64 x4)), (33, (.bool x5))]), fun a ha => ha.mk (Nat.le_of_eq hl.symm) (List.forall_mem_cons.2 ⟨q0, List.forall_mem_cons.2 ⟨q2, List.forall_mem_cons.2 ⟨q7, List.forall_mem_cons.2 ⟨q8, List.forall_mem_cons.2 ⟨q9, List.forall_mem_cons.2 ⟨q33, fun _ h => nomatch h⟩⟩⟩⟩⟩⟩), ?_⟩
  have e := target_shape.J4.eq l0 l1 l2 behind0 x0 x1 x2 x3 x4 x5 Q E H
  rw [← e]
  exact h.h
def target_shape.J3.t : CT := fun Q E fr H => lenIs 40 fr (slSl fr 0 fun l0 l1 l2 => slB fr 2 fun behind0 => slPA fr 4 fun f0 => slSl fr 7 fun x0 x1 x2 => slI fr 8 .i64 fun x3 => slI fr 9 .i64 fun x4 => target_shape.J3 l0 l1 l2 behind0 f0 x0 x1 x2 x3 x4 (fun  H => Q .normal (mkF 40 [(0, (.slice l0 l1 l2)), (2, (.bool behind0)), (7, (.slice x0 x1 x2)), (8, (.int .i64 x3)), (9, (.int .i64 x4))]) H) E H)
noncomputable def target_shape.J3.plan : Plan := .seq (.go) (.block (.seq (.go) (.use target_shape.J4.t)))
theorem target_shape.J3.pok : PlanOk Tryd.prog target_shape.J3.plan (sub [1, 1, 0, 0, 1, 1, 0, 0, 1, 1, 1, 1] target_shape.body) := by
  have e : PlanOk Tryd.prog target_shape.J3.plan (sub [1, 1, 0, 0, 1, 1, 0, 0, 1, 1, 1, 1] target_shape.body) = ((True) ∧ ((True) ∧ (SoundCode Tryd.prog (sub [1, 1, 0, 0, 1, 1, 0, 0, 1, 1, 1, 1, 1, 0, 1] target_shape.body) target_shape.J4.t))) := by kernel_rfl
  exact e.mpr ⟨trivial, ⟨trivial, target_shape.J4.ok⟩⟩
theorem target_shape.J3.eq (l0 : Option Addr) (l1 : Nat) (l2 : Nat) (behind0 : Bool) (f0 : Addr) (x0 : Option Addr) (x1 : Nat) (x2 : Nat) (x3 : Int) (x4 : Int) (Q : Ex → Fr → Heap → Prop) (E : Value → Heap → Prop) (H : Heap) :
    target_shape.J3.vc l0 l1 l2 behind0 f0 x0 x1 x2 x3 x4 (fun  H => Q .normal (mkF 40 [(0, (.slice l0 l1 l2)), (2, (.bool behind0)), (7, (.slice x0 x1 x2)), (8, (.int .i64 x3)), (9, (.int .i64 x4))]) H) E H = keepT [0, 2, 7, 8, 9] [] (fun i => []) (wC Tryd.prog target_shape.Γ target_shape.J3.plan (sub [1, 1, 0, 0, 1, 1, 0, 0, 1, 1, 1, 1] target_shape.body)) Q E (mkF 40 [(0, (.slice l0 l1 l2)), (2, (.bool behind0)), (4, (.pointer (some f0))), (7, (.slice x0 x1 x2)), (8, (.int .i64 x3)), (9, (.int .i64 x4))]) H := by
  kernel_rfl
theorem target_shape.J3.ok : SoundCode Tryd.prog (sub [1, 1, 0, 0, 1, 1, 0, 0, 1, 1, 1, 1] target_shape.body) target_shape.J3.t := by
  refine piece_sound (keepT_sound [0, 2, 7, 8, 9] [] (fun i => []) (wC_sound target_shape.hΓ Tryd.hm target_shape.J3.plan _ target_shape.J3.pok)) ?_
  intro Q E fr H h
  unfold target_shape.J3.t at h
  obtain ⟨hl, h⟩ := lenIs_elim h
  obtain ⟨l0, l1, l2, q0, h⟩ := slSl_elim h
  obtain ⟨behind0, q2, h⟩ := slB_elim h
  obtain ⟨f0, q4, h⟩ := slPA_elim h
  obtain ⟨x0, x1, x2, q7, h⟩ := slSl_elim h
  obtain ⟨x3, q8, h⟩ := slI_elim h
  obtain ⟨x4, q9, h⟩ := slI_elim h
  refine ⟨(mkF 40 [(0, (.slice l0 l1 l2)), (2, (.bool behind0)), (4, (.pointer (some f0))), (7, (.slice x0 x1 x2)), (8, (.int .i64 x3)), (9, (.int .i64 x4))]), fun a ha => ha.mk (Nat.le_of_eq hl.symm) (List.forall_mem_cons.2 ⟨q0, List.forall_mem_cons.2 ⟨q2, List.forall_mem_cons.2 ⟨q4, List.forall_mem_cons.2 ⟨q7, List.forall_mem_cons.2 ⟨q8, List.forall_mem_cons.2 ⟨q9, fun _ h => nomatch h⟩⟩⟩⟩⟩⟩), ?_⟩
  have e := target_shape.J3.eq l0 l1 l2 behind0 f0 x0 x1 x2 x3 x4 Q E H
  rw [← e]
  exact h.h
def target_shape.W1.t : CT := fun Q E fr H => lenIs 40 fr (slSl fr 0 fun l0 l1 l2 => slB fr 2 fun behind0 => slSl fr 7 fun x0 x1 x2 => slI fr 8 .i64 fun x3 => slI fr 9 .i64 fun x4 => target_shape.W1 l0 l1 l2 behind0 x0 x1 x2 x3 x4 (fun  H => Q (.exit 0) (mkF 40 []) H) E H)
noncomputable def target_shape.W1.plan : Plan := .seq (.go) (.seq (.go) (.seq (.block (.seq (.go) (.seq (.go) (.seq (.go) (.seq (.go) (.use target_shape.J3.t)))))) (.use target_shape.J2.t)))
theorem target_shape.W1.pok : PlanOk Tryd.prog target_shape.W1.plan (sub [1, 1, 0, 0] target_shape.body) := by
  have e : PlanOk Tryd.prog target_shape.W1.plan (sub [1, 1, 0, 0] target_shape.body) = ((True) ∧ ((True) ∧ (((True) ∧ ((True) ∧ ((True) ∧ ((True) ∧ (SoundCode Tryd.prog (sub [1, 1, 0, 0, 1, 1, 0, 0, 1, 1, 1, 1] target_shape.body) target_shape.J3.t))))) ∧ (SoundCode Tryd.prog (sub [1, 1, 0, 0, 1, 1, 1] target_shape.body) target_shape.J2.t)))) := by kernel_rfl
  exact e.mpr ⟨trivial, ⟨trivial, ⟨⟨trivial, ⟨trivial, ⟨trivial, ⟨trivial, target_shape.J3.ok⟩⟩⟩⟩, target_shape.J2.ok⟩⟩⟩
theorem target_shape.W1.eq (l0 : Option Addr) (l1 : Nat) (l2 : Nat) (x0 : Option Addr) (x1 : Nat) (x2 : Nat) (x3 : Int) (Q : Ex → Fr → Heap → Prop) (E : Value → Heap → Prop) (RR : Fr → Heap → Prop) (s : Bool × Int) (H : Heap) :
    (fun (RR : Bool × Int → Heap → Prop) (s : Bool × Int) (H : Heap) => target_shape.W1.vc l0 l1 l2 s.1 x0 x1 x2 x3 s.2 (fun  H => Q (.exit 0) (mkF 40 []) H) (fun behind0 x4 H => RR (behind0, x4) H) E H) (fun s' H' => RR ((fun (s : Bool × Int) => (mkF 40 [(0, (.slice l0 l1 l2)), (2, (.bool s.1)), (7, (.slice x0 x1 x2)), (8, (.int .i64 x3)), (9, (.int .i64 s.2))])) s') H') s H = keepT [0, 2, 7, 8, 9] [] (fun i => if i = 0 then [] else []) (wC Tryd.prog target_shape.Γ target_shape.W1.plan (sub [1, 1, 0, 0] target_shape.body)) (fun e fr' H' => match e with | .normal => RR fr' H' | .exit id => Q (.exit id) fr' H' | .ret => Q .ret fr' H') E ((fun (s : Bool × Int) => (mkF 40 [(0, (.slice l0 l1 l2)), (2, (.bool s.1)), (7, (.slice x0 x1 x2)), (8, (.int .i64 x3)), (9, (.int .i64 s.2))])) s) H := by
  kernel_rfl
theorem target_shape.W1.ok : SoundCode Tryd.prog (sub [1, 1, 0] target_shape.body) target_shape.W1.t := by
  have e : (sub [1, 1, 0] target_shape.body) = .loop (sub [1, 1, 0, 0] target_shape.body) := by kernel_rfl
  rw [e]
  refine piece_sound (loopN_sound (keepT_sound [0, 2, 7, 8, 9] [] (fun i => if i = 0 then [] else []) (wC_sound target_shape.hΓ Tryd.hm target_shape.W1.plan _ target_shape.W1.pok))) ?_
  intro Q E fr H h
  unfold target_shape.W1.t at h
  obtain ⟨hl, h⟩ := lenIs_elim h
  obtain ⟨l0, l1, l2, q0, h⟩ := slSl_elim h
  obtain ⟨behind0, q2, h⟩ := slB_elim h
  obtain ⟨x0, x1, x2, q7, h⟩ := slSl_elim h
  obtain ⟨x3, q8, h⟩ := slI_elim h
  obtain ⟨x4, q9, h⟩ := slI_elim h
  obtain ⟨m, h⟩ := h.h
  refine ⟨(mkF 40 [(0, (.slice l0 l1 l2)), (2, (.bool behind0)), (7, (.slice x0 x1 x2)), (8, (.int .i64 x3)), (9, (.int .i64 x4))]), fun a ha => ha.mk (Nat.le_of_eq hl.symm) (List.forall_mem_cons.2 ⟨q0, List.forall_mem_cons.2 ⟨q2, List.forall_mem_cons.2 ⟨q7, List.forall_mem_cons.2 ⟨q8, List.forall_mem_cons.2 ⟨q9, fun _ h => nomatch h⟩⟩⟩⟩⟩), m, ?_⟩
  have e := loopS_eq (B := (fun (RR : Bool × Int → Heap → Prop) (s : Bool × Int) (H : Heap) => target_shape.W1.vc l0 l1 l2 s.1 x0 x1 x2 x3 s.2 (fun  H => Q (.exit 0) (mkF 40 []) H) (fun behind0 x4 H => RR (behind0, x4) H) E H)) (A := keepT [0, 2, 7, 8, 9] [] (fun i => if i = 0 then [] else []) (wC Tryd.prog target_shape.Γ target_shape.W1.plan (sub [1, 1, 0, 0] target_shape.body))) (m := (fun (s : Bool × Int) => (mkF 40 [(0, (.slice l0 l1 l2)), (2, (.bool s.1)), (7, (.slice x0 x1 x2)), (8, (.int .i64 x3)), (9, (.int .i64 s.2))]))) (Q := Q) (E := E) (fun RR s H => target_shape.W1.eq l0 l1 l2 x0 x1 x2 x3 Q E RR s H) m (behind0, x4) H
  exact cast e h
noncomputable def target_shape.plan : Plan := .seq (.go) (.seq (.go) (.block (.use target_shape.W1.t)))
theorem target_shape.pok : PlanOk Tryd.prog target_shape.plan target_shape.body := by
  have e : PlanOk Tryd.prog target_shape.plan target_shape.body = ((True) ∧ ((True) ∧ (SoundCode Tryd.prog (sub [1, 1, 0] target_shape.body) target_shape.W1.t))) := by kernel_rfl
  exact e.mpr ⟨trivial, ⟨trivial, target_shape.W1.ok⟩⟩
theorem target_shape.eq (l0 : Option Addr) (l1 : Nat) (l2 : Nat) (K : Value → Heap → Prop) (E : Value → Heap → Prop) (H : Heap) :
    fnT Tryd.prog Tryd.f26 (wC Tryd.prog target_shape.Γ target_shape.plan target_shape.body) [(.slice l0 l1 l2)] K E H = target_shape.vc l0 l1 l2 (fun  H => K (.tuple #[]) H) E H := by
  kernel_rfl
theorem target_shape.Fe {args : List Value} {K E : Value → Heap → Prop} {H : Heap} (h : target_shape.F args K E H) : ∃ l0 l1 l2, args = [(.slice l0 l1 l2)] ∧ target_shape.c l0 l1 l2 (fun  H => K (.tuple #[]) H) E H := by
  unfold target_shape.F at h
  split at h
  · exact ⟨_, _, _, rfl, h⟩
  · exact h.elim
theorem target_shape.ok : CalleeOk Tryd.prog 26 target_shape.F :=
  callee_ok target_shape.hΓ (fn := Tryd.f26) (c := target_shape.body) (T := wC Tryd.prog target_shape.Γ target_shape.plan target_shape.body) (by kernel_rfl) (by kernel_rfl) (by kernel_rfl) (wC_sound target_shape.hΓ Tryd.hm target_shape.plan _ target_shape.pok) fun _ K E H h => by
    obtain ⟨z0, z1, z2, e, h⟩ := target_shape.Fe h
    subst e
    have h2 : target_shape.vc z0 z1 z2 (fun  H => ∃ H', Heap.Le H' H ∧ K (.tuple #[]) H') E H := h.h
    rw [target_shape.eq z0 z1 z2 (Fg K) E H]
    exact h2

/-! vizard/target.right -/
noncomputable def target_right.body : Code := Tryd.f17.body.getD .skip
def target_right.vc (t0 : Bool) (t1 : Int) (t2 : Int) (K : Bool → Heap → Prop) (E : Value → Heap → Prop) (h0 : Heap) : Prop :=
  newB (.cells #[(.bool t0), (.int .u32 t1), (.int .i64 t2)] 24) (fun b0 h1 =>
  ldB h1 ((⟨b0, 0, none⟩ : Addr).add 0) fun x0 =>
  (if x0 = true then
  ldB h1 ((⟨b0, 0, none⟩ : Addr).add 0) fun x1 => ldI h1 .u32 ((⟨b0, 0, none⟩ : Addr).add 1) fun x2 => ldI h1 .i64 ((⟨b0, 0, none⟩ : Addr).add 2) fun x3 =>
  K ((x1 == true) && ((x2 == 0) && ((x3 == 0) && true))) h1
  else
  ldI h1 .i64 ((⟨b0, 0, none⟩ : Addr).add 2) fun x4 =>
  (if (decide (x4 ≥ 1)) = true then
  ldI h1 .i64 ((⟨b0, 0, none⟩ : Addr).add 2) fun x5 =>
  K (decide (x5 ≤ 65535)) h1
  else
  K false h1))) h0
structure target_right.c (t0 : Bool) (t1 : Int) (t2 : Int) (K : Bool → Heap → Prop) (E : Value → Heap → Prop) (H : Heap) : Prop where
  h : target_right.vc t0 t1 t2 (fun r0_0 H => ∃ H', Heap.Le H' H ∧ K r0_0 H') E H
def target_right.F : FT := fun args K E H => match args with
  | [(.agg ⟨[(.bool t0), (.int .u32 t1), (.int .i64 t2)]⟩)] => target_right.c t0 t1 t2 (fun r0_0 H => K (.bool r0_0) H) E H
  | _ => False
noncomputable def target_right.Γ : FuncId → Option FT := Γof []
theorem target_right.hΓ : ∀ f F, target_right.Γ f = some F → CalleeOk Tryd.prog f F := Γof_ok (fun _ h => nomatch h)
noncomputable def target_right.plan : Plan := .go
theorem target_right.pok : PlanOk Tryd.prog target_right.plan target_right.body := by
  have e : PlanOk Tryd.prog target_right.plan target_right.body = (True) := by kernel_rfl
  exact e.mpr trivial
theorem target_right.eq (t0 : Bool) (t1 : Int) (t2 : Int) (K : Value → Heap → Prop) (E : Value → Heap → Prop) (H : Heap) :
    fnT Tryd.prog Tryd.f17 (wC Tryd.prog target_right.Γ target_right.plan target_right.body) [(.agg #[(.bool t0), (.int .u32 t1), (.int .i64 t2)])] K E H = target_right.vc t0 t1 t2 (fun r0_0 H => K (.bool r0_0) H) E H := by
  kernel_rfl
theorem target_right.Fe {args : List Value} {K E : Value → Heap → Prop} {H : Heap} (h : target_right.F args K E H) : ∃ t0 t1 t2, args = [(.agg #[(.bool t0), (.int .u32 t1), (.int .i64 t2)])] ∧ target_right.c t0 t1 t2 (fun r0_0 H => K (.bool r0_0) H) E H := by
  unfold target_right.F at h
  split at h
  · exact ⟨_, _, _, rfl, h⟩
  · exact h.elim
theorem target_right.ok : CalleeOk Tryd.prog 17 target_right.F :=
  callee_ok target_right.hΓ (fn := Tryd.f17) (c := target_right.body) (T := wC Tryd.prog target_right.Γ target_right.plan target_right.body) (by kernel_rfl) (by kernel_rfl) (by kernel_rfl) (wC_sound target_right.hΓ Tryd.hm target_right.plan _ target_right.pok) fun _ K E H h => by
    obtain ⟨z0, z1, z2, e, h⟩ := target_right.Fe h
    subst e
    have h2 : target_right.vc z0 z1 z2 (fun r0_0 H => ∃ H', Heap.Le H' H ∧ K (.bool r0_0) H') E H := h.h
    rw [target_right.eq z0 z1 z2 (Fg K) E H]
    exact h2

/-! vizard/prefix.Text -/
noncomputable def prefix_Text.body : Code := Tryd.f18.body.getD .skip
def prefix_Text.J2.vc (a0 : Int) (l0 : Option Addr) (l1 : Nat) (l2 : Nat) (x0 : Int) (Kn : Int → Heap → Prop) (E : Value → Heap → Prop) (h0 : Heap) : Prop :=
  Kn (IntKind.i64.wrap (x0 + 1)) h0
structure prefix_Text.J2 (a0 : Int) (l0 : Option Addr) (l1 : Nat) (l2 : Nat) (x0 : Int) (Kn : Int → Heap → Prop) (E : Value → Heap → Prop) (H : Heap) : Prop where
  h : prefix_Text.J2.vc a0 l0 l1 l2 x0 Kn E H
def prefix_Text.W1.vc (a0 : Int) (l0 : Option Addr) (l1 : Nat) (l2 : Nat) (x0 : Int) (Kx0 : Option Addr → Nat → Nat → Heap → Prop) (RR : Option Addr → Nat → Nat → Int → Heap → Prop) (E : Value → Heap → Prop) (h0 : Heap) : Prop :=
  (if (decide (x0 < 4)) = true then
  (0 : Int) ≤ (IntKind.i64.wrap (24 - (IntKind.i64.wrap (8 * x0)))) ∧
  strconv_Itoa.c (IntKind.i64.wrap (bits .and .u32 (shrI .u32 a0 (IntKind.i64.wrap (24 - (IntKind.i64.wrap (8 * x0))))) 255)) (fun x1 h1 =>
  newB (.cells #[(.string x1)] 9) (fun b0 h2 =>
  rdRow h2 (some (⟨b0, 0, none⟩ : Addr)) (1 * 1) fun cs0 =>
  appT 9 (.string (⟨#[]⟩ : ByteArray)) l0 l1 1 l2 1 16 cs0 (fun p0 n0 c0 h3 =>
  prefix_Text.J2 a0 p0 n0 c0 x0 (fun x2 h4 =>
  RR p0 n0 c0 x2 h4) E h3) h2) h1) E h0
  else
  Kx0 l0 l1 l2 h0)
structure prefix_Text.W1 (a0 : Int) (l0 : Option Addr) (l1 : Nat) (l2 : Nat) (x0 : Int) (Kx0 : Option Addr → Nat → Nat → Heap → Prop) (E : Value → Heap → Prop) (H : Heap) : Prop where
  h : Loop (fun (RR : Option Addr × Nat × Nat × Int → Heap → Prop) (s : Option Addr × Nat × Nat × Int) (H : Heap) => prefix_Text.W1.vc a0 s.1 s.2.1 s.2.2.1 s.2.2.2 Kx0 (fun l0 l1 l2 x0 H => RR (l0, l1, l2, x0) H) E H) (l0, l1, l2, x0) H
def prefix_Text.vc (a0 : Int) (K : ByteArray → Heap → Prop) (E : Value → Heap → Prop) (h0 : Heap) : Prop :=
  prefix_Text.W1 a0 none 0 0 0 (fun l0 l1 l2 h1 =>
  strings_Join.c l0 l1 l2 (⟨#[46]⟩ : ByteArray) K E h1) E h0
structure prefix_Text.c (a0 : Int) (K : ByteArray → Heap → Prop) (E : Value → Heap → Prop) (H : Heap) : Prop where
  h : prefix_Text.vc a0 (fun r0_0 H => ∃ H', Heap.Le H' H ∧ K r0_0 H') E H
def prefix_Text.F : FT := fun args K E H => match args with
  | [(.int .u32 a0)] => prefix_Text.c a0 (fun r0_0 H => K (.string r0_0) H) E H
  | _ => False
noncomputable def prefix_Text.Γ : FuncId → Option FT := Γof [(19, strconv_Itoa.F), (33, strings_Join.F)]
theorem prefix_Text.hΓ : ∀ f F, prefix_Text.Γ f = some F → CalleeOk Tryd.prog f F := Γof_ok (List.forall_mem_cons.2 ⟨strconv_Itoa.ok, List.forall_mem_cons.2 ⟨strings_Join.ok, fun _ h => nomatch h⟩⟩)
def prefix_Text.J2.t : CT := fun Q E fr H => lenIs 22 fr (slI fr 0 .u32 fun a0 => slSl fr 3 fun l0 l1 l2 => slI fr 5 .i64 fun x0 => prefix_Text.J2 a0 l0 l1 l2 x0 (fun y5_0 H => Q .normal (mkF 22 [(0, (.int .u32 a0)), (3, (.slice l0 l1 l2)), (5, (.int .i64 y5_0))]) H) E H)
noncomputable def prefix_Text.J2.plan : Plan := .go
theorem prefix_Text.J2.pok : PlanOk Tryd.prog prefix_Text.J2.plan (sub [1, 1, 0, 1, 0, 0, 1, 1, 1] prefix_Text.body) := by
  have e : PlanOk Tryd.prog prefix_Text.J2.plan (sub [1, 1, 0, 1, 0, 0, 1, 1, 1] prefix_Text.body) = (True) := by kernel_rfl
  exact e.mpr trivial
theorem prefix_Text.J2.eq (a0 : Int) (l0 : Option Addr) (l1 : Nat) (l2 : Nat) (x0 : Int) (Q : Ex → Fr → Heap → Prop) (E : Value → Heap → Prop) (H : Heap) :
    prefix_Text.J2.vc a0 l0 l1 l2 x0 (fun y5_0 H => Q .normal (mkF 22 [(0, (.int .u32 a0)), (3, (.slice l0 l1 l2)), (5, (.int .i64 y5_0))]) H) E H = keepT [0, 3, 5] [] (fun i => []) (wC Tryd.prog prefix_Text.Γ prefix_Text.J2.plan (sub [1, 1, 0, 1, 0, 0, 1, 1, 1] prefix_Text.body)) Q E (mkF 22 [(0, (.int .u32 a0)), (3, (.slice l0 l1 l2)), (5, (.int .i64 x0))]) H := by
  kernel_rfl
theorem prefix_Text.J2.ok : SoundCode Tryd.prog (sub [1, 1, 0, 1, 0, 0, 1, 1, 1] prefix_Text.body) prefix_Text.J2.t := by
  refine piece_sound (keepT_sound [0, 3, 5] [] (fun i => []) (wC_sound prefix_Text.hΓ Tryd.hm prefix_Text.J2.plan _ prefix_Text.J2.pok)) ?_
  intro Q E fr H h
  unfold prefix_Text.J2.t at h
  obtain ⟨hl, h⟩ := lenIs_elim h
  obtain ⟨a0, q0, h⟩ := slI_elim h
  obtain ⟨l0, l1, l2, q3, h⟩ := slSl_elim h
  obtain ⟨x0, q5, h⟩ := slI_elim h
  refine ⟨(mkF 22 [(0, (.int .u32 a0)), (3, (.slice l0 l1 l2)), (5, (.int .i64 x0))]), fun a ha => ha.mk (Nat.le_of_eq hl.symm) (List.forall_mem_cons.2 ⟨q0, List.forall_mem_cons.2 ⟨q3, List.forall_mem_cons.2 ⟨q5, fun _ h => nomatch h⟩⟩⟩), ?_⟩
  have e := prefix_Text.J2.eq a0 l0 l1 l2 x0 Q E H
  rw [← e]
  exact h.h
def prefix_Text.W1.t : CT := fun Q E fr H => lenIs 22 fr (slI fr 0 .u32 fun a0 => slSl fr 3 fun l0 l1 l2 => slI fr 5 .i64 fun x0 => prefix_Text.W1 a0 l0 l1 l2 x0 (fun y3_0 y3_1 y3_2 H => Q (.exit 0) (mkF 22 [(3, (.slice y3_0 y3_1 y3_2))]) H) E H)
noncomputable def prefix_Text.W1.plan : Plan := .seq (.go) (.seq (.go) (.seq (.go) (.use prefix_Text.J2.t)))
theorem prefix_Text.W1.pok : PlanOk Tryd.prog prefix_Text.W1.plan (sub [1, 1, 0, 1, 0, 0] prefix_Text.body) := by
  have e : PlanOk Tryd.prog prefix_Text.W1.plan (sub [1, 1, 0, 1, 0, 0] prefix_Text.body) = ((True) ∧ ((True) ∧ ((True) ∧ (SoundCode Tryd.prog (sub [1, 1, 0, 1, 0, 0, 1, 1, 1] prefix_Text.body) prefix_Text.J2.t)))) := by kernel_rfl
  exact e.mpr ⟨trivial, ⟨trivial, ⟨trivial, prefix_Text.J2.ok⟩⟩⟩
theorem prefix_Text.W1.eq (a0 : Int) (Q : Ex → Fr → Heap → Prop) (E : Value → Heap → Prop) (RR : Fr → Heap → Prop) (s : Option Addr × Nat × Nat × Int) (H : Heap) :
    (fun (RR : Option Addr × Nat × Nat × Int → Heap → Prop) (s : Option Addr × Nat × Nat × Int) (H : Heap) => prefix_Text.W1.vc a0 s.1 s.2.1 s.2.2.1 s.2.2.2 (fun y3_0 y3_1 y3_2 H => Q (.exit 0) (mkF 22 [(3, (.slice y3_0 y3_1 y3_2))]) H) (fun l0 l1 l2 x0 H => RR (l0, l1, l2, x0) H) E H) (fun s' H' => RR ((fun (s : Option Addr × Nat × Nat × Int) => (mkF 22 [(0, (.int .u32 a0)), (3, (.slice s.1 s.2.1 s.2.2.1)), (5, (.int .i64 s.2.2.2))])) s') H') s H = keepT [0, 3, 5] [] (fun i => if i = 0 then [3] else []) (wC Tryd.prog prefix_Text.Γ prefix_Text.W1.plan (sub [1, 1, 0, 1, 0, 0] prefix_Text.body)) (fun e fr' H' => match e with | .normal => RR fr' H' | .exit id => Q (.exit id) fr' H' | .ret => Q .ret fr' H') E ((fun (s : Option Addr × Nat × Nat × Int) => (mkF 22 [(0, (.int .u32 a0)), (3, (.slice s.1 s.2.1 s.2.2.1)), (5, (.int .i64 s.2.2.2))])) s) H := by
  kernel_rfl
theorem prefix_Text.W1.ok : SoundCode Tryd.prog (sub [1, 1, 0, 1, 0] prefix_Text.body) prefix_Text.W1.t := by
  have e : (sub [1, 1, 0, 1, 0] prefix_Text.body) = .loop (sub [1, 1, 0, 1, 0, 0] prefix_Text.body) := by kernel_rfl
  rw [e]
  refine piece_sound (loopN_sound (keepT_sound [0, 3, 5] [] (fun i => if i = 0 then [3] else []) (wC_sound prefix_Text.hΓ Tryd.hm prefix_Text.W1.plan _ prefix_Text.W1.pok))) ?_
  intro Q E fr H h
  unfold prefix_Text.W1.t at h
  obtain ⟨hl, h⟩ := lenIs_elim h
  obtain ⟨a0, q0, h⟩ := slI_elim h
  obtain ⟨l0, l1, l2, q3, h⟩ := slSl_elim h
  obtain ⟨x0, q5, h⟩ := slI_elim h
  obtain ⟨m, h⟩ := h.h
  refine ⟨(mkF 22 [(0, (.int .u32 a0)), (3, (.slice l0 l1 l2)), (5, (.int .i64 x0))]), fun a ha => ha.mk (Nat.le_of_eq hl.symm) (List.forall_mem_cons.2 ⟨q0, List.forall_mem_cons.2 ⟨q3, List.forall_mem_cons.2 ⟨q5, fun _ h => nomatch h⟩⟩⟩), m, ?_⟩
  have e := loopS_eq (B := (fun (RR : Option Addr × Nat × Nat × Int → Heap → Prop) (s : Option Addr × Nat × Nat × Int) (H : Heap) => prefix_Text.W1.vc a0 s.1 s.2.1 s.2.2.1 s.2.2.2 (fun y3_0 y3_1 y3_2 H => Q (.exit 0) (mkF 22 [(3, (.slice y3_0 y3_1 y3_2))]) H) (fun l0 l1 l2 x0 H => RR (l0, l1, l2, x0) H) E H)) (A := keepT [0, 3, 5] [] (fun i => if i = 0 then [3] else []) (wC Tryd.prog prefix_Text.Γ prefix_Text.W1.plan (sub [1, 1, 0, 1, 0, 0] prefix_Text.body))) (m := (fun (s : Option Addr × Nat × Nat × Int) => (mkF 22 [(0, (.int .u32 a0)), (3, (.slice s.1 s.2.1 s.2.2.1)), (5, (.int .i64 s.2.2.2))]))) (Q := Q) (E := E) (fun RR s H => prefix_Text.W1.eq a0 Q E RR s H) m (l0, l1, l2, x0) H
  exact cast e h
noncomputable def prefix_Text.plan : Plan := .seq (.go) (.seq (.go) (.seq (.seq (.go) (.block (.use prefix_Text.W1.t))) (.go)))
theorem prefix_Text.pok : PlanOk Tryd.prog prefix_Text.plan prefix_Text.body := by
  have e : PlanOk Tryd.prog prefix_Text.plan prefix_Text.body = ((True) ∧ ((True) ∧ (((True) ∧ (SoundCode Tryd.prog (sub [1, 1, 0, 1, 0] prefix_Text.body) prefix_Text.W1.t)) ∧ (True)))) := by kernel_rfl
  exact e.mpr ⟨trivial, ⟨trivial, ⟨⟨trivial, prefix_Text.W1.ok⟩, trivial⟩⟩⟩
theorem prefix_Text.eq (a0 : Int) (K : Value → Heap → Prop) (E : Value → Heap → Prop) (H : Heap) :
    fnT Tryd.prog Tryd.f18 (wC Tryd.prog prefix_Text.Γ prefix_Text.plan prefix_Text.body) [(.int .u32 a0)] K E H = prefix_Text.vc a0 (fun r0_0 H => K (.string r0_0) H) E H := by
  kernel_rfl
theorem prefix_Text.Fe {args : List Value} {K E : Value → Heap → Prop} {H : Heap} (h : prefix_Text.F args K E H) : ∃ a0, args = [(.int .u32 a0)] ∧ prefix_Text.c a0 (fun r0_0 H => K (.string r0_0) H) E H := by
  unfold prefix_Text.F at h
  split at h
  · exact ⟨_, rfl, h⟩
  · exact h.elim
theorem prefix_Text.ok : CalleeOk Tryd.prog 18 prefix_Text.F :=
  callee_ok prefix_Text.hΓ (fn := Tryd.f18) (c := prefix_Text.body) (T := wC Tryd.prog prefix_Text.Γ prefix_Text.plan prefix_Text.body) (by kernel_rfl) (by kernel_rfl) (by kernel_rfl) (wC_sound prefix_Text.hΓ Tryd.hm prefix_Text.plan _ prefix_Text.pok) fun _ K E H h => by
    obtain ⟨z0, e, h⟩ := prefix_Text.Fe h
    subst e
    have h2 : prefix_Text.vc z0 (fun r0_0 H => ∃ H', Heap.Le H' H ∧ K (.string r0_0) H') E H := h.h
    rw [prefix_Text.eq z0 (Fg K) E H]
    exact h2

/-! vizard/target.Path -/
noncomputable def target_Path.body : Code := Tryd.f8.body.getD .skip
def target_Path.vc (t0 : Bool) (t1 : Int) (t2 : Int) (K : ByteArray → Heap → Prop) (E : Value → Heap → Prop) (h0 : Heap) : Prop :=
  newB (.cells #[(.bool t0), (.int .u32 t1), (.int .i64 t2)] 24) (fun b0 h1 =>
  ldB h1 ((⟨b0, 0, none⟩ : Addr).add 0) fun x0 => ldI h1 .u32 ((⟨b0, 0, none⟩ : Addr).add 1) fun x1 => ldI h1 .i64 ((⟨b0, 0, none⟩ : Addr).add 2) fun x2 =>
  target_right.c x0 x1 x2 (fun x3 h2 =>
  (if (!x3) = true then
  K (⟨#[]⟩ : ByteArray) h2
  else
  ldB h2 ((⟨b0, 0, none⟩ : Addr).add 0) fun x4 =>
  (if x4 = true then
  K (⟨#[47, 46, 119, 101, 108, 108, 45, 107, 110, 111, 119, 110, 47, 109, 97, 115, 113, 117, 101, 47, 105, 112, 47, 42, 47, 42, 47]⟩ : ByteArray) h2
  else
  ldI h2 .u32 ((⟨b0, 0, none⟩ : Addr).add 1) fun x5 =>
  ldI h2 .i64 ((⟨b0, 0, none⟩ : Addr).add 2) fun x6 =>
  prefix_Text.c x5 (fun x7 h3 =>
  (ldI h3 .i64 ((⟨b0, 0, none⟩ : Addr).add 2) fun x8 =>
  eqv h3 h3 (some (.int .i64 x6)) (.int .i64 x8)) ∧
  (⟨#[47, 46, 119, 101, 108, 108, 45, 107, 110, 111, 119, 110, 47, 109, 97, 115, 113, 117, 101, 47, 117, 100, 112, 47]⟩ : ByteArray).size + x7.size ≤ 9223372036854775807 ∧
  ((⟨#[47, 46, 119, 101, 108, 108, 45, 107, 110, 111, 119, 110, 47, 109, 97, 115, 113, 117, 101, 47, 117, 100, 112, 47]⟩ : ByteArray) ++ x7).size + (⟨#[47]⟩ : ByteArray).size ≤ 9223372036854775807 ∧
  strconv_Itoa.c x6 (fun x9 h4 =>
  (((⟨#[47, 46, 119, 101, 108, 108, 45, 107, 110, 111, 119, 110, 47, 109, 97, 115, 113, 117, 101, 47, 117, 100, 112, 47]⟩ : ByteArray) ++ x7) ++ (⟨#[47]⟩ : ByteArray)).size + x9.size ≤ 9223372036854775807 ∧
  ((((⟨#[47, 46, 119, 101, 108, 108, 45, 107, 110, 111, 119, 110, 47, 109, 97, 115, 113, 117, 101, 47, 117, 100, 112, 47]⟩ : ByteArray) ++ x7) ++ (⟨#[47]⟩ : ByteArray)) ++ x9).size + (⟨#[47]⟩ : ByteArray).size ≤ 9223372036854775807 ∧
  K (((((⟨#[47, 46, 119, 101, 108, 108, 45, 107, 110, 111, 119, 110, 47, 109, 97, 115, 113, 117, 101, 47, 117, 100, 112, 47]⟩ : ByteArray) ++ x7) ++ (⟨#[47]⟩ : ByteArray)) ++ x9) ++ (⟨#[47]⟩ : ByteArray)) h4) E h3) E h2))) E h1) h0
structure target_Path.c (t0 : Bool) (t1 : Int) (t2 : Int) (K : ByteArray → Heap → Prop) (E : Value → Heap → Prop) (H : Heap) : Prop where
  h : target_Path.vc t0 t1 t2 (fun r0_0 H => ∃ H', Heap.Le H' H ∧ K r0_0 H') E H
def target_Path.F : FT := fun args K E H => match args with
  | [(.agg ⟨[(.bool t0), (.int .u32 t1), (.int .i64 t2)]⟩)] => target_Path.c t0 t1 t2 (fun r0_0 H => K (.string r0_0) H) E H
  | _ => False
noncomputable def target_Path.Γ : FuncId → Option FT := Γof [(17, target_right.F), (18, prefix_Text.F), (19, strconv_Itoa.F)]
theorem target_Path.hΓ : ∀ f F, target_Path.Γ f = some F → CalleeOk Tryd.prog f F := Γof_ok (List.forall_mem_cons.2 ⟨target_right.ok, List.forall_mem_cons.2 ⟨prefix_Text.ok, List.forall_mem_cons.2 ⟨strconv_Itoa.ok, fun _ h => nomatch h⟩⟩⟩)
noncomputable def target_Path.plan : Plan := .seq (.go) (.seq (.go) (.seq (.draw ⟨[0, 1, 2, 3, 4, 5, 6, 7, 8, 9], (dl [(0, []), (1, []), (5, []), (6, []), (2, [1, 0]), (3, []), (4, []), (7, [6, 2, 5, 1, 0]), (8, []), (9, [])] .fin), [10]⟩) (.go)))
theorem target_Path.pok : PlanOk Tryd.prog target_Path.plan target_Path.body := by
  have e : PlanOk Tryd.prog target_Path.plan target_Path.body = ((True) ∧ ((True) ∧ ((True) ∧ (True)))) := by kernel_rfl
  exact e.mpr ⟨trivial, ⟨trivial, ⟨trivial, trivial⟩⟩⟩
theorem target_Path.eq (t0 : Bool) (t1 : Int) (t2 : Int) (K : Value → Heap → Prop) (E : Value → Heap → Prop) (H : Heap) :
    fnT Tryd.prog Tryd.f8 (wC Tryd.prog target_Path.Γ target_Path.plan target_Path.body) [(.agg #[(.bool t0), (.int .u32 t1), (.int .i64 t2)])] K E H = target_Path.vc t0 t1 t2 (fun r0_0 H => K (.string r0_0) H) E H := by
  kernel_rfl
theorem target_Path.Fe {args : List Value} {K E : Value → Heap → Prop} {H : Heap} (h : target_Path.F args K E H) : ∃ t0 t1 t2, args = [(.agg #[(.bool t0), (.int .u32 t1), (.int .i64 t2)])] ∧ target_Path.c t0 t1 t2 (fun r0_0 H => K (.string r0_0) H) E H := by
  unfold target_Path.F at h
  split at h
  · exact ⟨_, _, _, rfl, h⟩
  · exact h.elim
theorem target_Path.ok : CalleeOk Tryd.prog 8 target_Path.F :=
  callee_ok target_Path.hΓ (fn := Tryd.f8) (c := target_Path.body) (T := wC Tryd.prog target_Path.Γ target_Path.plan target_Path.body) (by kernel_rfl) (by kernel_rfl) (by kernel_rfl) (wC_sound target_Path.hΓ Tryd.hm target_Path.plan _ target_Path.pok) fun _ K E H h => by
    obtain ⟨z0, z1, z2, e, h⟩ := target_Path.Fe h
    subst e
    have h2 : target_Path.vc z0 z1 z2 (fun r0_0 H => ∃ H', Heap.Le H' H ∧ K (.string r0_0) H') E H := h.h
    rw [target_Path.eq z0 z1 z2 (Fg K) E H]
    exact h2

/-! vizard/target.parse -/
noncomputable def target_parse.body : Code := Tryd.f28.body.getD .skip
def target_parse.J2.vc (x0 : Addr) (t0 : Addr) (Kr : Heap → Prop) (E : Value → Heap → Prop) (h0 : Heap) : Prop :=
  ldB h0 (t0.add 0) fun x1 => ldI h0 .u32 (t0.add 1) fun x2 => ldI h0 .i64 (t0.add 2) fun x3 =>
  stc h0 (x0.add 0) (.bool x1) fun h1 =>
  stc h1 (x0.add 1) (.int .u32 x2) fun h2 =>
  stc h2 (x0.add 2) (.int .i64 x3) fun h3 =>
  Kr h3
structure target_parse.J2 (x0 : Addr) (t0 : Addr) (Kr : Heap → Prop) (E : Value → Heap → Prop) (H : Heap) : Prop where
  h : target_parse.J2.vc x0 t0 Kr E H
def target_parse.J1.vc (path0 : ByteArray) (x0 : Addr) (parts0 : Option Addr) (parts1 : Nat) (parts2 : Nat) (Kr : Heap → Prop) (E : Value → Heap → Prop) (h0 : Heap) : Prop :=
  nilc parts0 fun a0 => (0 : Int) ≤ 0 ∧ 0 < (parts1 : Int) ∧
  ldS h0 (a0.add (0 * 1)) fun x1 =>
  prefix_Parse.c x1 (fun x2 x3 h1 =>
  nilc parts0 fun a1 => (0 : Int) ≤ 1 ∧ 1 < (parts1 : Int) ∧
  ldS h1 (a1.add (1 * 1)) fun x4 =>
  strconv_Atoi.c x4 (fun x5 x6 h2 =>
  newB (.cells #[(.bool false), (.int .u32 0), (.int .i64 0)] 24) (fun b0 h3 =>
  stc h3 ((⟨b0, 0, none⟩ : Addr).add 0) (.bool false) fun h4 =>
  stc h4 ((⟨b0, 0, none⟩ : Addr).add 1) (.int .u32 x2) fun h5 =>
  stc h5 ((⟨b0, 0, none⟩ : Addr).add 2) (.int .i64 x5) fun h6 =>
  (if x3 = true then
  nilV (.tmp 49) (.const .nilIface) x6
  (ldB h6 ((⟨b0, 0, none⟩ : Addr).add 0) fun x7 => ldI h6 .u32 ((⟨b0, 0, none⟩ : Addr).add 1) fun x8 => ldI h6 .i64 ((⟨b0, 0, none⟩ : Addr).add 2) fun x9 =>
  target_Path.c x7 x8 x9 (fun x10 h7 =>
  target_check.c (x10.toList == path0.toList) 404 (fun h8 =>
  target_parse.J2 x0 (⟨b0, 0, none⟩ : Addr) Kr E h8) E h7) E h6)
  (target_check.c false 404 (fun h10 =>
  target_parse.J2 x0 (⟨b0, 0, none⟩ : Addr) Kr E h10) E h6)
  else
  target_check.c false 404 (fun h12 =>
  target_parse.J2 x0 (⟨b0, 0, none⟩ : Addr) Kr E h12) E h6)) h2) E h1) E h0
structure target_parse.J1 (path0 : ByteArray) (x0 : Addr) (parts0 : Option Addr) (parts1 : Nat) (parts2 : Nat) (Kr : Heap → Prop) (E : Value → Heap → Prop) (H : Heap) : Prop where
  h : target_parse.J1.vc path0 x0 parts0 parts1 parts2 Kr E H
def target_parse.vc (path0 : ByteArray) (K : Bool → Int → Int → Heap → Prop) (E : Value → Heap → Prop) (h0 : Heap) : Prop :=
  newB (.cells #[(.bool false), (.int .u32 0), (.int .i64 0)] 24) (fun b0 h1 =>
  strings_CutPrefix.c path0 (⟨#[47, 46, 119, 101, 108, 108, 45, 107, 110, 111, 119, 110, 47, 109, 97, 115, 113, 117, 101, 47, 117, 100, 112, 47]⟩ : ByteArray) (fun x0 x1 h2 =>
  strings_Split.c x0 (⟨#[47]⟩ : ByteArray) (fun x2 x3 x4 h3 =>
  (if x1 = true then
  (if ((x3 : Int) == 3) = true then
  nilc x2 fun a0 => (0 : Int) ≤ 2 ∧ 2 < (x3 : Int) ∧
  ldS h3 (a0.add (2 * 1)) fun x5 =>
  target_check.c (x5.toList == (⟨#[]⟩ : ByteArray).toList) 404 (fun h4 =>
  target_parse.J1 path0 (⟨b0, 0, none⟩ : Addr) x2 x3 x4 (fun h5 =>
  ldB h5 ((⟨b0, 0, none⟩ : Addr).add 0) fun r0 => ldI h5 .u32 ((⟨b0, 0, none⟩ : Addr).add 1) fun r1 => ldI h5 .i64 ((⟨b0, 0, none⟩ : Addr).add 2) fun r2 =>
  K r0 r1 r2 h5) E h4) E h3
  else
  target_check.c false 404 (fun h6 =>
  target_parse.J1 path0 (⟨b0, 0, none⟩ : Addr) x2 x3 x4 (fun h7 =>
  ldB h7 ((⟨b0, 0, none⟩ : Addr).add 0) fun r3 => ldI h7 .u32 ((⟨b0, 0, none⟩ : Addr).add 1) fun r4 => ldI h7 .i64 ((⟨b0, 0, none⟩ : Addr).add 2) fun r5 =>
  K r3 r4 r5 h7) E h6) E h3)
  else
  target_check.c false 404 (fun h8 =>
  target_parse.J1 path0 (⟨b0, 0, none⟩ : Addr) x2 x3 x4 (fun h9 =>
  ldB h9 ((⟨b0, 0, none⟩ : Addr).add 0) fun r6 => ldI h9 .u32 ((⟨b0, 0, none⟩ : Addr).add 1) fun r7 => ldI h9 .i64 ((⟨b0, 0, none⟩ : Addr).add 2) fun r8 =>
  K r6 r7 r8 h9) E h8) E h3)) E h2) E h1) h0
structure target_parse.c (path0 : ByteArray) (K : Bool → Int → Int → Heap → Prop) (E : Value → Heap → Prop) (H : Heap) : Prop where
  h : target_parse.vc path0 (fun r0_0 r0_1 r0_2 H => ∃ H', Heap.Le H' H ∧ K r0_0 r0_1 r0_2 H') E H
def target_parse.F : FT := fun args K E H => match args with
  | [(.string path0)] => target_parse.c path0 (fun r0_0 r0_1 r0_2 H => K (.agg #[(.bool r0_0), (.int .u32 r0_1), (.int .i64 r0_2)]) H) E H
  | _ => False
noncomputable def target_parse.Γ : FuncId → Option FT := Γof [(8, target_Path.F), (24, target_check.F), (37, strings_CutPrefix.F), (38, strings_Split.F), (39, prefix_Parse.F), (40, strconv_Atoi.F)]
theorem target_parse.hΓ : ∀ f F, target_parse.Γ f = some F → CalleeOk Tryd.prog f F := Γof_ok (List.forall_mem_cons.2 ⟨target_Path.ok, List.forall_mem_cons.2 ⟨target_check.ok, List.forall_mem_cons.2 ⟨strings_CutPrefix.ok, List.forall_mem_cons.2 ⟨strings_Split.ok, List.forall_mem_cons.2 ⟨prefix_Parse.ok, List.forall_mem_cons.2 ⟨strconv_Atoi.ok, fun _ h => nomatch h⟩⟩⟩⟩⟩⟩)
def target_parse.J2.t : CT := fun Q E fr H => lenIs 60 fr (slPA fr 2 fun x0 => slPA fr 9 fun t0 => target_parse.J2 x0 t0 (fun  H => Q .ret (mkF 60 [(2, (.pointer (some x0)))]) H) E H)
noncomputable def target_parse.J2.plan : Plan := .go
theorem target_parse.J2.pok : PlanOk Tryd.prog target_parse.J2.plan (sub [1, 1, 1, 1, 1, 1, 1, 1] target_parse.body) := by
  have e : PlanOk Tryd.prog target_parse.J2.plan (sub [1, 1, 1, 1, 1, 1, 1, 1] target_parse.body) = (True) := by kernel_rfl
  exact e.mpr trivial
theorem target_parse.J2.eq (x0 : Addr) (t0 : Addr) (Q : Ex → Fr → Heap → Prop) (E : Value → Heap → Prop) (H : Heap) :
    target_parse.J2.vc x0 t0 (fun  H => Q .ret (mkF 60 [(2, (.pointer (some x0)))]) H) E H = keepT [] [2] (fun i => []) (wC Tryd.prog target_parse.Γ target_parse.J2.plan (sub [1, 1, 1, 1, 1, 1, 1, 1] target_parse.body)) Q E (mkF 60 [(2, (.pointer (some x0))), (9, (.pointer (some t0)))]) H := by
  kernel_rfl
theorem target_parse.J2.ok : SoundCode Tryd.prog (sub [1, 1, 1, 1, 1, 1, 1, 1] target_parse.body) target_parse.J2.t := by
  refine piece_sound (keepT_sound [] [2] (fun i => []) (wC_sound target_parse.hΓ Tryd.hm target_parse.J2.plan _ target_parse.J2.pok)) ?_
  intro Q E fr H h
  unfold target_parse.J2.t at h
  obtain ⟨hl, h⟩ := lenIs_elim h
  obtain ⟨x0, q2, h⟩ := slPA_elim h
  obtain ⟨t0, q9, h⟩ := slPA_elim h
  refine ⟨(mkF 60 [(2, (.pointer (some x0))), (9, (.pointer (some t0)))]), fun a ha => ha.mk (Nat.le_of_eq hl.symm) (List.forall_mem_cons.2 ⟨q2, List.forall_mem_cons.2 ⟨q9, fun _ h => nomatch h⟩⟩), ?_⟩
  have e := target_parse.J2.eq x0 t0 Q E H
  rw [← e]
  exact h.h
def target_parse.J1.t : CT := fun Q E fr H => lenIs 60 fr (slS fr 0 fun path0 => slPA fr 2 fun x0 => slSl fr 5 fun parts0 parts1 parts2 => target_parse.J1 path0 x0 parts0 parts1 parts2 (fun  H => Q .ret (mkF 60 [(2, (.pointer (some x0)))]) H) E H)
noncomputable def target_parse.J1.plan : Plan := .seq (.go) (.seq (.go) (.seq (.go) (.seq (.go) (.use target_parse.J2.t))))
theorem target_parse.J1.pok : PlanOk Tryd.prog target_parse.J1.plan (sub [1, 1, 1, 1] target_parse.body) := by
  have e : PlanOk Tryd.prog target_parse.J1.plan (sub [1, 1, 1, 1] target_parse.body) = ((True) ∧ ((True) ∧ ((True) ∧ ((True) ∧ (SoundCode Tryd.prog (sub [1, 1, 1, 1, 1, 1, 1, 1] target_parse.body) target_parse.J2.t))))) := by kernel_rfl
  exact e.mpr ⟨trivial, ⟨trivial, ⟨trivial, ⟨trivial, target_parse.J2.ok⟩⟩⟩⟩
theorem target_parse.J1.eq (path0 : ByteArray) (x0 : Addr) (parts0 : Option Addr) (parts1 : Nat) (parts2 : Nat) (Q : Ex → Fr → Heap → Prop) (E : Value → Heap → Prop) (H : Heap) :
    target_parse.J1.vc path0 x0 parts0 parts1 parts2 (fun  H => Q .ret (mkF 60 [(2, (.pointer (some x0)))]) H) E H = keepT [] [2] (fun i => []) (wC Tryd.prog target_parse.Γ target_parse.J1.plan (sub [1, 1, 1, 1] target_parse.body)) Q E (mkF 60 [(0, (.string path0)), (2, (.pointer (some x0))), (5, (.slice parts0 parts1 parts2))]) H := by
  kernel_rfl
theorem target_parse.J1.ok : SoundCode Tryd.prog (sub [1, 1, 1, 1] target_parse.body) target_parse.J1.t := by
  refine piece_sound (keepT_sound [] [2] (fun i => []) (wC_sound target_parse.hΓ Tryd.hm target_parse.J1.plan _ target_parse.J1.pok)) ?_
  intro Q E fr H h
  unfold target_parse.J1.t at h
  obtain ⟨hl, h⟩ := lenIs_elim h
  obtain ⟨path0, q0, h⟩ := slS_elim h
  obtain ⟨x0, q2, h⟩ := slPA_elim h
  obtain ⟨parts0, parts1, parts2, q5, h⟩ := slSl_elim h
  refine ⟨(mkF 60 [(0, (.string path0)), (2, (.pointer (some x0))), (5, (.slice parts0 parts1 parts2))]), fun a ha => ha.mk (Nat.le_of_eq hl.symm) (List.forall_mem_cons.2 ⟨q0, List.forall_mem_cons.2 ⟨q2, List.forall_mem_cons.2 ⟨q5, fun _ h => nomatch h⟩⟩⟩), ?_⟩
  have e := target_parse.J1.eq path0 x0 parts0 parts1 parts2 Q E H
  rw [← e]
  exact h.h
noncomputable def target_parse.plan : Plan := .seq (.go) (.seq (.go) (.seq (.go) (.seq (.go) (.use target_parse.J1.t))))
theorem target_parse.pok : PlanOk Tryd.prog target_parse.plan target_parse.body := by
  have e : PlanOk Tryd.prog target_parse.plan target_parse.body = ((True) ∧ ((True) ∧ ((True) ∧ ((True) ∧ (SoundCode Tryd.prog (sub [1, 1, 1, 1] target_parse.body) target_parse.J1.t))))) := by kernel_rfl
  exact e.mpr ⟨trivial, ⟨trivial, ⟨trivial, ⟨trivial, target_parse.J1.ok⟩⟩⟩⟩
theorem target_parse.eq (path0 : ByteArray) (K : Value → Heap → Prop) (E : Value → Heap → Prop) (H : Heap) :
    fnT Tryd.prog Tryd.f28 (wC Tryd.prog target_parse.Γ target_parse.plan target_parse.body) [(.string path0)] K E H = target_parse.vc path0 (fun r0_0 r0_1 r0_2 H => K (.agg #[(.bool r0_0), (.int .u32 r0_1), (.int .i64 r0_2)]) H) E H := by
  kernel_rfl
theorem target_parse.Fe {args : List Value} {K E : Value → Heap → Prop} {H : Heap} (h : target_parse.F args K E H) : ∃ path0, args = [(.string path0)] ∧ target_parse.c path0 (fun r0_0 r0_1 r0_2 H => K (.agg #[(.bool r0_0), (.int .u32 r0_1), (.int .i64 r0_2)]) H) E H := by
  unfold target_parse.F at h
  split at h
  · exact ⟨_, rfl, h⟩
  · exact h.elim
theorem target_parse.ok : CalleeOk Tryd.prog 28 target_parse.F :=
  callee_ok target_parse.hΓ (fn := Tryd.f28) (c := target_parse.body) (T := wC Tryd.prog target_parse.Γ target_parse.plan target_parse.body) (by kernel_rfl) (by kernel_rfl) (by kernel_rfl) (wC_sound target_parse.hΓ Tryd.hm target_parse.plan _ target_parse.pok) fun _ K E H h => by
    obtain ⟨z0, e, h⟩ := target_parse.Fe h
    subst e
    have h2 : target_parse.vc z0 (fun r0_0 r0_1 r0_2 H => ∃ H', Heap.Le H' H ∧ K (.agg #[(.bool r0_0), (.int .u32 r0_1), (.int .i64 r0_2)]) H') E H := h.h
    rw [target_parse.eq z0 (Fg K) E H]
    exact h2

/-! vizard/target.Fields -/
noncomputable def target_Fields.body : Code := Tryd.f11.body.getD .skip
def target_Fields.J1.vc (authority0 : ByteArray) (t0 : Addr) (protocol0 : ByteArray) (Kr : Option Addr → Nat → Nat → Heap → Prop) (E : Value → Heap → Prop) (h0 : Heap) : Prop :=
  ldB h0 (t0.add 0) fun x0 => ldI h0 .u32 (t0.add 1) fun x1 => ldI h0 .i64 (t0.add 2) fun x2 =>
  target_Path.c x0 x1 x2 (fun x3 h1 =>
  newB (.cells #[(.string (⟨#[58, 109, 101, 116, 104, 111, 100]⟩ : ByteArray)), (.string (⟨#[67, 79, 78, 78, 69, 67, 84]⟩ : ByteArray)), (.string (⟨#[58, 112, 114, 111, 116, 111, 99, 111, 108]⟩ : ByteArray)), (.string protocol0), (.string (⟨#[58, 115, 99, 104, 101, 109, 101]⟩ : ByteArray)), (.string (⟨#[104, 116, 116, 112, 115]⟩ : ByteArray)), (.string (⟨#[58, 97, 117, 116, 104, 111, 114, 105, 116, 121]⟩ : ByteArray)), (.string authority0), (.string (⟨#[58, 112, 97, 116, 104]⟩ : ByteArray)), (.string x3), (.string (⟨#[99, 97, 112, 115, 117, 108, 101, 45, 112, 114, 111, 116, 111, 99, 111, 108]⟩ : ByteArray)), (.string (⟨#[63, 49]⟩ : ByteArray))] 35) (fun b0 h2 =>
  Kr (some (⟨b0, 0, none⟩ : Addr)) 6 6 h2) h1) E h0
structure target_Fields.J1 (authority0 : ByteArray) (t0 : Addr) (protocol0 : ByteArray) (Kr : Option Addr → Nat → Nat → Heap → Prop) (E : Value → Heap → Prop) (H : Heap) : Prop where
  h : target_Fields.J1.vc authority0 t0 protocol0 Kr E H
def target_Fields.vc (authority0 : ByteArray) (t0 : Bool) (t1 : Int) (t2 : Int) (K : Option Addr → Nat → Nat → Heap → Prop) (E : Value → Heap → Prop) (h0 : Heap) : Prop :=
  newB (.cells #[(.bool t0), (.int .u32 t1), (.int .i64 t2)] 24) (fun b0 h1 =>
  ldB h1 ((⟨b0, 0, none⟩ : Addr).add 0) fun x0 => ldI h1 .u32 ((⟨b0, 0, none⟩ : Addr).add 1) fun x1 => ldI h1 .i64 ((⟨b0, 0, none⟩ : Addr).add 2) fun x2 =>
  target_right.c x0 x1 x2 (fun x3 h2 =>
  (if (!x3) = true then
  K none 0 0 h2
  else
  ldB h2 ((⟨b0, 0, none⟩ : Addr).add 0) fun x4 =>
  (if x4 = true then
  target_Fields.J1 authority0 (⟨b0, 0, none⟩ : Addr) (⟨#[99, 111, 110, 110, 101, 99, 116, 45, 105, 112]⟩ : ByteArray) K E h2
  else
  target_Fields.J1 authority0 (⟨b0, 0, none⟩ : Addr) (⟨#[99, 111, 110, 110, 101, 99, 116, 45, 117, 100, 112]⟩ : ByteArray) K E h2))) E h1) h0
structure target_Fields.c (authority0 : ByteArray) (t0 : Bool) (t1 : Int) (t2 : Int) (K : Option Addr → Nat → Nat → Heap → Prop) (E : Value → Heap → Prop) (H : Heap) : Prop where
  h : target_Fields.vc authority0 t0 t1 t2 (fun r0_0 r0_1 r0_2 H => ∃ H', Heap.Le H' H ∧ K r0_0 r0_1 r0_2 H') E H
def target_Fields.F : FT := fun args K E H => match args with
  | [(.string authority0), (.agg ⟨[(.bool t0), (.int .u32 t1), (.int .i64 t2)]⟩)] => target_Fields.c authority0 t0 t1 t2 (fun r0_0 r0_1 r0_2 H => K (.slice r0_0 r0_1 r0_2) H) E H
  | _ => False
noncomputable def target_Fields.Γ : FuncId → Option FT := Γof [(8, target_Path.F), (17, target_right.F)]
theorem target_Fields.hΓ : ∀ f F, target_Fields.Γ f = some F → CalleeOk Tryd.prog f F := Γof_ok (List.forall_mem_cons.2 ⟨target_Path.ok, List.forall_mem_cons.2 ⟨target_right.ok, fun _ h => nomatch h⟩⟩)
def target_Fields.J1.t : CT := fun Q E fr H => lenIs 22 fr (slS fr 0 fun authority0 => slPA fr 3 fun t0 => slS fr 5 fun protocol0 => target_Fields.J1 authority0 t0 protocol0 (fun y4_0 y4_1 y4_2 H => Q .ret (mkF 22 [(4, (.slice y4_0 y4_1 y4_2))]) H) E H)
noncomputable def target_Fields.J1.plan : Plan := .go
theorem target_Fields.J1.pok : PlanOk Tryd.prog target_Fields.J1.plan (sub [1, 1, 1, 1] target_Fields.body) := by
  have e : PlanOk Tryd.prog target_Fields.J1.plan (sub [1, 1, 1, 1] target_Fields.body) = (True) := by kernel_rfl
  exact e.mpr trivial
theorem target_Fields.J1.eq (authority0 : ByteArray) (t0 : Addr) (protocol0 : ByteArray) (Q : Ex → Fr → Heap → Prop) (E : Value → Heap → Prop) (H : Heap) :
    target_Fields.J1.vc authority0 t0 protocol0 (fun y4_0 y4_1 y4_2 H => Q .ret (mkF 22 [(4, (.slice y4_0 y4_1 y4_2))]) H) E H = keepT [] [4] (fun i => []) (wC Tryd.prog target_Fields.Γ target_Fields.J1.plan (sub [1, 1, 1, 1] target_Fields.body)) Q E (mkF 22 [(0, (.string authority0)), (3, (.pointer (some t0))), (5, (.string protocol0))]) H := by
  kernel_rfl
theorem target_Fields.J1.ok : SoundCode Tryd.prog (sub [1, 1, 1, 1] target_Fields.body) target_Fields.J1.t := by
  refine piece_sound (keepT_sound [] [4] (fun i => []) (wC_sound target_Fields.hΓ Tryd.hm target_Fields.J1.plan _ target_Fields.J1.pok)) ?_
  intro Q E fr H h
  unfold target_Fields.J1.t at h
  obtain ⟨hl, h⟩ := lenIs_elim h
  obtain ⟨authority0, q0, h⟩ := slS_elim h
  obtain ⟨t0, q3, h⟩ := slPA_elim h
  obtain ⟨protocol0, q5, h⟩ := slS_elim h
  refine ⟨(mkF 22 [(0, (.string authority0)), (3, (.pointer (some t0))), (5, (.string protocol0))]), fun a ha => ha.mk (Nat.le_of_eq hl.symm) (List.forall_mem_cons.2 ⟨q0, List.forall_mem_cons.2 ⟨q3, List.forall_mem_cons.2 ⟨q5, fun _ h => nomatch h⟩⟩⟩), ?_⟩
  have e := target_Fields.J1.eq authority0 t0 protocol0 Q E H
  rw [← e]
  exact h.h
noncomputable def target_Fields.plan : Plan := .seq (.go) (.seq (.go) (.seq (.go) (.seq (.go) (.use target_Fields.J1.t))))
theorem target_Fields.pok : PlanOk Tryd.prog target_Fields.plan target_Fields.body := by
  have e : PlanOk Tryd.prog target_Fields.plan target_Fields.body = ((True) ∧ ((True) ∧ ((True) ∧ ((True) ∧ (SoundCode Tryd.prog (sub [1, 1, 1, 1] target_Fields.body) target_Fields.J1.t))))) := by kernel_rfl
  exact e.mpr ⟨trivial, ⟨trivial, ⟨trivial, ⟨trivial, target_Fields.J1.ok⟩⟩⟩⟩
theorem target_Fields.eq (authority0 : ByteArray) (t0 : Bool) (t1 : Int) (t2 : Int) (K : Value → Heap → Prop) (E : Value → Heap → Prop) (H : Heap) :
    fnT Tryd.prog Tryd.f11 (wC Tryd.prog target_Fields.Γ target_Fields.plan target_Fields.body) [(.string authority0), (.agg #[(.bool t0), (.int .u32 t1), (.int .i64 t2)])] K E H = target_Fields.vc authority0 t0 t1 t2 (fun r0_0 r0_1 r0_2 H => K (.slice r0_0 r0_1 r0_2) H) E H := by
  kernel_rfl
theorem target_Fields.Fe {args : List Value} {K E : Value → Heap → Prop} {H : Heap} (h : target_Fields.F args K E H) : ∃ authority0 t0 t1 t2, args = [(.string authority0), (.agg #[(.bool t0), (.int .u32 t1), (.int .i64 t2)])] ∧ target_Fields.c authority0 t0 t1 t2 (fun r0_0 r0_1 r0_2 H => K (.slice r0_0 r0_1 r0_2) H) E H := by
  unfold target_Fields.F at h
  split at h
  · exact ⟨_, _, _, _, rfl, h⟩
  · exact h.elim
theorem target_Fields.ok : CalleeOk Tryd.prog 11 target_Fields.F :=
  callee_ok target_Fields.hΓ (fn := Tryd.f11) (c := target_Fields.body) (T := wC Tryd.prog target_Fields.Γ target_Fields.plan target_Fields.body) (by kernel_rfl) (by kernel_rfl) (by kernel_rfl) (wC_sound target_Fields.hΓ Tryd.hm target_Fields.plan _ target_Fields.pok) fun _ K E H h => by
    obtain ⟨z0, z1, z2, z3, e, h⟩ := target_Fields.Fe h
    subst e
    have h2 : target_Fields.vc z0 z1 z2 z3 (fun r0_0 r0_1 r0_2 H => ∃ H', Heap.Le H' H ∧ K (.slice r0_0 r0_1 r0_2) H') E H := h.h
    rw [target_Fields.eq z0 z1 z2 z3 (Fg K) E H]
    exact h2
end Go.Sh
