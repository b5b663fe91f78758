/- PRINTED by a program (sh.py): what the walk over each function asks, and that it asks just that. -/
import Derived.Test.YtpmgchippfmakaaDoorGtp
namespace Go.Sh
open Go.Proofs
set_option linter.unusedVariables false
set_option maxRecDepth 8000
/-! vizard/vizardref14.right -/
noncomputable def vizardref14_right.body : Code := Tryd.f32.body.getD .skip
def vizardref14_right.J1.vc (f0 : Addr) (x0 : Bool) (Kn : Heap → Prop) (Kr : Int → Heap → Prop) (E : Value → Heap → Prop) (h0 : Heap) : Prop :=
  (if x0 = true then
  Kr 8 h0
  else
  Kn h0)
structure vizardref14_right.J1 (f0 : Addr) (x0 : Bool) (Kn : Heap → Prop) (Kr : Int → Heap → Prop) (E : Value → Heap → Prop) (H : Heap) : Prop where
  h : vizardref14_right.J1.vc f0 x0 Kn Kr E H
def vizardref14_right.J4.vc (f0 : Addr) (i0 : Int) (x0 : Bool) (Kn : Heap → Prop) (Kr : Int → Heap → Prop) (E : Value → Heap → Prop) (h0 : Heap) : Prop :=
  (if x0 = true then
  Kr 3 h0
  else
  Kn h0)
structure vizardref14_right.J4 (f0 : Addr) (i0 : Int) (x0 : Bool) (Kn : Heap → Prop) (Kr : Int → Heap → Prop) (E : Value → Heap → Prop) (H : Heap) : Prop where
  h : vizardref14_right.J4.vc f0 i0 x0 Kn Kr E H
def vizardref14_right.J5.vc (f0 : Addr) (i0 : Int) (Kn : Int → Heap → Prop) (E : Value → Heap → Prop) (h0 : Heap) : Prop :=
  Kn (IntKind.i64.wrap (i0 + 1)) h0
structure vizardref14_right.J5 (f0 : Addr) (i0 : Int) (Kn : Int → Heap → Prop) (E : Value → Heap → Prop) (H : Heap) : Prop where
  h : vizardref14_right.J5.vc f0 i0 Kn E H
def vizardref14_right.W3.vc (f0 : Addr) (i0 : Int) (Kx0 : Heap → Prop) (Kr : Int → Heap → Prop) (RR : Int → Heap → Prop) (E : Value → Heap → Prop) (h0 : Heap) : Prop :=
  ldS h0 (f0.add 0) fun x0 =>
  (if (decide (i0 < (x0.size : Int))) = true then
  ldS h0 (f0.add 0) fun x1 =>
  (0 : Int) ≤ i0 ∧ i0 < (x1.size : Int) ∧
  (if (decide ((bt x1 i0) < 97)) = true then
  (if (decide ((bt x1 i0) < 48)) = true then
  (if ((bt x1 i0) != 45) = true then
  vizardref14_right.J4 f0 i0 ((bt x1 i0) != 58) (fun h1 =>
  vizardref14_right.J5 f0 i0 RR E h1) Kr E h0
  else
  vizardref14_right.J4 f0 i0 false (fun h4 =>
  vizardref14_right.J5 f0 i0 RR E h4) Kr E h0)
  else
  (if (decide ((bt x1 i0) > 57)) = true then
  (if ((bt x1 i0) != 45) = true then
  vizardref14_right.J4 f0 i0 ((bt x1 i0) != 58) (fun h7 =>
  vizardref14_right.J5 f0 i0 RR E h7) Kr E h0
  else
  vizardref14_right.J4 f0 i0 false (fun h10 =>
  vizardref14_right.J5 f0 i0 RR E h10) Kr E h0)
  else
  vizardref14_right.J4 f0 i0 false (fun h13 =>
  vizardref14_right.J5 f0 i0 RR E h13) Kr E h0))
  else
  (if (decide ((bt x1 i0) > 122)) = true then
  (if (decide ((bt x1 i0) < 48)) = true then
  (if ((bt x1 i0) != 45) = true then
  vizardref14_right.J4 f0 i0 ((bt x1 i0) != 58) (fun h16 =>
  vizardref14_right.J5 f0 i0 RR E h16) Kr E h0
  else
  vizardref14_right.J4 f0 i0 false (fun h19 =>
  vizardref14_right.J5 f0 i0 RR E h19) Kr E h0)
  else
  (if (decide ((bt x1 i0) > 57)) = true then
  (if ((bt x1 i0) != 45) = true then
  vizardref14_right.J4 f0 i0 ((bt x1 i0) != 58) (fun h22 =>
  vizardref14_right.J5 f0 i0 RR E h22) Kr E h0
  else
  vizardref14_right.J4 f0 i0 false (fun h25 =>
  vizardref14_right.J5 f0 i0 RR E h25) Kr E h0)
  else
  vizardref14_right.J4 f0 i0 false (fun h28 =>
  vizardref14_right.J5 f0 i0 RR E h28) Kr E h0))
  else
  vizardref14_right.J4 f0 i0 false (fun h31 =>
  vizardref14_right.J5 f0 i0 RR E h31) Kr E h0))
  else
  Kx0 h0)
structure vizardref14_right.W3 (f0 : Addr) (i0 : Int) (Kx0 : Heap → Prop) (Kr : Int → Heap → Prop) (E : Value → Heap → Prop) (H : Heap) : Prop where
  h : Loop (fun (RR : Int → Heap → Prop) (s : Int) (H : Heap) => vizardref14_right.W3.vc f0 s Kx0 Kr (fun i0 H => RR (i0) H) E H) (i0) H
def vizardref14_right.J7.vc (f0 : Addr) (i0 : Int) (x0 : Bool) (Kn : Heap → Prop) (Kr : Int → Heap → Prop) (E : Value → Heap → Prop) (h0 : Heap) : Prop :=
  (if x0 = true then
  Kr 3 h0
  else
  Kn h0)
structure vizardref14_right.J7 (f0 : Addr) (i0 : Int) (x0 : Bool) (Kn : Heap → Prop) (Kr : Int → Heap → Prop) (E : Value → Heap → Prop) (H : Heap) : Prop where
  h : vizardref14_right.J7.vc f0 i0 x0 Kn Kr E H
def vizardref14_right.J8.vc (f0 : Addr) (i0 : Int) (Kn : Int → Heap → Prop) (E : Value → Heap → Prop) (h0 : Heap) : Prop :=
  Kn (IntKind.i64.wrap (i0 + 1)) h0
structure vizardref14_right.J8 (f0 : Addr) (i0 : Int) (Kn : Int → Heap → Prop) (E : Value → Heap → Prop) (H : Heap) : Prop where
  h : vizardref14_right.J8.vc f0 i0 Kn E H
def vizardref14_right.W6.vc (f0 : Addr) (i0 : Int) (Kx2 : Heap → Prop) (Kr : Int → Heap → Prop) (RR : Int → Heap → Prop) (E : Value → Heap → Prop) (h0 : Heap) : Prop :=
  ldS h0 (f0.add 1) fun x0 =>
  (if (decide (i0 < (x0.size : Int))) = true then
  ldS h0 (f0.add 1) fun x1 =>
  (0 : Int) ≤ i0 ∧ i0 < (x1.size : Int) ∧
  (if (decide ((bt x1 i0) < 32)) = true then
  vizardref14_right.J7 f0 i0 true (fun h1 =>
  vizardref14_right.J8 f0 i0 RR E h1) Kr E h0
  else
  ldS h0 (f0.add 1) fun x3 =>
  (0 : Int) ≤ i0 ∧ i0 < (x3.size : Int) ∧
  vizardref14_right.J7 f0 i0 (decide ((bt x3 i0) > 126)) (fun h4 =>
  vizardref14_right.J8 f0 i0 RR E h4) Kr E h0)
  else
  Kx2 h0)
structure vizardref14_right.W6 (f0 : Addr) (i0 : Int) (Kx2 : Heap → Prop) (Kr : Int → Heap → Prop) (E : Value → Heap → Prop) (H : Heap) : Prop where
  h : Loop (fun (RR : Int → Heap → Prop) (s : Int) (H : Heap) => vizardref14_right.W6.vc f0 s Kx2 Kr (fun i0 H => RR (i0) H) E H) (i0) H
def vizardref14_right.J2.vc (f0 : Addr) (Kr : Int → Heap → Prop) (E : Value → Heap → Prop) (h0 : Heap) : Prop :=
  ldS h0 (f0.add 0) fun x0 =>
  (if (x0.toList == (⟨#[]⟩ : ByteArray).toList) = true then
  Kr 3 h0
  else
  vizardref14_right.W3 f0 0 (fun h1 =>
  vizardref14_right.W6 f0 0 (fun h2 =>
  Kr 0 h2) Kr E h1) Kr E h0)
structure vizardref14_right.J2 (f0 : Addr) (Kr : Int → Heap → Prop) (E : Value → Heap → Prop) (H : Heap) : Prop where
  h : vizardref14_right.J2.vc f0 Kr E H
def vizardref14_right.vc (f0 : ByteArray) (f1 : ByteArray) (K : Int → Heap → Prop) (E : Value → Heap → Prop) (h0 : Heap) : Prop :=
  newB (.cells #[(.string f0), (.string f1)] 35) (fun b0 h1 =>
  ldS h1 ((⟨b0, 0, none⟩ : Addr).add 0) fun x0 =>
  (if (decide ((x0.size : Int) > 256)) = true then
  vizardref14_right.J1 (⟨b0, 0, none⟩ : Addr) true (fun h2 =>
  vizardref14_right.J2 (⟨b0, 0, none⟩ : Addr) K E h2) K E h1
  else
  ldS h1 ((⟨b0, 0, none⟩ : Addr).add 1) fun x3 =>
  vizardref14_right.J1 (⟨b0, 0, none⟩ : Addr) (decide ((x3.size : Int) > 256)) (fun h5 =>
  vizardref14_right.J2 (⟨b0, 0, none⟩ : Addr) K E h5) K E h1)) h0
structure vizardref14_right.c (f0 : ByteArray) (f1 : ByteArray) (K : Int → Heap → Prop) (E : Value → Heap → Prop) (H : Heap) : Prop where
  h : vizardref14_right.vc f0 f1 (fun r0_0 H => ∃ H', Heap.Le H' H ∧ K r0_0 H') E H
def vizardref14_right.F : FT := fun args K E H => match args with
  | [(.agg ⟨[(.string f0), (.string f1)]⟩)] => vizardref14_right.c f0 f1 (fun r0_0 H => K (.int .i64 r0_0) H) E H
  | _ => False
noncomputable def vizardref14_right.Γ : FuncId → Option FT := Γof []
theorem vizardref14_right.hΓ : ∀ f F, vizardref14_right.Γ f = some F → CalleeOk Tryd.prog f F := Γof_ok (fun _ h => nomatch h)
def vizardref14_right.J1.t : CT := fun Q E fr H => lenIs 71 fr (slPA fr 1 fun f0 => slB fr 15 fun x0 => vizardref14_right.J1 f0 x0 (fun  H => Q .normal (mkF 71 [(1, (.pointer (some f0)))]) H) (fun y2_0 H => Q .ret (mkF 71 [(2, (.int .i64 y2_0))]) H) E H)
noncomputable def vizardref14_right.J1.plan : Plan := .go
theorem vizardref14_right.J1.pok : PlanOk Tryd.prog vizardref14_right.J1.plan (sub [1, 0, 1] vizardref14_right.body) := by
  have e : PlanOk Tryd.prog vizardref14_right.J1.plan (sub [1, 0, 1] vizardref14_right.body) = (True) := by kernel_rfl
  exact e.mpr trivial
theorem vizardref14_right.J1.eq (f0 : Addr) (x0 : Bool) (Q : Ex → Fr → Heap → Prop) (E : Value → Heap → Prop) (H : Heap) :
    vizardref14_right.J1.vc f0 x0 (fun  H => Q .normal (mkF 71 [(1, (.pointer (some f0)))]) H) (fun y2_0 H => Q .ret (mkF 71 [(2, (.int .i64 y2_0))]) H) E H = keepT [1] [2] (fun i => []) (wC Tryd.prog vizardref14_right.Γ vizardref14_right.J1.plan (sub [1, 0, 1] vizardref14_right.body)) Q E (mkF 71 [(1, (.pointer (some f0))), (15, (.bool x0))]) H := by
  kernel_rfl
theorem vizardref14_right.J1.ok : SoundCode Tryd.prog (sub [1, 0, 1] vizardref14_right.body) vizardref14_right.J1.t := by
  refine piece_sound (keepT_sound [1] [2] (fun i => []) (wC_sound vizardref14_right.hΓ Tryd.hm vizardref14_right.J1.plan _ vizardref14_right.J1.pok)) ?_
  intro Q E fr H h
  unfold vizardref14_right.J1.t at h
  obtain ⟨hl, h⟩ := lenIs_elim h
  obtain ⟨f0, q1, h⟩ := slPA_elim h
  obtain ⟨x0, q15, h⟩ := slB_elim h
  refine ⟨(mkF 71 [(1, (.pointer (some f0))), (15, (.bool x0))]), fun a ha => ha.mk (Nat.le_of_eq hl.symm) (List.forall_mem_cons.2 ⟨q1, List.forall_mem_cons.2 ⟨q15, fun _ h => nomatch h⟩⟩), ?_⟩
  have e := vizardref14_right.J1.eq f0 x0 Q E H
  rw [← e]
  exact h.h
def vizardref14_right.J4.t : CT := fun Q E fr H => lenIs 71 fr (slPA fr 1 fun f0 => slI fr 3 .i64 fun i0 => slB fr 51 fun x0 => vizardref14_right.J4 f0 i0 x0 (fun  H => Q .normal (mkF 71 [(1, (.pointer (some f0))), (3, (.int .i64 i0))]) H) (fun y2_0 H => Q .ret (mkF 71 [(2, (.int .i64 y2_0))]) H) E H)
noncomputable def vizardref14_right.J4.plan : Plan := .go
theorem vizardref14_right.J4.pok : PlanOk Tryd.prog vizardref14_right.J4.plan (sub [1, 1, 1, 0, 1, 0, 0, 1, 0, 0, 1, 1] vizardref14_right.body) := by
  have e : PlanOk Tryd.prog vizardref14_right.J4.plan (sub [1, 1, 1, 0, 1, 0, 0, 1, 0, 0, 1, 1] vizardref14_right.body) = (True) := by kernel_rfl
  exact e.mpr trivial
theorem vizardref14_right.J4.eq (f0 : Addr) (i0 : Int) (x0 : Bool) (Q : Ex → Fr → Heap → Prop) (E : Value → Heap → Prop) (H : Heap) :
    vizardref14_right.J4.vc f0 i0 x0 (fun  H => Q .normal (mkF 71 [(1, (.pointer (some f0))), (3, (.int .i64 i0))]) H) (fun y2_0 H => Q .ret (mkF 71 [(2, (.int .i64 y2_0))]) H) E H = keepT [1, 3] [2] (fun i => []) (wC Tryd.prog vizardref14_right.Γ vizardref14_right.J4.plan (sub [1, 1, 1, 0, 1, 0, 0, 1, 0, 0, 1, 1] vizardref14_right.body)) Q E (mkF 71 [(1, (.pointer (some f0))), (3, (.int .i64 i0)), (51, (.bool x0))]) H := by
  kernel_rfl
theorem vizardref14_right.J4.ok : SoundCode Tryd.prog (sub [1, 1, 1, 0, 1, 0, 0, 1, 0, 0, 1, 1] vizardref14_right.body) vizardref14_right.J4.t := by
  refine piece_sound (keepT_sound [1, 3] [2] (fun i => []) (wC_sound vizardref14_right.hΓ Tryd.hm vizardref14_right.J4.plan _ vizardref14_right.J4.pok)) ?_
  intro Q E fr H h
  unfold vizardref14_right.J4.t at h
  obtain ⟨hl, h⟩ := lenIs_elim h
  obtain ⟨f0, q1, h⟩ := slPA_elim h
  obtain ⟨i0, q3, h⟩ := slI_elim h
  obtain ⟨x0, q51, h⟩ := slB_elim h
  refine ⟨(mkF 71 [(1, (.pointer (some f0))), (3, (.int .i64 i0)), (51, (.bool x0))]), fun a ha => ha.mk (Nat.le_of_eq hl.symm) (List.forall_mem_cons.2 ⟨q1, List.forall_mem_cons.2 ⟨q3, List.forall_mem_cons.2 ⟨q51, fun _ h => nomatch h⟩⟩⟩), ?_⟩
  have e := vizardref14_right.J4.eq f0 i0 x0 Q E H
  rw [← e]
  exact h.h
def vizardref14_right.J5.t : CT := fun Q E fr H => lenIs 71 fr (slPA fr 1 fun f0 => slI fr 3 .i64 fun i0 => vizardref14_right.J5 f0 i0 (fun y3_0 H => Q .normal (mkF 71 [(1, (.pointer (some f0))), (3, (.int .i64 y3_0))]) H) E H)
noncomputable def vizardref14_right.J5.plan : Plan := .go
theorem vizardref14_right.J5.pok : PlanOk Tryd.prog vizardref14_right.J5.plan (sub [1, 1, 1, 0, 1, 0, 0, 1, 1] vizardref14_right.body) := by
  have e : PlanOk Tryd.prog vizardref14_right.J5.plan (sub [1, 1, 1, 0, 1, 0, 0, 1, 1] vizardref14_right.body) = (True) := by kernel_rfl
  exact e.mpr trivial
theorem vizardref14_right.J5.eq (f0 : Addr) (i0 : Int) (Q : Ex → Fr → Heap → Prop) (E : Value → Heap → Prop) (H : Heap) :
    vizardref14_right.J5.vc f0 i0 (fun y3_0 H => Q .normal (mkF 71 [(1, (.pointer (some f0))), (3, (.int .i64 y3_0))]) H) E H = keepT [1, 3] [] (fun i => []) (wC Tryd.prog vizardref14_right.Γ vizardref14_right.J5.plan (sub [1, 1, 1, 0, 1, 0, 0, 1, 1] vizardref14_right.body)) Q E (mkF 71 [(1, (.pointer (some f0))), (3, (.int .i64 i0))]) H := by
  kernel_rfl
theorem vizardref14_right.J5.ok : SoundCode Tryd.prog (sub [1, 1, 1, 0, 1, 0, 0, 1, 1] vizardref14_right.body) vizardref14_right.J5.t := by
  refine piece_sound (keepT_sound [1, 3] [] (fun i => []) (wC_sound vizardref14_right.hΓ Tryd.hm vizardref14_right.J5.plan _ vizardref14_right.J5.pok)) ?_
  intro Q E fr H h
  unfold vizardref14_right.J5.t at h
  obtain ⟨hl, h⟩ := lenIs_elim h
  obtain ⟨f0, q1, h⟩ := slPA_elim h
  obtain ⟨i0, q3, h⟩ := slI_elim h
  refine ⟨(mkF 71 [(1, (.pointer (some f0))), (3, (.int .i64 i0))]), fun a ha => ha.mk (Nat.le_of_eq hl.symm) (List.forall_mem_cons.2 ⟨q1, List.forall_mem_cons.2 ⟨q3, fun _ h => nomatch h⟩⟩), ?_⟩
  have e := vizardref14_right.J5.eq f0 i0 Q E H
  rw [← e]
  exact h.h
def vizardref14_right.W3.t : CT := fun Q E fr H => lenIs 71 fr (slPA fr 1 fun f0 => slI fr 3 .i64 fun i0 => vizardref14_right.W3 f0 i0 (fun  H => Q (.exit 0) (mkF 71 [(1, (.pointer (some f0)))]) H) (fun y2_0 H => Q .ret (mkF 71 [(2, (.int .i64 y2_0))]) H) E H)
noncomputable def vizardref14_right.W3.plan : Plan := .seq (.go) (.seq (.block (.seq (.go) (.seq (.go) (.use vizardref14_right.J4.t)))) (.use vizardref14_right.J5.t))
theorem vizardref14_right.W3.pok : PlanOk Tryd.prog vizardref14_right.W3.plan (sub [1, 1, 1, 0, 1, 0, 0] vizardref14_right.body) := by
  have e : PlanOk Tryd.prog vizardref14_right.W3.plan (sub [1, 1, 1, 0, 1, 0, 0] vizardref14_right.body) = ((True) ∧ (((True) ∧ ((True) ∧ (SoundCode Tryd.prog (sub [1, 1, 1, 0, 1, 0, 0, 1, 0, 0, 1, 1] vizardref14_right.body) vizardref14_right.J4.t))) ∧ (SoundCode Tryd.prog (sub [1, 1, 1, 0, 1, 0, 0, 1, 1] vizardref14_right.body) vizardref14_right.J5.t))) := by kernel_rfl
  exact e.mpr ⟨trivial, ⟨⟨trivial, ⟨trivial, vizardref14_right.J4.ok⟩⟩, vizardref14_right.J5.ok⟩⟩
theorem vizardref14_right.W3.eq (f0 : Addr) (Q : Ex → Fr → Heap → Prop) (E : Value → Heap → Prop) (RR : Fr → Heap → Prop) (s : Int) (H : Heap) :
    (fun (RR : Int → Heap → Prop) (s : Int) (H : Heap) => vizardref14_right.W3.vc f0 s (fun  H => Q (.exit 0) (mkF 71 [(1, (.pointer (some f0)))]) H) (fun y2_0 H => Q .ret (mkF 71 [(2, (.int .i64 y2_0))]) H) (fun i0 H => RR (i0) H) E H) (fun s' H' => RR ((fun (s : Int) => (mkF 71 [(1, (.pointer (some f0))), (3, (.int .i64 s))])) s') H') s H = keepT [1, 3] [2] (fun i => if i = 0 then [1] else []) (wC Tryd.prog vizardref14_right.Γ vizardref14_right.W3.plan (sub [1, 1, 1, 0, 1, 0, 0] vizardref14_right.body)) (fun e fr' H' => match e with | .normal => RR fr' H' | .exit id => Q (.exit id) fr' H' | .ret => Q .ret fr' H') E ((fun (s : Int) => (mkF 71 [(1, (.pointer (some f0))), (3, (.int .i64 s))])) s) H := by
  kernel_rfl
theorem vizardref14_right.W3.ok : SoundCode Tryd.prog (sub [1, 1, 1, 0, 1, 0] vizardref14_right.body) vizardref14_right.W3.t := by
  have e : (sub [1, 1, 1, 0, 1, 0] vizardref14_right.body) = .loop (sub [1, 1, 1, 0, 1, 0, 0] vizardref14_right.body) := by kernel_rfl
  rw [e]
  refine piece_sound (loopN_sound (keepT_sound [1, 3] [2] (fun i => if i = 0 then [1] else []) (wC_sound vizardref14_right.hΓ Tryd.hm vizardref14_right.W3.plan _ vizardref14_right.W3.pok))) ?_
  intro Q E fr H h
  unfold vizardref14_right.W3.t at h
  obtain ⟨hl, h⟩ := lenIs_elim h
  obtain ⟨f0, q1, h⟩ := slPA_elim h
  obtain ⟨i0, q3, h⟩ := slI_elim h
  obtain ⟨m, h⟩ := h.h
  refine ⟨(mkF 71 [(1, (.pointer (some f0))), (3, (.int .i64 i0))]), fun a ha => ha.mk (Nat.le_of_eq hl.symm) (List.forall_mem_cons.2 ⟨q1, List.forall_mem_cons.2 ⟨q3, fun _ h => nomatch h⟩⟩), m, ?_⟩
  have e := loopS_eq (B := (fun (RR : Int → Heap → Prop) (s : Int) (H : Heap) => vizardref14_right.W3.vc f0 s (fun  H => Q (.exit 0) (mkF 71 [(1, (.pointer (some f0)))]) H) (fun y2_0 H => Q .ret (mkF 71 [(2, (.int .i64 y2_0))]) H) (fun i0 H => RR (i0) H) E H)) (A := keepT [1, 3] [2] (fun i => if i = 0 then [1] else []) (wC Tryd.prog vizardref14_right.Γ vizardref14_right.W3.plan (sub [1, 1, 1, 0, 1, 0, 0] vizardref14_right.body))) (m := (fun (s : Int) => (mkF 71 [(1, (.pointer (some f0))), (3, (.int .i64 s))]))) (Q := Q) (E := E) (fun RR s H => vizardref14_right.W3.eq f0 Q E RR s H) m (i0) H
  exact cast e h
def vizardref14_right.J7.t : CT := fun Q E fr H => lenIs 71 fr (slPA fr 1 fun f0 => slI fr 5 .i64 fun i0 => slB fr 70 fun x0 => vizardref14_right.J7 f0 i0 x0 (fun  H => Q .normal (mkF 71 [(1, (.pointer (some f0))), (5, (.int .i64 i0))]) H) (fun y2_0 H => Q .ret (mkF 71 [(2, (.int .i64 y2_0))]) H) E H)
noncomputable def vizardref14_right.J7.plan : Plan := .go
theorem vizardref14_right.J7.pok : PlanOk Tryd.prog vizardref14_right.J7.plan (sub [1, 1, 1, 1, 0, 1, 0, 0, 1, 0, 0, 1] vizardref14_right.body) := by
  have e : PlanOk Tryd.prog vizardref14_right.J7.plan (sub [1, 1, 1, 1, 0, 1, 0, 0, 1, 0, 0, 1] vizardref14_right.body) = (True) := by kernel_rfl
  exact e.mpr trivial
theorem vizardref14_right.J7.eq (f0 : Addr) (i0 : Int) (x0 : Bool) (Q : Ex → Fr → Heap → Prop) (E : Value → Heap → Prop) (H : Heap) :
    vizardref14_right.J7.vc f0 i0 x0 (fun  H => Q .normal (mkF 71 [(1, (.pointer (some f0))), (5, (.int .i64 i0))]) H) (fun y2_0 H => Q .ret (mkF 71 [(2, (.int .i64 y2_0))]) H) E H = keepT [1, 5] [2] (fun i => []) (wC Tryd.prog vizardref14_right.Γ vizardref14_right.J7.plan (sub [1, 1, 1, 1, 0, 1, 0, 0, 1, 0, 0, 1] vizardref14_right.body)) Q E (mkF 71 [(1, (.pointer (some f0))), (5, (.int .i64 i0)), (70, (.bool x0))]) H := by
  kernel_rfl
theorem vizardref14_right.J7.ok : SoundCode Tryd.prog (sub [1, 1, 1, 1, 0, 1, 0, 0, 1, 0, 0, 1] vizardref14_right.body) vizardref14_right.J7.t := by
  refine piece_sound (keepT_sound [1, 5] [2] (fun i => []) (wC_sound vizardref14_right.hΓ Tryd.hm vizardref14_right.J7.plan _ vizardref14_right.J7.pok)) ?_
  intro Q E fr H h
  unfold vizardref14_right.J7.t at h
  obtain ⟨hl, h⟩ := lenIs_elim h
  obtain ⟨f0, q1, h⟩ := slPA_elim h
  obtain ⟨i0, q5, h⟩ := slI_elim h
  obtain ⟨x0, q70, h⟩ := slB_elim h
  refine ⟨(mkF 71 [(1, (.pointer (some f0))), (5, (.int .i64 i0)), (70, (.bool x0))]), fun a ha => ha.mk (Nat.le_of_eq hl.symm) (List.forall_mem_cons.2 ⟨q1, List.forall_mem_cons.2 ⟨q5, List.forall_mem_cons.2 ⟨q70, fun _ h => nomatch h⟩⟩⟩), ?_⟩
  have e := vizardref14_right.J7.eq f0 i0 x0 Q E H
  rw [← e]
  exact h.h
def vizardref14_right.J8.t : CT := fun Q E fr H => lenIs 71 fr (slPA fr 1 fun f0 => slI fr 5 .i64 fun i0 => vizardref14_right.J8 f0 i0 (fun y5_0 H => Q .normal (mkF 71 [(1, (.pointer (some f0))), (5, (.int .i64 y5_0))]) H) E H)
noncomputable def vizardref14_right.J8.plan : Plan := .go
theorem vizardref14_right.J8.pok : PlanOk Tryd.prog vizardref14_right.J8.plan (sub [1, 1, 1, 1, 0, 1, 0, 0, 1, 1] vizardref14_right.body) := by
  have e : PlanOk Tryd.prog vizardref14_right.J8.plan (sub [1, 1, 1, 1, 0, 1, 0, 0, 1, 1] vizardref14_right.body) = (True) := by kernel_rfl
  exact e.mpr trivial
theorem vizardref14_right.J8.eq (f0 : Addr) (i0 : Int) (Q : Ex → Fr → Heap → Prop) (E : Value → Heap → Prop) (H : Heap) :
    vizardref14_right.J8.vc f0 i0 (fun y5_0 H => Q .normal (mkF 71 [(1, (.pointer (some f0))), (5, (.int .i64 y5_0))]) H) E H = keepT [1, 5] [] (fun i => []) (wC Tryd.prog vizardref14_right.Γ vizardref14_right.J8.plan (sub [1, 1, 1, 1, 0, 1, 0, 0, 1, 1] vizardref14_right.body)) Q E (mkF 71 [(1, (.pointer (some f0))), (5, (.int .i64 i0))]) H := by
  kernel_rfl
theorem vizardref14_right.J8.ok : SoundCode Tryd.prog (sub [1, 1, 1, 1, 0, 1, 0, 0, 1, 1] vizardref14_right.body) vizardref14_right.J8.t := by
  refine piece_sound (keepT_sound [1, 5] [] (fun i => []) (wC_sound vizardref14_right.hΓ Tryd.hm vizardref14_right.J8.plan _ vizardref14_right.J8.pok)) ?_
  intro Q E fr H h
  unfold vizardref14_right.J8.t at h
  obtain ⟨hl, h⟩ := lenIs_elim h
  obtain ⟨f0, q1, h⟩ := slPA_elim h
  obtain ⟨i0, q5, h⟩ := slI_elim h
  refine ⟨(mkF 71 [(1, (.pointer (some f0))), (5, (.int .i64 i0))]), fun a ha => ha.mk (Nat.le_of_eq hl.symm) (List.forall_mem_cons.2 ⟨q1, List.forall_mem_cons.2 ⟨q5, fun _ h => nomatch h⟩⟩), ?_⟩
  have e := vizardref14_right.J8.eq f0 i0 Q E H
  rw [← e]
  exact h.h
def vizardref14_right.W6.t : CT := fun Q E fr H => lenIs 71 fr (slPA fr 1 fun f0 => slI fr 5 .i64 fun i0 => vizardref14_right.W6 f0 i0 (fun  H => Q (.exit 2) (mkF 71 []) H) (fun y2_0 H => Q .ret (mkF 71 [(2, (.int .i64 y2_0))]) H) E H)
noncomputable def vizardref14_right.W6.plan : Plan := .seq (.go) (.seq (.block (.seq (.go) (.use vizardref14_right.J7.t))) (.use vizardref14_right.J8.t))
theorem vizardref14_right.W6.pok : PlanOk Tryd.prog vizardref14_right.W6.plan (sub [1, 1, 1, 1, 0, 1, 0, 0] vizardref14_right.body) := by
  have e : PlanOk Tryd.prog vizardref14_right.W6.plan (sub [1, 1, 1, 1, 0, 1, 0, 0] vizardref14_right.body) = ((True) ∧ (((True) ∧ (SoundCode Tryd.prog (sub [1, 1, 1, 1, 0, 1, 0, 0, 1, 0, 0, 1] vizardref14_right.body) vizardref14_right.J7.t)) ∧ (SoundCode Tryd.prog (sub [1, 1, 1, 1, 0, 1, 0, 0, 1, 1] vizardref14_right.body) vizardref14_right.J8.t))) := by kernel_rfl
  exact e.mpr ⟨trivial, ⟨⟨trivial, vizardref14_right.J7.ok⟩, vizardref14_right.J8.ok⟩⟩
theorem vizardref14_right.W6.eq (f0 : Addr) (Q : Ex → Fr → Heap → Prop) (E : Value → Heap → Prop) (RR : Fr → Heap → Prop) (s : Int) (H : Heap) :
    (fun (RR : Int → Heap → Prop) (s : Int) (H : Heap) => vizardref14_right.W6.vc f0 s (fun  H => Q (.exit 2) (mkF 71 []) H) (fun y2_0 H => Q .ret (mkF 71 [(2, (.int .i64 y2_0))]) H) (fun i0 H => RR (i0) H) E H) (fun s' H' => RR ((fun (s : Int) => (mkF 71 [(1, (.pointer (some f0))), (5, (.int .i64 s))])) s') H') s H = keepT [1, 5] [2] (fun i => if i = 2 then [] else []) (wC Tryd.prog vizardref14_right.Γ vizardref14_right.W6.plan (sub [1, 1, 1, 1, 0, 1, 0, 0] vizardref14_right.body)) (fun e fr' H' => match e with | .normal => RR fr' H' | .exit id => Q (.exit id) fr' H' | .ret => Q .ret fr' H') E ((fun (s : Int) => (mkF 71 [(1, (.pointer (some f0))), (5, (.int .i64 s))])) s) H := by
  kernel_rfl
theorem vizardref14_right.W6.ok : SoundCode Tryd.prog (sub [1, 1, 1, 1, 0, 1, 0] vizardref14_right.body) vizardref14_right.W6.t := by
  have e : (sub [1, 1, 1, 1, 0, 1, 0] vizardref14_right.body) = .loop (sub [1, 1, 1, 1, 0, 1, 0, 0] vizardref14_right.body) := by kernel_rfl
  rw [e]
  refine piece_sound (loopN_sound (keepT_sound [1, 5] [2] (fun i => if i = 2 then [] else []) (wC_sound vizardref14_right.hΓ Tryd.hm vizardref14_right.W6.plan _ vizardref14_right.W6.pok))) ?_
  intro Q E fr H h
  unfold vizardref14_right.W6.t at h
  obtain ⟨hl, h⟩ := lenIs_elim h
  obtain ⟨f0, q1, h⟩ := slPA_elim h
  obtain ⟨i0, q5, h⟩ := slI_elim h
  obtain ⟨m, h⟩ := h.h
  refine ⟨(mkF 71 [(1, (.pointer (some f0))), (5, (.int .i64 i0))]), fun a ha => ha.mk (Nat.le_of_eq hl.symm) (List.forall_mem_cons.2 ⟨q1, List.forall_mem_cons.2 ⟨q5, fun _ h => nomatch h⟩⟩), m, ?_⟩
  have e := loopS_eq (B := (fun (RR : Int → Heap → Prop) (s : Int) (H : Heap) => vizardref14_right.W6.vc f0 s (fun  H => Q (.exit 2) (mkF 71 []) H) (fun y2_0 H => Q .ret (mkF 71 [(2, (.int .i64 y2_0))]) H) (fun i0 H => RR (i0) H) E H)) (A := keepT [1, 5] [2] (fun i => if i = 2 then [] else []) (wC Tryd.prog vizardref14_right.Γ vizardref14_right.W6.plan (sub [1, 1, 1, 1, 0, 1, 0, 0] vizardref14_right.body))) (m := (fun (s : Int) => (mkF 71 [(1, (.pointer (some f0))), (5, (.int .i64 s))]))) (Q := Q) (E := E) (fun RR s H => vizardref14_right.W6.eq f0 Q E RR s H) m (i0) H
  exact cast e h
def vizardref14_right.J2.t : CT := fun Q E fr H => lenIs 71 fr (slPA fr 1 fun f0 => vizardref14_right.J2 f0 (fun y2_0 H => Q .ret (mkF 71 [(2, (.int .i64 y2_0))]) H) E H)
noncomputable def vizardref14_right.J2.plan : Plan := .seq (.go) (.seq (.seq (.go) (.block (.use vizardref14_right.W3.t))) (.seq (.seq (.go) (.block (.use vizardref14_right.W6.t))) (.go)))
theorem vizardref14_right.J2.pok : PlanOk Tryd.prog vizardref14_right.J2.plan (sub [1, 1] vizardref14_right.body) := by
  have e : PlanOk Tryd.prog vizardref14_right.J2.plan (sub [1, 1] vizardref14_right.body) = ((True) ∧ (((True) ∧ (SoundCode Tryd.prog (sub [1, 1, 1, 0, 1, 0] vizardref14_right.body) vizardref14_right.W3.t)) ∧ (((True) ∧ (SoundCode Tryd.prog (sub [1, 1, 1, 1, 0, 1, 0] vizardref14_right.body) vizardref14_right.W6.t)) ∧ (True)))) := by kernel_rfl
  exact e.mpr ⟨trivial, ⟨⟨trivial, vizardref14_right.W3.ok⟩, ⟨⟨trivial, vizardref14_right.W6.ok⟩, trivial⟩⟩⟩
theorem vizardref14_right.J2.eq (f0 : Addr) (Q : Ex → Fr → Heap → Prop) (E : Value → Heap → Prop) (H : Heap) :
    vizardref14_right.J2.vc f0 (fun y2_0 H => Q .ret (mkF 71 [(2, (.int .i64 y2_0))]) H) E H = keepT [] [2] (fun i => []) (wC Tryd.prog vizardref14_right.Γ vizardref14_right.J2.plan (sub [1, 1] vizardref14_right.body)) Q E (mkF 71 [(1, (.pointer (some f0)))]) H := by
  kernel_rfl
theorem vizardref14_right.J2.ok : SoundCode Tryd.prog (sub [1, 1] vizardref14_right.body) vizardref14_right.J2.t := by
  refine piece_sound (keepT_sound [] [2] (fun i => []) (wC_sound vizardref14_right.hΓ Tryd.hm vizardref14_right.J2.plan _ vizardref14_right.J2.pok)) ?_
  intro Q E fr H h
  unfold vizardref14_right.J2.t at h
  obtain ⟨hl, h⟩ := lenIs_elim h
  obtain ⟨f0, q1, h⟩ := slPA_elim h
  refine ⟨(mkF 71 [(1, (.pointer (some f0)))]), fun a ha => ha.mk (Nat.le_of_eq hl.symm) (List.forall_mem_cons.2 ⟨q1, fun _ h => nomatch h⟩), ?_⟩
  have e := vizardref14_right.J2.eq f0 Q E H
  rw [← e]
  exact h.h
noncomputable def vizardref14_right.plan : Plan := .seq (.go) (.seq (.seq (.go) (.use vizardref14_right.J1.t)) (.use vizardref14_right.J2.t))
theorem vizardref14_right.pok : PlanOk Tryd.prog vizardref14_right.plan vizardref14_right.body := by
  have e : PlanOk Tryd.prog vizardref14_right.plan vizardref14_right.body = ((True) ∧ (((True) ∧ (SoundCode Tryd.prog (sub [1, 0, 1] vizardref14_right.body) vizardref14_right.J1.t)) ∧ (SoundCode Tryd.prog (sub [1, 1] vizardref14_right.body) vizardref14_right.J2.t))) := by kernel_rfl
  exact e.mpr ⟨trivial, ⟨⟨trivial, vizardref14_right.J1.ok⟩, vizardref14_right.J2.ok⟩⟩
theorem vizardref14_right.eq (f0 : ByteArray) (f1 : ByteArray) (K : Value → Heap → Prop) (E : Value → Heap → Prop) (H : Heap) :
    fnT Tryd.prog Tryd.f32 (wC Tryd.prog vizardref14_right.Γ vizardref14_right.plan vizardref14_right.body) [(.agg #[(.string f0), (.string f1)])] K E H = vizardref14_right.vc f0 f1 (fun r0_0 H => K (.int .i64 r0_0) H) E H := by
  kernel_rfl
theorem vizardref14_right.Fe {args : List Value} {K E : Value → Heap → Prop} {H : Heap} (h : vizardref14_right.F args K E H) : ∃ f0 f1, args = [(.agg #[(.string f0), (.string f1)])] ∧ vizardref14_right.c f0 f1 (fun r0_0 H => K (.int .i64 r0_0) H) E H := by
  unfold vizardref14_right.F at h
  split at h
  · exact ⟨_, _, rfl, h⟩
  · exact h.elim
theorem vizardref14_right.ok : CalleeOk Tryd.prog 32 vizardref14_right.F :=
  callee_ok vizardref14_right.hΓ (fn := Tryd.f32) (c := vizardref14_right.body) (T := wC Tryd.prog vizardref14_right.Γ vizardref14_right.plan vizardref14_right.body) (by kernel_rfl) (by kernel_rfl) (by kernel_rfl) (wC_sound vizardref14_right.hΓ Tryd.hm vizardref14_right.plan _ vizardref14_right.pok) fun _ K E H h => by
    obtain ⟨z0, z1, e, h⟩ := vizardref14_right.Fe h
    subst e
    have h2 : vizardref14_right.vc z0 z1 (fun r0_0 H => ∃ H', Heap.Le H' H ∧ K (.int .i64 r0_0) H') E H := h.h
    rw [vizardref14_right.eq z0 z1 (Fg K) E H]
    exact h2

/-! vizard/vizardref14.Check -/
noncomputable def vizardref14_Check.body : Code := Tryd.f16.body.getD .skip
def vizardref14_Check.W1.vc (l0 : Option Addr) (l1 : Nat) (l2 : Nat) (i0 : Int) (Kx0 : Heap → Prop) (Kr : Int → Heap → Prop) (RR : Int → Heap → Prop) (E : Value → Heap → Prop) (h0 : Heap) : Prop :=
  (if (decide (i0 < (l1 : Int))) = true then
  nilc l0 fun a0 => (0 : Int) ≤ i0 ∧ i0 < (l1 : Int) ∧
  ldS h0 ((a0.add (i0.toNat * 2)).add 0) fun x0 => ldS h0 ((a0.add (i0.toNat * 2)).add 1) fun x1 =>
  vizardref14_right.c x0 x1 (fun x2 h1 =>
  (if (x2 != 0) = true then
  Kr x2 h1
  else
  RR (IntKind.i64.wrap (i0 + 1)) h1)) E h0
  else
  Kx0 h0)
structure vizardref14_Check.W1 (l0 : Option Addr) (l1 : Nat) (l2 : Nat) (i0 : Int) (Kx0 : Heap → Prop) (Kr : Int → Heap → Prop) (E : Value → Heap → Prop) (H : Heap) : Prop where
  h : Loop (fun (RR : Int → Heap → Prop) (s : Int) (H : Heap) => vizardref14_Check.W1.vc l0 l1 l2 s Kx0 Kr (fun i0 H => RR (i0) H) E H) (i0) H
def vizardref14_Check.vc (l0 : Option Addr) (l1 : Nat) (l2 : Nat) (K : Int → Heap → Prop) (E : Value → Heap → Prop) (h0 : Heap) : Prop :=
  (if (decide ((l1 : Int) > 16)) = true then
  K 8 h0
  else
  vizardref14_Check.W1 l0 l1 l2 0 (fun h1 =>
  K 0 h1) K E h0)
structure vizardref14_Check.c (l0 : Option Addr) (l1 : Nat) (l2 : Nat) (K : Int → Heap → Prop) (E : Value → Heap → Prop) (H : Heap) : Prop where
  h : vizardref14_Check.vc l0 l1 l2 (fun r0_0 H => ∃ H', Heap.Le H' H ∧ K r0_0 H') E H
def vizardref14_Check.F : FT := fun args K E H => match args with
  | [(.slice l0 l1 l2)] => vizardref14_Check.c l0 l1 l2 (fun r0_0 H => K (.int .i64 r0_0) H) E H
  | _ => False
noncomputable def vizardref14_Check.Γ : FuncId → Option FT := Γof [(32, vizardref14_right.F)]
theorem vizardref14_Check.hΓ : ∀ f F, vizardref14_Check.Γ f = some F → CalleeOk Tryd.prog f F := Γof_ok (List.forall_mem_cons.2 ⟨vizardref14_right.ok, fun _ h => nomatch h⟩)
def vizardref14_Check.W1.t : CT := fun Q E fr H => lenIs 22 fr (slSl fr 0 fun l0 l1 l2 => slI fr 3 .i64 fun i0 => vizardref14_Check.W1 l0 l1 l2 i0 (fun  H => Q (.exit 0) (mkF 22 []) H) (fun y2_0 H => Q .ret (mkF 22 [(2, (.int .i64 y2_0))]) H) E H)
noncomputable def vizardref14_Check.W1.plan : Plan := .go
theorem vizardref14_Check.W1.pok : PlanOk Tryd.prog vizardref14_Check.W1.plan (sub [1, 1, 0, 1, 0, 0] vizardref14_Check.body) := by
  have e : PlanOk Tryd.prog vizardref14_Check.W1.plan (sub [1, 1, 0, 1, 0, 0] vizardref14_Check.body) = (True) := by kernel_rfl
  exact e.mpr trivial
theorem vizardref14_Check.W1.eq (l0 : Option Addr) (l1 : Nat) (l2 : Nat) (Q : Ex → Fr → Heap → Prop) (E : Value → Heap → Prop) (RR : Fr → Heap → Prop) (s : Int) (H : Heap) :
    (fun (RR : Int → Heap → Prop) (s : Int) (H : Heap) => vizardref14_Check.W1.vc l0 l1 l2 s (fun  H => Q (.exit 0) (mkF 22 []) H) (fun y2_0 H => Q .ret (mkF 22 [(2, (.int .i64 y2_0))]) H) (fun i0 H => RR (i0) H) E H) (fun s' H' => RR ((fun (s : Int) => (mkF 22 [(0, (.slice l0 l1 l2)), (3, (.int .i64 s))])) s') H') s H = keepT [0, 3] [2] (fun i => if i = 0 then [] else []) (wC Tryd.prog vizardref14_Check.Γ vizardref14_Check.W1.plan (sub [1, 1, 0, 1, 0, 0] vizardref14_Check.body)) (fun e fr' H' => match e with | .normal => RR fr' H' | .exit id => Q (.exit id) fr' H' | .ret => Q .ret fr' H') E ((fun (s : Int) => (mkF 22 [(0, (.slice l0 l1 l2)), (3, (.int .i64 s))])) s) H := by
  kernel_rfl
theorem vizardref14_Check.W1.ok : SoundCode Tryd.prog (sub [1, 1, 0, 1, 0] vizardref14_Check.body) vizardref14_Check.W1.t := by
  have e : (sub [1, 1, 0, 1, 0] vizardref14_Check.body) = .loop (sub [1, 1, 0, 1, 0, 0] vizardref14_Check.body) := by kernel_rfl
  rw [e]
  refine piece_sound (loopN_sound (keepT_sound [0, 3] [2] (fun i => if i = 0 then [] else []) (wC_sound vizardref14_Check.hΓ Tryd.hm vizardref14_Check.W1.plan _ vizardref14_Check.W1.pok))) ?_
  intro Q E fr H h
  unfold vizardref14_Check.W1.t at h
  obtain ⟨hl, h⟩ := lenIs_elim h
  obtain ⟨l0, l1, l2, q0, h⟩ := slSl_elim h
  obtain ⟨i0, q3, h⟩ := slI_elim h
  obtain ⟨m, h⟩ := h.h
  refine ⟨(mkF 22 [(0, (.slice l0 l1 l2)), (3, (.int .i64 i0))]), fun a ha => ha.mk (Nat.le_of_eq hl.symm) (List.forall_mem_cons.2 ⟨q0, List.forall_mem_cons.2 ⟨q3, fun _ h => nomatch h⟩⟩), m, ?_⟩
  have e := loopS_eq (B := (fun (RR : Int → Heap → Prop) (s : Int) (H : Heap) => vizardref14_Check.W1.vc l0 l1 l2 s (fun  H => Q (.exit 0) (mkF 22 []) H) (fun y2_0 H => Q .ret (mkF 22 [(2, (.int .i64 y2_0))]) H) (fun i0 H => RR (i0) H) E H)) (A := keepT [0, 3] [2] (fun i => if i = 0 then [] else []) (wC Tryd.prog vizardref14_Check.Γ vizardref14_Check.W1.plan (sub [1, 1, 0, 1, 0, 0] vizardref14_Check.body))) (m := (fun (s : Int) => (mkF 22 [(0, (.slice l0 l1 l2)), (3, (.int .i64 s))]))) (Q := Q) (E := E) (fun RR s H => vizardref14_Check.W1.eq l0 l1 l2 Q E RR s H) m (i0) H
  exact cast e h
noncomputable def vizardref14_Check.plan : Plan := .seq (.go) (.seq (.go) (.seq (.seq (.go) (.block (.use vizardref14_Check.W1.t))) (.go)))
theorem vizardref14_Check.pok : PlanOk Tryd.prog vizardref14_Check.plan vizardref14_Check.body := by
  have e : PlanOk Tryd.prog vizardref14_Check.plan vizardref14_Check.body = ((True) ∧ ((True) ∧ (((True) ∧ (SoundCode Tryd.prog (sub [1, 1, 0, 1, 0] vizardref14_Check.body) vizardref14_Check.W1.t)) ∧ (True)))) := by kernel_rfl
  exact e.mpr ⟨trivial, ⟨trivial, ⟨⟨trivial, vizardref14_Check.W1.ok⟩, trivial⟩⟩⟩
theorem vizardref14_Check.eq (l0 : Option Addr) (l1 : Nat) (l2 : Nat) (K : Value → Heap → Prop) (E : Value → Heap → Prop) (H : Heap) :
    fnT Tryd.prog Tryd.f16 (wC Tryd.prog vizardref14_Check.Γ vizardref14_Check.plan vizardref14_Check.body) [(.slice l0 l1 l2)] K E H = vizardref14_Check.vc l0 l1 l2 (fun r0_0 H => K (.int .i64 r0_0) H) E H := by
  kernel_rfl
theorem vizardref14_Check.Fe {args : List Value} {K E : Value → Heap → Prop} {H : Heap} (h : vizardref14_Check.F args K E H) : ∃ l0 l1 l2, args = [(.slice l0 l1 l2)] ∧ vizardref14_Check.c l0 l1 l2 (fun r0_0 H => K (.int .i64 r0_0) H) E H := by
  unfold vizardref14_Check.F at h
  split at h
  · exact ⟨_, _, _, rfl, h⟩
  · exact h.elim
theorem vizardref14_Check.ok : CalleeOk Tryd.prog 16 vizardref14_Check.F :=
  callee_ok vizardref14_Check.hΓ (fn := Tryd.f16) (c := vizardref14_Check.body) (T := wC Tryd.prog vizardref14_Check.Γ vizardref14_Check.plan vizardref14_Check.body) (by kernel_rfl) (by kernel_rfl) (by kernel_rfl) (wC_sound vizardref14_Check.hΓ Tryd.hm vizardref14_Check.plan _ vizardref14_Check.pok) fun _ K E H h => by
    obtain ⟨z0, z1, z2, e, h⟩ := vizardref14_Check.Fe h
    subst e
    have h2 : vizardref14_Check.vc z0 z1 z2 (fun r0_0 H => ∃ H', Heap.Le H' H ∧ K (.int .i64 r0_0) H') E H := h.h
    rw [vizardref14_Check.eq z0 z1 z2 (Fg K) E H]
    exact h2

/-! vizard/vizardref14.Get -/
noncomputable def vizardref14_Get.body : Code := Tryd.f30.body.getD .skip
def vizardref14_Get.J2.vc (l0 : Option Addr) (l1 : Nat) (l2 : Nat) (name0 : ByteArray) (n0 : Int) (v0 : ByteArray) (i0 : Int) (Kn : Int → Heap → Prop) (E : Value → Heap → Prop) (h0 : Heap) : Prop :=
  Kn (IntKind.i64.wrap (i0 + 1)) h0
structure vizardref14_Get.J2 (l0 : Option Addr) (l1 : Nat) (l2 : Nat) (name0 : ByteArray) (n0 : Int) (v0 : ByteArray) (i0 : Int) (Kn : Int → Heap → Prop) (E : Value → Heap → Prop) (H : Heap) : Prop where
  h : vizardref14_Get.J2.vc l0 l1 l2 name0 n0 v0 i0 Kn E H
def vizardref14_Get.W1.vc (l0 : Option Addr) (l1 : Nat) (l2 : Nat) (name0 : ByteArray) (n0 : Int) (v0 : ByteArray) (i0 : Int) (Kx0 : Int → ByteArray → Heap → Prop) (RR : Int → ByteArray → Int → Heap → Prop) (E : Value → Heap → Prop) (h0 : Heap) : Prop :=
  (if (decide (i0 < (l1 : Int))) = true then
  nilc l0 fun a0 => (0 : Int) ≤ i0 ∧ i0 < (l1 : Int) ∧
  ldS h0 ((a0.add (i0.toNat * 2)).add 0) fun x0 =>
  (if (x0.toList == name0.toList) = true then
  nilc l0 fun a1 => (0 : Int) ≤ i0 ∧ i0 < (l1 : Int) ∧
  ldS h0 ((a1.add (i0.toNat * 2)).add 1) fun x1 =>
  vizardref14_Get.J2 l0 l1 l2 name0 (IntKind.i64.wrap (n0 + 1)) x1 i0 (fun i1 h1 =>
  RR (IntKind.i64.wrap (n0 + 1)) x1 i1 h1) E h0
  else
  vizardref14_Get.J2 l0 l1 l2 name0 n0 v0 i0 (fun i2 h2 =>
  RR n0 v0 i2 h2) E h0)
  else
  Kx0 n0 v0 h0)
structure vizardref14_Get.W1 (l0 : Option Addr) (l1 : Nat) (l2 : Nat) (name0 : ByteArray) (n0 : Int) (v0 : ByteArray) (i0 : Int) (Kx0 : Int → ByteArray → Heap → Prop) (E : Value → Heap → Prop) (H : Heap) : Prop where
  h : Loop (fun (RR : Int × ByteArray × Int → Heap → Prop) (s : Int × ByteArray × Int) (H : Heap) => vizardref14_Get.W1.vc l0 l1 l2 name0 s.1 s.2.1 s.2.2 Kx0 (fun n0 v0 i0 H => RR (n0, v0, i0) H) E H) (n0, v0, i0) H
def vizardref14_Get.vc (l0 : Option Addr) (l1 : Nat) (l2 : Nat) (name0 : ByteArray) (K : ByteArray → Bool → Heap → Prop) (E : Value → Heap → Prop) (h0 : Heap) : Prop :=
  vizardref14_Get.W1 l0 l1 l2 name0 0 (⟨#[]⟩ : ByteArray) 0 (fun n0 v0 h1 =>
  (if (n0 != 1) = true then
  K (⟨#[]⟩ : ByteArray) false h1
  else
  K v0 true h1)) E h0
structure vizardref14_Get.c (l0 : Option Addr) (l1 : Nat) (l2 : Nat) (name0 : ByteArray) (K : ByteArray → Bool → Heap → Prop) (E : Value → Heap → Prop) (H : Heap) : Prop where
  h : vizardref14_Get.vc l0 l1 l2 name0 (fun r0_0 r1_0 H => ∃ H', Heap.Le H' H ∧ K r0_0 r1_0 H') E H
def vizardref14_Get.F : FT := fun args K E H => match args with
  | [(.slice l0 l1 l2), (.string name0)] => vizardref14_Get.c l0 l1 l2 name0 (fun r0_0 r1_0 H => K (.tuple #[(.string r0_0), (.bool r1_0)]) H) E H
  | _ => False
noncomputable def vizardref14_Get.Γ : FuncId → Option FT := Γof []
theorem vizardref14_Get.hΓ : ∀ f F, vizardref14_Get.Γ f = some F → CalleeOk Tryd.prog f F := Γof_ok (fun _ h => nomatch h)
def vizardref14_Get.J2.t : CT := fun Q E fr H => lenIs 32 fr (slSl fr 0 fun l0 l1 l2 => slS fr 1 fun name0 => slI fr 6 .i64 fun n0 => slS fr 7 fun v0 => slI fr 8 .i64 fun i0 => vizardref14_Get.J2 l0 l1 l2 name0 n0 v0 i0 (fun y8_0 H => Q .normal (mkF 32 [(0, (.slice l0 l1 l2)), (1, (.string name0)), (6, (.int .i64 n0)), (7, (.string v0)), (8, (.int .i64 y8_0))]) H) E H)
noncomputable def vizardref14_Get.J2.plan : Plan := .go
theorem vizardref14_Get.J2.pok : PlanOk Tryd.prog vizardref14_Get.J2.plan (sub [1, 1, 1, 0, 1, 0, 0, 1, 1] vizardref14_Get.body) := by
  have e : PlanOk Tryd.prog vizardref14_Get.J2.plan (sub [1, 1, 1, 0, 1, 0, 0, 1, 1] vizardref14_Get.body) = (True) := by kernel_rfl
  exact e.mpr trivial
theorem vizardref14_Get.J2.eq (l0 : Option Addr) (l1 : Nat) (l2 : Nat) (name0 : ByteArray) (n0 : Int) (v0 : ByteArray) (i0 : Int) (Q : Ex → Fr → Heap → Prop) (E : Value → Heap → Prop) (H : Heap) :
    vizardref14_Get.J2.vc l0 l1 l2 name0 n0 v0 i0 (fun y8_0 H => Q .normal (mkF 32 [(0, (.slice l0 l1 l2)), (1, (.string name0)), (6, (.int .i64 n0)), (7, (.string v0)), (8, (.int .i64 y8_0))]) H) E H = keepT [0, 1, 6, 7, 8] [] (fun i => []) (wC Tryd.prog vizardref14_Get.Γ vizardref14_Get.J2.plan (sub [1, 1, 1, 0, 1, 0, 0, 1, 1] vizardref14_Get.body)) Q E (mkF 32 [(0, (.slice l0 l1 l2)), (1, (.string name0)), (6, (.int .i64 n0)), (7, (.string v0)), (8, (.int .i64 i0))]) H := by
  kernel_rfl
theorem vizardref14_Get.J2.ok : SoundCode Tryd.prog (sub [1, 1, 1, 0, 1, 0, 0, 1, 1] vizardref14_Get.body) vizardref14_Get.J2.t := by
  refine piece_sound (keepT_sound [0, 1, 6, 7, 8] [] (fun i => []) (wC_sound vizardref14_Get.hΓ Tryd.hm vizardref14_Get.J2.plan _ vizardref14_Get.J2.pok)) ?_
  intro Q E fr H h
  unfold vizardref14_Get.J2.t at h
  obtain ⟨hl, h⟩ := lenIs_elim h
  obtain ⟨l0, l1, l2, q0, h⟩ := slSl_elim h
  obtain ⟨name0, q1, h⟩ := slS_elim h
  obtain ⟨n0, q6, h⟩ := slI_elim h
  obtain ⟨v0, q7, h⟩ := slS_elim h
  obtain ⟨i0, q8, h⟩ := slI_elim h
  refine ⟨(mkF 32 [(0, (.slice l0 l1 l2)), (1, (.string name0)), (6, (.int .i64 n0)), (7, (.string v0)), (8, (.int .i64 i0))]), fun a ha => ha.mk (Nat.le_of_eq hl.symm) (List.forall_mem_cons.2 ⟨q0, List.forall_mem_cons.2 ⟨q1, List.forall_mem_cons.2 ⟨q6, List.forall_mem_cons.2 ⟨q7, List.forall_mem_cons.2 ⟨q8, fun _ h => nomatch h⟩⟩⟩⟩⟩), ?_⟩
  have e := vizardref14_Get.J2.eq l0 l1 l2 name0 n0 v0 i0 Q E H
  rw [← e]
  exact h.h
def vizardref14_Get.W1.t : CT := fun Q E fr H => lenIs 32 fr (slSl fr 0 fun l0 l1 l2 => slS fr 1 fun name0 => slI fr 6 .i64 fun n0 => slS fr 7 fun v0 => slI fr 8 .i64 fun i0 => vizardref14_Get.W1 l0 l1 l2 name0 n0 v0 i0 (fun y6_0 y7_0 H => Q (.exit 0) (mkF 32 [(6, (.int .i64 y6_0)), (7, (.string y7_0))]) H) E H)
noncomputable def vizardref14_Get.W1.plan : Plan := .seq (.go) (.seq (.go) (.use vizardref14_Get.J2.t))
theorem vizardref14_Get.W1.pok : PlanOk Tryd.prog vizardref14_Get.W1.plan (sub [1, 1, 1, 0, 1, 0, 0] vizardref14_Get.body) := by
  have e : PlanOk Tryd.prog vizardref14_Get.W1.plan (sub [1, 1, 1, 0, 1, 0, 0] vizardref14_Get.body) = ((True) ∧ ((True) ∧ (SoundCode Tryd.prog (sub [1, 1, 1, 0, 1, 0, 0, 1, 1] vizardref14_Get.body) vizardref14_Get.J2.t))) := by kernel_rfl
  exact e.mpr ⟨trivial, ⟨trivial, vizardref14_Get.J2.ok⟩⟩
theorem vizardref14_Get.W1.eq (l0 : Option Addr) (l1 : Nat) (l2 : Nat) (name0 : ByteArray) (Q : Ex → Fr → Heap → Prop) (E : Value → Heap → Prop) (RR : Fr → Heap → Prop) (s : Int × ByteArray × Int) (H : Heap) :
    (fun (RR : Int × ByteArray × Int → Heap → Prop) (s : Int × ByteArray × Int) (H : Heap) => vizardref14_Get.W1.vc l0 l1 l2 name0 s.1 s.2.1 s.2.2 (fun y6_0 y7_0 H => Q (.exit 0) (mkF 32 [(6, (.int .i64 y6_0)), (7, (.string y7_0))]) H) (fun n0 v0 i0 H => RR (n0, v0, i0) H) E H) (fun s' H' => RR ((fun (s : Int × ByteArray × Int) => (mkF 32 [(0, (.slice l0 l1 l2)), (1, (.string name0)), (6, (.int .i64 s.1)), (7, (.string s.2.1)), (8, (.int .i64 s.2.2))])) s') H') s H = keepT [0, 1, 6, 7, 8] [] (fun i => if i = 0 then [6, 7] else []) (wC Tryd.prog vizardref14_Get.Γ vizardref14_Get.W1.plan (sub [1, 1, 1, 0, 1, 0, 0] vizardref14_Get.body)) (fun e fr' H' => match e with | .normal => RR fr' H' | .exit id => Q (.exit id) fr' H' | .ret => Q .ret fr' H') E ((fun (s : Int × ByteArray × Int) => (mkF 32 [(0, (.slice l0 l1 l2)), (1, (.string name0)), (6, (.int .i64 s.1)), (7, (.string s.2.1)), (8, (.int .i64 s.2.2))])) s) H := by
  kernel_rfl
theorem vizardref14_Get.W1.ok : SoundCode Tryd.prog (sub [1, 1, 1, 0, 1, 0] vizardref14_Get.body) vizardref14_Get.W1.t := by
  have e : (sub [1, 1, 1, 0, 1, 0] vizardref14_Get.body) = .loop (sub [1, 1, 1, 0, 1, 0, 0] vizardref14_Get.body) := by kernel_rfl
  rw [e]
  refine piece_sound (loopN_sound (keepT_sound [0, 1, 6, 7, 8] [] (fun i => if i = 0 then [6, 7] else []) (wC_sound vizardref14_Get.hΓ Tryd.hm vizardref14_Get.W1.plan _ vizardref14_Get.W1.pok))) ?_
  intro Q E fr H h
  unfold vizardref14_Get.W1.t at h
  obtain ⟨hl, h⟩ := lenIs_elim h
  obtain ⟨l0, l1, l2, q0, h⟩ := slSl_elim h
  obtain ⟨name0, q1, h⟩ := slS_elim h
  obtain ⟨n0, q6, h⟩ := slI_elim h
  obtain ⟨v0, q7, h⟩ := slS_elim h
  obtain ⟨i0, q8, h⟩ := slI_elim h
  obtain ⟨m, h⟩ := h.h
  refine ⟨(mkF 32 [(0, (.slice l0 l1 l2)), (1, (.string name0)), (6, (.int .i64 n0)), (7, (.string v0)), (8, (.int .i64 i0))]), fun a ha => ha.mk (Nat.le_of_eq hl.symm) (List.forall_mem_cons.2 ⟨q0, List.forall_mem_cons.2 ⟨q1, List.forall_mem_cons.2 ⟨q6, List.forall_mem_cons.2 ⟨q7, List.forall_mem_cons.2 ⟨q8, fun _ h => nomatch h⟩⟩⟩⟩⟩), m, ?_⟩
  have e := loopS_eq (B := (fun (RR : Int × ByteArray × Int → Heap → Prop) (s : Int × ByteArray × Int) (H : Heap) => vizardref14_Get.W1.vc l0 l1 l2 name0 s.1 s.2.1 s.2.2 (fun y6_0 y7_0 H => Q (.exit 0) (mkF 32 [(6, (.int .i64 y6_0)), (7, (.string y7_0))]) H) (fun n0 v0 i0 H => RR (n0, v0, i0) H) E H)) (A := keepT [0, 1, 6, 7, 8] [] (fun i => if i = 0 then [6, 7] else []) (wC Tryd.prog vizardref14_Get.Γ vizardref14_Get.W1.plan (sub [1, 1, 1, 0, 1, 0, 0] vizardref14_Get.body))) (m := (fun (s : Int × ByteArray × Int) => (mkF 32 [(0, (.slice l0 l1 l2)), (1, (.string name0)), (6, (.int .i64 s.1)), (7, (.string s.2.1)), (8, (.int .i64 s.2.2))]))) (Q := Q) (E := E) (fun RR s H => vizardref14_Get.W1.eq l0 l1 l2 name0 Q E RR s H) m (n0, v0, i0) H
  exact cast e h
noncomputable def vizardref14_Get.plan : Plan := .seq (.go) (.seq (.go) (.seq (.go) (.seq (.seq (.go) (.block (.use vizardref14_Get.W1.t))) (.go))))
theorem vizardref14_Get.pok : PlanOk Tryd.prog vizardref14_Get.plan vizardref14_Get.body := by
  have e : PlanOk Tryd.prog vizardref14_Get.plan vizardref14_Get.body = ((True) ∧ ((True) ∧ ((True) ∧ (((True) ∧ (SoundCode Tryd.prog (sub [1, 1, 1, 0, 1, 0] vizardref14_Get.body) vizardref14_Get.W1.t)) ∧ (True))))) := by kernel_rfl
  exact e.mpr ⟨trivial, ⟨trivial, ⟨trivial, ⟨⟨trivial, vizardref14_Get.W1.ok⟩, trivial⟩⟩⟩⟩
theorem vizardref14_Get.eq (l0 : Option Addr) (l1 : Nat) (l2 : Nat) (name0 : ByteArray) (K : Value → Heap → Prop) (E : Value → Heap → Prop) (H : Heap) :
    fnT Tryd.prog Tryd.f30 (wC Tryd.prog vizardref14_Get.Γ vizardref14_Get.plan vizardref14_Get.body) [(.slice l0 l1 l2), (.string name0)] K E H = vizardref14_Get.vc l0 l1 l2 name0 (fun r0_0 r1_0 H => K (.tuple #[(.string r0_0), (.bool r1_0)]) H) E H := by
  kernel_rfl
theorem vizardref14_Get.Fe {args : List Value} {K E : Value → Heap → Prop} {H : Heap} (h : vizardref14_Get.F args K E H) : ∃ l0 l1 l2 name0, args = [(.slice l0 l1 l2), (.string name0)] ∧ vizardref14_Get.c l0 l1 l2 name0 (fun r0_0 r1_0 H => K (.tuple #[(.string r0_0), (.bool r1_0)]) H) E H := by
  unfold vizardref14_Get.F at h
  split at h
  · exact ⟨_, _, _, _, rfl, h⟩
  · exact h.elim
theorem vizardref14_Get.ok : CalleeOk Tryd.prog 30 vizardref14_Get.F :=
  callee_ok vizardref14_Get.hΓ (fn := Tryd.f30) (c := vizardref14_Get.body) (T := wC Tryd.prog vizardref14_Get.Γ vizardref14_Get.plan vizardref14_Get.body) (by kernel_rfl) (by kernel_rfl) (by kernel_rfl) (wC_sound vizardref14_Get.hΓ Tryd.hm vizardref14_Get.plan _ vizardref14_Get.pok) fun _ K E H h => by
    obtain ⟨z0, z1, z2, z3, e, h⟩ := vizardref14_Get.Fe h
    subst e
    have h2 : vizardref14_Get.vc z0 z1 z2 z3 (fun r0_0 r1_0 H => ∃ H', Heap.Le H' H ∧ K (.tuple #[(.string r0_0), (.bool r1_0)]) H') E H := h.h
    rw [vizardref14_Get.eq z0 z1 z2 z3 (Fg K) E H]
    exact h2

/-! vizard/vizardref17.pseudo -/
noncomputable def vizardref17_pseudo.body : Code := Tryd.f41.body.getD .skip
def vizardref17_pseudo.J1.vc (x0 : Bool) (Kn : Heap → Prop) (Kr : Bool → Heap → Prop) (E : Value → Heap → Prop) (h0 : Heap) : Prop :=
  (if x0 = true then
  Kr true h0
  else
  Kn h0)
structure vizardref17_pseudo.J1 (x0 : Bool) (Kn : Heap → Prop) (Kr : Bool → Heap → Prop) (E : Value → Heap → Prop) (H : Heap) : Prop where
  h : vizardref17_pseudo.J1.vc x0 Kn Kr E H
def vizardref17_pseudo.vc (name0 : ByteArray) (K : Bool → Heap → Prop) (E : Value → Heap → Prop) (h0 : Heap) : Prop :=
  (if (name0.toList == (⟨#[58, 109, 101, 116, 104, 111, 100]⟩ : ByteArray).toList) = true then
  vizardref17_pseudo.J1 (name0.toList == (⟨#[58, 109, 101, 116, 104, 111, 100]⟩ : ByteArray).toList) (fun h1 =>
  K false h1) K E h0
  else
  (if (name0.toList == (⟨#[58, 115, 99, 104, 101, 109, 101]⟩ : ByteArray).toList) = true then
  vizardref17_pseudo.J1 (name0.toList == (⟨#[58, 115, 99, 104, 101, 109, 101]⟩ : ByteArray).toList) (fun h3 =>
  K false h3) K E h0
  else
  (if (name0.toList == (⟨#[58, 97, 117, 116, 104, 111, 114, 105, 116, 121]⟩ : ByteArray).toList) = true then
  vizardref17_pseudo.J1 (name0.toList == (⟨#[58, 97, 117, 116, 104, 111, 114, 105, 116, 121]⟩ : ByteArray).toList) (fun h5 =>
  K false h5) K E h0
  else
  (if (name0.toList == (⟨#[58, 112, 97, 116, 104]⟩ : ByteArray).toList) = true then
  vizardref17_pseudo.J1 (name0.toList == (⟨#[58, 112, 97, 116, 104]⟩ : ByteArray).toList) (fun h7 =>
  K false h7) K E h0
  else
  vizardref17_pseudo.J1 (name0.toList == (⟨#[58, 112, 114, 111, 116, 111, 99, 111, 108]⟩ : ByteArray).toList) (fun h9 =>
  K false h9) K E h0))))
structure vizardref17_pseudo.c (name0 : ByteArray) (K : Bool → Heap → Prop) (E : Value → Heap → Prop) (H : Heap) : Prop where
  h : vizardref17_pseudo.vc name0 (fun r0_0 H => ∃ H', Heap.Le H' H ∧ K r0_0 H') E H
def vizardref17_pseudo.F : FT := fun args K E H => match args with
  | [(.string name0)] => vizardref17_pseudo.c name0 (fun r0_0 H => K (.bool r0_0) H) E H
  | _ => False
noncomputable def vizardref17_pseudo.Γ : FuncId → Option FT := Γof []
theorem vizardref17_pseudo.hΓ : ∀ f F, vizardref17_pseudo.Γ f = some F → CalleeOk Tryd.prog f F := Γof_ok (fun _ h => nomatch h)
def vizardref17_pseudo.J1.t : CT := fun Q E fr H => lenIs 10 fr (slB fr 4 fun x0 => vizardref17_pseudo.J1 x0 (fun  H => Q .normal (mkF 10 []) H) (fun y2_0 H => Q .ret (mkF 10 [(2, (.bool y2_0))]) H) E H)
noncomputable def vizardref17_pseudo.J1.plan : Plan := .go
theorem vizardref17_pseudo.J1.pok : PlanOk Tryd.prog vizardref17_pseudo.J1.plan (sub [1, 0, 1, 0, 1] vizardref17_pseudo.body) := by
  have e : PlanOk Tryd.prog vizardref17_pseudo.J1.plan (sub [1, 0, 1, 0, 1] vizardref17_pseudo.body) = (True) := by kernel_rfl
  exact e.mpr trivial
theorem vizardref17_pseudo.J1.eq (x0 : Bool) (Q : Ex → Fr → Heap → Prop) (E : Value → Heap → Prop) (H : Heap) :
    vizardref17_pseudo.J1.vc x0 (fun  H => Q .normal (mkF 10 []) H) (fun y2_0 H => Q .ret (mkF 10 [(2, (.bool y2_0))]) H) E H = keepT [] [2] (fun i => []) (wC Tryd.prog vizardref17_pseudo.Γ vizardref17_pseudo.J1.plan (sub [1, 0, 1, 0, 1] vizardref17_pseudo.body)) Q E (mkF 10 [(4, (.bool x0))]) H := by
  kernel_rfl
theorem vizardref17_pseudo.J1.ok : SoundCode Tryd.prog (sub [1, 0, 1, 0, 1] vizardref17_pseudo.body) vizardref17_pseudo.J1.t := by
  refine piece_sound (keepT_sound [] [2] (fun i => []) (wC_sound vizardref17_pseudo.hΓ Tryd.hm vizardref17_pseudo.J1.plan _ vizardref17_pseudo.J1.pok)) ?_
  intro Q E fr H h
  unfold vizardref17_pseudo.J1.t at h
  obtain ⟨hl, h⟩ := lenIs_elim h
  obtain ⟨x0, q4, h⟩ := slB_elim h
  refine ⟨(mkF 10 [(4, (.bool x0))]), fun a ha => ha.mk (Nat.le_of_eq hl.symm) (List.forall_mem_cons.2 ⟨q4, fun _ h => nomatch h⟩), ?_⟩
  have e := vizardref17_pseudo.J1.eq x0 Q E H
  rw [← e]
  exact h.h
noncomputable def vizardref17_pseudo.plan : Plan := .seq (.go) (.seq (.seq (.go) (.block (.seq (.go) (.use vizardref17_pseudo.J1.t)))) (.go))
theorem vizardref17_pseudo.pok : PlanOk Tryd.prog vizardref17_pseudo.plan vizardref17_pseudo.body := by
  have e : PlanOk Tryd.prog vizardref17_pseudo.plan vizardref17_pseudo.body = ((True) ∧ (((True) ∧ ((True) ∧ (SoundCode Tryd.prog (sub [1, 0, 1, 0, 1] vizardref17_pseudo.body) vizardref17_pseudo.J1.t))) ∧ (True))) := by kernel_rfl
  exact e.mpr ⟨trivial, ⟨⟨trivial, ⟨trivial, vizardref17_pseudo.J1.ok⟩⟩, trivial⟩⟩
theorem vizardref17_pseudo.eq (name0 : ByteArray) (K : Value → Heap → Prop) (E : Value → Heap → Prop) (H : Heap) :
    fnT Tryd.prog Tryd.f41 (wC Tryd.prog vizardref17_pseudo.Γ vizardref17_pseudo.plan vizardref17_pseudo.body) [(.string name0)] K E H = vizardref17_pseudo.vc name0 (fun r0_0 H => K (.bool r0_0) H) E H := by
  kernel_rfl
theorem vizardref17_pseudo.Fe {args : List Value} {K E : Value → Heap → Prop} {H : Heap} (h : vizardref17_pseudo.F args K E H) : ∃ name0, args = [(.string name0)] ∧ vizardref17_pseudo.c name0 (fun r0_0 H => K (.bool r0_0) H) E H := by
  unfold vizardref17_pseudo.F at h
  split at h
  · exact ⟨_, rfl, h⟩
  · exact h.elim
theorem vizardref17_pseudo.ok : CalleeOk Tryd.prog 41 vizardref17_pseudo.F :=
  callee_ok vizardref17_pseudo.hΓ (fn := Tryd.f41) (c := vizardref17_pseudo.body) (T := wC Tryd.prog vizardref17_pseudo.Γ vizardref17_pseudo.plan vizardref17_pseudo.body) (by kernel_rfl) (by kernel_rfl) (by kernel_rfl) (wC_sound vizardref17_pseudo.hΓ Tryd.hm vizardref17_pseudo.plan _ vizardref17_pseudo.pok) fun _ K E H h => by
    obtain ⟨z0, e, h⟩ := vizardref17_pseudo.Fe h
    subst e
    have h2 : vizardref17_pseudo.vc z0 (fun r0_0 H => ∃ H', Heap.Le H' H ∧ K (.bool r0_0) H') E H := h.h
    rw [vizardref17_pseudo.eq z0 (Fg K) E H]
    exact h2

/-! vizard/vizardref17.shaped -/
noncomputable def vizardref17_shaped.body : Code := Tryd.f29.body.getD .skip
def vizardref17_shaped.J2.vc (l0 : Option Addr) (l1 : Nat) (l2 : Nat) (behind0 : Bool) (i0 : Int) (Kn : Int → Heap → Prop) (E : Value → Heap → Prop) (h0 : Heap) : Prop :=
  Kn (IntKind.i64.wrap (i0 + 1)) h0
structure vizardref17_shaped.J2 (l0 : Option Addr) (l1 : Nat) (l2 : Nat) (behind0 : Bool) (i0 : Int) (Kn : Int → Heap → Prop) (E : Value → Heap → Prop) (H : Heap) : Prop where
  h : vizardref17_shaped.J2.vc l0 l1 l2 behind0 i0 Kn E H
def vizardref17_shaped.J3.vc (l0 : Option Addr) (l1 : Nat) (l2 : Nat) (behind0 : Bool) (i0 : Int) (x0 : Bool) (Kn : Heap → Prop) (Kr : Bool → Heap → Prop) (E : Value → Heap → Prop) (h0 : Heap) : Prop :=
  (if x0 = true then
  Kr false h0
  else
  Kn h0)
structure vizardref17_shaped.J3 (l0 : Option Addr) (l1 : Nat) (l2 : Nat) (behind0 : Bool) (i0 : Int) (x0 : Bool) (Kn : Heap → Prop) (Kr : Bool → Heap → Prop) (E : Value → Heap → Prop) (H : Heap) : Prop where
  h : vizardref17_shaped.J3.vc l0 l1 l2 behind0 i0 x0 Kn Kr E H
def vizardref17_shaped.W1.vc (l0 : Option Addr) (l1 : Nat) (l2 : Nat) (behind0 : Bool) (i0 : Int) (Kx0 : Heap → Prop) (Kr : Bool → Heap → Prop) (RR : Bool → Int → Heap → Prop) (E : Value → Heap → Prop) (h0 : Heap) : Prop :=
  (if (decide (i0 < (l1 : Int))) = true then
  nilc l0 fun a0 => (0 : Int) ≤ i0 ∧ i0 < (l1 : Int) ∧
  ldS h0 ((a0.add (i0.toNat * 2)).add 0) fun x0 =>
  (0 : Int) ≤ 0 ∧ 0 < (x0.size : Int) ∧
  (if ((bt x0 0) != 58) = true then
  vizardref17_shaped.J2 l0 l1 l2 true i0 (fun i1 h1 =>
  RR true i1 h1) E h0
  else
  nilc l0 fun a1 => (0 : Int) ≤ i0 ∧ i0 < (l1 : Int) ∧
  ldS h0 ((a1.add (i0.toNat * 2)).add 0) fun x1 =>
  vizardref14_Get.c l0 l1 l2 x1 (fun x2 x3 h2 =>
  (if behind0 = true then
  vizardref17_shaped.J3 l0 l1 l2 behind0 i0 true (fun h3 =>
  vizardref17_shaped.J2 l0 l1 l2 behind0 i0 (fun i2 h4 =>
  RR behind0 i2 h4) E h3) Kr E h2
  else
  nilc l0 fun a2 => (0 : Int) ≤ i0 ∧ i0 < (l1 : Int) ∧
  ldS h2 ((a2.add (i0.toNat * 2)).add 0) fun x5 =>
  vizardref17_pseudo.c x5 (fun x6 h6 =>
  (if (!x6) = true then
  vizardref17_shaped.J3 l0 l1 l2 behind0 i0 true (fun h7 =>
  vizardref17_shaped.J2 l0 l1 l2 behind0 i0 (fun i3 h8 =>
  RR behind0 i3 h8) E h7) Kr E h6
  else
  vizardref17_shaped.J3 l0 l1 l2 behind0 i0 (!x3) (fun h10 =>
  vizardref17_shaped.J2 l0 l1 l2 behind0 i0 (fun i4 h11 =>
  RR behind0 i4 h11) E h10) Kr E h6)) E h2)) E h0)
  else
  Kx0 h0)
structure vizardref17_shaped.W1 (l0 : Option Addr) (l1 : Nat) (l2 : Nat) (behind0 : Bool) (i0 : Int) (Kx0 : Heap → Prop) (Kr : Bool → Heap → Prop) (E : Value → Heap → Prop) (H : Heap) : Prop where
  h : Loop (fun (RR : Bool × Int → Heap → Prop) (s : Bool × Int) (H : Heap) => vizardref17_shaped.W1.vc l0 l1 l2 s.1 s.2 Kx0 Kr (fun behind0 i0 H => RR (behind0, i0) H) E H) (behind0, i0) H
def vizardref17_shaped.vc (l0 : Option Addr) (l1 : Nat) (l2 : Nat) (K : Bool → Heap → Prop) (E : Value → Heap → Prop) (h0 : Heap) : Prop :=
  vizardref17_shaped.W1 l0 l1 l2 false 0 (fun h1 =>
  K true h1) K E h0
structure vizardref17_shaped.c (l0 : Option Addr) (l1 : Nat) (l2 : Nat) (K : Bool → Heap → Prop) (E : Value → Heap → Prop) (H : Heap) : Prop where
  h : vizardref17_shaped.vc l0 l1 l2 (fun r0_0 H => ∃ H', Heap.Le H' H ∧ K r0_0 H') E H
def vizardref17_shaped.F : FT := fun args K E H => match args with
  | [(.slice l0 l1 l2)] => vizardref17_shaped.c l0 l1 l2 (fun r0_0 H => K (.bool r0_0) H) E H
  | _ => False
noncomputable def vizardref17_shaped.Γ : FuncId → Option FT := Γof [(30, vizardref14_Get.F), (41, vizardref17_pseudo.F)]
theorem vizardref17_shaped.hΓ : ∀ f F, vizardref17_shaped.Γ f = some F → CalleeOk Tryd.prog f F := Γof_ok (List.forall_mem_cons.2 ⟨vizardref14_Get.ok, List.forall_mem_cons.2 ⟨vizardref17_pseudo.ok, fun _ h => nomatch h⟩⟩)
def vizardref17_shaped.J2.t : CT := fun Q E fr H => lenIs 44 fr (slSl fr 0 fun l0 l1 l2 => slB fr 3 fun behind0 => slI fr 4 .i64 fun i0 => vizardref17_shaped.J2 l0 l1 l2 behind0 i0 (fun y4_0 H => Q .normal (mkF 44 [(0, (.slice l0 l1 l2)), (3, (.bool behind0)), (4, (.int .i64 y4_0))]) H) E H)
noncomputable def vizardref17_shaped.J2.plan : Plan := .go
theorem vizardref17_shaped.J2.pok : PlanOk Tryd.prog vizardref17_shaped.J2.plan (sub [1, 1, 0, 1, 0, 0, 1, 1] vizardref17_shaped.body) := by
  have e : PlanOk Tryd.prog vizardref17_shaped.J2.plan (sub [1, 1, 0, 1, 0, 0, 1, 1] vizardref17_shaped.body) = (True) := by kernel_rfl
  exact e.mpr trivial
theorem vizardref17_shaped.J2.eq (l0 : Option Addr) (l1 : Nat) (l2 : Nat) (behind0 : Bool) (i0 : Int) (Q : Ex → Fr → Heap → Prop) (E : Value → Heap → Prop) (H : Heap) :
    vizardref17_shaped.J2.vc l0 l1 l2 behind0 i0 (fun y4_0 H => Q .normal (mkF 44 [(0, (.slice l0 l1 l2)), (3, (.bool behind0)), (4, (.int .i64 y4_0))]) H) E H = keepT [0, 3, 4] [] (fun i => []) (wC Tryd.prog vizardref17_shaped.Γ vizardref17_shaped.J2.plan (sub [1, 1, 0, 1, 0, 0, 1, 1] vizardref17_shaped.body)) Q E (mkF 44 [(0, (.slice l0 l1 l2)), (3, (.bool behind0)), (4, (.int .i64 i0))]) H := by
  kernel_rfl
theorem vizardref17_shaped.J2.ok : SoundCode Tryd.prog (sub [1, 1, 0, 1, 0, 0, 1, 1] vizardref17_shaped.body) vizardref17_shaped.J2.t := by
  refine piece_sound (keepT_sound [0, 3, 4] [] (fun i => []) (wC_sound vizardref17_shaped.hΓ Tryd.hm vizardref17_shaped.J2.plan _ vizardref17_shaped.J2.pok)) ?_
  intro Q E fr H h
  unfold vizardref17_shaped.J2.t at h
  obtain ⟨hl, h⟩ := lenIs_elim h
  obtain ⟨l0, l1, l2, q0, h⟩ := slSl_elim h
  obtain ⟨behind0, q3, h⟩ := slB_elim h
  obtain ⟨i0, q4, h⟩ := slI_elim h
  refine ⟨(mkF 44 [(0, (.slice l0 l1 l2)), (3, (.bool behind0)), (4, (.int .i64 i0))]), fun a ha => ha.mk (Nat.le_of_eq hl.symm) (List.forall_mem_cons.2 ⟨q0, List.forall_mem_cons.2 ⟨q3, List.forall_mem_cons.2 ⟨q4, fun _ h => nomatch h⟩⟩⟩), ?_⟩
  have e := vizardref17_shaped.J2.eq l0 l1 l2 behind0 i0 Q E H
  rw [← e]
  exact h.h
def vizardref17_shaped.J3.t : CT := fun Q E fr H => lenIs 44 fr (slSl fr 0 fun l0 l1 l2 => slB fr 3 fun behind0 => slI fr 4 .i64 fun i0 => slB fr 43 fun x0 => vizardref17_shaped.J3 l0 l1 l2 behind0 i0 x0 (fun  H => Q .normal (mkF 44 [(0, (.slice l0 l1 l2)), (3, (.bool behind0)), (4, (.int .i64 i0))]) H) (fun y2_0 H => Q .ret (mkF 44 [(2, (.bool y2_0))]) H) E H)
noncomputable def vizardref17_shaped.J3.plan : Plan := .go
theorem vizardref17_shaped.J3.pok : PlanOk Tryd.prog vizardref17_shaped.J3.plan (sub [1, 1, 0, 1, 0, 0, 1, 0, 0, 1, 1, 1] vizardref17_shaped.body) := by
  have e : PlanOk Tryd.prog vizardref17_shaped.J3.plan (sub [1, 1, 0, 1, 0, 0, 1, 0, 0, 1, 1, 1] vizardref17_shaped.body) = (True) := by kernel_rfl
  exact e.mpr trivial
theorem vizardref17_shaped.J3.eq (l0 : Option Addr) (l1 : Nat) (l2 : Nat) (behind0 : Bool) (i0 : Int) (x0 : Bool) (Q : Ex → Fr → Heap → Prop) (E : Value → Heap → Prop) (H : Heap) :
    vizardref17_shaped.J3.vc l0 l1 l2 behind0 i0 x0 (fun  H => Q .normal (mkF 44 [(0, (.slice l0 l1 l2)), (3, (.bool behind0)), (4, (.int .i64 i0))]) H) (fun y2_0 H => Q .ret (mkF 44 [(2, (.bool y2_0))]) H) E H = keepT [0, 3, 4] [2] (fun i => []) (wC Tryd.prog vizardref17_shaped.Γ vizardref17_shaped.J3.plan (sub [1, 1, 0, 1, 0, 0, 1, 0, 0, 1, 1, 1] vizardref17_shaped.body)) Q E (mkF 44 [(0, (.slice l0 l1 l2)), (3, (.bool behind0)), (4, (.int .i64 i0)), (43, (.bool x0))]) H := by
  kernel_rfl
theorem vizardref17_shaped.J3.ok : SoundCode Tryd.prog (sub [1, 1, 0, 1, 0, 0, 1, 0, 0, 1, 1, 1] vizardref17_shaped.body) vizardref17_shaped.J3.t := by
  refine piece_sound (keepT_sound [0, 3, 4] [2] (fun i => []) (wC_sound vizardref17_shaped.hΓ Tryd.hm vizardref17_shaped.J3.plan _ vizardref17_shaped.J3.pok)) ?_
  intro Q E fr H h
  unfold vizardref17_shaped.J3.t at h
  obtain ⟨hl, h⟩ := lenIs_elim h
  obtain ⟨l0, l1, l2, q0, h⟩ := slSl_elim h
  obtain ⟨behind0, q3, h⟩ := slB_elim h
  obtain ⟨i0, q4, h⟩ := slI_elim h
  obtain ⟨x0, q43, h⟩ := slB_elim h
  refine ⟨(mkF 44 [(0, (.slice l0 l1 l2)), (3, (.bool behind0)), (4, (.int .i64 i0)), (43, (.bool x0))]), fun a ha => ha.mk (Nat.le_of_eq hl.symm) (List.forall_mem_cons.2 ⟨q0, List.forall_mem_cons.2 ⟨q3, List.forall_mem_cons.2 ⟨q4, List.forall_mem_cons.2 ⟨q43, fun _ h => nomatch h⟩⟩⟩⟩), ?_⟩
  have e := vizardref17_shaped.J3.eq l0 l1 l2 behind0 i0 x0 Q E H
  rw [← e]
  exact h.h
def vizardref17_shaped.W1.t : CT := fun Q E fr H => lenIs 44 fr (slSl fr 0 fun l0 l1 l2 => slB fr 3 fun behind0 => slI fr 4 .i64 fun i0 => vizardref17_shaped.W1 l0 l1 l2 behind0 i0 (fun  H => Q (.exit 0) (mkF 44 []) H) (fun y2_0 H => Q .ret (mkF 44 [(2, (.bool y2_0))]) H) E H)
noncomputable def vizardref17_shaped.W1.plan : Plan := .seq (.go) (.seq (.block (.seq (.go) (.seq (.go) (.seq (.go) (.use vizardref17_shaped.J3.t))))) (.use vizardref17_shaped.J2.t))
theorem vizardref17_shaped.W1.pok : PlanOk Tryd.prog vizardref17_shaped.W1.plan (sub [1, 1, 0, 1, 0, 0] vizardref17_shaped.body) := by
  have e : PlanOk Tryd.prog vizardref17_shaped.W1.plan (sub [1, 1, 0, 1, 0, 0] vizardref17_shaped.body) = ((True) ∧ (((True) ∧ ((True) ∧ ((True) ∧ (SoundCode Tryd.prog (sub [1, 1, 0, 1, 0, 0, 1, 0, 0, 1, 1, 1] vizardref17_shaped.body) vizardref17_shaped.J3.t)))) ∧ (SoundCode Tryd.prog (sub [1, 1, 0, 1, 0, 0, 1, 1] vizardref17_shaped.body) vizardref17_shaped.J2.t))) := by kernel_rfl
  exact e.mpr ⟨trivial, ⟨⟨trivial, ⟨trivial, ⟨trivial, vizardref17_shaped.J3.ok⟩⟩⟩, vizardref17_shaped.J2.ok⟩⟩
theorem vizardref17_shaped.W1.eq (l0 : Option Addr) (l1 : Nat) (l2 : Nat) (Q : Ex → Fr → Heap → Prop) (E : Value → Heap → Prop) (RR : Fr → Heap → Prop) (s : Bool × Int) (H : Heap) :
    (fun (RR : Bool × Int → Heap → Prop) (s : Bool × Int) (H : Heap) => vizardref17_shaped.W1.vc l0 l1 l2 s.1 s.2 (fun  H => Q (.exit 0) (mkF 44 []) H) (fun y2_0 H => Q .ret (mkF 44 [(2, (.bool y2_0))]) H) (fun behind0 i0 H => RR (behind0, i0) H) E H) (fun s' H' => RR ((fun (s : Bool × Int) => (mkF 44 [(0, (.slice l0 l1 l2)), (3, (.bool s.1)), (4, (.int .i64 s.2))])) s') H') s H = keepT [0, 3, 4] [2] (fun i => if i = 0 then [] else []) (wC Tryd.prog vizardref17_shaped.Γ vizardref17_shaped.W1.plan (sub [1, 1, 0, 1, 0, 0] vizardref17_shaped.body)) (fun e fr' H' => match e with | .normal => RR fr' H' | .exit id => Q (.exit id) fr' H' | .ret => Q .ret fr' H') E ((fun (s : Bool × Int) => (mkF 44 [(0, (.slice l0 l1 l2)), (3, (.bool s.1)), (4, (.int .i64 s.2))])) s) H := by
  kernel_rfl
theorem vizardref17_shaped.W1.ok : SoundCode Tryd.prog (sub [1, 1, 0, 1, 0] vizardref17_shaped.body) vizardref17_shaped.W1.t := by
  have e : (sub [1, 1, 0, 1, 0] vizardref17_shaped.body) = .loop (sub [1, 1, 0, 1, 0, 0] vizardref17_shaped.body) := by kernel_rfl
  rw [e]
  refine piece_sound (loopN_sound (keepT_sound [0, 3, 4] [2] (fun i => if i = 0 then [] else []) (wC_sound vizardref17_shaped.hΓ Tryd.hm vizardref17_shaped.W1.plan _ vizardref17_shaped.W1.pok))) ?_
  intro Q E fr H h
  unfold vizardref17_shaped.W1.t at h
  obtain ⟨hl, h⟩ := lenIs_elim h
  obtain ⟨l0, l1, l2, q0, h⟩ := slSl_elim h
  obtain ⟨behind0, q3, h⟩ := slB_elim h
  obtain ⟨i0, q4, h⟩ := slI_elim h
  obtain ⟨m, h⟩ := h.h
  refine ⟨(mkF 44 [(0, (.slice l0 l1 l2)), (3, (.bool behind0)), (4, (.int .i64 i0))]), fun a ha => ha.mk (Nat.le_of_eq hl.symm) (List.forall_mem_cons.2 ⟨q0, List.forall_mem_cons.2 ⟨q3, List.forall_mem_cons.2 ⟨q4, fun _ h => nomatch h⟩⟩⟩), m, ?_⟩
  have e := loopS_eq (B := (fun (RR : Bool × Int → Heap → Prop) (s : Bool × Int) (H : Heap) => vizardref17_shaped.W1.vc l0 l1 l2 s.1 s.2 (fun  H => Q (.exit 0) (mkF 44 []) H) (fun y2_0 H => Q .ret (mkF 44 [(2, (.bool y2_0))]) H) (fun behind0 i0 H => RR (behind0, i0) H) E H)) (A := keepT [0, 3, 4] [2] (fun i => if i = 0 then [] else []) (wC Tryd.prog vizardref17_shaped.Γ vizardref17_shaped.W1.plan (sub [1, 1, 0, 1, 0, 0] vizardref17_shaped.body))) (m := (fun (s : Bool × Int) => (mkF 44 [(0, (.slice l0 l1 l2)), (3, (.bool s.1)), (4, (.int .i64 s.2))]))) (Q := Q) (E := E) (fun RR s H => vizardref17_shaped.W1.eq l0 l1 l2 Q E RR s H) m (behind0, i0) H
  exact cast e h
noncomputable def vizardref17_shaped.plan : Plan := .seq (.go) (.seq (.go) (.seq (.seq (.go) (.block (.use vizardref17_shaped.W1.t))) (.go)))
theorem vizardref17_shaped.pok : PlanOk Tryd.prog vizardref17_shaped.plan vizardref17_shaped.body := by
  have e : PlanOk Tryd.prog vizardref17_shaped.plan vizardref17_shaped.body = ((True) ∧ ((True) ∧ (((True) ∧ (SoundCode Tryd.prog (sub [1, 1, 0, 1, 0] vizardref17_shaped.body) vizardref17_shaped.W1.t)) ∧ (True)))) := by kernel_rfl
  exact e.mpr ⟨trivial, ⟨trivial, ⟨⟨trivial, vizardref17_shaped.W1.ok⟩, trivial⟩⟩⟩
theorem vizardref17_shaped.eq (l0 : Option Addr) (l1 : Nat) (l2 : Nat) (K : Value → Heap → Prop) (E : Value → Heap → Prop) (H : Heap) :
    fnT Tryd.prog Tryd.f29 (wC Tryd.prog vizardref17_shaped.Γ vizardref17_shaped.plan vizardref17_shaped.body) [(.slice l0 l1 l2)] K E H = vizardref17_shaped.vc l0 l1 l2 (fun r0_0 H => K (.bool r0_0) H) E H := by
  kernel_rfl
theorem vizardref17_shaped.Fe {args : List Value} {K E : Value → Heap → Prop} {H : Heap} (h : vizardref17_shaped.F args K E H) : ∃ l0 l1 l2, args = [(.slice l0 l1 l2)] ∧ vizardref17_shaped.c l0 l1 l2 (fun r0_0 H => K (.bool r0_0) H) E H := by
  unfold vizardref17_shaped.F at h
  split at h
  · exact ⟨_, _, _, rfl, h⟩
  · exact h.elim
theorem vizardref17_shaped.ok : CalleeOk Tryd.prog 29 vizardref17_shaped.F :=
  callee_ok vizardref17_shaped.hΓ (fn := Tryd.f29) (c := vizardref17_shaped.body) (T := wC Tryd.prog vizardref17_shaped.Γ vizardref17_shaped.plan vizardref17_shaped.body) (by kernel_rfl) (by kernel_rfl) (by kernel_rfl) (wC_sound vizardref17_shaped.hΓ Tryd.hm vizardref17_shaped.plan _ vizardref17_shaped.pok) fun _ K E H h => by
    obtain ⟨z0, z1, z2, e, h⟩ := vizardref17_shaped.Fe h
    subst e
    have h2 : vizardref17_shaped.vc z0 z1 z2 (fun r0_0 H => ∃ H', Heap.Le H' H ∧ K (.bool r0_0) H') E H := h.h
    rw [vizardref17_shaped.eq z0 z1 z2 (Fg K) E H]
    exact h2

/-! vizard/vizardref17.Right -/
noncomputable def vizardref17_Right.body : Code := Tryd.f20.body.getD .skip
def vizardref17_Right.vc (t0 : Bool) (t1 : Int) (t2 : Int) (K : Bool → Heap → Prop) (E : Value → Heap → Prop) (h0 : Heap) : Prop :=
  newB (.cells #[(.bool t0), (.int .u32 t1), (.int .i64 t2)] 24) (fun b0 h1 =>
  ldB h1 ((⟨b0, 0, none⟩ : Addr).add 0) fun x0 =>
  (if x0 = true then
  ldI h1 .u32 ((⟨b0, 0, none⟩ : Addr).add 1) fun x1 =>
  (if (x1 == 0) = true then
  ldI h1 .i64 ((⟨b0, 0, none⟩ : Addr).add 2) fun x2 =>
  K (x2 == 0) h1
  else
  K false h1)
  else
  ldI h1 .i64 ((⟨b0, 0, none⟩ : Addr).add 2) fun x3 =>
  (if (decide (x3 ≥ 1)) = true then
  ldI h1 .i64 ((⟨b0, 0, none⟩ : Addr).add 2) fun x4 =>
  K (decide (x4 ≤ 65535)) h1
  else
  K false h1))) h0
structure vizardref17_Right.c (t0 : Bool) (t1 : Int) (t2 : Int) (K : Bool → Heap → Prop) (E : Value → Heap → Prop) (H : Heap) : Prop where
  h : vizardref17_Right.vc t0 t1 t2 (fun r0_0 H => ∃ H', Heap.Le H' H ∧ K r0_0 H') E H
def vizardref17_Right.F : FT := fun args K E H => match args with
  | [(.agg ⟨[(.bool t0), (.int .u32 t1), (.int .i64 t2)]⟩)] => vizardref17_Right.c t0 t1 t2 (fun r0_0 H => K (.bool r0_0) H) E H
  | _ => False
noncomputable def vizardref17_Right.Γ : FuncId → Option FT := Γof []
theorem vizardref17_Right.hΓ : ∀ f F, vizardref17_Right.Γ f = some F → CalleeOk Tryd.prog f F := Γof_ok (fun _ h => nomatch h)
noncomputable def vizardref17_Right.plan : Plan := .go
theorem vizardref17_Right.pok : PlanOk Tryd.prog vizardref17_Right.plan vizardref17_Right.body := by
  have e : PlanOk Tryd.prog vizardref17_Right.plan vizardref17_Right.body = (True) := by kernel_rfl
  exact e.mpr trivial
theorem vizardref17_Right.eq (t0 : Bool) (t1 : Int) (t2 : Int) (K : Value → Heap → Prop) (E : Value → Heap → Prop) (H : Heap) :
    fnT Tryd.prog Tryd.f20 (wC Tryd.prog vizardref17_Right.Γ vizardref17_Right.plan vizardref17_Right.body) [(.agg #[(.bool t0), (.int .u32 t1), (.int .i64 t2)])] K E H = vizardref17_Right.vc t0 t1 t2 (fun r0_0 H => K (.bool r0_0) H) E H := by
  kernel_rfl
theorem vizardref17_Right.Fe {args : List Value} {K E : Value → Heap → Prop} {H : Heap} (h : vizardref17_Right.F args K E H) : ∃ t0 t1 t2, args = [(.agg #[(.bool t0), (.int .u32 t1), (.int .i64 t2)])] ∧ vizardref17_Right.c t0 t1 t2 (fun r0_0 H => K (.bool r0_0) H) E H := by
  unfold vizardref17_Right.F at h
  split at h
  · exact ⟨_, _, _, rfl, h⟩
  · exact h.elim
theorem vizardref17_Right.ok : CalleeOk Tryd.prog 20 vizardref17_Right.F :=
  callee_ok vizardref17_Right.hΓ (fn := Tryd.f20) (c := vizardref17_Right.body) (T := wC Tryd.prog vizardref17_Right.Γ vizardref17_Right.plan vizardref17_Right.body) (by kernel_rfl) (by kernel_rfl) (by kernel_rfl) (wC_sound vizardref17_Right.hΓ Tryd.hm vizardref17_Right.plan _ vizardref17_Right.pok) fun _ K E H h => by
    obtain ⟨z0, z1, z2, e, h⟩ := vizardref17_Right.Fe h
    subst e
    have h2 : vizardref17_Right.vc z0 z1 z2 (fun r0_0 H => ∃ H', Heap.Le H' H ∧ K (.bool r0_0) H') E H := h.h
    rw [vizardref17_Right.eq z0 z1 z2 (Fg K) E H]
    exact h2

/-! vizard/vizardref04.Number -/
noncomputable def vizardref04_Number.body : Code := Tryd.f22.body.getD .skip
def vizardref04_Number.W1.vc (n0 : Int) (s0 : ByteArray) (Kx0 : ByteArray → Heap → Prop) (RR : Int → ByteArray → Heap → Prop) (E : Value → Heap → Prop) (h0 : Heap) : Prop :=
  (if (decide (n0 > 0)) = true then
  10 ≠ (0 : Int) ∧
  newB (.cells #[(.int .u8 (IntKind.u8.wrap (IntKind.i64.wrap (48 + (Int.tmod n0 10)))))] 5) (fun b0 h1 =>
  rdBytes h1 (some (⟨b0, 0, none⟩ : Addr)) 1 fun x0 =>
  x0.size + s0.size ≤ 9223372036854775807 ∧
  10 ≠ (0 : Int) ∧
  RR (IntKind.i64.wrap (Int.tdiv n0 10)) (x0 ++ s0) h1) h0
  else
  Kx0 s0 h0)
structure vizardref04_Number.W1 (n0 : Int) (s0 : ByteArray) (Kx0 : ByteArray → Heap → Prop) (E : Value → Heap → Prop) (H : Heap) : Prop where
  h : Loop (fun (RR : Int × ByteArray → Heap → Prop) (s : Int × ByteArray) (H : Heap) => vizardref04_Number.W1.vc s.1 s.2 Kx0 (fun n0 s0 H => RR (n0, s0) H) E H) (n0, s0) H
def vizardref04_Number.vc (n0 : Int) (K : ByteArray → Heap → Prop) (E : Value → Heap → Prop) (h0 : Heap) : Prop :=
  10 ≠ (0 : Int) ∧
  newB (.cells #[(.int .u8 (IntKind.u8.wrap (IntKind.i64.wrap (48 + (Int.tmod n0 10)))))] 5) (fun b0 h1 =>
  rdBytes h1 (some (⟨b0, 0, none⟩ : Addr)) 1 fun x0 =>
  10 ≠ (0 : Int) ∧
  vizardref04_Number.W1 (IntKind.i64.wrap (Int.tdiv n0 10)) x0 K E h1) h0
structure vizardref04_Number.c (n0 : Int) (K : ByteArray → Heap → Prop) (E : Value → Heap → Prop) (H : Heap) : Prop where
  h : vizardref04_Number.vc n0 (fun r0_0 H => ∃ H', Heap.Le H' H ∧ K r0_0 H') E H
def vizardref04_Number.F : FT := fun args K E H => match args with
  | [(.int .i64 n0)] => vizardref04_Number.c n0 (fun r0_0 H => K (.string r0_0) H) E H
  | _ => False
noncomputable def vizardref04_Number.Γ : FuncId → Option FT := Γof []
theorem vizardref04_Number.hΓ : ∀ f F, vizardref04_Number.Γ f = some F → CalleeOk Tryd.prog f F := Γof_ok (fun _ h => nomatch h)
def vizardref04_Number.W1.t : CT := fun Q E fr H => lenIs 25 fr (slI fr 0 .i64 fun n0 => slS fr 3 fun s0 => vizardref04_Number.W1 n0 s0 (fun y3_0 H => Q (.exit 0) (mkF 25 [(3, (.string y3_0))]) H) E H)
noncomputable def vizardref04_Number.W1.plan : Plan := .go
theorem vizardref04_Number.W1.pok : PlanOk Tryd.prog vizardref04_Number.W1.plan (sub [1, 1, 0, 1, 0, 0] vizardref04_Number.body) := by
  have e : PlanOk Tryd.prog vizardref04_Number.W1.plan (sub [1, 1, 0, 1, 0, 0] vizardref04_Number.body) = (True) := by kernel_rfl
  exact e.mpr trivial
theorem vizardref04_Number.W1.eq (Q : Ex → Fr → Heap → Prop) (E : Value → Heap → Prop) (RR : Fr → Heap → Prop) (s : Int × ByteArray) (H : Heap) :
    (fun (RR : Int × ByteArray → Heap → Prop) (s : Int × ByteArray) (H : Heap) => vizardref04_Number.W1.vc s.1 s.2 (fun y3_0 H => Q (.exit 0) (mkF 25 [(3, (.string y3_0))]) H) (fun n0 s0 H => RR (n0, s0) H) E H) (fun s' H' => RR ((fun (s : Int × ByteArray) => (mkF 25 [(0, (.int .i64 s.1)), (3, (.string s.2))])) s') H') s H = keepT [0, 3] [] (fun i => if i = 0 then [3] else []) (wC Tryd.prog vizardref04_Number.Γ vizardref04_Number.W1.plan (sub [1, 1, 0, 1, 0, 0] vizardref04_Number.body)) (fun e fr' H' => match e with | .normal => RR fr' H' | .exit id => Q (.exit id) fr' H' | .ret => Q .ret fr' H') E ((fun (s : Int × ByteArray) => (mkF 25 [(0, (.int .i64 s.1)), (3, (.string s.2))])) s) H := by
  kernel_rfl
theorem vizardref04_Number.W1.ok : SoundCode Tryd.prog (sub [1, 1, 0, 1, 0] vizardref04_Number.body) vizardref04_Number.W1.t := by
  have e : (sub [1, 1, 0, 1, 0] vizardref04_Number.body) = .loop (sub [1, 1, 0, 1, 0, 0] vizardref04_Number.body) := by kernel_rfl
  rw [e]
  refine piece_sound (loopN_sound (keepT_sound [0, 3] [] (fun i => if i = 0 then [3] else []) (wC_sound vizardref04_Number.hΓ Tryd.hm vizardref04_Number.W1.plan _ vizardref04_Number.W1.pok))) ?_
  intro Q E fr H h
  unfold vizardref04_Number.W1.t at h
  obtain ⟨hl, h⟩ := lenIs_elim h
  obtain ⟨n0, q0, h⟩ := slI_elim h
  obtain ⟨s0, q3, h⟩ := slS_elim h
  obtain ⟨m, h⟩ := h.h
  refine ⟨(mkF 25 [(0, (.int .i64 n0)), (3, (.string s0))]), fun a ha => ha.mk (Nat.le_of_eq hl.symm) (List.forall_mem_cons.2 ⟨q0, List.forall_mem_cons.2 ⟨q3, fun _ h => nomatch h⟩⟩), m, ?_⟩
  have e := loopS_eq (B := (fun (RR : Int × ByteArray → Heap → Prop) (s : Int × ByteArray) (H : Heap) => vizardref04_Number.W1.vc s.1 s.2 (fun y3_0 H => Q (.exit 0) (mkF 25 [(3, (.string y3_0))]) H) (fun n0 s0 H => RR (n0, s0) H) E H)) (A := keepT [0, 3] [] (fun i => if i = 0 then [3] else []) (wC Tryd.prog vizardref04_Number.Γ vizardref04_Number.W1.plan (sub [1, 1, 0, 1, 0, 0] vizardref04_Number.body))) (m := (fun (s : Int × ByteArray) => (mkF 25 [(0, (.int .i64 s.1)), (3, (.string s.2))]))) (Q := Q) (E := E) (fun RR s H => vizardref04_Number.W1.eq  Q E RR s H) m (n0, s0) H
  exact cast e h
noncomputable def vizardref04_Number.plan : Plan := .seq (.go) (.seq (.go) (.seq (.seq (.go) (.block (.use vizardref04_Number.W1.t))) (.go)))
theorem vizardref04_Number.pok : PlanOk Tryd.prog vizardref04_Number.plan vizardref04_Number.body := by
  have e : PlanOk Tryd.prog vizardref04_Number.plan vizardref04_Number.body = ((True) ∧ ((True) ∧ (((True) ∧ (SoundCode Tryd.prog (sub [1, 1, 0, 1, 0] vizardref04_Number.body) vizardref04_Number.W1.t)) ∧ (True)))) := by kernel_rfl
  exact e.mpr ⟨trivial, ⟨trivial, ⟨⟨trivial, vizardref04_Number.W1.ok⟩, trivial⟩⟩⟩
theorem vizardref04_Number.eq (n0 : Int) (K : Value → Heap → Prop) (E : Value → Heap → Prop) (H : Heap) :
    fnT Tryd.prog Tryd.f22 (wC Tryd.prog vizardref04_Number.Γ vizardref04_Number.plan vizardref04_Number.body) [(.int .i64 n0)] K E H = vizardref04_Number.vc n0 (fun r0_0 H => K (.string r0_0) H) E H := by
  kernel_rfl
theorem vizardref04_Number.Fe {args : List Value} {K E : Value → Heap → Prop} {H : Heap} (h : vizardref04_Number.F args K E H) : ∃ n0, args = [(.int .i64 n0)] ∧ vizardref04_Number.c n0 (fun r0_0 H => K (.string r0_0) H) E H := by
  unfold vizardref04_Number.F at h
  split at h
  · exact ⟨_, rfl, h⟩
  · exact h.elim
theorem vizardref04_Number.ok : CalleeOk Tryd.prog 22 vizardref04_Number.F :=
  callee_ok vizardref04_Number.hΓ (fn := Tryd.f22) (c := vizardref04_Number.body) (T := wC Tryd.prog vizardref04_Number.Γ vizardref04_Number.plan vizardref04_Number.body) (by kernel_rfl) (by kernel_rfl) (by kernel_rfl) (wC_sound vizardref04_Number.hΓ Tryd.hm vizardref04_Number.plan _ vizardref04_Number.pok) fun _ K E H h => by
    obtain ⟨z0, e, h⟩ := vizardref04_Number.Fe h
    subst e
    have h2 : vizardref04_Number.vc z0 (fun r0_0 H => ∃ H', Heap.Le H' H ∧ K (.string r0_0) H') E H := h.h
    rw [vizardref04_Number.eq z0 (Fg K) E H]
    exact h2

/-! vizard/vizardref04.Text -/
noncomputable def vizardref04_Text.body : Code := Tryd.f21.body.getD .skip
def vizardref04_Text.vc (a0 : Int) (K : ByteArray → Heap → Prop) (E : Value → Heap → Prop) (h0 : Heap) : Prop :=
  16777216 ≠ (0 : Int) ∧
  vizardref04_Number.c (IntKind.i64.wrap (IntKind.u32.wrap (Int.tdiv a0 16777216))) (fun x0 h1 =>
  x0.size + (⟨#[46]⟩ : ByteArray).size ≤ 9223372036854775807 ∧
  65536 ≠ (0 : Int) ∧
  256 ≠ (0 : Int) ∧
  vizardref04_Number.c (IntKind.i64.wrap (Int.tmod (IntKind.u32.wrap (Int.tdiv a0 65536)) 256)) (fun x1 h2 =>
  (x0 ++ (⟨#[46]⟩ : ByteArray)).size + x1.size ≤ 9223372036854775807 ∧
  ((x0 ++ (⟨#[46]⟩ : ByteArray)) ++ x1).size + (⟨#[46]⟩ : ByteArray).size ≤ 9223372036854775807 ∧
  256 ≠ (0 : Int) ∧
  256 ≠ (0 : Int) ∧
  vizardref04_Number.c (IntKind.i64.wrap (Int.tmod (IntKind.u32.wrap (Int.tdiv a0 256)) 256)) (fun x2 h3 =>
  (((x0 ++ (⟨#[46]⟩ : ByteArray)) ++ x1) ++ (⟨#[46]⟩ : ByteArray)).size + x2.size ≤ 9223372036854775807 ∧
  ((((x0 ++ (⟨#[46]⟩ : ByteArray)) ++ x1) ++ (⟨#[46]⟩ : ByteArray)) ++ x2).size + (⟨#[46]⟩ : ByteArray).size ≤ 9223372036854775807 ∧
  256 ≠ (0 : Int) ∧
  vizardref04_Number.c (IntKind.i64.wrap (Int.tmod a0 256)) (fun x3 h4 =>
  (((((x0 ++ (⟨#[46]⟩ : ByteArray)) ++ x1) ++ (⟨#[46]⟩ : ByteArray)) ++ x2) ++ (⟨#[46]⟩ : ByteArray)).size + x3.size ≤ 9223372036854775807 ∧
  K ((((((x0 ++ (⟨#[46]⟩ : ByteArray)) ++ x1) ++ (⟨#[46]⟩ : ByteArray)) ++ x2) ++ (⟨#[46]⟩ : ByteArray)) ++ x3) h4) E h3) E h2) E h1) E h0
structure vizardref04_Text.c (a0 : Int) (K : ByteArray → Heap → Prop) (E : Value → Heap → Prop) (H : Heap) : Prop where
  h : vizardref04_Text.vc a0 (fun r0_0 H => ∃ H', Heap.Le H' H ∧ K r0_0 H') E H
def vizardref04_Text.F : FT := fun args K E H => match args with
  | [(.int .u32 a0)] => vizardref04_Text.c a0 (fun r0_0 H => K (.string r0_0) H) E H
  | _ => False
noncomputable def vizardref04_Text.Γ : FuncId → Option FT := Γof [(22, vizardref04_Number.F)]
theorem vizardref04_Text.hΓ : ∀ f F, vizardref04_Text.Γ f = some F → CalleeOk Tryd.prog f F := Γof_ok (List.forall_mem_cons.2 ⟨vizardref04_Number.ok, fun _ h => nomatch h⟩)
noncomputable def vizardref04_Text.plan : Plan := .go
theorem vizardref04_Text.pok : PlanOk Tryd.prog vizardref04_Text.plan vizardref04_Text.body := by
  have e : PlanOk Tryd.prog vizardref04_Text.plan vizardref04_Text.body = (True) := by kernel_rfl
  exact e.mpr trivial
theorem vizardref04_Text.eq (a0 : Int) (K : Value → Heap → Prop) (E : Value → Heap → Prop) (H : Heap) :
    fnT Tryd.prog Tryd.f21 (wC Tryd.prog vizardref04_Text.Γ vizardref04_Text.plan vizardref04_Text.body) [(.int .u32 a0)] K E H = vizardref04_Text.vc a0 (fun r0_0 H => K (.string r0_0) H) E H := by
  kernel_rfl
theorem vizardref04_Text.Fe {args : List Value} {K E : Value → Heap → Prop} {H : Heap} (h : vizardref04_Text.F args K E H) : ∃ a0, args = [(.int .u32 a0)] ∧ vizardref04_Text.c a0 (fun r0_0 H => K (.string r0_0) H) E H := by
  unfold vizardref04_Text.F at h
  split at h
  · exact ⟨_, rfl, h⟩
  · exact h.elim
theorem vizardref04_Text.ok : CalleeOk Tryd.prog 21 vizardref04_Text.F :=
  callee_ok vizardref04_Text.hΓ (fn := Tryd.f21) (c := vizardref04_Text.body) (T := wC Tryd.prog vizardref04_Text.Γ vizardref04_Text.plan vizardref04_Text.body) (by kernel_rfl) (by kernel_rfl) (by kernel_rfl) (wC_sound vizardref04_Text.hΓ Tryd.hm vizardref04_Text.plan _ vizardref04_Text.pok) fun _ K E H h => by
    obtain ⟨z0, e, h⟩ := vizardref04_Text.Fe h
    subst e
    have h2 : vizardref04_Text.vc z0 (fun r0_0 H => ∃ H', Heap.Le H' H ∧ K (.string r0_0) H') E H := h.h
    rw [vizardref04_Text.eq z0 (Fg K) E H]
    exact h2

/-! vizard/vizardref17.Path -/
noncomputable def vizardref17_Path.body : Code := Tryd.f9.body.getD .skip
def vizardref17_Path.vc (t0 : Bool) (t1 : Int) (t2 : Int) (K : ByteArray → Heap → Prop) (E : Value → Heap → Prop) (h0 : Heap) : Prop :=
  newB (.cells #[(.bool t0), (.int .u32 t1), (.int .i64 t2)] 24) (fun b0 h1 =>
  ldB h1 ((⟨b0, 0, none⟩ : Addr).add 0) fun x0 => ldI h1 .u32 ((⟨b0, 0, none⟩ : Addr).add 1) fun x1 => ldI h1 .i64 ((⟨b0, 0, none⟩ : Addr).add 2) fun x2 =>
  vizardref17_Right.c x0 x1 x2 (fun x3 h2 =>
  (if (!x3) = true then
  K (⟨#[]⟩ : ByteArray) h2
  else
  ldB h2 ((⟨b0, 0, none⟩ : Addr).add 0) fun x4 =>
  (if x4 = true then
  K (⟨#[47, 46, 119, 101, 108, 108, 45, 107, 110, 111, 119, 110, 47, 109, 97, 115, 113, 117, 101, 47, 105, 112, 47, 42, 47, 42, 47]⟩ : ByteArray) h2
  else
  ldI h2 .u32 ((⟨b0, 0, none⟩ : Addr).add 1) fun x5 =>
  ldI h2 .i64 ((⟨b0, 0, none⟩ : Addr).add 2) fun x6 =>
  vizardref04_Text.c x5 (fun x7 h3 =>
  (ldI h3 .i64 ((⟨b0, 0, none⟩ : Addr).add 2) fun x8 =>
  eqv h3 h3 (some (.int .i64 x6)) (.int .i64 x8)) ∧
  (⟨#[47, 46, 119, 101, 108, 108, 45, 107, 110, 111, 119, 110, 47, 109, 97, 115, 113, 117, 101, 47, 117, 100, 112, 47]⟩ : ByteArray).size + x7.size ≤ 9223372036854775807 ∧
  ((⟨#[47, 46, 119, 101, 108, 108, 45, 107, 110, 111, 119, 110, 47, 109, 97, 115, 113, 117, 101, 47, 117, 100, 112, 47]⟩ : ByteArray) ++ x7).size + (⟨#[47]⟩ : ByteArray).size ≤ 9223372036854775807 ∧
  vizardref04_Number.c x6 (fun x9 h4 =>
  (((⟨#[47, 46, 119, 101, 108, 108, 45, 107, 110, 111, 119, 110, 47, 109, 97, 115, 113, 117, 101, 47, 117, 100, 112, 47]⟩ : ByteArray) ++ x7) ++ (⟨#[47]⟩ : ByteArray)).size + x9.size ≤ 9223372036854775807 ∧
  ((((⟨#[47, 46, 119, 101, 108, 108, 45, 107, 110, 111, 119, 110, 47, 109, 97, 115, 113, 117, 101, 47, 117, 100, 112, 47]⟩ : ByteArray) ++ x7) ++ (⟨#[47]⟩ : ByteArray)) ++ x9).size + (⟨#[47]⟩ : ByteArray).size ≤ 9223372036854775807 ∧
  K (((((⟨#[47, 46, 119, 101, 108, 108, 45, 107, 110, 111, 119, 110, 47, 109, 97, 115, 113, 117, 101, 47, 117, 100, 112, 47]⟩ : ByteArray) ++ x7) ++ (⟨#[47]⟩ : ByteArray)) ++ x9) ++ (⟨#[47]⟩ : ByteArray)) h4) E h3) E h2))) E h1) h0
structure vizardref17_Path.c (t0 : Bool) (t1 : Int) (t2 : Int) (K : ByteArray → Heap → Prop) (E : Value → Heap → Prop) (H : Heap) : Prop where
  h : vizardref17_Path.vc t0 t1 t2 (fun r0_0 H => ∃ H', Heap.Le H' H ∧ K r0_0 H') E H
def vizardref17_Path.F : FT := fun args K E H => match args with
  | [(.agg ⟨[(.bool t0), (.int .u32 t1), (.int .i64 t2)]⟩)] => vizardref17_Path.c t0 t1 t2 (fun r0_0 H => K (.string r0_0) H) E H
  | _ => False
noncomputable def vizardref17_Path.Γ : FuncId → Option FT := Γof [(20, vizardref17_Right.F), (21, vizardref04_Text.F), (22, vizardref04_Number.F)]
theorem vizardref17_Path.hΓ : ∀ f F, vizardref17_Path.Γ f = some F → CalleeOk Tryd.prog f F := Γof_ok (List.forall_mem_cons.2 ⟨vizardref17_Right.ok, List.forall_mem_cons.2 ⟨vizardref04_Text.ok, List.forall_mem_cons.2 ⟨vizardref04_Number.ok, fun _ h => nomatch h⟩⟩⟩)
noncomputable def vizardref17_Path.plan : Plan := .seq (.go) (.seq (.go) (.seq (.draw ⟨[0, 1, 2, 3, 4, 5, 6, 7, 8, 9], (dl [(0, []), (1, []), (5, []), (6, []), (2, [1, 0]), (3, []), (4, []), (7, [6, 2, 5, 1, 0]), (8, []), (9, [])] .fin), [10]⟩) (.go)))
theorem vizardref17_Path.pok : PlanOk Tryd.prog vizardref17_Path.plan vizardref17_Path.body := by
  have e : PlanOk Tryd.prog vizardref17_Path.plan vizardref17_Path.body = ((True) ∧ ((True) ∧ ((True) ∧ (True)))) := by kernel_rfl
  exact e.mpr ⟨trivial, ⟨trivial, ⟨trivial, trivial⟩⟩⟩
theorem vizardref17_Path.eq (t0 : Bool) (t1 : Int) (t2 : Int) (K : Value → Heap → Prop) (E : Value → Heap → Prop) (H : Heap) :
    fnT Tryd.prog Tryd.f9 (wC Tryd.prog vizardref17_Path.Γ vizardref17_Path.plan vizardref17_Path.body) [(.agg #[(.bool t0), (.int .u32 t1), (.int .i64 t2)])] K E H = vizardref17_Path.vc t0 t1 t2 (fun r0_0 H => K (.string r0_0) H) E H := by
  kernel_rfl
theorem vizardref17_Path.Fe {args : List Value} {K E : Value → Heap → Prop} {H : Heap} (h : vizardref17_Path.F args K E H) : ∃ t0 t1 t2, args = [(.agg #[(.bool t0), (.int .u32 t1), (.int .i64 t2)])] ∧ vizardref17_Path.c t0 t1 t2 (fun r0_0 H => K (.string r0_0) H) E H := by
  unfold vizardref17_Path.F at h
  split at h
  · exact ⟨_, _, _, rfl, h⟩
  · exact h.elim
theorem vizardref17_Path.ok : CalleeOk Tryd.prog 9 vizardref17_Path.F :=
  callee_ok vizardref17_Path.hΓ (fn := Tryd.f9) (c := vizardref17_Path.body) (T := wC Tryd.prog vizardref17_Path.Γ vizardref17_Path.plan vizardref17_Path.body) (by kernel_rfl) (by kernel_rfl) (by kernel_rfl) (wC_sound vizardref17_Path.hΓ Tryd.hm vizardref17_Path.plan _ vizardref17_Path.pok) fun _ K E H h => by
    obtain ⟨z0, z1, z2, e, h⟩ := vizardref17_Path.Fe h
    subst e
    have h2 : vizardref17_Path.vc z0 z1 z2 (fun r0_0 H => ∃ H', Heap.Le H' H ∧ K (.string r0_0) H') E H := h.h
    rw [vizardref17_Path.eq z0 z1 z2 (Fg K) E H]
    exact h2

/-! vizard/vizardref04.Parse -/
noncomputable def vizardref04_Parse.body : Code := Tryd.f42.body.getD .skip
def vizardref04_Parse.J3.vc (s0 : ByteArray) (a0 : Int) (n0 : Int) (i0 : Int) (Kn : Int → Heap → Prop) (E : Value → Heap → Prop) (h0 : Heap) : Prop :=
  Kn (IntKind.i64.wrap (i0 + 1)) h0
structure vizardref04_Parse.J3 (s0 : ByteArray) (a0 : Int) (n0 : Int) (i0 : Int) (Kn : Int → Heap → Prop) (E : Value → Heap → Prop) (H : Heap) : Prop where
  h : vizardref04_Parse.J3.vc s0 a0 n0 i0 Kn E H
def vizardref04_Parse.J2.vc (s0 : ByteArray) (a0 : Int) (n0 : Int) (i0 : Int) (Kn : Int → Int → Int → Heap → Prop) (E : Value → Heap → Prop) (h0 : Heap) : Prop :=
  (0 : Int) ≤ i0 ∧ i0 < (s0.size : Int) ∧
  (if ((bt s0 i0) == 46) = true then
  vizardref04_Parse.J3 s0 (IntKind.u32.wrap ((IntKind.u32.wrap (a0 * 256)) + n0)) 0 i0 (fun i1 h1 =>
  Kn (IntKind.u32.wrap ((IntKind.u32.wrap (a0 * 256)) + n0)) 0 i1 h1) E h0
  else
  (0 : Int) ≤ i0 ∧ i0 < (s0.size : Int) ∧
  256 ≠ (0 : Int) ∧
  vizardref04_Parse.J3 s0 a0 (Int.tmod (IntKind.u32.wrap ((IntKind.u32.wrap (n0 * 10)) + (IntKind.u32.wrap (IntKind.u8.wrap ((bt s0 i0) - 48))))) 256) i0 (fun i2 h2 =>
  Kn a0 (Int.tmod (IntKind.u32.wrap ((IntKind.u32.wrap (n0 * 10)) + (IntKind.u32.wrap (IntKind.u8.wrap ((bt s0 i0) - 48))))) 256) i2 h2) E h0)
structure vizardref04_Parse.J2 (s0 : ByteArray) (a0 : Int) (n0 : Int) (i0 : Int) (Kn : Int → Int → Int → Heap → Prop) (E : Value → Heap → Prop) (H : Heap) : Prop where
  h : vizardref04_Parse.J2.vc s0 a0 n0 i0 Kn E H
def vizardref04_Parse.W1.vc (s0 : ByteArray) (a0 : Int) (n0 : Int) (i0 : Int) (Kx0 : Int → Int → Heap → Prop) (RR : Int → Int → Int → Heap → Prop) (E : Value → Heap → Prop) (h0 : Heap) : Prop :=
  (if (decide (i0 < (s0.size : Int))) = true then
  (if (decide (i0 < 16)) = true then
  vizardref04_Parse.J2 s0 a0 n0 i0 RR E h0
  else
  Kx0 a0 n0 h0)
  else
  Kx0 a0 n0 h0)
structure vizardref04_Parse.W1 (s0 : ByteArray) (a0 : Int) (n0 : Int) (i0 : Int) (Kx0 : Int → Int → Heap → Prop) (E : Value → Heap → Prop) (H : Heap) : Prop where
  h : Loop (fun (RR : Int × Int × Int → Heap → Prop) (s : Int × Int × Int) (H : Heap) => vizardref04_Parse.W1.vc s0 s.1 s.2.1 s.2.2 Kx0 (fun a0 n0 i0 H => RR (a0, n0, i0) H) E H) (a0, n0, i0) H
def vizardref04_Parse.vc (s0 : ByteArray) (K : Int → Bool → Heap → Prop) (E : Value → Heap → Prop) (h0 : Heap) : Prop :=
  vizardref04_Parse.W1 s0 0 0 0 (fun a0 n0 h1 =>
  vizardref04_Text.c (IntKind.u32.wrap ((IntKind.u32.wrap (a0 * 256)) + n0)) (fun x0 h2 =>
  (if (!(x0.toList == s0.toList)) = true then
  K 0 false h2
  else
  K (IntKind.u32.wrap ((IntKind.u32.wrap (a0 * 256)) + n0)) true h2)) E h1) E h0
structure vizardref04_Parse.c (s0 : ByteArray) (K : Int → Bool → Heap → Prop) (E : Value → Heap → Prop) (H : Heap) : Prop where
  h : vizardref04_Parse.vc s0 (fun r0_0 r1_0 H => ∃ H', Heap.Le H' H ∧ K r0_0 r1_0 H') E H
def vizardref04_Parse.F : FT := fun args K E H => match args with
  | [(.string s0)] => vizardref04_Parse.c s0 (fun r0_0 r1_0 H => K (.tuple #[(.int .u32 r0_0), (.bool r1_0)]) H) E H
  | _ => False
noncomputable def vizardref04_Parse.Γ : FuncId → Option FT := Γof [(21, vizardref04_Text.F)]
theorem vizardref04_Parse.hΓ : ∀ f F, vizardref04_Parse.Γ f = some F → CalleeOk Tryd.prog f F := Γof_ok (List.forall_mem_cons.2 ⟨vizardref04_Text.ok, fun _ h => nomatch h⟩)
def vizardref04_Parse.J3.t : CT := fun Q E fr H => lenIs 43 fr (slS fr 0 fun s0 => slI fr 4 .u32 fun a0 => slI fr 5 .u32 fun n0 => slI fr 6 .i64 fun i0 => vizardref04_Parse.J3 s0 a0 n0 i0 (fun y6_0 H => Q .normal (mkF 43 [(0, (.string s0)), (4, (.int .u32 a0)), (5, (.int .u32 n0)), (6, (.int .i64 y6_0))]) H) E H)
noncomputable def vizardref04_Parse.J3.plan : Plan := .go
theorem vizardref04_Parse.J3.pok : PlanOk Tryd.prog vizardref04_Parse.J3.plan (sub [1, 1, 0, 1, 0, 0, 1, 1] vizardref04_Parse.body) := by
  have e : PlanOk Tryd.prog vizardref04_Parse.J3.plan (sub [1, 1, 0, 1, 0, 0, 1, 1] vizardref04_Parse.body) = (True) := by kernel_rfl
  exact e.mpr trivial
theorem vizardref04_Parse.J3.eq (s0 : ByteArray) (a0 : Int) (n0 : Int) (i0 : Int) (Q : Ex → Fr → Heap → Prop) (E : Value → Heap → Prop) (H : Heap) :
    vizardref04_Parse.J3.vc s0 a0 n0 i0 (fun y6_0 H => Q .normal (mkF 43 [(0, (.string s0)), (4, (.int .u32 a0)), (5, (.int .u32 n0)), (6, (.int .i64 y6_0))]) H) E H = keepT [0, 4, 5, 6] [] (fun i => []) (wC Tryd.prog vizardref04_Parse.Γ vizardref04_Parse.J3.plan (sub [1, 1, 0, 1, 0, 0, 1, 1] vizardref04_Parse.body)) Q E (mkF 43 [(0, (.string s0)), (4, (.int .u32 a0)), (5, (.int .u32 n0)), (6, (.int .i64 i0))]) H := by
  kernel_rfl
theorem vizardref04_Parse.J3.ok : SoundCode Tryd.prog (sub [1, 1, 0, 1, 0, 0, 1, 1] vizardref04_Parse.body) vizardref04_Parse.J3.t := by
  refine piece_sound (keepT_sound [0, 4, 5, 6] [] (fun i => []) (wC_sound vizardref04_Parse.hΓ Tryd.hm vizardref04_Parse.J3.plan _ vizardref04_Parse.J3.pok)) ?_
  intro Q E fr H h
  unfold vizardref04_Parse.J3.t at h
  obtain ⟨hl, h⟩ := lenIs_elim h
  obtain ⟨s0, q0, h⟩ := slS_elim h
  obtain ⟨a0, q4, h⟩ := slI_elim h
  obtain ⟨n0, q5, h⟩ := slI_elim h
  obtain ⟨i0, q6, h⟩ := slI_elim h
  refine ⟨(mkF 43 [(0, (.string s0)), (4, (.int .u32 a0)), (5, (.int .u32 n0)), (6, (.int .i64 i0))]), fun a ha => ha.mk (Nat.le_of_eq hl.symm) (List.forall_mem_cons.2 ⟨q0, List.forall_mem_cons.2 ⟨q4, List.forall_mem_cons.2 ⟨q5, List.forall_mem_cons.2 ⟨q6, fun _ h => nomatch h⟩⟩⟩⟩), ?_⟩
  have e := vizardref04_Parse.J3.eq s0 a0 n0 i0 Q E H
  rw [← e]
  exact h.h
def vizardref04_Parse.J2.t : CT := fun Q E fr H => lenIs 43 fr (slS fr 0 fun s0 => slI fr 4 .u32 fun a0 => slI fr 5 .u32 fun n0 => slI fr 6 .i64 fun i0 => vizardref04_Parse.J2 s0 a0 n0 i0 (fun y4_0 y5_0 y6_0 H => Q .normal (mkF 43 [(0, (.string s0)), (4, (.int .u32 y4_0)), (5, (.int .u32 y5_0)), (6, (.int .i64 y6_0))]) H) E H)
noncomputable def vizardref04_Parse.J2.plan : Plan := .seq (.go) (.use vizardref04_Parse.J3.t)
theorem vizardref04_Parse.J2.pok : PlanOk Tryd.prog vizardref04_Parse.J2.plan (sub [1, 1, 0, 1, 0, 0, 1] vizardref04_Parse.body) := by
  have e : PlanOk Tryd.prog vizardref04_Parse.J2.plan (sub [1, 1, 0, 1, 0, 0, 1] vizardref04_Parse.body) = ((True) ∧ (SoundCode Tryd.prog (sub [1, 1, 0, 1, 0, 0, 1, 1] vizardref04_Parse.body) vizardref04_Parse.J3.t)) := by kernel_rfl
  exact e.mpr ⟨trivial, vizardref04_Parse.J3.ok⟩
theorem vizardref04_Parse.J2.eq (s0 : ByteArray) (a0 : Int) (n0 : Int) (i0 : Int) (Q : Ex → Fr → Heap → Prop) (E : Value → Heap → Prop) (H : Heap) :
    vizardref04_Parse.J2.vc s0 a0 n0 i0 (fun y4_0 y5_0 y6_0 H => Q .normal (mkF 43 [(0, (.string s0)), (4, (.int .u32 y4_0)), (5, (.int .u32 y5_0)), (6, (.int .i64 y6_0))]) H) E H = keepT [0, 4, 5, 6] [] (fun i => []) (wC Tryd.prog vizardref04_Parse.Γ vizardref04_Parse.J2.plan (sub [1, 1, 0, 1, 0, 0, 1] vizardref04_Parse.body)) Q E (mkF 43 [(0, (.string s0)), (4, (.int .u32 a0)), (5, (.int .u32 n0)), (6, (.int .i64 i0))]) H := by
  kernel_rfl
theorem vizardref04_Parse.J2.ok : SoundCode Tryd.prog (sub [1, 1, 0, 1, 0, 0, 1] vizardref04_Parse.body) vizardref04_Parse.J2.t := by
  refine piece_sound (keepT_sound [0, 4, 5, 6] [] (fun i => []) (wC_sound vizardref04_Parse.hΓ Tryd.hm vizardref04_Parse.J2.plan _ vizardref04_Parse.J2.pok)) ?_
  intro Q E fr H h
  unfold vizardref04_Parse.J2.t at h
  obtain ⟨hl, h⟩ := lenIs_elim h
  obtain ⟨s0, q0, h⟩ := slS_elim h
  obtain ⟨a0, q4, h⟩ := slI_elim h
  obtain ⟨n0, q5, h⟩ := slI_elim h
  obtain ⟨i0, q6, h⟩ := slI_elim h
  refine ⟨(mkF 43 [(0, (.string s0)), (4, (.int .u32 a0)), (5, (.int .u32 n0)), (6, (.int .i64 i0))]), fun a ha => ha.mk (Nat.le_of_eq hl.symm) (List.forall_mem_cons.2 ⟨q0, List.forall_mem_cons.2 ⟨q4, List.forall_mem_cons.2 ⟨q5, List.forall_mem_cons.2 ⟨q6, fun _ h => nomatch h⟩⟩⟩⟩), ?_⟩
  have e := vizardref04_Parse.J2.eq s0 a0 n0 i0 Q E H
  rw [← e]
  exact h.h
def vizardref04_Parse.W1.t : CT := fun Q E fr H => lenIs 43 fr (slS fr 0 fun s0 => slI fr 4 .u32 fun a0 => slI fr 5 .u32 fun n0 => slI fr 6 .i64 fun i0 => vizardref04_Parse.W1 s0 a0 n0 i0 (fun y4_0 y5_0 H => Q (.exit 0) (mkF 43 [(0, (.string s0)), (4, (.int .u32 y4_0)), (5, (.int .u32 y5_0))]) H) E H)
noncomputable def vizardref04_Parse.W1.plan : Plan := .seq (.go) (.use vizardref04_Parse.J2.t)
theorem vizardref04_Parse.W1.pok : PlanOk Tryd.prog vizardref04_Parse.W1.plan (sub [1, 1, 0, 1, 0, 0] vizardref04_Parse.body) := by
  have e : PlanOk Tryd.prog vizardref04_Parse.W1.plan (sub [1, 1, 0, 1, 0, 0] vizardref04_Parse.body) = ((True) ∧ (SoundCode Tryd.prog (sub [1, 1, 0, 1, 0, 0, 1] vizardref04_Parse.body) vizardref04_Parse.J2.t)) := by kernel_rfl
  exact e.mpr ⟨trivial, vizardref04_Parse.J2.ok⟩
theorem vizardref04_Parse.W1.eq (s0 : ByteArray) (Q : Ex → Fr → Heap → Prop) (E : Value → Heap → Prop) (RR : Fr → Heap → Prop) (s : Int × Int × Int) (H : Heap) :
    (fun (RR : Int × Int × Int → Heap → Prop) (s : Int × Int × Int) (H : Heap) => vizardref04_Parse.W1.vc s0 s.1 s.2.1 s.2.2 (fun y4_0 y5_0 H => Q (.exit 0) (mkF 43 [(0, (.string s0)), (4, (.int .u32 y4_0)), (5, (.int .u32 y5_0))]) H) (fun a0 n0 i0 H => RR (a0, n0, i0) H) E H) (fun s' H' => RR ((fun (s : Int × Int × Int) => (mkF 43 [(0, (.string s0)), (4, (.int .u32 s.1)), (5, (.int .u32 s.2.1)), (6, (.int .i64 s.2.2))])) s') H') s H = keepT [0, 4, 5, 6] [] (fun i => if i = 0 then [0, 4, 5] else []) (wC Tryd.prog vizardref04_Parse.Γ vizardref04_Parse.W1.plan (sub [1, 1, 0, 1, 0, 0] vizardref04_Parse.body)) (fun e fr' H' => match e with | .normal => RR fr' H' | .exit id => Q (.exit id) fr' H' | .ret => Q .ret fr' H') E ((fun (s : Int × Int × Int) => (mkF 43 [(0, (.string s0)), (4, (.int .u32 s.1)), (5, (.int .u32 s.2.1)), (6, (.int .i64 s.2.2))])) s) H := by
  kernel_rfl
theorem vizardref04_Parse.W1.ok : SoundCode Tryd.prog (sub [1, 1, 0, 1, 0] vizardref04_Parse.body) vizardref04_Parse.W1.t := by
  have e : (sub [1, 1, 0, 1, 0] vizardref04_Parse.body) = .loop (sub [1, 1, 0, 1, 0, 0] vizardref04_Parse.body) := by kernel_rfl
  rw [e]
  refine piece_sound (loopN_sound (keepT_sound [0, 4, 5, 6] [] (fun i => if i = 0 then [0, 4, 5] else []) (wC_sound vizardref04_Parse.hΓ Tryd.hm vizardref04_Parse.W1.plan _ vizardref04_Parse.W1.pok))) ?_
  intro Q E fr H h
  unfold vizardref04_Parse.W1.t at h
  obtain ⟨hl, h⟩ := lenIs_elim h
  obtain ⟨s0, q0, h⟩ := slS_elim h
  obtain ⟨a0, q4, h⟩ := slI_elim h
  obtain ⟨n0, q5, h⟩ := slI_elim h
  obtain ⟨i0, q6, h⟩ := slI_elim h
  obtain ⟨m, h⟩ := h.h
  refine ⟨(mkF 43 [(0, (.string s0)), (4, (.int .u32 a0)), (5, (.int .u32 n0)), (6, (.int .i64 i0))]), fun a ha => ha.mk (Nat.le_of_eq hl.symm) (List.forall_mem_cons.2 ⟨q0, List.forall_mem_cons.2 ⟨q4, List.forall_mem_cons.2 ⟨q5, List.forall_mem_cons.2 ⟨q6, fun _ h => nomatch h⟩⟩⟩⟩), m, ?_⟩
  have e := loopS_eq (B := (fun (RR : Int × Int × Int → Heap → Prop) (s : Int × Int × Int) (H : Heap) => vizardref04_Parse.W1.vc s0 s.1 s.2.1 s.2.2 (fun y4_0 y5_0 H => Q (.exit 0) (mkF 43 [(0, (.string s0)), (4, (.int .u32 y4_0)), (5, (.int .u32 y5_0))]) H) (fun a0 n0 i0 H => RR (a0, n0, i0) H) E H)) (A := keepT [0, 4, 5, 6] [] (fun i => if i = 0 then [0, 4, 5] else []) (wC Tryd.prog vizardref04_Parse.Γ vizardref04_Parse.W1.plan (sub [1, 1, 0, 1, 0, 0] vizardref04_Parse.body))) (m := (fun (s : Int × Int × Int) => (mkF 43 [(0, (.string s0)), (4, (.int .u32 s.1)), (5, (.int .u32 s.2.1)), (6, (.int .i64 s.2.2))]))) (Q := Q) (E := E) (fun RR s H => vizardref04_Parse.W1.eq s0 Q E RR s H) m (a0, n0, i0) H
  exact cast e h
noncomputable def vizardref04_Parse.plan : Plan := .seq (.go) (.seq (.go) (.seq (.seq (.go) (.block (.use vizardref04_Parse.W1.t))) (.go)))
theorem vizardref04_Parse.pok : PlanOk Tryd.prog vizardref04_Parse.plan vizardref04_Parse.body := by
  have e : PlanOk Tryd.prog vizardref04_Parse.plan vizardref04_Parse.body = ((True) ∧ ((True) ∧ (((True) ∧ (SoundCode Tryd.prog (sub [1, 1, 0, 1, 0] vizardref04_Parse.body) vizardref04_Parse.W1.t)) ∧ (True)))) := by kernel_rfl
  exact e.mpr ⟨trivial, ⟨trivial, ⟨⟨trivial, vizardref04_Parse.W1.ok⟩, trivial⟩⟩⟩
theorem vizardref04_Parse.eq (s0 : ByteArray) (K : Value → Heap → Prop) (E : Value → Heap → Prop) (H : Heap) :
    fnT Tryd.prog Tryd.f42 (wC Tryd.prog vizardref04_Parse.Γ vizardref04_Parse.plan vizardref04_Parse.body) [(.string s0)] K E H = vizardref04_Parse.vc s0 (fun r0_0 r1_0 H => K (.tuple #[(.int .u32 r0_0), (.bool r1_0)]) H) E H := by
  kernel_rfl
theorem vizardref04_Parse.Fe {args : List Value} {K E : Value → Heap → Prop} {H : Heap} (h : vizardref04_Parse.F args K E H) : ∃ s0, args = [(.string s0)] ∧ vizardref04_Parse.c s0 (fun r0_0 r1_0 H => K (.tuple #[(.int .u32 r0_0), (.bool r1_0)]) H) E H := by
  unfold vizardref04_Parse.F at h
  split at h
  · exact ⟨_, rfl, h⟩
  · exact h.elim
theorem vizardref04_Parse.ok : CalleeOk Tryd.prog 42 vizardref04_Parse.F :=
  callee_ok vizardref04_Parse.hΓ (fn := Tryd.f42) (c := vizardref04_Parse.body) (T := wC Tryd.prog vizardref04_Parse.Γ vizardref04_Parse.plan vizardref04_Parse.body) (by kernel_rfl) (by kernel_rfl) (by kernel_rfl) (wC_sound vizardref04_Parse.hΓ Tryd.hm vizardref04_Parse.plan _ vizardref04_Parse.pok) fun _ K E H h => by
    obtain ⟨z0, e, h⟩ := vizardref04_Parse.Fe h
    subst e
    have h2 : vizardref04_Parse.vc z0 (fun r0_0 r1_0 H => ∃ H', Heap.Le H' H ∧ K (.tuple #[(.int .u32 r0_0), (.bool r1_0)]) H') E H := h.h
    rw [vizardref04_Parse.eq z0 (Fg K) E H]
    exact h2

/-! vizard/vizardref17.udp -/
noncomputable def vizardref17_udp.body : Code := Tryd.f31.body.getD .skip
def vizardref17_udp.J3.vc (path0 : ByteArray) (x0 : Addr) (i0 : Int) (a0 : Int) (ok0 : Bool) (n0 : Int) (k0 : Int) (Kn : Int → Int → Heap → Prop) (E : Value → Heap → Prop) (h0 : Heap) : Prop :=
  (0 : Int) ≤ k0 ∧ k0 < (path0.size : Int) ∧
  Kn (IntKind.i64.wrap ((IntKind.i64.wrap (10 * n0)) + (IntKind.i64.wrap (IntKind.u8.wrap ((bt path0 k0) - 48))))) (IntKind.i64.wrap (k0 + 1)) h0
structure vizardref17_udp.J3 (path0 : ByteArray) (x0 : Addr) (i0 : Int) (a0 : Int) (ok0 : Bool) (n0 : Int) (k0 : Int) (Kn : Int → Int → Heap → Prop) (E : Value → Heap → Prop) (H : Heap) : Prop where
  h : vizardref17_udp.J3.vc path0 x0 i0 a0 ok0 n0 k0 Kn E H
def vizardref17_udp.W2.vc (path0 : ByteArray) (x0 : Addr) (i0 : Int) (a0 : Int) (ok0 : Bool) (n0 : Int) (k0 : Int) (Kx2 : Int → Heap → Prop) (RR : Int → Int → Heap → Prop) (E : Value → Heap → Prop) (h0 : Heap) : Prop :=
  (if (decide (k0 < (path0.size : Int))) = true then
  (if (decide (k0 < (IntKind.i64.wrap (i0 + 6)))) = true then
  (0 : Int) ≤ k0 ∧ k0 < (path0.size : Int) ∧
  (if (decide ((bt path0 k0) ≥ 48)) = true then
  (0 : Int) ≤ k0 ∧ k0 < (path0.size : Int) ∧
  (if (decide ((bt path0 k0) ≤ 57)) = true then
  vizardref17_udp.J3 path0 x0 i0 a0 ok0 n0 k0 RR E h0
  else
  Kx2 n0 h0)
  else
  Kx2 n0 h0)
  else
  Kx2 n0 h0)
  else
  Kx2 n0 h0)
structure vizardref17_udp.W2 (path0 : ByteArray) (x0 : Addr) (i0 : Int) (a0 : Int) (ok0 : Bool) (n0 : Int) (k0 : Int) (Kx2 : Int → Heap → Prop) (E : Value → Heap → Prop) (H : Heap) : Prop where
  h : Loop (fun (RR : Int × Int → Heap → Prop) (s : Int × Int) (H : Heap) => vizardref17_udp.W2.vc path0 x0 i0 a0 ok0 s.1 s.2 Kx2 (fun n0 k0 H => RR (n0, k0) H) E H) (n0, k0) H
def vizardref17_udp.W1.vc (path0 : ByteArray) (x0 : Addr) (i0 : Int) (Kx0 : Heap → Prop) (Kr : Bool → Heap → Prop) (RR : Int → Heap → Prop) (E : Value → Heap → Prop) (h0 : Heap) : Prop :=
  (if (decide (i0 < (path0.size : Int))) = true then
  (0 : Int) ≤ i0 ∧ i0 < (path0.size : Int) ∧
  (if ((bt path0 i0) != 47) = true then
  RR (IntKind.i64.wrap (i0 + 1)) h0
  else
  (0 : Int) ≤ 24 ∧ 24 ≤ (i0 : Int) ∧ i0 ≤ (path0.size : Int) ∧
  vizardref04_Parse.c (path0.extract 24 i0.toNat) (fun x1 x2 h1 =>
  vizardref17_udp.W2 path0 x0 i0 x1 x2 0 (IntKind.i64.wrap (i0 + 1)) (fun n0 h2 =>
  newB (.cells #[(.bool false), (.int .u32 0), (.int .i64 0)] 24) (fun b0 h3 =>
  stc h3 ((⟨b0, 0, none⟩ : Addr).add 0) (.bool false) fun h4 =>
  stc h4 ((⟨b0, 0, none⟩ : Addr).add 1) (.int .u32 x1) fun h5 =>
  stc h5 ((⟨b0, 0, none⟩ : Addr).add 2) (.int .i64 n0) fun h6 =>
  ldB h6 ((⟨b0, 0, none⟩ : Addr).add 0) fun x3 => ldI h6 .u32 ((⟨b0, 0, none⟩ : Addr).add 1) fun x4 => ldI h6 .i64 ((⟨b0, 0, none⟩ : Addr).add 2) fun x5 =>
  (if x2 = true then
  ldB h6 ((⟨b0, 0, none⟩ : Addr).add 0) fun x6 => ldI h6 .u32 ((⟨b0, 0, none⟩ : Addr).add 1) fun x7 => ldI h6 .i64 ((⟨b0, 0, none⟩ : Addr).add 2) fun x8 =>
  vizardref17_Path.c x6 x7 x8 (fun x9 h7 =>
  (ldB h7 ((⟨b0, 0, none⟩ : Addr).add 0) fun x10 => ldI h7 .u32 ((⟨b0, 0, none⟩ : Addr).add 1) fun x11 => ldI h7 .i64 ((⟨b0, 0, none⟩ : Addr).add 2) fun x12 =>
  eqv h7 h7 (some (.agg #[(.bool x3), (.int .u32 x4), (.int .i64 x5)])) (.agg #[(.bool x10), (.int .u32 x11), (.int .i64 x12)])) ∧
  stc h7 (x0.add 0) (.bool x3) fun h8 =>
  stc h8 (x0.add 1) (.int .u32 x4) fun h9 =>
  stc h9 (x0.add 2) (.int .i64 x5) fun h10 =>
  Kr (x9.toList == path0.toList) h10) E h6
  else
  (ldB h6 ((⟨b0, 0, none⟩ : Addr).add 0) fun x13 => ldI h6 .u32 ((⟨b0, 0, none⟩ : Addr).add 1) fun x14 => ldI h6 .i64 ((⟨b0, 0, none⟩ : Addr).add 2) fun x15 =>
  eqv h6 h6 (some (.agg #[(.bool x3), (.int .u32 x4), (.int .i64 x5)])) (.agg #[(.bool x13), (.int .u32 x14), (.int .i64 x15)])) ∧
  stc h6 (x0.add 0) (.bool x3) fun h11 =>
  stc h11 (x0.add 1) (.int .u32 x4) fun h12 =>
  stc h12 (x0.add 2) (.int .i64 x5) fun h13 =>
  Kr false h13)) h2) E h1) E h0)
  else
  Kx0 h0)
structure vizardref17_udp.W1 (path0 : ByteArray) (x0 : Addr) (i0 : Int) (Kx0 : Heap → Prop) (Kr : Bool → Heap → Prop) (E : Value → Heap → Prop) (H : Heap) : Prop where
  h : Loop (fun (RR : Int → Heap → Prop) (s : Int) (H : Heap) => vizardref17_udp.W1.vc path0 x0 s Kx0 Kr (fun i0 H => RR (i0) H) E H) (i0) H
def vizardref17_udp.vc (path0 : ByteArray) (K : Bool → Int → Int → Bool → Heap → Prop) (E : Value → Heap → Prop) (h0 : Heap) : Prop :=
  newB (.cells #[(.bool false), (.int .u32 0), (.int .i64 0)] 24) (fun b0 h1 =>
  (if (decide ((path0.size : Int) < 24)) = true then
  stc h1 ((⟨b0, 0, none⟩ : Addr).add 0) (.bool false) fun h2 =>
  stc h2 ((⟨b0, 0, none⟩ : Addr).add 1) (.int .u32 0) fun h3 =>
  stc h3 ((⟨b0, 0, none⟩ : Addr).add 2) (.int .i64 0) fun h4 =>
  ldB h4 ((⟨b0, 0, none⟩ : Addr).add 0) fun r0 => ldI h4 .u32 ((⟨b0, 0, none⟩ : Addr).add 1) fun r1 => ldI h4 .i64 ((⟨b0, 0, none⟩ : Addr).add 2) fun r2 =>
  K r0 r1 r2 false h4
  else
  vizardref17_udp.W1 path0 (⟨b0, 0, none⟩ : Addr) 24 (fun h5 =>
  stc h5 ((⟨b0, 0, none⟩ : Addr).add 0) (.bool false) fun h6 =>
  stc h6 ((⟨b0, 0, none⟩ : Addr).add 1) (.int .u32 0) fun h7 =>
  stc h7 ((⟨b0, 0, none⟩ : Addr).add 2) (.int .i64 0) fun h8 =>
  ldB h8 ((⟨b0, 0, none⟩ : Addr).add 0) fun r3 => ldI h8 .u32 ((⟨b0, 0, none⟩ : Addr).add 1) fun r4 => ldI h8 .i64 ((⟨b0, 0, none⟩ : Addr).add 2) fun r5 =>
  K r3 r4 r5 false h8) (fun x0 h9 =>
  ldB h9 ((⟨b0, 0, none⟩ : Addr).add 0) fun r6 => ldI h9 .u32 ((⟨b0, 0, none⟩ : Addr).add 1) fun r7 => ldI h9 .i64 ((⟨b0, 0, none⟩ : Addr).add 2) fun r8 =>
  K r6 r7 r8 x0 h9) E h1)) h0
structure vizardref17_udp.c (path0 : ByteArray) (K : Bool → Int → Int → Bool → Heap → Prop) (E : Value → Heap → Prop) (H : Heap) : Prop where
  h : vizardref17_udp.vc path0 (fun r0_0 r0_1 r0_2 r1_0 H => ∃ H', Heap.Le H' H ∧ K r0_0 r0_1 r0_2 r1_0 H') E H
def vizardref17_udp.F : FT := fun args K E H => match args with
  | [(.string path0)] => vizardref17_udp.c path0 (fun r0_0 r0_1 r0_2 r1_0 H => K (.tuple #[(.agg #[(.bool r0_0), (.int .u32 r0_1), (.int .i64 r0_2)]), (.bool r1_0)]) H) E H
  | _ => False
noncomputable def vizardref17_udp.Γ : FuncId → Option FT := Γof [(9, vizardref17_Path.F), (42, vizardref04_Parse.F)]
theorem vizardref17_udp.hΓ : ∀ f F, vizardref17_udp.Γ f = some F → CalleeOk Tryd.prog f F := Γof_ok (List.forall_mem_cons.2 ⟨vizardref17_Path.ok, List.forall_mem_cons.2 ⟨vizardref04_Parse.ok, fun _ h => nomatch h⟩⟩)
def vizardref17_udp.J3.t : CT := fun Q E fr H => lenIs 77 fr (slS fr 0 fun path0 => slPA fr 2 fun x0 => slI fr 4 .i64 fun i0 => slI fr 5 .u32 fun a0 => slB fr 6 fun ok0 => slI fr 7 .i64 fun n0 => slI fr 8 .i64 fun k0 => vizardref17_udp.J3 path0 x0 i0 a0 ok0 n0 k0 (fun y7_0 y8_0 H => Q .normal (mkF 77 [(0, (.string path0)), (2, (.pointer (some x0))), (4, (.int .i64 i0)), (5, (.int .u32 a0)), (6, (.bool ok0)), (7, (.int .i64 y7_0)), (8, (.int .i64 y8_0))]) H) E H)
noncomputable def vizardref17_udp.J3.plan : Plan := .go
theorem vizardref17_udp.J3.pok : PlanOk Tryd.prog vizardref17_udp.J3.plan (sub [1, 1, 0, 1, 0, 0, 1, 0, 0, 1, 1, 1, 0, 1, 0, 0, 1] vizardref17_udp.body) := by
  have e : PlanOk Tryd.prog vizardref17_udp.J3.plan (sub [1, 1, 0, 1, 0, 0, 1, 0, 0, 1, 1, 1, 0, 1, 0, 0, 1] vizardref17_udp.body) = (True) := by kernel_rfl
  exact e.mpr trivial
theorem vizardref17_udp.J3.eq (path0 : ByteArray) (x0 : Addr) (i0 : Int) (a0 : Int) (ok0 : Bool) (n0 : Int) (k0 : Int) (Q : Ex → Fr → Heap → Prop) (E : Value → Heap → Prop) (H : Heap) :
    vizardref17_udp.J3.vc path0 x0 i0 a0 ok0 n0 k0 (fun y7_0 y8_0 H => Q .normal (mkF 77 [(0, (.string path0)), (2, (.pointer (some x0))), (4, (.int .i64 i0)), (5, (.int .u32 a0)), (6, (.bool ok0)), (7, (.int .i64 y7_0)), (8, (.int .i64 y8_0))]) H) E H = keepT [0, 2, 4, 5, 6, 7, 8] [] (fun i => []) (wC Tryd.prog vizardref17_udp.Γ vizardref17_udp.J3.plan (sub [1, 1, 0, 1, 0, 0, 1, 0, 0, 1, 1, 1, 0, 1, 0, 0, 1] vizardref17_udp.body)) Q E (mkF 77 [(0, (.string path0)), (2, (.pointer (some x0))), (4, (.int .i64 i0)), (5, (.int .u32 a0)), (6, (.bool ok0)), (7, (.int .i64 n0)), (8, (.int .i64 k0))]) H := by
  kernel_rfl
theorem vizardref17_udp.J3.ok : SoundCode Tryd.prog (sub [1, 1, 0, 1, 0, 0, 1, 0, 0, 1, 1, 1, 0, 1, 0, 0, 1] vizardref17_udp.body) vizardref17_udp.J3.t := by
  refine piece_sound (keepT_sound [0, 2, 4, 5, 6, 7, 8] [] (fun i => []) (wC_sound vizardref17_udp.hΓ Tryd.hm vizardref17_udp.J3.plan _ vizardref17_udp.J3.pok)) ?_
  intro Q E fr H h
  unfold vizardref17_udp.J3.t at h
  obtain ⟨hl, h⟩ := lenIs_elim h
  obtain ⟨path0, q0, h⟩ := slS_elim h
  obtain ⟨x0, q2, h⟩ := slPA_elim h
  obtain ⟨i0, q4, h⟩ := slI_elim h
  obtain ⟨a0, q5, h⟩ := slI_elim h
  obtain ⟨ok0, q6, h⟩ := slB_elim h
  obtain ⟨n0, q7, h⟩ := slI_elim h
  obtain ⟨k0, q8, h⟩ := slI_elim h
  refine ⟨(mkF 77 [(0, (.string path0)), (2, (.pointer (some x0))), (4, (.int .i64 i0)), (5, (.int .u32 a0)), (6, (.bool ok0)), (7, (.int .i64 n0)), (8, (.int .i64 k0))]), fun a ha => ha.mk (Nat.le_of_eq hl.symm) (List.forall_mem_cons.2 ⟨q0, List.forall_mem_cons.2 ⟨q2, List.forall_mem_cons.2 ⟨q4, List.forall_mem_cons.2 ⟨q5, List.forall_mem_cons.2 ⟨q6, List.forall_mem_cons.2 ⟨q7, List.forall_mem_cons.2 ⟨q8, fun _ h => nomatch h⟩⟩⟩⟩⟩⟩⟩), ?_⟩
  have e := vizardref17_udp.J3.eq path0 x0 i0 a0 ok0 n0 k0 Q E H
  rw [← e]
  exact h.h
def vizardref17_udp.W2.t : CT := fun Q E fr H => lenIs 77 fr (slS fr 0 fun path0 => slPA fr 2 fun x0 => slI fr 4 .i64 fun i0 => slI fr 5 .u32 fun a0 => slB fr 6 fun ok0 => slI fr 7 .i64 fun n0 => slI fr 8 .i64 fun k0 => vizardref17_udp.W2 path0 x0 i0 a0 ok0 n0 k0 (fun y7_0 H => Q (.exit 2) (mkF 77 [(0, (.string path0)), (2, (.pointer (some x0))), (5, (.int .u32 a0)), (6, (.bool ok0)), (7, (.int .i64 y7_0))]) H) E H)
noncomputable def vizardref17_udp.W2.plan : Plan := .seq (.go) (.use vizardref17_udp.J3.t)
theorem vizardref17_udp.W2.pok : PlanOk Tryd.prog vizardref17_udp.W2.plan (sub [1, 1, 0, 1, 0, 0, 1, 0, 0, 1, 1, 1, 0, 1, 0, 0] vizardref17_udp.body) := by
  have e : PlanOk Tryd.prog vizardref17_udp.W2.plan (sub [1, 1, 0, 1, 0, 0, 1, 0, 0, 1, 1, 1, 0, 1, 0, 0] vizardref17_udp.body) = ((True) ∧ (SoundCode Tryd.prog (sub [1, 1, 0, 1, 0, 0, 1, 0, 0, 1, 1, 1, 0, 1, 0, 0, 1] vizardref17_udp.body) vizardref17_udp.J3.t)) := by kernel_rfl
  exact e.mpr ⟨trivial, vizardref17_udp.J3.ok⟩
theorem vizardref17_udp.W2.eq (path0 : ByteArray) (x0 : Addr) (i0 : Int) (a0 : Int) (ok0 : Bool) (Q : Ex → Fr → Heap → Prop) (E : Value → Heap → Prop) (RR : Fr → Heap → Prop) (s : Int × Int) (H : Heap) :
    (fun (RR : Int × Int → Heap → Prop) (s : Int × Int) (H : Heap) => vizardref17_udp.W2.vc path0 x0 i0 a0 ok0 s.1 s.2 (fun y7_0 H => Q (.exit 2) (mkF 77 [(0, (.string path0)), (2, (.pointer (some x0))), (5, (.int .u32 a0)), (6, (.bool ok0)), (7, (.int .i64 y7_0))]) H) (fun n0 k0 H => RR (n0, k0) H) E H) (fun s' H' => RR ((fun (s : Int × Int) => (mkF 77 [(0, (.string path0)), (2, (.pointer (some x0))), (4, (.int .i64 i0)), (5, (.int .u32 a0)), (6, (.bool ok0)), (7, (.int .i64 s.1)), (8, (.int .i64 s.2))])) s') H') s H = keepT [0, 2, 4, 5, 6, 7, 8] [] (fun i => if i = 2 then [0, 2, 5, 6, 7] else []) (wC Tryd.prog vizardref17_udp.Γ vizardref17_udp.W2.plan (sub [1, 1, 0, 1, 0, 0, 1, 0, 0, 1, 1, 1, 0, 1, 0, 0] vizardref17_udp.body)) (fun e fr' H' => match e with | .normal => RR fr' H' | .exit id => Q (.exit id) fr' H' | .ret => Q .ret fr' H') E ((fun (s : Int × Int) => (mkF 77 [(0, (.string path0)), (2, (.pointer (some x0))), (4, (.int .i64 i0)), (5, (.int .u32 a0)), (6, (.bool ok0)), (7, (.int .i64 s.1)), (8, (.int .i64 s.2))])) s) H := by
  kernel_rfl
theorem vizardref17_udp.W2.ok : SoundCode Tryd.prog (sub [1, 1, 0, 1, 0, 0, 1, 0, 0, 1, 1, 1, 0, 1, 0] vizardref17_udp.body) vizardref17_udp.W2.t := by
  have e : (sub [1, 1, 0, 1, 0, 0, 1, 0, 0, 1, 1, 1, 0, 1, 0] vizardref17_udp.body) = .loop (sub [1, 1, 0, 1, 0, 0, 1, 0, 0, 1, 1, 1, 0, 1, 0, 0] vizardref17_udp.body) := by kernel_rfl
  rw [e]
  refine piece_sound (loopN_sound (keepT_sound [0, 2, 4, 5, 6, 7, 8] [] (fun i => if i = 2 then [0, 2, 5, 6, 7] else []) (wC_sound vizardref17_udp.hΓ Tryd.hm vizardref17_udp.W2.plan _ vizardref17_udp.W2.pok))) ?_
  intro Q E fr H h
  unfold vizardref17_udp.W2.t at h
  obtain ⟨hl, h⟩ := lenIs_elim h
  obtain ⟨path0, q0, h⟩ := slS_elim h
  obtain ⟨x0, q2, h⟩ := slPA_elim h
  obtain ⟨i0, q4, h⟩ := slI_elim h
  obtain ⟨a0, q5, h⟩ := slI_elim h
  obtain ⟨ok0, q6, h⟩ := slB_elim h
  obtain ⟨n0, q7, h⟩ := slI_elim h
  obtain ⟨k0, q8, h⟩ := slI_elim h
  obtain ⟨m, h⟩ := h.h
  refine ⟨(mkF 77 [(0, (.string path0)), (2, (.pointer (some x0))), (4, (.int .i64 i0)), (5, (.int .u32 a0)), (6, (.bool ok0)), (7, (.int .i64 n0)), (8, (.int .i64 k0))]), fun a ha => ha.mk (Nat.le_of_eq hl.symm) (List.forall_mem_cons.2 ⟨q0, List.forall_mem_cons.2 ⟨q2, List.forall_mem_cons.2 ⟨q4, List.forall_mem_cons.2 ⟨q5, List.forall_mem_cons.2 ⟨q6, List.forall_mem_cons.2 ⟨q7, List.forall_mem_cons.2 ⟨q8, fun _ h => nomatch h⟩⟩⟩⟩⟩⟩⟩), m, ?_⟩
  have e := loopS_eq (B := (fun (RR : Int × Int → Heap → Prop) (s : Int × Int) (H : Heap) => vizardref17_udp.W2.vc path0 x0 i0 a0 ok0 s.1 s.2 (fun y7_0 H => Q (.exit 2) (mkF 77 [(0, (.string path0)), (2, (.pointer (some x0))), (5, (.int .u32 a0)), (6, (.bool ok0)), (7, (.int .i64 y7_0))]) H) (fun n0 k0 H => RR (n0, k0) H) E H)) (A := keepT [0, 2, 4, 5, 6, 7, 8] [] (fun i => if i = 2 then [0, 2, 5, 6, 7] else []) (wC Tryd.prog vizardref17_udp.Γ vizardref17_udp.W2.plan (sub [1, 1, 0, 1, 0, 0, 1, 0, 0, 1, 1, 1, 0, 1, 0, 0] vizardref17_udp.body))) (m := (fun (s : Int × Int) => (mkF 77 [(0, (.string path0)), (2, (.pointer (some x0))), (4, (.int .i64 i0)), (5, (.int .u32 a0)), (6, (.bool ok0)), (7, (.int .i64 s.1)), (8, (.int .i64 s.2))]))) (Q := Q) (E := E) (fun RR s H => vizardref17_udp.W2.eq path0 x0 i0 a0 ok0 Q E RR s H) m (n0, k0) H
  exact cast e h
def vizardref17_udp.W1.t : CT := fun Q E fr H => lenIs 77 fr (slS fr 0 fun path0 => slPA fr 2 fun x0 => slI fr 4 .i64 fun i0 => vizardref17_udp.W1 path0 x0 i0 (fun  H => Q (.exit 0) (mkF 77 [(2, (.pointer (some x0)))]) H) (fun y3_0 H => Q .ret (mkF 77 [(2, (.pointer (some x0))), (3, (.bool y3_0))]) H) E H)
noncomputable def vizardref17_udp.W1.plan : Plan := .seq (.go) (.seq (.block (.seq (.go) (.seq (.go) (.seq (.go) (.seq (.seq (.go) (.block (.use vizardref17_udp.W2.t))) (.seq (.go) (.seq (.draw ⟨[0, 1, 2, 3, 4, 5, 6, 7, 8], (dl [(0, []), (1, []), (2, []), (3, []), (5, []), (4, [3, 2, 1]), (6, []), (7, []), (8, [0, 4, 3, 2, 1])] .fin), [9]⟩) (.go)))))))) (.go))
theorem vizardref17_udp.W1.pok : PlanOk Tryd.prog vizardref17_udp.W1.plan (sub [1, 1, 0, 1, 0, 0] vizardref17_udp.body) := by
  have e : PlanOk Tryd.prog vizardref17_udp.W1.plan (sub [1, 1, 0, 1, 0, 0] vizardref17_udp.body) = ((True) ∧ (((True) ∧ ((True) ∧ ((True) ∧ (((True) ∧ (SoundCode Tryd.prog (sub [1, 1, 0, 1, 0, 0, 1, 0, 0, 1, 1, 1, 0, 1, 0] vizardref17_udp.body) vizardref17_udp.W2.t)) ∧ ((True) ∧ ((True) ∧ (True))))))) ∧ (True))) := by kernel_rfl
  exact e.mpr ⟨trivial, ⟨⟨trivial, ⟨trivial, ⟨trivial, ⟨⟨trivial, vizardref17_udp.W2.ok⟩, ⟨trivial, ⟨trivial, trivial⟩⟩⟩⟩⟩⟩, trivial⟩⟩
theorem vizardref17_udp.W1.eq (path0 : ByteArray) (x0 : Addr) (Q : Ex → Fr → Heap → Prop) (E : Value → Heap → Prop) (RR : Fr → Heap → Prop) (s : Int) (H : Heap) :
    (fun (RR : Int → Heap → Prop) (s : Int) (H : Heap) => vizardref17_udp.W1.vc path0 x0 s (fun  H => Q (.exit 0) (mkF 77 [(2, (.pointer (some x0)))]) H) (fun y3_0 H => Q .ret (mkF 77 [(2, (.pointer (some x0))), (3, (.bool y3_0))]) H) (fun i0 H => RR (i0) H) E H) (fun s' H' => RR ((fun (s : Int) => (mkF 77 [(0, (.string path0)), (2, (.pointer (some x0))), (4, (.int .i64 s))])) s') H') s H = keepT [0, 2, 4] [2, 3] (fun i => if i = 0 then [2] else []) (wC Tryd.prog vizardref17_udp.Γ vizardref17_udp.W1.plan (sub [1, 1, 0, 1, 0, 0] vizardref17_udp.body)) (fun e fr' H' => match e with | .normal => RR fr' H' | .exit id => Q (.exit id) fr' H' | .ret => Q .ret fr' H') E ((fun (s : Int) => (mkF 77 [(0, (.string path0)), (2, (.pointer (some x0))), (4, (.int .i64 s))])) s) H := by
  kernel_rfl
theorem vizardref17_udp.W1.ok : SoundCode Tryd.prog (sub [1, 1, 0, 1, 0] vizardref17_udp.body) vizardref17_udp.W1.t := by
  have e : (sub [1, 1, 0, 1, 0] vizardref17_udp.body) = .loop (sub [1, 1, 0, 1, 0, 0] vizardref17_udp.body) := by kernel_rfl
  rw [e]
  refine piece_sound (loopN_sound (keepT_sound [0, 2, 4] [2, 3] (fun i => if i = 0 then [2] else []) (wC_sound vizardref17_udp.hΓ Tryd.hm vizardref17_udp.W1.plan _ vizardref17_udp.W1.pok))) ?_
  intro Q E fr H h
  unfold vizardref17_udp.W1.t at h
  obtain ⟨hl, h⟩ := lenIs_elim h
  obtain ⟨path0, q0, h⟩ := slS_elim h
  obtain ⟨x0, q2, h⟩ := slPA_elim h
  obtain ⟨i0, q4, h⟩ := slI_elim h
  obtain ⟨m, h⟩ := h.h
  refine ⟨(mkF 77 [(0, (.string path0)), (2, (.pointer (some x0))), (4, (.int .i64 i0))]), fun a ha => ha.mk (Nat.le_of_eq hl.symm) (List.forall_mem_cons.2 ⟨q0, List.forall_mem_cons.2 ⟨q2, List.forall_mem_cons.2 ⟨q4, fun _ h => nomatch h⟩⟩⟩), m, ?_⟩
  have e := loopS_eq (B := (fun (RR : Int → Heap → Prop) (s : Int) (H : Heap) => vizardref17_udp.W1.vc path0 x0 s (fun  H => Q (.exit 0) (mkF 77 [(2, (.pointer (some x0)))]) H) (fun y3_0 H => Q .ret (mkF 77 [(2, (.pointer (some x0))), (3, (.bool y3_0))]) H) (fun i0 H => RR (i0) H) E H)) (A := keepT [0, 2, 4] [2, 3] (fun i => if i = 0 then [2] else []) (wC Tryd.prog vizardref17_udp.Γ vizardref17_udp.W1.plan (sub [1, 1, 0, 1, 0, 0] vizardref17_udp.body))) (m := (fun (s : Int) => (mkF 77 [(0, (.string path0)), (2, (.pointer (some x0))), (4, (.int .i64 s))]))) (Q := Q) (E := E) (fun RR s H => vizardref17_udp.W1.eq path0 x0 Q E RR s H) m (i0) H
  exact cast e h
noncomputable def vizardref17_udp.plan : Plan := .seq (.go) (.seq (.go) (.seq (.seq (.go) (.block (.use vizardref17_udp.W1.t))) (.go)))
theorem vizardref17_udp.pok : PlanOk Tryd.prog vizardref17_udp.plan vizardref17_udp.body := by
  have e : PlanOk Tryd.prog vizardref17_udp.plan vizardref17_udp.body = ((True) ∧ ((True) ∧ (((True) ∧ (SoundCode Tryd.prog (sub [1, 1, 0, 1, 0] vizardref17_udp.body) vizardref17_udp.W1.t)) ∧ (True)))) := by kernel_rfl
  exact e.mpr ⟨trivial, ⟨trivial, ⟨⟨trivial, vizardref17_udp.W1.ok⟩, trivial⟩⟩⟩
theorem vizardref17_udp.eq (path0 : ByteArray) (K : Value → Heap → Prop) (E : Value → Heap → Prop) (H : Heap) :
    fnT Tryd.prog Tryd.f31 (wC Tryd.prog vizardref17_udp.Γ vizardref17_udp.plan vizardref17_udp.body) [(.string path0)] K E H = vizardref17_udp.vc path0 (fun r0_0 r0_1 r0_2 r1_0 H => K (.tuple #[(.agg #[(.bool r0_0), (.int .u32 r0_1), (.int .i64 r0_2)]), (.bool r1_0)]) H) E H := by
  kernel_rfl
theorem vizardref17_udp.Fe {args : List Value} {K E : Value → Heap → Prop} {H : Heap} (h : vizardref17_udp.F args K E H) : ∃ path0, args = [(.string path0)] ∧ vizardref17_udp.c path0 (fun r0_0 r0_1 r0_2 r1_0 H => K (.tuple #[(.agg #[(.bool r0_0), (.int .u32 r0_1), (.int .i64 r0_2)]), (.bool r1_0)]) H) E H := by
  unfold vizardref17_udp.F at h
  split at h
  · exact ⟨_, rfl, h⟩
  · exact h.elim
theorem vizardref17_udp.ok : CalleeOk Tryd.prog 31 vizardref17_udp.F :=
  callee_ok vizardref17_udp.hΓ (fn := Tryd.f31) (c := vizardref17_udp.body) (T := wC Tryd.prog vizardref17_udp.Γ vizardref17_udp.plan vizardref17_udp.body) (by kernel_rfl) (by kernel_rfl) (by kernel_rfl) (wC_sound vizardref17_udp.hΓ Tryd.hm vizardref17_udp.plan _ vizardref17_udp.pok) fun _ K E H h => by
    obtain ⟨z0, e, h⟩ := vizardref17_udp.Fe h
    subst e
    have h2 : vizardref17_udp.vc z0 (fun r0_0 r0_1 r0_2 r1_0 H => ∃ H', Heap.Le H' H ∧ K (.tuple #[(.agg #[(.bool r0_0), (.int .u32 r0_1), (.int .i64 r0_2)]), (.bool r1_0)]) H') E H := h.h
    rw [vizardref17_udp.eq z0 (Fg K) E H]
    exact h2

/-! vizard/vizardref17.Parse -/
noncomputable def vizardref17_Parse.body : Code := Tryd.f14.body.getD .skip
def vizardref17_Parse.J1.vc (l0 : Option Addr) (l1 : Nat) (l2 : Nat) (x0 : Addr) (x1 : Bool) (Kn : Heap → Prop) (Kr : Int → Heap → Prop) (E : Value → Heap → Prop) (h0 : Heap) : Prop :=
  (if x1 = true then
  stc h0 (x0.add 0) (.bool false) fun h1 =>
  stc h1 (x0.add 1) (.int .u32 0) fun h2 =>
  stc h2 (x0.add 2) (.int .i64 0) fun h3 =>
  Kr 400 h3
  else
  Kn h0)
structure vizardref17_Parse.J1 (l0 : Option Addr) (l1 : Nat) (l2 : Nat) (x0 : Addr) (x1 : Bool) (Kn : Heap → Prop) (Kr : Int → Heap → Prop) (E : Value → Heap → Prop) (H : Heap) : Prop where
  h : vizardref17_Parse.J1.vc l0 l1 l2 x0 x1 Kn Kr E H
def vizardref17_Parse.J5.vc (x0 : Addr) (path0 : ByteArray) (protocol0 : ByteArray) (x1 : Bool) (Kn : Heap → Prop) (Kr : Int → Heap → Prop) (E : Value → Heap → Prop) (h0 : Heap) : Prop :=
  (if x1 = true then
  stc h0 (x0.add 0) (.bool false) fun h1 =>
  stc h1 (x0.add 1) (.int .u32 0) fun h2 =>
  stc h2 (x0.add 2) (.int .i64 0) fun h3 =>
  Kr 400 h3
  else
  Kn h0)
structure vizardref17_Parse.J5 (x0 : Addr) (path0 : ByteArray) (protocol0 : ByteArray) (x1 : Bool) (Kn : Heap → Prop) (Kr : Int → Heap → Prop) (E : Value → Heap → Prop) (H : Heap) : Prop where
  h : vizardref17_Parse.J5.vc x0 path0 protocol0 x1 Kn Kr E H
def vizardref17_Parse.J4.vc (x0 : Addr) (scheme0 : ByteArray) (authority0 : ByteArray) (path0 : ByteArray) (protocol0 : ByteArray) (caps0 : ByteArray) (f0 : Bool) (x1 : Bool) (Kn : Heap → Prop) (Kr : Int → Heap → Prop) (E : Value → Heap → Prop) (h0 : Heap) : Prop :=
  (if x1 = true then
  stc h0 (x0.add 0) (.bool false) fun h1 =>
  stc h1 (x0.add 1) (.int .u32 0) fun h2 =>
  stc h2 (x0.add 2) (.int .i64 0) fun h3 =>
  Kr 501 h3
  else
  (if (!(scheme0.toList == (⟨#[104, 116, 116, 112, 115]⟩ : ByteArray).toList)) = true then
  vizardref17_Parse.J5 x0 path0 protocol0 true Kn Kr E h0
  else
  (if (authority0.toList == (⟨#[]⟩ : ByteArray).toList) = true then
  vizardref17_Parse.J5 x0 path0 protocol0 true Kn Kr E h0
  else
  (if (!f0) = true then
  vizardref17_Parse.J5 x0 path0 protocol0 true Kn Kr E h0
  else
  vizardref17_Parse.J5 x0 path0 protocol0 (!(caps0.toList == (⟨#[63, 49]⟩ : ByteArray).toList)) Kn Kr E h0))))
structure vizardref17_Parse.J4 (x0 : Addr) (scheme0 : ByteArray) (authority0 : ByteArray) (path0 : ByteArray) (protocol0 : ByteArray) (caps0 : ByteArray) (f0 : Bool) (x1 : Bool) (Kn : Heap → Prop) (Kr : Int → Heap → Prop) (E : Value → Heap → Prop) (H : Heap) : Prop where
  h : vizardref17_Parse.J4.vc x0 scheme0 authority0 path0 protocol0 caps0 f0 x1 Kn Kr E H
def vizardref17_Parse.J3.vc (x0 : Addr) (method0 : ByteArray) (scheme0 : ByteArray) (authority0 : ByteArray) (path0 : ByteArray) (protocol0 : ByteArray) (caps0 : ByteArray) (f0 : Bool) (x1 : Bool) (Kn : Heap → Prop) (Kr : Int → Heap → Prop) (E : Value → Heap → Prop) (h0 : Heap) : Prop :=
  (if x1 = true then
  stc h0 (x0.add 0) (.bool false) fun h1 =>
  stc h1 (x0.add 1) (.int .u32 0) fun h2 =>
  stc h2 (x0.add 2) (.int .i64 0) fun h3 =>
  Kr 400 h3
  else
  (if (!(method0.toList == (⟨#[67, 79, 78, 78, 69, 67, 84]⟩ : ByteArray).toList)) = true then
  stc h0 (x0.add 0) (.bool false) fun h4 =>
  stc h4 (x0.add 1) (.int .u32 0) fun h5 =>
  stc h5 (x0.add 2) (.int .i64 0) fun h6 =>
  Kr 405 h6
  else
  (if (!(protocol0.toList == (⟨#[99, 111, 110, 110, 101, 99, 116, 45, 117, 100, 112]⟩ : ByteArray).toList)) = true then
  vizardref17_Parse.J4 x0 scheme0 authority0 path0 protocol0 caps0 f0 (!(protocol0.toList == (⟨#[99, 111, 110, 110, 101, 99, 116, 45, 105, 112]⟩ : ByteArray).toList)) Kn Kr E h0
  else
  vizardref17_Parse.J4 x0 scheme0 authority0 path0 protocol0 caps0 f0 false Kn Kr E h0)))
structure vizardref17_Parse.J3 (x0 : Addr) (method0 : ByteArray) (scheme0 : ByteArray) (authority0 : ByteArray) (path0 : ByteArray) (protocol0 : ByteArray) (caps0 : ByteArray) (f0 : Bool) (x1 : Bool) (Kn : Heap → Prop) (Kr : Int → Heap → Prop) (E : Value → Heap → Prop) (H : Heap) : Prop where
  h : vizardref17_Parse.J3.vc x0 method0 scheme0 authority0 path0 protocol0 caps0 f0 x1 Kn Kr E H
def vizardref17_Parse.J6.vc (x0 : Addr) (path0 : ByteArray) (protocol0 : ByteArray) (Kr : Int → Heap → Prop) (E : Value → Heap → Prop) (h0 : Heap) : Prop :=
  (if (protocol0.toList == (⟨#[99, 111, 110, 110, 101, 99, 116, 45, 105, 112]⟩ : ByteArray).toList) = true then
  vizardref17_Path.c true 0 0 (fun x1 h1 =>
  (if (!(path0.toList == x1.toList)) = true then
  stc h1 (x0.add 0) (.bool false) fun h2 =>
  stc h2 (x0.add 1) (.int .u32 0) fun h3 =>
  stc h3 (x0.add 2) (.int .i64 0) fun h4 =>
  Kr 404 h4
  else
  stc h1 (x0.add 0) (.bool true) fun h5 =>
  stc h5 (x0.add 1) (.int .u32 0) fun h6 =>
  stc h6 (x0.add 2) (.int .i64 0) fun h7 =>
  Kr 200 h7)) E h0
  else
  vizardref17_udp.c path0 (fun x2 x3 x4 x5 h8 =>
  newB (.cells #[(.bool false), (.int .u32 0), (.int .i64 0)] 24) (fun b0 h9 =>
  stc h9 ((⟨b0, 0, none⟩ : Addr).add 0) (.bool x2) fun h10 =>
  stc h10 ((⟨b0, 0, none⟩ : Addr).add 1) (.int .u32 x3) fun h11 =>
  stc h11 ((⟨b0, 0, none⟩ : Addr).add 2) (.int .i64 x4) fun h12 =>
  (if (!x5) = true then
  stc h12 (x0.add 0) (.bool false) fun h13 =>
  stc h13 (x0.add 1) (.int .u32 0) fun h14 =>
  stc h14 (x0.add 2) (.int .i64 0) fun h15 =>
  Kr 404 h15
  else
  ldB h12 ((⟨b0, 0, none⟩ : Addr).add 0) fun x6 => ldI h12 .u32 ((⟨b0, 0, none⟩ : Addr).add 1) fun x7 => ldI h12 .i64 ((⟨b0, 0, none⟩ : Addr).add 2) fun x8 =>
  stc h12 (x0.add 0) (.bool x6) fun h16 =>
  stc h16 (x0.add 1) (.int .u32 x7) fun h17 =>
  stc h17 (x0.add 2) (.int .i64 x8) fun h18 =>
  Kr 200 h18)) h8) E h0)
structure vizardref17_Parse.J6 (x0 : Addr) (path0 : ByteArray) (protocol0 : ByteArray) (Kr : Int → Heap → Prop) (E : Value → Heap → Prop) (H : Heap) : Prop where
  h : vizardref17_Parse.J6.vc x0 path0 protocol0 Kr E H
def vizardref17_Parse.J2.vc (l0 : Option Addr) (l1 : Nat) (l2 : Nat) (x0 : Addr) (Kr : Int → Heap → Prop) (E : Value → Heap → Prop) (h0 : Heap) : Prop :=
  vizardref14_Get.c l0 l1 l2 (⟨#[58, 109, 101, 116, 104, 111, 100]⟩ : ByteArray) (fun x1 x2 h1 =>
  vizardref14_Get.c l0 l1 l2 (⟨#[58, 115, 99, 104, 101, 109, 101]⟩ : ByteArray) (fun x3 x4 h2 =>
  vizardref14_Get.c l0 l1 l2 (⟨#[58, 97, 117, 116, 104, 111, 114, 105, 116, 121]⟩ : ByteArray) (fun x5 x6 h3 =>
  vizardref14_Get.c l0 l1 l2 (⟨#[58, 112, 97, 116, 104]⟩ : ByteArray) (fun x7 x8 h4 =>
  vizardref14_Get.c l0 l1 l2 (⟨#[58, 112, 114, 111, 116, 111, 99, 111, 108]⟩ : ByteArray) (fun x9 x10 h5 =>
  vizardref14_Get.c l0 l1 l2 (⟨#[99, 97, 112, 115, 117, 108, 101, 45, 112, 114, 111, 116, 111, 99, 111, 108]⟩ : ByteArray) (fun x11 x12 h6 =>
  (if (!x2) = true then
  vizardref17_Parse.J3 x0 x1 x3 x5 x7 x9 x11 x12 true (fun h7 =>
  vizardref17_Parse.J6 x0 x7 x9 Kr E h7) Kr E h6
  else
  (if (!x4) = true then
  vizardref17_Parse.J3 x0 x1 x3 x5 x7 x9 x11 x12 true (fun h10 =>
  vizardref17_Parse.J6 x0 x7 x9 Kr E h10) Kr E h6
  else
  (if (!x6) = true then
  vizardref17_Parse.J3 x0 x1 x3 x5 x7 x9 x11 x12 true (fun h13 =>
  vizardref17_Parse.J6 x0 x7 x9 Kr E h13) Kr E h6
  else
  (if (!x8) = true then
  vizardref17_Parse.J3 x0 x1 x3 x5 x7 x9 x11 x12 true (fun h16 =>
  vizardref17_Parse.J6 x0 x7 x9 Kr E h16) Kr E h6
  else
  (if (x1.toList == (⟨#[67, 79, 78, 78, 69, 67, 84]⟩ : ByteArray).toList) = true then
  vizardref17_Parse.J3 x0 x1 x3 x5 x7 x9 x11 x12 (!x10) (fun h19 =>
  vizardref17_Parse.J6 x0 x7 x9 Kr E h19) Kr E h6
  else
  vizardref17_Parse.J3 x0 x1 x3 x5 x7 x9 x11 x12 false (fun h22 =>
  vizardref17_Parse.J6 x0 x7 x9 Kr E h22) Kr E h6)))))) E h5) E h4) E h3) E h2) E h1) E h0
structure vizardref17_Parse.J2 (l0 : Option Addr) (l1 : Nat) (l2 : Nat) (x0 : Addr) (Kr : Int → Heap → Prop) (E : Value → Heap → Prop) (H : Heap) : Prop where
  h : vizardref17_Parse.J2.vc l0 l1 l2 x0 Kr E H
def vizardref17_Parse.vc (l0 : Option Addr) (l1 : Nat) (l2 : Nat) (K : Bool → Int → Int → Int → Heap → Prop) (E : Value → Heap → Prop) (h0 : Heap) : Prop :=
  newB (.cells #[(.bool false), (.int .u32 0), (.int .i64 0)] 24) (fun b0 h1 =>
  vizardref14_Check.c l0 l1 l2 (fun x0 h2 =>
  (if (x0 != 0) = true then
  vizardref17_Parse.J1 l0 l1 l2 (⟨b0, 0, none⟩ : Addr) true (fun h3 =>
  vizardref17_Parse.J2 l0 l1 l2 (⟨b0, 0, none⟩ : Addr) (fun x1 h4 =>
  ldB h4 ((⟨b0, 0, none⟩ : Addr).add 0) fun r0 => ldI h4 .u32 ((⟨b0, 0, none⟩ : Addr).add 1) fun r1 => ldI h4 .i64 ((⟨b0, 0, none⟩ : Addr).add 2) fun r2 =>
  K r0 r1 r2 x1 h4) E h3) (fun x2 h5 =>
  ldB h5 ((⟨b0, 0, none⟩ : Addr).add 0) fun r3 => ldI h5 .u32 ((⟨b0, 0, none⟩ : Addr).add 1) fun r4 => ldI h5 .i64 ((⟨b0, 0, none⟩ : Addr).add 2) fun r5 =>
  K r3 r4 r5 x2 h5) E h2
  else
  vizardref17_shaped.c l0 l1 l2 (fun x3 h6 =>
  vizardref17_Parse.J1 l0 l1 l2 (⟨b0, 0, none⟩ : Addr) (!x3) (fun h7 =>
  vizardref17_Parse.J2 l0 l1 l2 (⟨b0, 0, none⟩ : Addr) (fun x4 h8 =>
  ldB h8 ((⟨b0, 0, none⟩ : Addr).add 0) fun r6 => ldI h8 .u32 ((⟨b0, 0, none⟩ : Addr).add 1) fun r7 => ldI h8 .i64 ((⟨b0, 0, none⟩ : Addr).add 2) fun r8 =>
  K r6 r7 r8 x4 h8) E h7) (fun x5 h9 =>
  ldB h9 ((⟨b0, 0, none⟩ : Addr).add 0) fun r9 => ldI h9 .u32 ((⟨b0, 0, none⟩ : Addr).add 1) fun r10 => ldI h9 .i64 ((⟨b0, 0, none⟩ : Addr).add 2) fun r11 =>
  K r9 r10 r11 x5 h9) E h6) E h2)) E h1) h0
structure vizardref17_Parse.c (l0 : Option Addr) (l1 : Nat) (l2 : Nat) (K : Bool → Int → Int → Int → Heap → Prop) (E : Value → Heap → Prop) (H : Heap) : Prop where
  h : vizardref17_Parse.vc l0 l1 l2 (fun r0_0 r0_1 r0_2 r1_0 H => ∃ H', Heap.Le H' H ∧ K r0_0 r0_1 r0_2 r1_0 H') E H
def vizardref17_Parse.F : FT := fun args K E H => match args with
  | [(.slice l0 l1 l2)] => vizardref17_Parse.c l0 l1 l2 (fun r0_0 r0_1 r0_2 r1_0 H => K (.tuple #[(.agg #[(.bool r0_0), (.int .u32 r0_1), (.int .i64 r0_2)]), (.int .i64 r1_0)]) H) E H
  | _ => False
noncomputable def vizardref17_Parse.Γ : FuncId → Option FT := Γof [(9, vizardref17_Path.F), (16, vizardref14_Check.F), (29, vizardref17_shaped.F), (30, vizardref14_Get.F), (31, vizardref17_udp.F)]
theorem vizardref17_Parse.hΓ : ∀ f F, vizardref17_Parse.Γ f = some F → CalleeOk Tryd.prog f F := Γof_ok (List.forall_mem_cons.2 ⟨vizardref17_Path.ok, List.forall_mem_cons.2 ⟨vizardref14_Check.ok, List.forall_mem_cons.2 ⟨vizardref17_shaped.ok, List.forall_mem_cons.2 ⟨vizardref14_Get.ok, List.forall_mem_cons.2 ⟨vizardref17_udp.ok, fun _ h => nomatch h⟩⟩⟩⟩⟩)
def vizardref17_Parse.J1.t : CT := fun Q E fr H => lenIs 126 fr (slSl fr 0 fun l0 l1 l2 => slPA fr 2 fun x0 => slB fr 25 fun x1 => vizardref17_Parse.J1 l0 l1 l2 x0 x1 (fun  H => Q .normal (mkF 126 [(0, (.slice l0 l1 l2)), (2, (.pointer (some x0)))]) H) (fun y3_0 H => Q .ret (mkF 126 [(2, (.pointer (some x0))), (3, (.int .i64 y3_0))]) H) E H)
noncomputable def vizardref17_Parse.J1.plan : Plan := .go
theorem vizardref17_Parse.J1.pok : PlanOk Tryd.prog vizardref17_Parse.J1.plan (sub [1, 0, 1] vizardref17_Parse.body) := by
  have e : PlanOk Tryd.prog vizardref17_Parse.J1.plan (sub [1, 0, 1] vizardref17_Parse.body) = (True) := by kernel_rfl
  exact e.mpr trivial
theorem vizardref17_Parse.J1.eq (l0 : Option Addr) (l1 : Nat) (l2 : Nat) (x0 : Addr) (x1 : Bool) (Q : Ex → Fr → Heap → Prop) (E : Value → Heap → Prop) (H : Heap) :
    vizardref17_Parse.J1.vc l0 l1 l2 x0 x1 (fun  H => Q .normal (mkF 126 [(0, (.slice l0 l1 l2)), (2, (.pointer (some x0)))]) H) (fun y3_0 H => Q .ret (mkF 126 [(2, (.pointer (some x0))), (3, (.int .i64 y3_0))]) H) E H = keepT [0, 2] [2, 3] (fun i => []) (wC Tryd.prog vizardref17_Parse.Γ vizardref17_Parse.J1.plan (sub [1, 0, 1] vizardref17_Parse.body)) Q E (mkF 126 [(0, (.slice l0 l1 l2)), (2, (.pointer (some x0))), (25, (.bool x1))]) H := by
  kernel_rfl
theorem vizardref17_Parse.J1.ok : SoundCode Tryd.prog (sub [1, 0, 1] vizardref17_Parse.body) vizardref17_Parse.J1.t := by
  refine piece_sound (keepT_sound [0, 2] [2, 3] (fun i => []) (wC_sound vizardref17_Parse.hΓ Tryd.hm vizardref17_Parse.J1.plan _ vizardref17_Parse.J1.pok)) ?_
  intro Q E fr H h
  unfold vizardref17_Parse.J1.t at h
  obtain ⟨hl, h⟩ := lenIs_elim h
  obtain ⟨l0, l1, l2, q0, h⟩ := slSl_elim h
  obtain ⟨x0, q2, h⟩ := slPA_elim h
  obtain ⟨x1, q25, h⟩ := slB_elim h
  refine ⟨(mkF 126 [(0, (.slice l0 l1 l2)), (2, (.pointer (some x0))), (25, (.bool x1))]), fun a ha => ha.mk (Nat.le_of_eq hl.symm) (List.forall_mem_cons.2 ⟨q0, List.forall_mem_cons.2 ⟨q2, List.forall_mem_cons.2 ⟨q25, fun _ h => nomatch h⟩⟩⟩), ?_⟩
  have e := vizardref17_Parse.J1.eq l0 l1 l2 x0 x1 Q E H
  rw [← e]
  exact h.h
def vizardref17_Parse.J5.t : CT := fun Q E fr H => lenIs 126 fr (slPA fr 2 fun x0 => slS fr 10 fun path0 => slS fr 12 fun protocol0 => slB fr 93 fun x1 => vizardref17_Parse.J5 x0 path0 protocol0 x1 (fun  H => Q .normal (mkF 126 [(2, (.pointer (some x0))), (10, (.string path0)), (12, (.string protocol0))]) H) (fun y3_0 H => Q .ret (mkF 126 [(2, (.pointer (some x0))), (3, (.int .i64 y3_0))]) H) E H)
noncomputable def vizardref17_Parse.J5.plan : Plan := .go
theorem vizardref17_Parse.J5.pok : PlanOk Tryd.prog vizardref17_Parse.J5.plan (sub [1, 1, 1, 1, 1, 1, 1, 1, 0, 0, 1, 1, 1, 1, 1, 1, 1] vizardref17_Parse.body) := by
  have e : PlanOk Tryd.prog vizardref17_Parse.J5.plan (sub [1, 1, 1, 1, 1, 1, 1, 1, 0, 0, 1, 1, 1, 1, 1, 1, 1] vizardref17_Parse.body) = (True) := by kernel_rfl
  exact e.mpr trivial
theorem vizardref17_Parse.J5.eq (x0 : Addr) (path0 : ByteArray) (protocol0 : ByteArray) (x1 : Bool) (Q : Ex → Fr → Heap → Prop) (E : Value → Heap → Prop) (H : Heap) :
    vizardref17_Parse.J5.vc x0 path0 protocol0 x1 (fun  H => Q .normal (mkF 126 [(2, (.pointer (some x0))), (10, (.string path0)), (12, (.string protocol0))]) H) (fun y3_0 H => Q .ret (mkF 126 [(2, (.pointer (some x0))), (3, (.int .i64 y3_0))]) H) E H = keepT [2, 10, 12] [2, 3] (fun i => []) (wC Tryd.prog vizardref17_Parse.Γ vizardref17_Parse.J5.plan (sub [1, 1, 1, 1, 1, 1, 1, 1, 0, 0, 1, 1, 1, 1, 1, 1, 1] vizardref17_Parse.body)) Q E (mkF 126 [(2, (.pointer (some x0))), (10, (.string path0)), (12, (.string protocol0)), (93, (.bool x1))]) H := by
  kernel_rfl
theorem vizardref17_Parse.J5.ok : SoundCode Tryd.prog (sub [1, 1, 1, 1, 1, 1, 1, 1, 0, 0, 1, 1, 1, 1, 1, 1, 1] vizardref17_Parse.body) vizardref17_Parse.J5.t := by
  refine piece_sound (keepT_sound [2, 10, 12] [2, 3] (fun i => []) (wC_sound vizardref17_Parse.hΓ Tryd.hm vizardref17_Parse.J5.plan _ vizardref17_Parse.J5.pok)) ?_
  intro Q E fr H h
  unfold vizardref17_Parse.J5.t at h
  obtain ⟨hl, h⟩ := lenIs_elim h
  obtain ⟨x0, q2, h⟩ := slPA_elim h
  obtain ⟨path0, q10, h⟩ := slS_elim h
  obtain ⟨protocol0, q12, h⟩ := slS_elim h
  obtain ⟨x1, q93, h⟩ := slB_elim h
  refine ⟨(mkF 126 [(2, (.pointer (some x0))), (10, (.string path0)), (12, (.string protocol0)), (93, (.bool x1))]), fun a ha => ha.mk (Nat.le_of_eq hl.symm) (List.forall_mem_cons.2 ⟨q2, List.forall_mem_cons.2 ⟨q10, List.forall_mem_cons.2 ⟨q12, List.forall_mem_cons.2 ⟨q93, fun _ h => nomatch h⟩⟩⟩⟩), ?_⟩
  have e := vizardref17_Parse.J5.eq x0 path0 protocol0 x1 Q E H
  rw [← e]
  exact h.h
def vizardref17_Parse.J4.t : CT := fun Q E fr H => lenIs 126 fr (slPA fr 2 fun x0 => slS fr 6 fun scheme0 => slS fr 8 fun authority0 => slS fr 10 fun path0 => slS fr 12 fun protocol0 => slS fr 14 fun caps0 => slB fr 15 fun f0 => slB fr 85 fun x1 => vizardref17_Parse.J4 x0 scheme0 authority0 path0 protocol0 caps0 f0 x1 (fun  H => Q .normal (mkF 126 [(2, (.pointer (some x0))), (10, (.string path0)), (12, (.string protocol0))]) H) (fun y3_0 H => Q .ret (mkF 126 [(2, (.pointer (some x0))), (3, (.int .i64 y3_0))]) H) E H)
noncomputable def vizardref17_Parse.J4.plan : Plan := .cond (.go) (.seq (.go) (.use vizardref17_Parse.J5.t))
theorem vizardref17_Parse.J4.pok : PlanOk Tryd.prog vizardref17_Parse.J4.plan (sub [1, 1, 1, 1, 1, 1, 1, 1, 0, 0, 1, 1, 1, 1, 1] vizardref17_Parse.body) := by
  have e : PlanOk Tryd.prog vizardref17_Parse.J4.plan (sub [1, 1, 1, 1, 1, 1, 1, 1, 0, 0, 1, 1, 1, 1, 1] vizardref17_Parse.body) = ((True) ∧ ((True) ∧ (SoundCode Tryd.prog (sub [1, 1, 1, 1, 1, 1, 1, 1, 0, 0, 1, 1, 1, 1, 1, 1, 1] vizardref17_Parse.body) vizardref17_Parse.J5.t))) := by kernel_rfl
  exact e.mpr ⟨trivial, ⟨trivial, vizardref17_Parse.J5.ok⟩⟩
theorem vizardref17_Parse.J4.eq (x0 : Addr) (scheme0 : ByteArray) (authority0 : ByteArray) (path0 : ByteArray) (protocol0 : ByteArray) (caps0 : ByteArray) (f0 : Bool) (x1 : Bool) (Q : Ex → Fr → Heap → Prop) (E : Value → Heap → Prop) (H : Heap) :
    vizardref17_Parse.J4.vc x0 scheme0 authority0 path0 protocol0 caps0 f0 x1 (fun  H => Q .normal (mkF 126 [(2, (.pointer (some x0))), (10, (.string path0)), (12, (.string protocol0))]) H) (fun y3_0 H => Q .ret (mkF 126 [(2, (.pointer (some x0))), (3, (.int .i64 y3_0))]) H) E H = keepT [2, 10, 12] [2, 3] (fun i => []) (wC Tryd.prog vizardref17_Parse.Γ vizardref17_Parse.J4.plan (sub [1, 1, 1, 1, 1, 1, 1, 1, 0, 0, 1, 1, 1, 1, 1] vizardref17_Parse.body)) Q E (mkF 126 [(2, (.pointer (some x0))), (6, (.string scheme0)), (8, (.string authority0)), (10, (.string path0)), (12, (.string protocol0)), (14, (.string caps0)), (15, (.bool f0)), (85, (.bool x1))]) H := by
  kernel_rfl
theorem vizardref17_Parse.J4.ok : SoundCode Tryd.prog (sub [1, 1, 1, 1, 1, 1, 1, 1, 0, 0, 1, 1, 1, 1, 1] vizardref17_Parse.body) vizardref17_Parse.J4.t := by
  refine piece_sound (keepT_sound [2, 10, 12] [2, 3] (fun i => []) (wC_sound vizardref17_Parse.hΓ Tryd.hm vizardref17_Parse.J4.plan _ vizardref17_Parse.J4.pok)) ?_
  intro Q E fr H h
  unfold vizardref17_Parse.J4.t at h
  obtain ⟨hl, h⟩ := lenIs_elim h
  obtain ⟨x0, q2, h⟩ := slPA_elim h
  obtain ⟨scheme0, q6, h⟩ := slS_elim h
  obtain ⟨authority0, q8, h⟩ := slS_elim h
  obtain ⟨path0, q10, h⟩ := slS_elim h
  obtain ⟨protocol0, q12, h⟩ := slS_elim h
  obtain ⟨caps0, q14, h⟩ := slS_elim h
  obtain ⟨f0, q15, h⟩ := slB_elim h
  obtain ⟨x1, q85, h⟩ := slB_elim h
  refine ⟨(mkF 126 [(2, (.pointer (some x0))), (6, (.string scheme0)), (8, (.string authority0)), (10, (.string path0)), (12, (.string protocol0)), (14, (.string caps0)), (15, (.bool f0)), (85, (.bool x1))]), fun a ha => ha.mk (Nat.le_of_eq hl.symm) (List.forall_mem_cons.2 ⟨q2, List.forall_mem_cons.2 ⟨q6, List.forall_mem_cons.2 ⟨q8, List.forall_mem_cons.2 ⟨q10, List.forall_mem_cons.2 ⟨q12, List.forall_mem_cons.2 ⟨q14, List.forall_mem_cons.2 ⟨q15, List.forall_mem_cons.2 ⟨q85, fun _ h => nomatch h⟩⟩⟩⟩⟩⟩⟩⟩), ?_⟩
  have e := vizardref17_Parse.J4.eq x0 scheme0 authority0 path0 protocol0 caps0 f0 x1 Q E H
  rw [← e]
  exact h.h
def vizardref17_Parse.J3.t : CT := fun Q E fr H => lenIs 126 fr (slPA fr 2 fun x0 => slS fr 4 fun method0 => slS fr 6 fun scheme0 => slS fr 8 fun authority0 => slS fr 10 fun path0 => slS fr 12 fun protocol0 => slS fr 14 fun caps0 => slB fr 15 fun f0 => slB fr 57 fun x1 => vizardref17_Parse.J3 x0 method0 scheme0 authority0 path0 protocol0 caps0 f0 x1 (fun  H => Q .normal (mkF 126 [(2, (.pointer (some x0))), (10, (.string path0)), (12, (.string protocol0))]) H) (fun y3_0 H => Q .ret (mkF 126 [(2, (.pointer (some x0))), (3, (.int .i64 y3_0))]) H) E H)
noncomputable def vizardref17_Parse.J3.plan : Plan := .cond (.go) (.seq (.go) (.cond (.go) (.seq (.go) (.use vizardref17_Parse.J4.t))))
theorem vizardref17_Parse.J3.pok : PlanOk Tryd.prog vizardref17_Parse.J3.plan (sub [1, 1, 1, 1, 1, 1, 1, 1, 0, 0, 1] vizardref17_Parse.body) := by
  have e : PlanOk Tryd.prog vizardref17_Parse.J3.plan (sub [1, 1, 1, 1, 1, 1, 1, 1, 0, 0, 1] vizardref17_Parse.body) = ((True) ∧ ((True) ∧ ((True) ∧ ((True) ∧ (SoundCode Tryd.prog (sub [1, 1, 1, 1, 1, 1, 1, 1, 0, 0, 1, 1, 1, 1, 1] vizardref17_Parse.body) vizardref17_Parse.J4.t))))) := by kernel_rfl
  exact e.mpr ⟨trivial, ⟨trivial, ⟨trivial, ⟨trivial, vizardref17_Parse.J4.ok⟩⟩⟩⟩
theorem vizardref17_Parse.J3.eq (x0 : Addr) (method0 : ByteArray) (scheme0 : ByteArray) (authority0 : ByteArray) (path0 : ByteArray) (protocol0 : ByteArray) (caps0 : ByteArray) (f0 : Bool) (x1 : Bool) (Q : Ex → Fr → Heap → Prop) (E : Value → Heap → Prop) (H : Heap) :
    vizardref17_Parse.J3.vc x0 method0 scheme0 authority0 path0 protocol0 caps0 f0 x1 (fun  H => Q .normal (mkF 126 [(2, (.pointer (some x0))), (10, (.string path0)), (12, (.string protocol0))]) H) (fun y3_0 H => Q .ret (mkF 126 [(2, (.pointer (some x0))), (3, (.int .i64 y3_0))]) H) E H = keepT [2, 10, 12] [2, 3] (fun i => []) (wC Tryd.prog vizardref17_Parse.Γ vizardref17_Parse.J3.plan (sub [1, 1, 1, 1, 1, 1, 1, 1, 0, 0, 1] vizardref17_Parse.body)) Q E (mkF 126 [(2, (.pointer (some x0))), (4, (.string method0)), (6, (.string scheme0)), (8, (.string authority0)), (10, (.string path0)), (12, (.string protocol0)), (14, (.string caps0)), (15, (.bool f0)), (57, (.bool x1))]) H := by
  kernel_rfl
theorem vizardref17_Parse.J3.ok : SoundCode Tryd.prog (sub [1, 1, 1, 1, 1, 1, 1, 1, 0, 0, 1] vizardref17_Parse.body) vizardref17_Parse.J3.t := by
  refine piece_sound (keepT_sound [2, 10, 12] [2, 3] (fun i => []) (wC_sound vizardref17_Parse.hΓ Tryd.hm vizardref17_Parse.J3.plan _ vizardref17_Parse.J3.pok)) ?_
  intro Q E fr H h
  unfold vizardref17_Parse.J3.t at h
  obtain ⟨hl, h⟩ := lenIs_elim h
  obtain ⟨x0, q2, h⟩ := slPA_elim h
  obtain ⟨method0, q4, h⟩ := slS_elim h
  obtain ⟨scheme0, q6, h⟩ := slS_elim h
  obtain ⟨authority0, q8, h⟩ := slS_elim h
  obtain ⟨path0, q10, h⟩ := slS_elim h
  obtain ⟨protocol0, q12, h⟩ := slS_elim h
  obtain ⟨caps0, q14, h⟩ := slS_elim h
  obtain ⟨f0, q15, h⟩ := slB_elim h
  obtain ⟨x1, q57, h⟩ := slB_elim h
  refine ⟨(mkF 126 [(2, (.pointer (some x0))), (4, (.string method0)), (6, (.string scheme0)), (8, (.string authority0)), (10, (.string path0)), (12, (.string protocol0)), (14, (.string caps0)), (15, (.bool f0)), (57, (.bool x1))]), fun a ha => ha.mk (Nat.le_of_eq hl.symm) (List.forall_mem_cons.2 ⟨q2, List.forall_mem_cons.2 ⟨q4, List.forall_mem_cons.2 ⟨q6, List.forall_mem_cons.2 ⟨q8, List.forall_mem_cons.2 ⟨q10, List.forall_mem_cons.2 ⟨q12, List.forall_mem_cons.2 ⟨q14, List.forall_mem_cons.2 ⟨q15, List.forall_mem_cons.2 ⟨q57, fun _ h => nomatch h⟩⟩⟩⟩⟩⟩⟩⟩⟩), ?_⟩
  have e := vizardref17_Parse.J3.eq x0 method0 scheme0 authority0 path0 protocol0 caps0 f0 x1 Q E H
  rw [← e]
  exact h.h
def vizardref17_Parse.J6.t : CT := fun Q E fr H => lenIs 126 fr (slPA fr 2 fun x0 => slS fr 10 fun path0 => slS fr 12 fun protocol0 => vizardref17_Parse.J6 x0 path0 protocol0 (fun y3_0 H => Q .ret (mkF 126 [(2, (.pointer (some x0))), (3, (.int .i64 y3_0))]) H) E H)
noncomputable def vizardref17_Parse.J6.plan : Plan := .go
theorem vizardref17_Parse.J6.pok : PlanOk Tryd.prog vizardref17_Parse.J6.plan (sub [1, 1, 1, 1, 1, 1, 1, 1, 1] vizardref17_Parse.body) := by
  have e : PlanOk Tryd.prog vizardref17_Parse.J6.plan (sub [1, 1, 1, 1, 1, 1, 1, 1, 1] vizardref17_Parse.body) = (True) := by kernel_rfl
  exact e.mpr trivial
theorem vizardref17_Parse.J6.eq (x0 : Addr) (path0 : ByteArray) (protocol0 : ByteArray) (Q : Ex → Fr → Heap → Prop) (E : Value → Heap → Prop) (H : Heap) :
    vizardref17_Parse.J6.vc x0 path0 protocol0 (fun y3_0 H => Q .ret (mkF 126 [(2, (.pointer (some x0))), (3, (.int .i64 y3_0))]) H) E H = keepT [] [2, 3] (fun i => []) (wC Tryd.prog vizardref17_Parse.Γ vizardref17_Parse.J6.plan (sub [1, 1, 1, 1, 1, 1, 1, 1, 1] vizardref17_Parse.body)) Q E (mkF 126 [(2, (.pointer (some x0))), (10, (.string path0)), (12, (.string protocol0))]) H := by
  kernel_rfl
theorem vizardref17_Parse.J6.ok : SoundCode Tryd.prog (sub [1, 1, 1, 1, 1, 1, 1, 1, 1] vizardref17_Parse.body) vizardref17_Parse.J6.t := by
  refine piece_sound (keepT_sound [] [2, 3] (fun i => []) (wC_sound vizardref17_Parse.hΓ Tryd.hm vizardref17_Parse.J6.plan _ vizardref17_Parse.J6.pok)) ?_
  intro Q E fr H h
  unfold vizardref17_Parse.J6.t at h
  obtain ⟨hl, h⟩ := lenIs_elim h
  obtain ⟨x0, q2, h⟩ := slPA_elim h
  obtain ⟨path0, q10, h⟩ := slS_elim h
  obtain ⟨protocol0, q12, h⟩ := slS_elim h
  refine ⟨(mkF 126 [(2, (.pointer (some x0))), (10, (.string path0)), (12, (.string protocol0))]), fun a ha => ha.mk (Nat.le_of_eq hl.symm) (List.forall_mem_cons.2 ⟨q2, List.forall_mem_cons.2 ⟨q10, List.forall_mem_cons.2 ⟨q12, fun _ h => nomatch h⟩⟩⟩), ?_⟩
  have e := vizardref17_Parse.J6.eq x0 path0 protocol0 Q E H
  rw [← e]
  exact h.h
def vizardref17_Parse.J2.t : CT := fun Q E fr H => lenIs 126 fr (slSl fr 0 fun l0 l1 l2 => slPA fr 2 fun x0 => vizardref17_Parse.J2 l0 l1 l2 x0 (fun y3_0 H => Q .ret (mkF 126 [(2, (.pointer (some x0))), (3, (.int .i64 y3_0))]) H) E H)
noncomputable def vizardref17_Parse.J2.plan : Plan := .seq (.go) (.seq (.go) (.seq (.go) (.seq (.go) (.seq (.go) (.seq (.go) (.seq (.block (.seq (.go) (.use vizardref17_Parse.J3.t))) (.use vizardref17_Parse.J6.t)))))))
theorem vizardref17_Parse.J2.pok : PlanOk Tryd.prog vizardref17_Parse.J2.plan (sub [1, 1] vizardref17_Parse.body) := by
  have e : PlanOk Tryd.prog vizardref17_Parse.J2.plan (sub [1, 1] vizardref17_Parse.body) = ((True) ∧ ((True) ∧ ((True) ∧ ((True) ∧ ((True) ∧ ((True) ∧ (((True) ∧ (SoundCode Tryd.prog (sub [1, 1, 1, 1, 1, 1, 1, 1, 0, 0, 1] vizardref17_Parse.body) vizardref17_Parse.J3.t)) ∧ (SoundCode Tryd.prog (sub [1, 1, 1, 1, 1, 1, 1, 1, 1] vizardref17_Parse.body) vizardref17_Parse.J6.t)))))))) := by kernel_rfl
  exact e.mpr ⟨trivial, ⟨trivial, ⟨trivial, ⟨trivial, ⟨trivial, ⟨trivial, ⟨⟨trivial, vizardref17_Parse.J3.ok⟩, vizardref17_Parse.J6.ok⟩⟩⟩⟩⟩⟩⟩
theorem vizardref17_Parse.J2.eq (l0 : Option Addr) (l1 : Nat) (l2 : Nat) (x0 : Addr) (Q : Ex → Fr → Heap → Prop) (E : Value → Heap → Prop) (H : Heap) :
    vizardref17_Parse.J2.vc l0 l1 l2 x0 (fun y3_0 H => Q .ret (mkF 126 [(2, (.pointer (some x0))), (3, (.int .i64 y3_0))]) H) E H = keepT [] [2, 3] (fun i => []) (wC Tryd.prog vizardref17_Parse.Γ vizardref17_Parse.J2.plan (sub [1, 1] vizardref17_Parse.body)) Q E (mkF 126 [(0, (.slice l0 l1 l2)), (2, (.pointer (some x0)))]) H := by
  kernel_rfl
theorem vizardref17_Parse.J2.ok : SoundCode Tryd.prog (sub [1, 1] vizardref17_Parse.body) vizardref17_Parse.J2.t := by
  refine piece_sound (keepT_sound [] [2, 3] (fun i => []) (wC_sound vizardref17_Parse.hΓ Tryd.hm vizardref17_Parse.J2.plan _ vizardref17_Parse.J2.pok)) ?_
  intro Q E fr H h
  unfold vizardref17_Parse.J2.t at h
  obtain ⟨hl, h⟩ := lenIs_elim h
  obtain ⟨l0, l1, l2, q0, h⟩ := slSl_elim h
  obtain ⟨x0, q2, h⟩ := slPA_elim h
  refine ⟨(mkF 126 [(0, (.slice l0 l1 l2)), (2, (.pointer (some x0)))]), fun a ha => ha.mk (Nat.le_of_eq hl.symm) (List.forall_mem_cons.2 ⟨q0, List.forall_mem_cons.2 ⟨q2, fun _ h => nomatch h⟩⟩), ?_⟩
  have e := vizardref17_Parse.J2.eq l0 l1 l2 x0 Q E H
  rw [← e]
  exact h.h
noncomputable def vizardref17_Parse.plan : Plan := .seq (.go) (.seq (.seq (.go) (.use vizardref17_Parse.J1.t)) (.use vizardref17_Parse.J2.t))
theorem vizardref17_Parse.pok : PlanOk Tryd.prog vizardref17_Parse.plan vizardref17_Parse.body := by
  have e : PlanOk Tryd.prog vizardref17_Parse.plan vizardref17_Parse.body = ((True) ∧ (((True) ∧ (SoundCode Tryd.prog (sub [1, 0, 1] vizardref17_Parse.body) vizardref17_Parse.J1.t)) ∧ (SoundCode Tryd.prog (sub [1, 1] vizardref17_Parse.body) vizardref17_Parse.J2.t))) := by kernel_rfl
  exact e.mpr ⟨trivial, ⟨⟨trivial, vizardref17_Parse.J1.ok⟩, vizardref17_Parse.J2.ok⟩⟩
theorem vizardref17_Parse.eq (l0 : Option Addr) (l1 : Nat) (l2 : Nat) (K : Value → Heap → Prop) (E : Value → Heap → Prop) (H : Heap) :
    fnT Tryd.prog Tryd.f14 (wC Tryd.prog vizardref17_Parse.Γ vizardref17_Parse.plan vizardref17_Parse.body) [(.slice l0 l1 l2)] K E H = vizardref17_Parse.vc l0 l1 l2 (fun r0_0 r0_1 r0_2 r1_0 H => K (.tuple #[(.agg #[(.bool r0_0), (.int .u32 r0_1), (.int .i64 r0_2)]), (.int .i64 r1_0)]) H) E H := by
  kernel_rfl
theorem vizardref17_Parse.Fe {args : List Value} {K E : Value → Heap → Prop} {H : Heap} (h : vizardref17_Parse.F args K E H) : ∃ l0 l1 l2, args = [(.slice l0 l1 l2)] ∧ vizardref17_Parse.c l0 l1 l2 (fun r0_0 r0_1 r0_2 r1_0 H => K (.tuple #[(.agg #[(.bool r0_0), (.int .u32 r0_1), (.int .i64 r0_2)]), (.int .i64 r1_0)]) H) E H := by
  unfold vizardref17_Parse.F at h
  split at h
  · exact ⟨_, _, _, rfl, h⟩
  · exact h.elim
theorem vizardref17_Parse.ok : CalleeOk Tryd.prog 14 vizardref17_Parse.F :=
  callee_ok vizardref17_Parse.hΓ (fn := Tryd.f14) (c := vizardref17_Parse.body) (T := wC Tryd.prog vizardref17_Parse.Γ vizardref17_Parse.plan vizardref17_Parse.body) (by kernel_rfl) (by kernel_rfl) (by kernel_rfl) (wC_sound vizardref17_Parse.hΓ Tryd.hm vizardref17_Parse.plan _ vizardref17_Parse.pok) fun _ K E H h => by
    obtain ⟨z0, z1, z2, e, h⟩ := vizardref17_Parse.Fe h
    subst e
    have h2 : vizardref17_Parse.vc z0 z1 z2 (fun r0_0 r0_1 r0_2 r1_0 H => ∃ H', Heap.Le H' H ∧ K (.tuple #[(.agg #[(.bool r0_0), (.int .u32 r0_1), (.int .i64 r0_2)]), (.int .i64 r1_0)]) H') E H := h.h
    rw [vizardref17_Parse.eq z0 z1 z2 (Fg K) E H]
    exact h2

/-! vizard/vizardref14.Same -/
noncomputable def vizardref14_Same.body : Code := Tryd.f10.body.getD .skip
def vizardref14_Same.W1.vc (a0 : Option Addr) (a1 : Nat) (a2 : Nat) (b0 : Option Addr) (b1 : Nat) (b2 : Nat) (i0 : Int) (Kx0 : Heap → Prop) (Kr : Bool → Heap → Prop) (RR : Int → Heap → Prop) (E : Value → Heap → Prop) (h0 : Heap) : Prop :=
  (if (decide (i0 < (a1 : Int))) = true then
  nilc a0 fun a3 => (0 : Int) ≤ i0 ∧ i0 < (a1 : Int) ∧
  ldS h0 ((a3.add (i0.toNat * 2)).add 0) fun x0 => ldS h0 ((a3.add (i0.toNat * 2)).add 1) fun x1 =>
  nilc b0 fun a4 => (0 : Int) ≤ i0 ∧ i0 < (b1 : Int) ∧
  ldS h0 ((a4.add (i0.toNat * 2)).add 0) fun x2 => ldS h0 ((a4.add (i0.toNat * 2)).add 1) fun x3 =>
  (if (!((x0 == x2) && ((x1 == x3) && true))) = true then
  Kr false h0
  else
  RR (IntKind.i64.wrap (i0 + 1)) h0)
  else
  Kx0 h0)
structure vizardref14_Same.W1 (a0 : Option Addr) (a1 : Nat) (a2 : Nat) (b0 : Option Addr) (b1 : Nat) (b2 : Nat) (i0 : Int) (Kx0 : Heap → Prop) (Kr : Bool → Heap → Prop) (E : Value → Heap → Prop) (H : Heap) : Prop where
  h : Loop (fun (RR : Int → Heap → Prop) (s : Int) (H : Heap) => vizardref14_Same.W1.vc a0 a1 a2 b0 b1 b2 s Kx0 Kr (fun i0 H => RR (i0) H) E H) (i0) H
def vizardref14_Same.vc (a0 : Option Addr) (a1 : Nat) (a2 : Nat) (b0 : Option Addr) (b1 : Nat) (b2 : Nat) (K : Bool → Heap → Prop) (E : Value → Heap → Prop) (h0 : Heap) : Prop :=
  (if ((a1 : Int) != (b1 : Int)) = true then
  K false h0
  else
  vizardref14_Same.W1 a0 a1 a2 b0 b1 b2 0 (fun h1 =>
  K true h1) K E h0)
structure vizardref14_Same.c (a0 : Option Addr) (a1 : Nat) (a2 : Nat) (b0 : Option Addr) (b1 : Nat) (b2 : Nat) (K : Bool → Heap → Prop) (E : Value → Heap → Prop) (H : Heap) : Prop where
  h : vizardref14_Same.vc a0 a1 a2 b0 b1 b2 (fun r0_0 H => ∃ H', Heap.Le H' H ∧ K r0_0 H') E H
def vizardref14_Same.F : FT := fun args K E H => match args with
  | [(.slice a0 a1 a2), (.slice b0 b1 b2)] => vizardref14_Same.c a0 a1 a2 b0 b1 b2 (fun r0_0 H => K (.bool r0_0) H) E H
  | _ => False
noncomputable def vizardref14_Same.Γ : FuncId → Option FT := Γof []
theorem vizardref14_Same.hΓ : ∀ f F, vizardref14_Same.Γ f = some F → CalleeOk Tryd.prog f F := Γof_ok (fun _ h => nomatch h)
def vizardref14_Same.W1.t : CT := fun Q E fr H => lenIs 26 fr (slSl fr 0 fun a0 a1 a2 => slSl fr 1 fun b0 b1 b2 => slI fr 5 .i64 fun i0 => vizardref14_Same.W1 a0 a1 a2 b0 b1 b2 i0 (fun  H => Q (.exit 0) (mkF 26 []) H) (fun y4_0 H => Q .ret (mkF 26 [(4, (.bool y4_0))]) H) E H)
noncomputable def vizardref14_Same.W1.plan : Plan := .seq (.go) (.seq (.block (.seq (.draw ⟨[0, 1, 2, 3, 4, 5, 6, 7, 8], (dl [(0, []), (1, []), (2, []), (3, []), (4, []), (5, []), (6, []), (7, []), (8, [])] .fin), []⟩) (.go))) (.go))
theorem vizardref14_Same.W1.pok : PlanOk Tryd.prog vizardref14_Same.W1.plan (sub [1, 1, 0, 1, 0, 0] vizardref14_Same.body) := by
  have e : PlanOk Tryd.prog vizardref14_Same.W1.plan (sub [1, 1, 0, 1, 0, 0] vizardref14_Same.body) = ((True) ∧ (((True) ∧ (True)) ∧ (True))) := by kernel_rfl
  exact e.mpr ⟨trivial, ⟨⟨trivial, trivial⟩, trivial⟩⟩
theorem vizardref14_Same.W1.eq (a0 : Option Addr) (a1 : Nat) (a2 : Nat) (b0 : Option Addr) (b1 : Nat) (b2 : Nat) (Q : Ex → Fr → Heap → Prop) (E : Value → Heap → Prop) (RR : Fr → Heap → Prop) (s : Int) (H : Heap) :
    (fun (RR : Int → Heap → Prop) (s : Int) (H : Heap) => vizardref14_Same.W1.vc a0 a1 a2 b0 b1 b2 s (fun  H => Q (.exit 0) (mkF 26 []) H) (fun y4_0 H => Q .ret (mkF 26 [(4, (.bool y4_0))]) H) (fun i0 H => RR (i0) H) E H) (fun s' H' => RR ((fun (s : Int) => (mkF 26 [(0, (.slice a0 a1 a2)), (1, (.slice b0 b1 b2)), (5, (.int .i64 s))])) s') H') s H = keepT [0, 1, 5] [4] (fun i => if i = 0 then [] else []) (wC Tryd.prog vizardref14_Same.Γ vizardref14_Same.W1.plan (sub [1, 1, 0, 1, 0, 0] vizardref14_Same.body)) (fun e fr' H' => match e with | .normal => RR fr' H' | .exit id => Q (.exit id) fr' H' | .ret => Q .ret fr' H') E ((fun (s : Int) => (mkF 26 [(0, (.slice a0 a1 a2)), (1, (.slice b0 b1 b2)), (5, (.int .i64 s))])) s) H := by
  kernel_rfl
theorem vizardref14_Same.W1.ok : SoundCode Tryd.prog (sub [1, 1, 0, 1, 0] vizardref14_Same.body) vizardref14_Same.W1.t := by
  have e : (sub [1, 1, 0, 1, 0] vizardref14_Same.body) = .loop (sub [1, 1, 0, 1, 0, 0] vizardref14_Same.body) := by kernel_rfl
  rw [e]
  refine piece_sound (loopN_sound (keepT_sound [0, 1, 5] [4] (fun i => if i = 0 then [] else []) (wC_sound vizardref14_Same.hΓ Tryd.hm vizardref14_Same.W1.plan _ vizardref14_Same.W1.pok))) ?_
  intro Q E fr H h
  unfold vizardref14_Same.W1.t at h
  obtain ⟨hl, h⟩ := lenIs_elim h
  obtain ⟨a0, a1, a2, q0, h⟩ := slSl_elim h
  obtain ⟨b0, b1, b2, q1, h⟩ := slSl_elim h
  obtain ⟨i0, q5, h⟩ := slI_elim h
  obtain ⟨m, h⟩ := h.h
  refine ⟨(mkF 26 [(0, (.slice a0 a1 a2)), (1, (.slice b0 b1 b2)), (5, (.int .i64 i0))]), fun a ha => ha.mk (Nat.le_of_eq hl.symm) (List.forall_mem_cons.2 ⟨q0, List.forall_mem_cons.2 ⟨q1, List.forall_mem_cons.2 ⟨q5, fun _ h => nomatch h⟩⟩⟩), m, ?_⟩
  have e := loopS_eq (B := (fun (RR : Int → Heap → Prop) (s : Int) (H : Heap) => vizardref14_Same.W1.vc a0 a1 a2 b0 b1 b2 s (fun  H => Q (.exit 0) (mkF 26 []) H) (fun y4_0 H => Q .ret (mkF 26 [(4, (.bool y4_0))]) H) (fun i0 H => RR (i0) H) E H)) (A := keepT [0, 1, 5] [4] (fun i => if i = 0 then [] else []) (wC Tryd.prog vizardref14_Same.Γ vizardref14_Same.W1.plan (sub [1, 1, 0, 1, 0, 0] vizardref14_Same.body))) (m := (fun (s : Int) => (mkF 26 [(0, (.slice a0 a1 a2)), (1, (.slice b0 b1 b2)), (5, (.int .i64 s))]))) (Q := Q) (E := E) (fun RR s H => vizardref14_Same.W1.eq a0 a1 a2 b0 b1 b2 Q E RR s H) m (i0) H
  exact cast e h
noncomputable def vizardref14_Same.plan : Plan := .seq (.go) (.seq (.go) (.seq (.seq (.go) (.block (.use vizardref14_Same.W1.t))) (.go)))
theorem vizardref14_Same.pok : PlanOk Tryd.prog vizardref14_Same.plan vizardref14_Same.body := by
  have e : PlanOk Tryd.prog vizardref14_Same.plan vizardref14_Same.body = ((True) ∧ ((True) ∧ (((True) ∧ (SoundCode Tryd.prog (sub [1, 1, 0, 1, 0] vizardref14_Same.body) vizardref14_Same.W1.t)) ∧ (True)))) := by kernel_rfl
  exact e.mpr ⟨trivial, ⟨trivial, ⟨⟨trivial, vizardref14_Same.W1.ok⟩, trivial⟩⟩⟩
theorem vizardref14_Same.eq (a0 : Option Addr) (a1 : Nat) (a2 : Nat) (b0 : Option Addr) (b1 : Nat) (b2 : Nat) (K : Value → Heap → Prop) (E : Value → Heap → Prop) (H : Heap) :
    fnT Tryd.prog Tryd.f10 (wC Tryd.prog vizardref14_Same.Γ vizardref14_Same.plan vizardref14_Same.body) [(.slice a0 a1 a2), (.slice b0 b1 b2)] K E H = vizardref14_Same.vc a0 a1 a2 b0 b1 b2 (fun r0_0 H => K (.bool r0_0) H) E H := by
  kernel_rfl
theorem vizardref14_Same.Fe {args : List Value} {K E : Value → Heap → Prop} {H : Heap} (h : vizardref14_Same.F args K E H) : ∃ a0 a1 a2 b0 b1 b2, args = [(.slice a0 a1 a2), (.slice b0 b1 b2)] ∧ vizardref14_Same.c a0 a1 a2 b0 b1 b2 (fun r0_0 H => K (.bool r0_0) H) E H := by
  unfold vizardref14_Same.F at h
  split at h
  · exact ⟨_, _, _, _, _, _, rfl, h⟩
  · exact h.elim
theorem vizardref14_Same.ok : CalleeOk Tryd.prog 10 vizardref14_Same.F :=
  callee_ok vizardref14_Same.hΓ (fn := Tryd.f10) (c := vizardref14_Same.body) (T := wC Tryd.prog vizardref14_Same.Γ vizardref14_Same.plan vizardref14_Same.body) (by kernel_rfl) (by kernel_rfl) (by kernel_rfl) (wC_sound vizardref14_Same.hΓ Tryd.hm vizardref14_Same.plan _ vizardref14_Same.pok) fun _ K E H h => by
    obtain ⟨z0, z1, z2, z3, z4, z5, e, h⟩ := vizardref14_Same.Fe h
    subst e
    have h2 : vizardref14_Same.vc z0 z1 z2 z3 z4 z5 (fun r0_0 H => ∃ H', Heap.Le H' H ∧ K (.bool r0_0) H') E H := h.h
    rw [vizardref14_Same.eq z0 z1 z2 z3 z4 z5 (Fg K) E H]
    exact h2
end Go.Sh
