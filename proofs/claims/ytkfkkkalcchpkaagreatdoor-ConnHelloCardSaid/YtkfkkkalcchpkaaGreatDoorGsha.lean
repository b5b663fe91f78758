/- PRINTED by a program (sh.py): what the walk over each function asks, and that it asks just that. -/
import Derived.Test.YtkfkkkalcchpkaaGreatDoorRep
namespace Go.Sh
open Go.Proofs
set_option linter.unusedVariables false
set_option maxRecDepth 8000
/-! vizard/varint.form -/
noncomputable def varint_form.body : Code := Tryz.f162.body.getD .skip
def varint_form.J2.vc (n0 : Int) (i0 : Int) (x0 : Int) (x1 : Int) (x2 : Int) (x3 : Int) (x4 : Int) (x5 : Bool) (Kn : Heap → Prop) (Kr : Int → Heap → Prop) (E : Value → Heap → Prop) (h0 : Heap) : Prop :=
  (if x5 = true then
  Kr i0 h0
  else
  Kn h0)
structure varint_form.J2 (n0 : Int) (i0 : Int) (x0 : Int) (x1 : Int) (x2 : Int) (x3 : Int) (x4 : Int) (x5 : Bool) (Kn : Heap → Prop) (Kr : Int → Heap → Prop) (E : Value → Heap → Prop) (H : Heap) : Prop where
  h : varint_form.J2.vc n0 i0 x0 x1 x2 x3 x4 x5 Kn Kr E H
def varint_form.J3.vc (n0 : Int) (x0 : Int) (x1 : Int) (x2 : Int) (x3 : Int) (x4 : Int) (Kn : Int → Heap → Prop) (E : Value → Heap → Prop) (h0 : Heap) : Prop :=
  Kn (IntKind.i64.wrap (x4 + 1)) h0
structure varint_form.J3 (n0 : Int) (x0 : Int) (x1 : Int) (x2 : Int) (x3 : Int) (x4 : Int) (Kn : Int → Heap → Prop) (E : Value → Heap → Prop) (H : Heap) : Prop where
  h : varint_form.J3.vc n0 x0 x1 x2 x3 x4 Kn E H
def varint_form.W1.vc (n0 : Int) (x0 : Int) (x1 : Int) (x2 : Int) (x3 : Int) (x4 : Int) (Kx0 : Heap → Prop) (Kr : Int → Heap → Prop) (RR : Int → Heap → Prop) (E : Value → Heap → Prop) (h0 : Heap) : Prop :=
  (if (decide (x4 < 4)) = true then
  (0 : Int) ≤ x4 ∧ x4 < ((4 : Nat) : Int) ∧ ∃ v0, (#[(.int .i64 x0), (.int .i64 x1), (.int .i64 x2), (.int .i64 x3)] : Array Value)[x4.toNat]? = some v0 ∧ ∃ x5, v0 = (.int .i64 x5) ∧
  (if (decide (n0 ≥ 0)) = true then
  (0 : Int) ≤ (IntKind.i64.wrap ((IntKind.i64.wrap (8 * x5)) - 2)) ∧
  varint_form.J2 n0 x4 x0 x1 x2 x3 x4 ((shrI .i64 n0 (IntKind.i64.wrap ((IntKind.i64.wrap (8 * x5)) - 2))) == 0) (fun h1 =>
  varint_form.J3 n0 x0 x1 x2 x3 x4 RR E h1) Kr E h0
  else
  varint_form.J2 n0 x4 x0 x1 x2 x3 x4 false (fun h4 =>
  varint_form.J3 n0 x0 x1 x2 x3 x4 RR E h4) Kr E h0)
  else
  Kx0 h0)
structure varint_form.W1 (n0 : Int) (x0 : Int) (x1 : Int) (x2 : Int) (x3 : Int) (x4 : Int) (Kx0 : Heap → Prop) (Kr : Int → Heap → Prop) (E : Value → Heap → Prop) (H : Heap) : Prop where
  h : Loop (fun (RR : Int → Heap → Prop) (s : Int) (H : Heap) => varint_form.W1.vc n0 x0 x1 x2 x3 s Kx0 Kr (fun x4 H => RR (x4) H) E H) (x4) H
def varint_form.vc (n0 : Int) (K : Int → Heap → Prop) (E : Value → Heap → Prop) (h0 : Heap) : Prop :=
  ldI h0 .i64 ((⟨0, 0, none⟩ : Addr).add 0) fun x0 => ldI h0 .i64 ((⟨0, 0, none⟩ : Addr).add 1) fun x1 => ldI h0 .i64 ((⟨0, 0, none⟩ : Addr).add 2) fun x2 => ldI h0 .i64 ((⟨0, 0, none⟩ : Addr).add 3) fun x3 =>
  varint_form.W1 n0 x0 x1 x2 x3 0 (fun h1 =>
  K (-1) h1) K E h0
structure varint_form.c (n0 : Int) (K : Int → Heap → Prop) (E : Value → Heap → Prop) (H : Heap) : Prop where
  h : varint_form.vc n0 (fun r0_0 H => ∃ H', Heap.Le H' H ∧ K r0_0 H') E H
def varint_form.F : FT := fun args K E H => match args with
  | [(.int .i64 n0)] => varint_form.c n0 (fun r0_0 H => K (.int .i64 r0_0) H) E H
  | _ => False
noncomputable def varint_form.Γ : FuncId → Option FT := Γof []
theorem varint_form.hΓ : ∀ f F, varint_form.Γ f = some F → CalleeOk Tryz.prog f F := Γof_ok (fun _ h => nomatch h)
def varint_form.r1 (fr : Fr) (t : Nat) (K : Int → Int → Int → Int → Prop) : Prop :=
  match fr.getD t none with
  | some (.agg ⟨[(.int .i64 x0), (.int .i64 x1), (.int .i64 x2), (.int .i64 x3)]⟩) => K x0 x1 x2 x3
  | _ => False
theorem varint_form.r1_elim {fr : Fr} {t : Nat} {K : Int → Int → Int → Int → Prop} (h : varint_form.r1 fr t K) : ∃ x0 x1 x2 x3, fr.getD t none = some (.agg #[(.int .i64 x0), (.int .i64 x1), (.int .i64 x2), (.int .i64 x3)]) ∧ K x0 x1 x2 x3 := by
  unfold varint_form.r1 at h
  split at h
  · rename_i e; exact ⟨_, _, _, _, e, h⟩
  · exact h.elim
def varint_form.J2.t : CT := fun Q E fr H => lenIs 22 fr (slI fr 0 .i64 fun n0 => slI fr 3 .i64 fun i0 => varint_form.r1 fr 5 fun x0 x1 x2 x3 => slI fr 6 .i64 fun x4 => slB fr 19 fun x5 => varint_form.J2 n0 i0 x0 x1 x2 x3 x4 x5 (fun  H => Q .normal (mkF 22 [(0, (.int .i64 n0)), (5, (.agg #[(.int .i64 x0), (.int .i64 x1), (.int .i64 x2), (.int .i64 x3)])), (6, (.int .i64 x4))]) H) (fun y2_0 H => Q .ret (mkF 22 [(2, (.int .i64 y2_0))]) H) E H)
noncomputable def varint_form.J2.plan : Plan := .go
theorem varint_form.J2.pok : PlanOk Tryz.prog varint_form.J2.plan (sub [1, 0, 1, 0, 0, 1, 1, 0, 0, 1, 1] varint_form.body) := by
  have e : PlanOk Tryz.prog varint_form.J2.plan (sub [1, 0, 1, 0, 0, 1, 1, 0, 0, 1, 1] varint_form.body) = (True) := by kernel_rfl
  exact e.mpr trivial
theorem varint_form.J2.eq (n0 : Int) (i0 : Int) (x0 : Int) (x1 : Int) (x2 : Int) (x3 : Int) (x4 : Int) (x5 : Bool) (Q : Ex → Fr → Heap → Prop) (E : Value → Heap → Prop) (H : Heap) :
    varint_form.J2.vc n0 i0 x0 x1 x2 x3 x4 x5 (fun  H => Q .normal (mkF 22 [(0, (.int .i64 n0)), (5, (.agg #[(.int .i64 x0), (.int .i64 x1), (.int .i64 x2), (.int .i64 x3)])), (6, (.int .i64 x4))]) H) (fun y2_0 H => Q .ret (mkF 22 [(2, (.int .i64 y2_0))]) H) E H = keepT [0, 5, 6] [2] (fun i => []) (wC Tryz.prog varint_form.Γ varint_form.J2.plan (sub [1, 0, 1, 0, 0, 1, 1, 0, 0, 1, 1] varint_form.body)) Q E (mkF 22 [(0, (.int .i64 n0)), (3, (.int .i64 i0)), (5, (.agg #[(.int .i64 x0), (.int .i64 x1), (.int .i64 x2), (.int .i64 x3)])), (6, (.int .i64 x4)), (19, (.bool x5))]) H := by
  kernel_rfl
theorem varint_form.J2.ok : SoundCode Tryz.prog (sub [1, 0, 1, 0, 0, 1, 1, 0, 0, 1, 1] varint_form.body) varint_form.J2.t := by
  refine piece_sound (keepT_sound [0, 5, 6] [2] (fun i => []) (wC_sound varint_form.hΓ Tryz.hm varint_form.J2.plan _ varint_form.J2.pok)) ?_
  intro Q E fr H h
  unfold varint_form.J2.t at h
  obtain ⟨hl, h⟩ := lenIs_elim h
  obtain ⟨n0, q0, h⟩ := slI_elim h
  obtain ⟨i0, q3, h⟩ := slI_elim h
  obtain ⟨x0, x1, x2, x3, q5, h⟩ := varint_form.r1_elim h
  obtain ⟨x4, q6, h⟩ := slI_elim h
  obtain ⟨x5, q19, h⟩ := slB_elim h
  refine ⟨(mkF 22 [(0, (.int .i64 n0)), (3, (.int .i64 i0)), (5, (.agg #[(.int .i64 x0), (.int .i64 x1), (.int .i64 x2), (.int .i64 x3)])), (6, (.int .i64 x4)), (19, (.bool x5))]), fun a ha => ha.mk (Nat.le_of_eq hl.symm) (List.forall_mem_cons.2 ⟨q0, List.forall_mem_cons.2 ⟨q3, List.forall_mem_cons.2 ⟨q5, List.forall_mem_cons.2 ⟨q6, List.forall_mem_cons.2 ⟨q19, fun _ h => nomatch h⟩⟩⟩⟩⟩), ?_⟩
  have e := varint_form.J2.eq n0 i0 x0 x1 x2 x3 x4 x5 Q E H
  rw [← e]
  exact h.h
def varint_form.J3.t : CT := fun Q E fr H => lenIs 22 fr (slI fr 0 .i64 fun n0 => varint_form.r1 fr 5 fun x0 x1 x2 x3 => slI fr 6 .i64 fun x4 => varint_form.J3 n0 x0 x1 x2 x3 x4 (fun y6_0 H => Q .normal (mkF 22 [(0, (.int .i64 n0)), (5, (.agg #[(.int .i64 x0), (.int .i64 x1), (.int .i64 x2), (.int .i64 x3)])), (6, (.int .i64 y6_0))]) H) E H)
noncomputable def varint_form.J3.plan : Plan := .go
theorem varint_form.J3.pok : PlanOk Tryz.prog varint_form.J3.plan (sub [1, 0, 1, 0, 0, 1, 1, 1] varint_form.body) := by
  have e : PlanOk Tryz.prog varint_form.J3.plan (sub [1, 0, 1, 0, 0, 1, 1, 1] varint_form.body) = (True) := by kernel_rfl
  exact e.mpr trivial
theorem varint_form.J3.eq (n0 : Int) (x0 : Int) (x1 : Int) (x2 : Int) (x3 : Int) (x4 : Int) (Q : Ex → Fr → Heap → Prop) (E : Value → Heap → Prop) (H : Heap) :
    varint_form.J3.vc n0 x0 x1 x2 x3 x4 (fun y6_0 H => Q .normal (mkF 22 [(0, (.int .i64 n0)), (5, (.agg #[(.int .i64 x0), (.int .i64 x1), (.int .i64 x2), (.int .i64 x3)])), (6, (.int .i64 y6_0))]) H) E H = keepT [0, 5, 6] [] (fun i => []) (wC Tryz.prog varint_form.Γ varint_form.J3.plan (sub [1, 0, 1, 0, 0, 1, 1, 1] varint_form.body)) Q E (mkF 22 [(0, (.int .i64 n0)), (5, (.agg #[(.int .i64 x0), (.int .i64 x1), (.int .i64 x2), (.int .i64 x3)])), (6, (.int .i64 x4))]) H := by
  kernel_rfl
theorem varint_form.J3.ok : SoundCode Tryz.prog (sub [1, 0, 1, 0, 0, 1, 1, 1] varint_form.body) varint_form.J3.t := by
  refine piece_sound (keepT_sound [0, 5, 6] [] (fun i => []) (wC_sound varint_form.hΓ Tryz.hm varint_form.J3.plan _ varint_form.J3.pok)) ?_
  intro Q E fr H h
  unfold varint_form.J3.t at h
  obtain ⟨hl, h⟩ := lenIs_elim h
  obtain ⟨n0, q0, h⟩ := slI_elim h
  obtain ⟨x0, x1, x2, x3, q5, h⟩ := varint_form.r1_elim h
  obtain ⟨x4, q6, h⟩ := slI_elim h
  refine ⟨(mkF 22 [(0, (.int .i64 n0)), (5, (.agg #[(.int .i64 x0), (.int .i64 x1), (.int .i64 x2), (.int .i64 x3)])), (6, (.int .i64 x4))]), fun a ha => ha.mk (Nat.le_of_eq hl.symm) (List.forall_mem_cons.2 ⟨q0, List.forall_mem_cons.2 ⟨q5, List.forall_mem_cons.2 ⟨q6, fun _ h => nomatch h⟩⟩⟩), ?_⟩
  have e := varint_form.J3.eq n0 x0 x1 x2 x3 x4 Q E H
  rw [← e]
  exact h.h
def varint_form.W1.t : CT := fun Q E fr H => lenIs 22 fr (slI fr 0 .i64 fun n0 => varint_form.r1 fr 5 fun x0 x1 x2 x3 => slI fr 6 .i64 fun x4 => varint_form.W1 n0 x0 x1 x2 x3 x4 (fun  H => Q (.exit 0) (mkF 22 []) H) (fun y2_0 H => Q .ret (mkF 22 [(2, (.int .i64 y2_0))]) H) E H)
noncomputable def varint_form.W1.plan : Plan := .seq (.go) (.seq (.go) (.seq (.block (.seq (.go) (.seq (.go) (.use varint_form.J2.t)))) (.use varint_form.J3.t)))
theorem varint_form.W1.pok : PlanOk Tryz.prog varint_form.W1.plan (sub [1, 0, 1, 0, 0] varint_form.body) := by
  have e : PlanOk Tryz.prog varint_form.W1.plan (sub [1, 0, 1, 0, 0] varint_form.body) = ((True) ∧ ((True) ∧ (((True) ∧ ((True) ∧ (SoundCode Tryz.prog (sub [1, 0, 1, 0, 0, 1, 1, 0, 0, 1, 1] varint_form.body) varint_form.J2.t))) ∧ (SoundCode Tryz.prog (sub [1, 0, 1, 0, 0, 1, 1, 1] varint_form.body) varint_form.J3.t)))) := by kernel_rfl
  exact e.mpr ⟨trivial, ⟨trivial, ⟨⟨trivial, ⟨trivial, varint_form.J2.ok⟩⟩, varint_form.J3.ok⟩⟩⟩
theorem varint_form.W1.eq (n0 : Int) (x0 : Int) (x1 : Int) (x2 : Int) (x3 : Int) (Q : Ex → Fr → Heap → Prop) (E : Value → Heap → Prop) (RR : Fr → Heap → Prop) (s : Int) (H : Heap) :
    (fun (RR : Int → Heap → Prop) (s : Int) (H : Heap) => varint_form.W1.vc n0 x0 x1 x2 x3 s (fun  H => Q (.exit 0) (mkF 22 []) H) (fun y2_0 H => Q .ret (mkF 22 [(2, (.int .i64 y2_0))]) H) (fun x4 H => RR (x4) H) E H) (fun s' H' => RR ((fun (s : Int) => (mkF 22 [(0, (.int .i64 n0)), (5, (.agg #[(.int .i64 x0), (.int .i64 x1), (.int .i64 x2), (.int .i64 x3)])), (6, (.int .i64 s))])) s') H') s H = keepT [0, 5, 6] [2] (fun i => if i = 0 then [] else []) (wC Tryz.prog varint_form.Γ varint_form.W1.plan (sub [1, 0, 1, 0, 0] varint_form.body)) (fun e fr' H' => match e with | .normal => RR fr' H' | .exit id => Q (.exit id) fr' H' | .ret => Q .ret fr' H') E ((fun (s : Int) => (mkF 22 [(0, (.int .i64 n0)), (5, (.agg #[(.int .i64 x0), (.int .i64 x1), (.int .i64 x2), (.int .i64 x3)])), (6, (.int .i64 s))])) s) H := by
  kernel_rfl
theorem varint_form.W1.ok : SoundCode Tryz.prog (sub [1, 0, 1, 0] varint_form.body) varint_form.W1.t := by
  have e : (sub [1, 0, 1, 0] varint_form.body) = .loop (sub [1, 0, 1, 0, 0] varint_form.body) := by kernel_rfl
  rw [e]
  refine piece_sound (loopN_sound (keepT_sound [0, 5, 6] [2] (fun i => if i = 0 then [] else []) (wC_sound varint_form.hΓ Tryz.hm varint_form.W1.plan _ varint_form.W1.pok))) ?_
  intro Q E fr H h
  unfold varint_form.W1.t at h
  obtain ⟨hl, h⟩ := lenIs_elim h
  obtain ⟨n0, q0, h⟩ := slI_elim h
  obtain ⟨x0, x1, x2, x3, q5, h⟩ := varint_form.r1_elim h
  obtain ⟨x4, q6, h⟩ := slI_elim h
  obtain ⟨m, h⟩ := h.h
  refine ⟨(mkF 22 [(0, (.int .i64 n0)), (5, (.agg #[(.int .i64 x0), (.int .i64 x1), (.int .i64 x2), (.int .i64 x3)])), (6, (.int .i64 x4))]), fun a ha => ha.mk (Nat.le_of_eq hl.symm) (List.forall_mem_cons.2 ⟨q0, List.forall_mem_cons.2 ⟨q5, List.forall_mem_cons.2 ⟨q6, fun _ h => nomatch h⟩⟩⟩), m, ?_⟩
  have e := loopS_eq (B := (fun (RR : Int → Heap → Prop) (s : Int) (H : Heap) => varint_form.W1.vc n0 x0 x1 x2 x3 s (fun  H => Q (.exit 0) (mkF 22 []) H) (fun y2_0 H => Q .ret (mkF 22 [(2, (.int .i64 y2_0))]) H) (fun x4 H => RR (x4) H) E H)) (A := keepT [0, 5, 6] [2] (fun i => if i = 0 then [] else []) (wC Tryz.prog varint_form.Γ varint_form.W1.plan (sub [1, 0, 1, 0, 0] varint_form.body))) (m := (fun (s : Int) => (mkF 22 [(0, (.int .i64 n0)), (5, (.agg #[(.int .i64 x0), (.int .i64 x1), (.int .i64 x2), (.int .i64 x3)])), (6, (.int .i64 s))]))) (Q := Q) (E := E) (fun RR s H => varint_form.W1.eq n0 x0 x1 x2 x3 Q E RR s H) m (x4) H
  exact cast e h
noncomputable def varint_form.plan : Plan := .seq (.go) (.seq (.seq (.go) (.block (.use varint_form.W1.t))) (.go))
theorem varint_form.pok : PlanOk Tryz.prog varint_form.plan varint_form.body := by
  have e : PlanOk Tryz.prog varint_form.plan varint_form.body = ((True) ∧ (((True) ∧ (SoundCode Tryz.prog (sub [1, 0, 1, 0] varint_form.body) varint_form.W1.t)) ∧ (True))) := by kernel_rfl
  exact e.mpr ⟨trivial, ⟨⟨trivial, varint_form.W1.ok⟩, trivial⟩⟩
theorem varint_form.eq (n0 : Int) (K : Value → Heap → Prop) (E : Value → Heap → Prop) (H : Heap) :
    fnT Tryz.prog Tryz.f162 (wC Tryz.prog varint_form.Γ varint_form.plan varint_form.body) [(.int .i64 n0)] K E H = varint_form.vc n0 (fun r0_0 H => K (.int .i64 r0_0) H) E H := by
  kernel_rfl
theorem varint_form.Fe {args : List Value} {K E : Value → Heap → Prop} {H : Heap} (h : varint_form.F args K E H) : ∃ n0, args = [(.int .i64 n0)] ∧ varint_form.c n0 (fun r0_0 H => K (.int .i64 r0_0) H) E H := by
  unfold varint_form.F at h
  split at h
  · exact ⟨_, rfl, h⟩
  · exact h.elim
theorem varint_form.ok : CalleeOk Tryz.prog 162 varint_form.F :=
  callee_ok varint_form.hΓ (fn := Tryz.f162) (c := varint_form.body) (T := wC Tryz.prog varint_form.Γ varint_form.plan varint_form.body) (by kernel_rfl) (by kernel_rfl) (by kernel_rfl) (wC_sound varint_form.hΓ Tryz.hm varint_form.plan _ varint_form.pok) fun _ K E H h => by
    obtain ⟨z0, e, h⟩ := varint_form.Fe h
    subst e
    have h2 : varint_form.vc z0 (fun r0_0 H => ∃ H', Heap.Le H' H ∧ K (.int .i64 r0_0) H') E H := h.h
    rw [varint_form.eq z0 (Fg K) E H]
    exact h2

/-! vizard/varint.Put -/
noncomputable def varint_Put.body : Code := Tryz.f119.body.getD .skip
def varint_Put.W1.vc (n0 : Int) (i0 : Int) (b0 : Option Addr) (b1 : Nat) (b2 : Nat) (x0 : Int) (x1 : Int) (Kx0 : Heap → Prop) (RR : Int → Heap → Prop) (E : Value → Heap → Prop) (h0 : Heap) : Prop :=
  (if (decide (x1 < x0)) = true then
  (0 : Int) ≤ (IntKind.i64.wrap (8 * (IntKind.i64.wrap ((IntKind.i64.wrap ((b1 : Int) - 1)) - x1)))) ∧
  nilc b0 fun a0 => (0 : Int) ≤ x1 ∧ x1 < (b1 : Int) ∧
  stc h0 (a0.add (x1.toNat * 1)) (.int .u8 (IntKind.u8.wrap (shrI .i64 n0 (IntKind.i64.wrap (8 * (IntKind.i64.wrap ((IntKind.i64.wrap ((b1 : Int) - 1)) - x1))))))) fun h1 =>
  RR (IntKind.i64.wrap (x1 + 1)) h1
  else
  Kx0 h0)
structure varint_Put.W1 (n0 : Int) (i0 : Int) (b0 : Option Addr) (b1 : Nat) (b2 : Nat) (x0 : Int) (x1 : Int) (Kx0 : Heap → Prop) (E : Value → Heap → Prop) (H : Heap) : Prop where
  h : Loop (fun (RR : Int → Heap → Prop) (s : Int) (H : Heap) => varint_Put.W1.vc n0 i0 b0 b1 b2 x0 s Kx0 (fun x1 H => RR (x1) H) E H) (x1) H
def varint_Put.vc (n0 : Int) (K : ByteArray → Heap → Prop) (E : Value → Heap → Prop) (h0 : Heap) : Prop :=
  varint_form.c n0 (fun x0 h1 =>
  (if (decide (x0 < 0)) = true then
  K (⟨#[]⟩ : ByteArray) h1
  else
  (0 : Int) ≤ x0 ∧ x0 < ((4 : Nat) : Int) ∧
  ldI h1 .i64 ((⟨0, 0, none⟩ : Addr).add (x0.toNat * 1)) fun x1 =>
  (0 : Int) ≤ x1 ∧ (x1 : Int) ≤ x1 ∧ (x1 : Int) ≤ 9223372036854775807 ∧ (x1 : Int) * 1 ≤ 281474976710656 ∧ newB (.cells (zerosOf (.int .u8 0) x1.toNat).toArray 5) (fun b0 h2 =>
  varint_Put.W1 n0 x0 (some (⟨b0, 0, none⟩ : Addr)) x1.toNat x1.toNat (x1.toNat : Int) 0 (fun h3 =>
  nilc (some (⟨b0, 0, none⟩ : Addr)) fun a0 => (0 : Int) ≤ 0 ∧ 0 < (x1.toNat : Int) ∧
  ldI h3 .u8 (a0.add (0 * 1)) fun x2 =>
  (0 : Int) ≤ 6 ∧
  nilc (some (⟨b0, 0, none⟩ : Addr)) fun a1 => (0 : Int) ≤ 0 ∧ 0 < (x1.toNat : Int) ∧
  stc h3 (a1.add (0 * 1)) (.int .u8 (bits .or .u8 x2 (shlI .u8 (IntKind.u8.wrap x0) 6))) fun h4 =>
  rdBytes h4 (some (⟨b0, 0, none⟩ : Addr)) x1.toNat fun x3 =>
  K x3 h4) E h2) h1)) E h0
structure varint_Put.c (n0 : Int) (K : ByteArray → Heap → Prop) (E : Value → Heap → Prop) (H : Heap) : Prop where
  h : varint_Put.vc n0 (fun r0_0 H => ∃ H', Heap.Le H' H ∧ K r0_0 H') E H
def varint_Put.F : FT := fun args K E H => match args with
  | [(.int .i64 n0)] => varint_Put.c n0 (fun r0_0 H => K (.string r0_0) H) E H
  | _ => False
noncomputable def varint_Put.Γ : FuncId → Option FT := Γof [(162, varint_form.F)]
theorem varint_Put.hΓ : ∀ f F, varint_Put.Γ f = some F → CalleeOk Tryz.prog f F := Γof_ok (List.forall_mem_cons.2 ⟨varint_form.ok, fun _ h => nomatch h⟩)
def varint_Put.W1.t : CT := fun Q E fr H => lenIs 42 fr (slI fr 0 .i64 fun n0 => slI fr 3 .i64 fun i0 => slSl fr 4 fun b0 b1 b2 => slI fr 15 .i64 fun x0 => slI fr 16 .i64 fun x1 => varint_Put.W1 n0 i0 b0 b1 b2 x0 x1 (fun  H => Q (.exit 0) (mkF 42 [(3, (.int .i64 i0)), (4, (.slice b0 b1 b2))]) H) E H)
noncomputable def varint_Put.W1.plan : Plan := .go
theorem varint_Put.W1.pok : PlanOk Tryz.prog varint_Put.W1.plan (sub [1, 1, 1, 1, 0, 1, 0, 0] varint_Put.body) := by
  have e : PlanOk Tryz.prog varint_Put.W1.plan (sub [1, 1, 1, 1, 0, 1, 0, 0] varint_Put.body) = (True) := by kernel_rfl
  exact e.mpr trivial
theorem varint_Put.W1.eq (n0 : Int) (i0 : Int) (b0 : Option Addr) (b1 : Nat) (b2 : Nat) (x0 : Int) (Q : Ex → Fr → Heap → Prop) (E : Value → Heap → Prop) (RR : Fr → Heap → Prop) (s : Int) (H : Heap) :
    (fun (RR : Int → Heap → Prop) (s : Int) (H : Heap) => varint_Put.W1.vc n0 i0 b0 b1 b2 x0 s (fun  H => Q (.exit 0) (mkF 42 [(3, (.int .i64 i0)), (4, (.slice b0 b1 b2))]) H) (fun x1 H => RR (x1) H) E H) (fun s' H' => RR ((fun (s : Int) => (mkF 42 [(0, (.int .i64 n0)), (3, (.int .i64 i0)), (4, (.slice b0 b1 b2)), (15, (.int .i64 x0)), (16, (.int .i64 s))])) s') H') s H = keepT [0, 3, 4, 15, 16] [] (fun i => if i = 0 then [3, 4] else []) (wC Tryz.prog varint_Put.Γ varint_Put.W1.plan (sub [1, 1, 1, 1, 0, 1, 0, 0] varint_Put.body)) (fun e fr' H' => match e with | .normal => RR fr' H' | .exit id => Q (.exit id) fr' H' | .ret => Q .ret fr' H') E ((fun (s : Int) => (mkF 42 [(0, (.int .i64 n0)), (3, (.int .i64 i0)), (4, (.slice b0 b1 b2)), (15, (.int .i64 x0)), (16, (.int .i64 s))])) s) H := by
  kernel_rfl
theorem varint_Put.W1.ok : SoundCode Tryz.prog (sub [1, 1, 1, 1, 0, 1, 0] varint_Put.body) varint_Put.W1.t := by
  have e : (sub [1, 1, 1, 1, 0, 1, 0] varint_Put.body) = .loop (sub [1, 1, 1, 1, 0, 1, 0, 0] varint_Put.body) := by kernel_rfl
  rw [e]
  refine piece_sound (loopN_sound (keepT_sound [0, 3, 4, 15, 16] [] (fun i => if i = 0 then [3, 4] else []) (wC_sound varint_Put.hΓ Tryz.hm varint_Put.W1.plan _ varint_Put.W1.pok))) ?_
  intro Q E fr H h
  unfold varint_Put.W1.t at h
  obtain ⟨hl, h⟩ := lenIs_elim h
  obtain ⟨n0, q0, h⟩ := slI_elim h
  obtain ⟨i0, q3, h⟩ := slI_elim h
  obtain ⟨b0, b1, b2, q4, h⟩ := slSl_elim h
  obtain ⟨x0, q15, h⟩ := slI_elim h
  obtain ⟨x1, q16, h⟩ := slI_elim h
  obtain ⟨m, h⟩ := h.h
  refine ⟨(mkF 42 [(0, (.int .i64 n0)), (3, (.int .i64 i0)), (4, (.slice b0 b1 b2)), (15, (.int .i64 x0)), (16, (.int .i64 x1))]), fun a ha => ha.mk (Nat.le_of_eq hl.symm) (List.forall_mem_cons.2 ⟨q0, List.forall_mem_cons.2 ⟨q3, List.forall_mem_cons.2 ⟨q4, List.forall_mem_cons.2 ⟨q15, List.forall_mem_cons.2 ⟨q16, fun _ h => nomatch h⟩⟩⟩⟩⟩), m, ?_⟩
  have e := loopS_eq (B := (fun (RR : Int → Heap → Prop) (s : Int) (H : Heap) => varint_Put.W1.vc n0 i0 b0 b1 b2 x0 s (fun  H => Q (.exit 0) (mkF 42 [(3, (.int .i64 i0)), (4, (.slice b0 b1 b2))]) H) (fun x1 H => RR (x1) H) E H)) (A := keepT [0, 3, 4, 15, 16] [] (fun i => if i = 0 then [3, 4] else []) (wC Tryz.prog varint_Put.Γ varint_Put.W1.plan (sub [1, 1, 1, 1, 0, 1, 0, 0] varint_Put.body))) (m := (fun (s : Int) => (mkF 42 [(0, (.int .i64 n0)), (3, (.int .i64 i0)), (4, (.slice b0 b1 b2)), (15, (.int .i64 x0)), (16, (.int .i64 s))]))) (Q := Q) (E := E) (fun RR s H => varint_Put.W1.eq n0 i0 b0 b1 b2 x0 Q E RR s H) m (x1) H
  exact cast e h
noncomputable def varint_Put.plan : Plan := .seq (.go) (.seq (.go) (.seq (.go) (.seq (.go) (.seq (.seq (.go) (.block (.use varint_Put.W1.t))) (.go)))))
theorem varint_Put.pok : PlanOk Tryz.prog varint_Put.plan varint_Put.body := by
  have e : PlanOk Tryz.prog varint_Put.plan varint_Put.body = ((True) ∧ ((True) ∧ ((True) ∧ ((True) ∧ (((True) ∧ (SoundCode Tryz.prog (sub [1, 1, 1, 1, 0, 1, 0] varint_Put.body) varint_Put.W1.t)) ∧ (True)))))) := by kernel_rfl
  exact e.mpr ⟨trivial, ⟨trivial, ⟨trivial, ⟨trivial, ⟨⟨trivial, varint_Put.W1.ok⟩, trivial⟩⟩⟩⟩⟩
theorem varint_Put.eq (n0 : Int) (K : Value → Heap → Prop) (E : Value → Heap → Prop) (H : Heap) :
    fnT Tryz.prog Tryz.f119 (wC Tryz.prog varint_Put.Γ varint_Put.plan varint_Put.body) [(.int .i64 n0)] K E H = varint_Put.vc n0 (fun r0_0 H => K (.string r0_0) H) E H := by
  kernel_rfl
theorem varint_Put.Fe {args : List Value} {K E : Value → Heap → Prop} {H : Heap} (h : varint_Put.F args K E H) : ∃ n0, args = [(.int .i64 n0)] ∧ varint_Put.c n0 (fun r0_0 H => K (.string r0_0) H) E H := by
  unfold varint_Put.F at h
  split at h
  · exact ⟨_, rfl, h⟩
  · exact h.elim
theorem varint_Put.ok : CalleeOk Tryz.prog 119 varint_Put.F :=
  callee_ok varint_Put.hΓ (fn := Tryz.f119) (c := varint_Put.body) (T := wC Tryz.prog varint_Put.Γ varint_Put.plan varint_Put.body) (by kernel_rfl) (by kernel_rfl) (by kernel_rfl) (wC_sound varint_Put.hΓ Tryz.hm varint_Put.plan _ varint_Put.pok) fun _ K E H h => by
    obtain ⟨z0, e, h⟩ := varint_Put.Fe h
    subst e
    have h2 : varint_Put.vc z0 (fun r0_0 H => ∃ H', Heap.Le H' H ∧ K (.string r0_0) H') E H := h.h
    rw [varint_Put.eq z0 (Fg K) E H]
    exact h2

/-! vizard/varint.Text -/
noncomputable def varint_Text.body : Code := Tryz.f67.body.getD .skip
def varint_Text.vc (s0 : ByteArray) (K : ByteArray → Heap → Prop) (E : Value → Heap → Prop) (h0 : Heap) : Prop :=
  varint_Put.c (s0.size : Int) (fun x0 h1 =>
  x0.size + s0.size ≤ 9223372036854775807 ∧
  K (x0 ++ s0) h1) E h0
structure varint_Text.c (s0 : ByteArray) (K : ByteArray → Heap → Prop) (E : Value → Heap → Prop) (H : Heap) : Prop where
  h : varint_Text.vc s0 (fun r0_0 H => ∃ H', Heap.Le H' H ∧ K r0_0 H') E H
def varint_Text.F : FT := fun args K E H => match args with
  | [(.string s0)] => varint_Text.c s0 (fun r0_0 H => K (.string r0_0) H) E H
  | _ => False
noncomputable def varint_Text.Γ : FuncId → Option FT := Γof [(119, varint_Put.F)]
theorem varint_Text.hΓ : ∀ f F, varint_Text.Γ f = some F → CalleeOk Tryz.prog f F := Γof_ok (List.forall_mem_cons.2 ⟨varint_Put.ok, fun _ h => nomatch h⟩)
noncomputable def varint_Text.plan : Plan := .go
theorem varint_Text.pok : PlanOk Tryz.prog varint_Text.plan varint_Text.body := by
  have e : PlanOk Tryz.prog varint_Text.plan varint_Text.body = (True) := by kernel_rfl
  exact e.mpr trivial
theorem varint_Text.eq (s0 : ByteArray) (K : Value → Heap → Prop) (E : Value → Heap → Prop) (H : Heap) :
    fnT Tryz.prog Tryz.f67 (wC Tryz.prog varint_Text.Γ varint_Text.plan varint_Text.body) [(.string s0)] K E H = varint_Text.vc s0 (fun r0_0 H => K (.string r0_0) H) E H := by
  kernel_rfl
theorem varint_Text.Fe {args : List Value} {K E : Value → Heap → Prop} {H : Heap} (h : varint_Text.F args K E H) : ∃ s0, args = [(.string s0)] ∧ varint_Text.c s0 (fun r0_0 H => K (.string r0_0) H) E H := by
  unfold varint_Text.F at h
  split at h
  · exact ⟨_, rfl, h⟩
  · exact h.elim
theorem varint_Text.ok : CalleeOk Tryz.prog 67 varint_Text.F :=
  callee_ok varint_Text.hΓ (fn := Tryz.f67) (c := varint_Text.body) (T := wC Tryz.prog varint_Text.Γ varint_Text.plan varint_Text.body) (by kernel_rfl) (by kernel_rfl) (by kernel_rfl) (wC_sound varint_Text.hΓ Tryz.hm varint_Text.plan _ varint_Text.pok) fun _ K E H h => by
    obtain ⟨z0, e, h⟩ := varint_Text.Fe h
    subst e
    have h2 : varint_Text.vc z0 (fun r0_0 H => ∃ H', Heap.Le H' H ∧ K (.string r0_0) H') E H := h.h
    rw [varint_Text.eq z0 (Fg K) E H]
    exact h2

/-! vizard/sha.first -/
noncomputable def sha_first.body : Code := Tryz.f198.body.getD .skip
def sha_first.vc (K : Int → Int → Int → Int → Int → Int → Int → Int → Heap → Prop) (E : Value → Heap → Prop) (h0 : Heap) : Prop :=
  newB (.cells #[(.int .u32 0), (.int .u32 0), (.int .u32 0), (.int .u32 0), (.int .u32 0), (.int .u32 0), (.int .u32 0), (.int .u32 0)] 207) (fun b0 h1 =>
  (#[(.int .u32 1779033703), (.int .u32 3144134277), (.int .u32 1013904242), (.int .u32 2773480762), (.int .u32 1359893119), (.int .u32 2600822924), (.int .u32 528734635), (.int .u32 1541459225)] : Array Value).size = 8 ∧ stRow (⟨b0, 0, none⟩ : Addr) (#[(.int .u32 1779033703), (.int .u32 3144134277), (.int .u32 1013904242), (.int .u32 2773480762), (.int .u32 1359893119), (.int .u32 2600822924), (.int .u32 528734635), (.int .u32 1541459225)] : Array Value).toList (fun h2 =>
  ldI h2 .u32 ((⟨b0, 0, none⟩ : Addr).add 0) fun r0 => ldI h2 .u32 ((⟨b0, 0, none⟩ : Addr).add 1) fun r1 => ldI h2 .u32 ((⟨b0, 0, none⟩ : Addr).add 2) fun r2 => ldI h2 .u32 ((⟨b0, 0, none⟩ : Addr).add 3) fun r3 => ldI h2 .u32 ((⟨b0, 0, none⟩ : Addr).add 4) fun r4 => ldI h2 .u32 ((⟨b0, 0, none⟩ : Addr).add 5) fun r5 => ldI h2 .u32 ((⟨b0, 0, none⟩ : Addr).add 6) fun r6 => ldI h2 .u32 ((⟨b0, 0, none⟩ : Addr).add 7) fun r7 =>
  K r0 r1 r2 r3 r4 r5 r6 r7 h2) h1) h0
structure sha_first.c (K : Int → Int → Int → Int → Int → Int → Int → Int → Heap → Prop) (E : Value → Heap → Prop) (H : Heap) : Prop where
  h : sha_first.vc  (fun r0_0 r0_1 r0_2 r0_3 r0_4 r0_5 r0_6 r0_7 H => ∃ H', Heap.Le H' H ∧ K r0_0 r0_1 r0_2 r0_3 r0_4 r0_5 r0_6 r0_7 H') E H
def sha_first.F : FT := fun args K E H => match args with
  | [] => sha_first.c  (fun r0_0 r0_1 r0_2 r0_3 r0_4 r0_5 r0_6 r0_7 H => K (.agg #[(.int .u32 r0_0), (.int .u32 r0_1), (.int .u32 r0_2), (.int .u32 r0_3), (.int .u32 r0_4), (.int .u32 r0_5), (.int .u32 r0_6), (.int .u32 r0_7)]) H) E H
  | _ => False
noncomputable def sha_first.Γ : FuncId → Option FT := Γof []
theorem sha_first.hΓ : ∀ f F, sha_first.Γ f = some F → CalleeOk Tryz.prog f F := Γof_ok (fun _ h => nomatch h)
noncomputable def sha_first.plan : Plan := .go
theorem sha_first.pok : PlanOk Tryz.prog sha_first.plan sha_first.body := by
  have e : PlanOk Tryz.prog sha_first.plan sha_first.body = (True) := by kernel_rfl
  exact e.mpr trivial
theorem sha_first.eq (K : Value → Heap → Prop) (E : Value → Heap → Prop) (H : Heap) :
    fnT Tryz.prog Tryz.f198 (wC Tryz.prog sha_first.Γ sha_first.plan sha_first.body) [] K E H = sha_first.vc  (fun r0_0 r0_1 r0_2 r0_3 r0_4 r0_5 r0_6 r0_7 H => K (.agg #[(.int .u32 r0_0), (.int .u32 r0_1), (.int .u32 r0_2), (.int .u32 r0_3), (.int .u32 r0_4), (.int .u32 r0_5), (.int .u32 r0_6), (.int .u32 r0_7)]) H) E H := by
  kernel_rfl
theorem sha_first.Fe {args : List Value} {K E : Value → Heap → Prop} {H : Heap} (h : sha_first.F args K E H) : args = [] ∧ sha_first.c  (fun r0_0 r0_1 r0_2 r0_3 r0_4 r0_5 r0_6 r0_7 H => K (.agg #[(.int .u32 r0_0), (.int .u32 r0_1), (.int .u32 r0_2), (.int .u32 r0_3), (.int .u32 r0_4), (.int .u32 r0_5), (.int .u32 r0_6), (.int .u32 r0_7)]) H) E H := by
  unfold sha_first.F at h
  split at h
  · exact ⟨rfl, h⟩
  · exact h.elim
theorem sha_first.ok : CalleeOk Tryz.prog 198 sha_first.F :=
  callee_ok sha_first.hΓ (fn := Tryz.f198) (c := sha_first.body) (T := wC Tryz.prog sha_first.Γ sha_first.plan sha_first.body) (by kernel_rfl) (by kernel_rfl) (by kernel_rfl) (wC_sound sha_first.hΓ Tryz.hm sha_first.plan _ sha_first.pok) fun _ K E H h => by
    obtain ⟨e, h⟩ := sha_first.Fe h
    subst e
    have h2 : sha_first.vc (fun r0_0 r0_1 r0_2 r0_3 r0_4 r0_5 r0_6 r0_7 H => ∃ H', Heap.Le H' H ∧ K (.agg #[(.int .u32 r0_0), (.int .u32 r0_1), (.int .u32 r0_2), (.int .u32 r0_3), (.int .u32 r0_4), (.int .u32 r0_5), (.int .u32 r0_6), (.int .u32 r0_7)]) H') E H := h.h
    rw [sha_first.eq (Fg K) E H]
    exact h2

/-! vizard/sha.New -/
noncomputable def sha_New.body : Code := Tryz.f159.body.getD .skip
def sha_New.vc (K : Option Addr → Heap → Prop) (E : Value → Heap → Prop) (h0 : Heap) : Prop :=
  sha_first.c (fun x0 x1 x2 x3 x4 x5 x6 x7 h1 =>
  newB (.cells #[(.int .u32 x0), (.int .u32 x1), (.int .u32 x2), (.int .u32 x3), (.int .u32 x4), (.int .u32 x5), (.int .u32 x6), (.int .u32 x7), (.slice none 0 0), (.int .u64 0)] 209) (fun b0 h2 =>
  K (some (⟨b0, 0, none⟩ : Addr)) h2) h1) E h0
structure sha_New.c (K : Option Addr → Heap → Prop) (E : Value → Heap → Prop) (H : Heap) : Prop where
  h : sha_New.vc  (fun r0_0 H => ∃ H', Heap.Le H' H ∧ K r0_0 H') E H
def sha_New.F : FT := fun args K E H => match args with
  | [] => sha_New.c  (fun r0_0 H => K (.pointer r0_0) H) E H
  | _ => False
noncomputable def sha_New.Γ : FuncId → Option FT := Γof [(198, sha_first.F)]
theorem sha_New.hΓ : ∀ f F, sha_New.Γ f = some F → CalleeOk Tryz.prog f F := Γof_ok (List.forall_mem_cons.2 ⟨sha_first.ok, fun _ h => nomatch h⟩)
noncomputable def sha_New.plan : Plan := .go
theorem sha_New.pok : PlanOk Tryz.prog sha_New.plan sha_New.body := by
  have e : PlanOk Tryz.prog sha_New.plan sha_New.body = (True) := by kernel_rfl
  exact e.mpr trivial
theorem sha_New.eq (K : Value → Heap → Prop) (E : Value → Heap → Prop) (H : Heap) :
    fnT Tryz.prog Tryz.f159 (wC Tryz.prog sha_New.Γ sha_New.plan sha_New.body) [] K E H = sha_New.vc  (fun r0_0 H => K (.pointer r0_0) H) E H := by
  kernel_rfl
theorem sha_New.Fe {args : List Value} {K E : Value → Heap → Prop} {H : Heap} (h : sha_New.F args K E H) : args = [] ∧ sha_New.c  (fun r0_0 H => K (.pointer r0_0) H) E H := by
  unfold sha_New.F at h
  split at h
  · exact ⟨rfl, h⟩
  · exact h.elim
theorem sha_New.ok : CalleeOk Tryz.prog 159 sha_New.F :=
  callee_ok sha_New.hΓ (fn := Tryz.f159) (c := sha_New.body) (T := wC Tryz.prog sha_New.Γ sha_New.plan sha_New.body) (by kernel_rfl) (by kernel_rfl) (by kernel_rfl) (wC_sound sha_New.hΓ Tryz.hm sha_New.plan _ sha_New.pok) fun _ K E H h => by
    obtain ⟨e, h⟩ := sha_New.Fe h
    subst e
    have h2 : sha_New.vc (fun r0_0 H => ∃ H', Heap.Le H' H ∧ K (.pointer r0_0) H') E H := h.h
    rw [sha_New.eq (Fg K) E H]
    exact h2

/-! math/bits.RotateLeft32 -/
noncomputable def math_bits_RotateLeft32.body : Code := Tryz.f225.body.getD .skip
def math_bits_RotateLeft32.vc (x0 : Int) (k0 : Int) (K : Int → Heap → Prop) (E : Value → Heap → Prop) (h0 : Heap) : Prop :=
  (0 : Int) ≤ (bits .and .u64 (IntKind.u64.wrap k0) 31) ∧
  (0 : Int) ≤ (IntKind.u64.wrap (32 - (bits .and .u64 (IntKind.u64.wrap k0) 31))) ∧
  K (bits .or .u32 (shlI .u32 x0 (bits .and .u64 (IntKind.u64.wrap k0) 31)) (shrI .u32 x0 (IntKind.u64.wrap (32 - (bits .and .u64 (IntKind.u64.wrap k0) 31))))) h0
structure math_bits_RotateLeft32.c (x0 : Int) (k0 : Int) (K : Int → Heap → Prop) (E : Value → Heap → Prop) (H : Heap) : Prop where
  h : math_bits_RotateLeft32.vc x0 k0 (fun r0_0 H => ∃ H', Heap.Le H' H ∧ K r0_0 H') E H
def math_bits_RotateLeft32.F : FT := fun args K E H => match args with
  | [(.int .u32 x0), (.int .i64 k0)] => math_bits_RotateLeft32.c x0 k0 (fun r0_0 H => K (.int .u32 r0_0) H) E H
  | _ => False
noncomputable def math_bits_RotateLeft32.Γ : FuncId → Option FT := Γof []
theorem math_bits_RotateLeft32.hΓ : ∀ f F, math_bits_RotateLeft32.Γ f = some F → CalleeOk Tryz.prog f F := Γof_ok (fun _ h => nomatch h)
noncomputable def math_bits_RotateLeft32.plan : Plan := .go
theorem math_bits_RotateLeft32.pok : PlanOk Tryz.prog math_bits_RotateLeft32.plan math_bits_RotateLeft32.body := by
  have e : PlanOk Tryz.prog math_bits_RotateLeft32.plan math_bits_RotateLeft32.body = (True) := by kernel_rfl
  exact e.mpr trivial
theorem math_bits_RotateLeft32.eq (x0 : Int) (k0 : Int) (K : Value → Heap → Prop) (E : Value → Heap → Prop) (H : Heap) :
    fnT Tryz.prog Tryz.f225 (wC Tryz.prog math_bits_RotateLeft32.Γ math_bits_RotateLeft32.plan math_bits_RotateLeft32.body) [(.int .u32 x0), (.int .i64 k0)] K E H = math_bits_RotateLeft32.vc x0 k0 (fun r0_0 H => K (.int .u32 r0_0) H) E H := by
  kernel_rfl
theorem math_bits_RotateLeft32.Fe {args : List Value} {K E : Value → Heap → Prop} {H : Heap} (h : math_bits_RotateLeft32.F args K E H) : ∃ x0 k0, args = [(.int .u32 x0), (.int .i64 k0)] ∧ math_bits_RotateLeft32.c x0 k0 (fun r0_0 H => K (.int .u32 r0_0) H) E H := by
  unfold math_bits_RotateLeft32.F at h
  split at h
  · exact ⟨_, _, rfl, h⟩
  · exact h.elim
theorem math_bits_RotateLeft32.ok : CalleeOk Tryz.prog 225 math_bits_RotateLeft32.F :=
  callee_ok math_bits_RotateLeft32.hΓ (fn := Tryz.f225) (c := math_bits_RotateLeft32.body) (T := wC Tryz.prog math_bits_RotateLeft32.Γ math_bits_RotateLeft32.plan math_bits_RotateLeft32.body) (by kernel_rfl) (by kernel_rfl) (by kernel_rfl) (wC_sound math_bits_RotateLeft32.hΓ Tryz.hm math_bits_RotateLeft32.plan _ math_bits_RotateLeft32.pok) fun _ K E H h => by
    obtain ⟨z0, z1, e, h⟩ := math_bits_RotateLeft32.Fe h
    subst e
    have h2 : math_bits_RotateLeft32.vc z0 z1 (fun r0_0 H => ∃ H', Heap.Le H' H ∧ K (.int .u32 r0_0) H') E H := h.h
    rw [math_bits_RotateLeft32.eq z0 z1 (Fg K) E H]
    exact h2

/-! vizard/sha.turn -/
noncomputable def sha_turn.body : Code := Tryz.f218.body.getD .skip
def sha_turn.vc (x0 : Int) (n0 : Int) (K : Int → Heap → Prop) (E : Value → Heap → Prop) (h0 : Heap) : Prop :=
  math_bits_RotateLeft32.c x0 (IntKind.i64.wrap (0 - n0)) K E h0
structure sha_turn.c (x0 : Int) (n0 : Int) (K : Int → Heap → Prop) (E : Value → Heap → Prop) (H : Heap) : Prop where
  h : sha_turn.vc x0 n0 (fun r0_0 H => ∃ H', Heap.Le H' H ∧ K r0_0 H') E H
def sha_turn.F : FT := fun args K E H => match args with
  | [(.int .u32 x0), (.int .i64 n0)] => sha_turn.c x0 n0 (fun r0_0 H => K (.int .u32 r0_0) H) E H
  | _ => False
noncomputable def sha_turn.Γ : FuncId → Option FT := Γof [(225, math_bits_RotateLeft32.F)]
theorem sha_turn.hΓ : ∀ f F, sha_turn.Γ f = some F → CalleeOk Tryz.prog f F := Γof_ok (List.forall_mem_cons.2 ⟨math_bits_RotateLeft32.ok, fun _ h => nomatch h⟩)
noncomputable def sha_turn.plan : Plan := .go
theorem sha_turn.pok : PlanOk Tryz.prog sha_turn.plan sha_turn.body := by
  have e : PlanOk Tryz.prog sha_turn.plan sha_turn.body = (True) := by kernel_rfl
  exact e.mpr trivial
theorem sha_turn.eq (x0 : Int) (n0 : Int) (K : Value → Heap → Prop) (E : Value → Heap → Prop) (H : Heap) :
    fnT Tryz.prog Tryz.f218 (wC Tryz.prog sha_turn.Γ sha_turn.plan sha_turn.body) [(.int .u32 x0), (.int .i64 n0)] K E H = sha_turn.vc x0 n0 (fun r0_0 H => K (.int .u32 r0_0) H) E H := by
  kernel_rfl
theorem sha_turn.Fe {args : List Value} {K E : Value → Heap → Prop} {H : Heap} (h : sha_turn.F args K E H) : ∃ x0 n0, args = [(.int .u32 x0), (.int .i64 n0)] ∧ sha_turn.c x0 n0 (fun r0_0 H => K (.int .u32 r0_0) H) E H := by
  unfold sha_turn.F at h
  split at h
  · exact ⟨_, _, rfl, h⟩
  · exact h.elim
theorem sha_turn.ok : CalleeOk Tryz.prog 218 sha_turn.F :=
  callee_ok sha_turn.hΓ (fn := Tryz.f218) (c := sha_turn.body) (T := wC Tryz.prog sha_turn.Γ sha_turn.plan sha_turn.body) (by kernel_rfl) (by kernel_rfl) (by kernel_rfl) (wC_sound sha_turn.hΓ Tryz.hm sha_turn.plan _ sha_turn.pok) fun _ K E H h => by
    obtain ⟨z0, z1, e, h⟩ := sha_turn.Fe h
    subst e
    have h2 : sha_turn.vc z0 z1 (fun r0_0 H => ∃ H', Heap.Le H' H ∧ K (.int .u32 r0_0) H') E H := h.h
    rw [sha_turn.eq z0 z1 (Fg K) E H]
    exact h2

/-! (*vizard/sha.state).mix -/
noncomputable def sha_state_mix.body : Code := Tryz.f199.body.getD .skip
def sha_state_mix.W1.vc (h0 : Option Addr) (b0 : Option Addr) (b1 : Nat) (b2 : Nat) (w0 : Addr) (x0 : Int) (Kx0 : Heap → Prop) (RR : Int → Heap → Prop) (E : Value → Heap → Prop) (h1 : Heap) : Prop :=
  (if (decide (x0 < 16)) = true then
  nilc b0 fun a0 => (0 : Int) ≤ (IntKind.i64.wrap (4 * x0)) ∧ (IntKind.i64.wrap (4 * x0)) < (b1 : Int) ∧
  ldI h1 .u8 (a0.add ((IntKind.i64.wrap (4 * x0)).toNat * 1)) fun x1 =>
  (0 : Int) ≤ 24 ∧
  nilc b0 fun a1 => (0 : Int) ≤ (IntKind.i64.wrap ((IntKind.i64.wrap (4 * x0)) + 1)) ∧ (IntKind.i64.wrap ((IntKind.i64.wrap (4 * x0)) + 1)) < (b1 : Int) ∧
  ldI h1 .u8 (a1.add ((IntKind.i64.wrap ((IntKind.i64.wrap (4 * x0)) + 1)).toNat * 1)) fun x2 =>
  (0 : Int) ≤ 16 ∧
  nilc b0 fun a2 => (0 : Int) ≤ (IntKind.i64.wrap ((IntKind.i64.wrap (4 * x0)) + 2)) ∧ (IntKind.i64.wrap ((IntKind.i64.wrap (4 * x0)) + 2)) < (b1 : Int) ∧
  ldI h1 .u8 (a2.add ((IntKind.i64.wrap ((IntKind.i64.wrap (4 * x0)) + 2)).toNat * 1)) fun x3 =>
  (0 : Int) ≤ 8 ∧
  nilc b0 fun a3 => (0 : Int) ≤ (IntKind.i64.wrap ((IntKind.i64.wrap (4 * x0)) + 3)) ∧ (IntKind.i64.wrap ((IntKind.i64.wrap (4 * x0)) + 3)) < (b1 : Int) ∧
  ldI h1 .u8 (a3.add ((IntKind.i64.wrap ((IntKind.i64.wrap (4 * x0)) + 3)).toNat * 1)) fun x4 =>
  (0 : Int) ≤ x0 ∧ x0 < ((64 : Nat) : Int) ∧
  stc h1 (w0.add (x0.toNat * 1)) (.int .u32 (bits .or .u32 (bits .or .u32 (bits .or .u32 (shlI .u32 (IntKind.u32.wrap x1) 24) (shlI .u32 (IntKind.u32.wrap x2) 16)) (shlI .u32 (IntKind.u32.wrap x3) 8)) (IntKind.u32.wrap x4))) fun h2 =>
  RR (IntKind.i64.wrap (x0 + 1)) h2
  else
  Kx0 h1)
structure sha_state_mix.W1 (h0 : Option Addr) (b0 : Option Addr) (b1 : Nat) (b2 : Nat) (w0 : Addr) (x0 : Int) (Kx0 : Heap → Prop) (E : Value → Heap → Prop) (H : Heap) : Prop where
  h : Loop (fun (RR : Int → Heap → Prop) (s : Int) (H : Heap) => sha_state_mix.W1.vc h0 b0 b1 b2 w0 s Kx0 (fun x0 H => RR (x0) H) E H) (x0) H
def sha_state_mix.W2.vc (h0 : Option Addr) (w0 : Addr) (t0 : Int) (Kx2 : Heap → Prop) (RR : Int → Heap → Prop) (E : Value → Heap → Prop) (h1 : Heap) : Prop :=
  (if (decide (t0 < 64)) = true then
  (0 : Int) ≤ (IntKind.i64.wrap (t0 - 15)) ∧ (IntKind.i64.wrap (t0 - 15)) < ((64 : Nat) : Int) ∧
  ldI h1 .u32 (w0.add ((IntKind.i64.wrap (t0 - 15)).toNat * 1)) fun x0 =>
  (0 : Int) ≤ (IntKind.i64.wrap (t0 - 2)) ∧ (IntKind.i64.wrap (t0 - 2)) < ((64 : Nat) : Int) ∧
  ldI h1 .u32 (w0.add ((IntKind.i64.wrap (t0 - 2)).toNat * 1)) fun x1 =>
  (0 : Int) ≤ (IntKind.i64.wrap (t0 - 16)) ∧ (IntKind.i64.wrap (t0 - 16)) < ((64 : Nat) : Int) ∧
  ldI h1 .u32 (w0.add ((IntKind.i64.wrap (t0 - 16)).toNat * 1)) fun x2 =>
  (0 : Int) ≤ (IntKind.i64.wrap (t0 - 7)) ∧ (IntKind.i64.wrap (t0 - 7)) < ((64 : Nat) : Int) ∧
  ldI h1 .u32 (w0.add ((IntKind.i64.wrap (t0 - 7)).toNat * 1)) fun x3 =>
  (0 : Int) ≤ 3 ∧
  (0 : Int) ≤ 10 ∧
  sha_turn.c x0 7 (fun x4 h2 =>
  (ldI h2 .u32 (w0.add ((IntKind.i64.wrap (t0 - 7)).toNat * 1)) fun x5 =>
  eqv h2 h2 (some (.int .u32 x3)) (.int .u32 x5)) ∧
  (ldI h2 .u32 (w0.add ((IntKind.i64.wrap (t0 - 16)).toNat * 1)) fun x6 =>
  eqv h2 h2 (some (.int .u32 x2)) (.int .u32 x6)) ∧
  sha_turn.c x0 18 (fun x7 h3 =>
  (ldI h3 .u32 (w0.add ((IntKind.i64.wrap (t0 - 7)).toNat * 1)) fun x8 =>
  eqv h3 h3 (some (.int .u32 x3)) (.int .u32 x8)) ∧
  (ldI h3 .u32 (w0.add ((IntKind.i64.wrap (t0 - 16)).toNat * 1)) fun x9 =>
  eqv h3 h3 (some (.int .u32 x2)) (.int .u32 x9)) ∧
  sha_turn.c x1 17 (fun x10 h4 =>
  (ldI h4 .u32 (w0.add ((IntKind.i64.wrap (t0 - 7)).toNat * 1)) fun x11 =>
  eqv h4 h4 (some (.int .u32 x3)) (.int .u32 x11)) ∧
  (ldI h4 .u32 (w0.add ((IntKind.i64.wrap (t0 - 16)).toNat * 1)) fun x12 =>
  eqv h4 h4 (some (.int .u32 x2)) (.int .u32 x12)) ∧
  sha_turn.c x1 19 (fun x13 h5 =>
  (ldI h5 .u32 (w0.add ((IntKind.i64.wrap (t0 - 7)).toNat * 1)) fun x14 =>
  eqv h5 h5 (some (.int .u32 x3)) (.int .u32 x14)) ∧
  (ldI h5 .u32 (w0.add ((IntKind.i64.wrap (t0 - 16)).toNat * 1)) fun x15 =>
  eqv h5 h5 (some (.int .u32 x2)) (.int .u32 x15)) ∧
  (0 : Int) ≤ t0 ∧ t0 < ((64 : Nat) : Int) ∧
  stc h5 (w0.add (t0.toNat * 1)) (.int .u32 (IntKind.u32.wrap ((IntKind.u32.wrap ((IntKind.u32.wrap (x2 + x3)) + (bits .xor .u32 (bits .xor .u32 x4 x7) (shrI .u32 x0 3)))) + (bits .xor .u32 (bits .xor .u32 x10 x13) (shrI .u32 x1 10))))) fun h6 =>
  RR (IntKind.i64.wrap (t0 + 1)) h6) E h4) E h3) E h2) E h1
  else
  Kx2 h1)
structure sha_state_mix.W2 (h0 : Option Addr) (w0 : Addr) (t0 : Int) (Kx2 : Heap → Prop) (E : Value → Heap → Prop) (H : Heap) : Prop where
  h : Loop (fun (RR : Int → Heap → Prop) (s : Int) (H : Heap) => sha_state_mix.W2.vc h0 w0 s Kx2 (fun t0 H => RR (t0) H) E H) (t0) H
def sha_state_mix.W3.vc (h0 : Option Addr) (w0 : Addr) (v0 : Addr) (x0 : Array Value) (x1 : Int) (Kx4 : Heap → Prop) (RR : Int → Heap → Prop) (E : Value → Heap → Prop) (h1 : Heap) : Prop :=
  (if (decide (x1 < 64)) = true then
  (0 : Int) ≤ x1 ∧ x1 < ((64 : Nat) : Int) ∧ ∃ v1, (x0 : Array Value)[x1.toNat]? = some v1 ∧ ∃ x2, v1 = (.int .u32 x2) ∧
  (0 : Int) ≤ 0 ∧ 0 < ((8 : Nat) : Int) ∧
  ldI h1 .u32 (v0.add (0 * 1)) fun x3 =>
  (0 : Int) ≤ 1 ∧ 1 < ((8 : Nat) : Int) ∧
  ldI h1 .u32 (v0.add (1 * 1)) fun x4 =>
  (0 : Int) ≤ 2 ∧ 2 < ((8 : Nat) : Int) ∧
  ldI h1 .u32 (v0.add (2 * 1)) fun x5 =>
  (0 : Int) ≤ 4 ∧ 4 < ((8 : Nat) : Int) ∧
  ldI h1 .u32 (v0.add (4 * 1)) fun x6 =>
  (0 : Int) ≤ 5 ∧ 5 < ((8 : Nat) : Int) ∧
  ldI h1 .u32 (v0.add (5 * 1)) fun x7 =>
  (0 : Int) ≤ 6 ∧ 6 < ((8 : Nat) : Int) ∧
  ldI h1 .u32 (v0.add (6 * 1)) fun x8 =>
  (0 : Int) ≤ 7 ∧ 7 < ((8 : Nat) : Int) ∧
  ldI h1 .u32 (v0.add (7 * 1)) fun x9 =>
  (0 : Int) ≤ x1 ∧ x1 < ((64 : Nat) : Int) ∧
  ldI h1 .u32 (w0.add (x1.toNat * 1)) fun x10 =>
  sha_turn.c x6 6 (fun x11 h2 =>
  (ldI h2 .u32 (w0.add (x1.toNat * 1)) fun x12 =>
  eqv h2 h2 (some (.int .u32 x10)) (.int .u32 x12)) ∧
  (ldI h2 .u32 (v0.add (7 * 1)) fun x13 =>
  eqv h2 h2 (some (.int .u32 x9)) (.int .u32 x13)) ∧
  sha_turn.c x6 11 (fun x14 h3 =>
  (ldI h3 .u32 (w0.add (x1.toNat * 1)) fun x15 =>
  eqv h3 h3 (some (.int .u32 x10)) (.int .u32 x15)) ∧
  (ldI h3 .u32 (v0.add (7 * 1)) fun x16 =>
  eqv h3 h3 (some (.int .u32 x9)) (.int .u32 x16)) ∧
  sha_turn.c x6 25 (fun x17 h4 =>
  (ldI h4 .u32 (w0.add (x1.toNat * 1)) fun x18 =>
  eqv h4 h4 (some (.int .u32 x10)) (.int .u32 x18)) ∧
  (ldI h4 .u32 (v0.add (7 * 1)) fun x19 =>
  eqv h4 h4 (some (.int .u32 x9)) (.int .u32 x19)) ∧
  sha_turn.c x3 2 (fun x20 h5 =>
  sha_turn.c x3 13 (fun x21 h6 =>
  sha_turn.c x3 22 (fun x22 h7 =>
  (0 : Int) ≤ 3 ∧ 3 < ((8 : Nat) : Int) ∧
  ldI h7 .u32 (v0.add (3 * 1)) fun x23 =>
  (#[(.int .u32 (IntKind.u32.wrap ((IntKind.u32.wrap ((IntKind.u32.wrap ((IntKind.u32.wrap ((IntKind.u32.wrap (x9 + (bits .xor .u32 (bits .xor .u32 x11 x14) x17))) + (bits .or .u32 (bits .and .u32 x6 x7) (bits .and .u32 (bits .xor .u32 (IntKind.max .u32) x6) x8)))) + x2)) + x10)) + (IntKind.u32.wrap ((bits .xor .u32 (bits .xor .u32 x20 x21) x22) + (bits .or .u32 (bits .or .u32 (bits .and .u32 x3 x4) (bits .and .u32 x3 x5)) (bits .and .u32 x4 x5))))))), (.int .u32 x3), (.int .u32 x4), (.int .u32 x5), (.int .u32 (IntKind.u32.wrap (x23 + (IntKind.u32.wrap ((IntKind.u32.wrap ((IntKind.u32.wrap ((IntKind.u32.wrap (x9 + (bits .xor .u32 (bits .xor .u32 x11 x14) x17))) + (bits .or .u32 (bits .and .u32 x6 x7) (bits .and .u32 (bits .xor .u32 (IntKind.max .u32) x6) x8)))) + x2)) + x10))))), (.int .u32 x6), (.int .u32 x7), (.int .u32 x8)] : Array Value).size = 8 ∧ stRow v0 (#[(.int .u32 (IntKind.u32.wrap ((IntKind.u32.wrap ((IntKind.u32.wrap ((IntKind.u32.wrap ((IntKind.u32.wrap (x9 + (bits .xor .u32 (bits .xor .u32 x11 x14) x17))) + (bits .or .u32 (bits .and .u32 x6 x7) (bits .and .u32 (bits .xor .u32 (IntKind.max .u32) x6) x8)))) + x2)) + x10)) + (IntKind.u32.wrap ((bits .xor .u32 (bits .xor .u32 x20 x21) x22) + (bits .or .u32 (bits .or .u32 (bits .and .u32 x3 x4) (bits .and .u32 x3 x5)) (bits .and .u32 x4 x5))))))), (.int .u32 x3), (.int .u32 x4), (.int .u32 x5), (.int .u32 (IntKind.u32.wrap (x23 + (IntKind.u32.wrap ((IntKind.u32.wrap ((IntKind.u32.wrap ((IntKind.u32.wrap (x9 + (bits .xor .u32 (bits .xor .u32 x11 x14) x17))) + (bits .or .u32 (bits .and .u32 x6 x7) (bits .and .u32 (bits .xor .u32 (IntKind.max .u32) x6) x8)))) + x2)) + x10))))), (.int .u32 x6), (.int .u32 x7), (.int .u32 x8)] : Array Value).toList (fun h8 =>
  RR (IntKind.i64.wrap (x1 + 1)) h8) h7) E h6) E h5) E h4) E h3) E h2) E h1
  else
  Kx4 h1)
structure sha_state_mix.W3 (h0 : Option Addr) (w0 : Addr) (v0 : Addr) (x0 : Array Value) (x1 : Int) (Kx4 : Heap → Prop) (E : Value → Heap → Prop) (H : Heap) : Prop where
  h : Loop (fun (RR : Int → Heap → Prop) (s : Int) (H : Heap) => sha_state_mix.W3.vc h0 w0 v0 x0 s Kx4 (fun x1 H => RR (x1) H) E H) (x1) H
def sha_state_mix.W4.vc (h0 : Option Addr) (v0 : Addr) (x0 : Int) (Kx6 : Heap → Prop) (RR : Int → Heap → Prop) (E : Value → Heap → Prop) (h1 : Heap) : Prop :=
  (if (decide (x0 < 8)) = true then
  nilc h0 fun a0 =>
  (0 : Int) ≤ x0 ∧ x0 < ((8 : Nat) : Int) ∧
  ldI h1 .u32 (a0.add (x0.toNat * 1)) fun x1 =>
  (0 : Int) ≤ x0 ∧ x0 < ((8 : Nat) : Int) ∧
  ldI h1 .u32 (v0.add (x0.toNat * 1)) fun x2 =>
  nilc h0 fun a1 =>
  (0 : Int) ≤ x0 ∧ x0 < ((8 : Nat) : Int) ∧
  stc h1 (a1.add (x0.toNat * 1)) (.int .u32 (IntKind.u32.wrap (x1 + x2))) fun h2 =>
  RR (IntKind.i64.wrap (x0 + 1)) h2
  else
  Kx6 h1)
structure sha_state_mix.W4 (h0 : Option Addr) (v0 : Addr) (x0 : Int) (Kx6 : Heap → Prop) (E : Value → Heap → Prop) (H : Heap) : Prop where
  h : Loop (fun (RR : Int → Heap → Prop) (s : Int) (H : Heap) => sha_state_mix.W4.vc h0 v0 s Kx6 (fun x0 H => RR (x0) H) E H) (x0) H
def sha_state_mix.vc (h0 : Option Addr) (b0 : Option Addr) (b1 : Nat) (b2 : Nat) (K : Heap → Prop) (E : Value → Heap → Prop) (h1 : Heap) : Prop :=
  newB (.cells #[(.int .u32 0), (.int .u32 0), (.int .u32 0), (.int .u32 0), (.int .u32 0), (.int .u32 0), (.int .u32 0), (.int .u32 0), (.int .u32 0), (.int .u32 0), (.int .u32 0), (.int .u32 0), (.int .u32 0), (.int .u32 0), (.int .u32 0), (.int .u32 0), (.int .u32 0), (.int .u32 0), (.int .u32 0), (.int .u32 0), (.int .u32 0), (.int .u32 0), (.int .u32 0), (.int .u32 0), (.int .u32 0), (.int .u32 0), (.int .u32 0), (.int .u32 0), (.int .u32 0), (.int .u32 0), (.int .u32 0), (.int .u32 0), (.int .u32 0), (.int .u32 0), (.int .u32 0), (.int .u32 0), (.int .u32 0), (.int .u32 0), (.int .u32 0), (.int .u32 0), (.int .u32 0), (.int .u32 0), (.int .u32 0), (.int .u32 0), (.int .u32 0), (.int .u32 0), (.int .u32 0), (.int .u32 0), (.int .u32 0), (.int .u32 0), (.int .u32 0), (.int .u32 0), (.int .u32 0), (.int .u32 0), (.int .u32 0), (.int .u32 0), (.int .u32 0), (.int .u32 0), (.int .u32 0), (.int .u32 0), (.int .u32 0), (.int .u32 0), (.int .u32 0), (.int .u32 0)] 312) (fun b3 h2 =>
  sha_state_mix.W1 h0 b0 b1 b2 (⟨b3, 0, none⟩ : Addr) 0 (fun h3 =>
  sha_state_mix.W2 h0 (⟨b3, 0, none⟩ : Addr) 16 (fun h4 =>
  nilc h0 fun a0 =>
  ldI h4 .u32 (a0.add 0) fun x0 => ldI h4 .u32 (a0.add 1) fun x1 => ldI h4 .u32 (a0.add 2) fun x2 => ldI h4 .u32 (a0.add 3) fun x3 => ldI h4 .u32 (a0.add 4) fun x4 => ldI h4 .u32 (a0.add 5) fun x5 => ldI h4 .u32 (a0.add 6) fun x6 => ldI h4 .u32 (a0.add 7) fun x7 =>
  newB (.cells #[(.int .u32 0), (.int .u32 0), (.int .u32 0), (.int .u32 0), (.int .u32 0), (.int .u32 0), (.int .u32 0), (.int .u32 0)] 207) (fun b4 h5 =>
  (#[(.int .u32 x0), (.int .u32 x1), (.int .u32 x2), (.int .u32 x3), (.int .u32 x4), (.int .u32 x5), (.int .u32 x6), (.int .u32 x7)] : Array Value).size = 8 ∧ stRow (⟨b4, 0, none⟩ : Addr) (#[(.int .u32 x0), (.int .u32 x1), (.int .u32 x2), (.int .u32 x3), (.int .u32 x4), (.int .u32 x5), (.int .u32 x6), (.int .u32 x7)] : Array Value).toList (fun h6 =>
  ldRow h6 (⟨1, 0, none⟩ : Addr) 64 fun cs0 =>
  sha_state_mix.W3 h0 (⟨b3, 0, none⟩ : Addr) (⟨b4, 0, none⟩ : Addr) cs0.toArray 0 (fun h7 =>
  sha_state_mix.W4 h0 (⟨b4, 0, none⟩ : Addr) 0 K E h7) E h6) h5) h4) E h3) E h2) h1
structure sha_state_mix.c (h0 : Option Addr) (b0 : Option Addr) (b1 : Nat) (b2 : Nat) (K : Heap → Prop) (E : Value → Heap → Prop) (H : Heap) : Prop where
  h : sha_state_mix.vc h0 b0 b1 b2 (fun  H => ∃ H', Heap.Le H' H ∧ K  H') E H
def sha_state_mix.F : FT := fun args K E H => match args with
  | [(.pointer h0), (.slice b0 b1 b2)] => sha_state_mix.c h0 b0 b1 b2 (fun  H => K (.tuple #[]) H) E H
  | _ => False
noncomputable def sha_state_mix.Γ : FuncId → Option FT := Γof [(218, sha_turn.F)]
theorem sha_state_mix.hΓ : ∀ f F, sha_state_mix.Γ f = some F → CalleeOk Tryz.prog f F := Γof_ok (List.forall_mem_cons.2 ⟨sha_turn.ok, fun _ h => nomatch h⟩)
def sha_state_mix.W1.t : CT := fun Q E fr H => lenIs 197 fr (slP fr 0 fun h0 => slSl fr 1 fun b0 b1 b2 => slPA fr 4 fun w0 => slI fr 21 .i64 fun x0 => sha_state_mix.W1 h0 b0 b1 b2 w0 x0 (fun  H => Q (.exit 0) (mkF 197 [(0, (.pointer h0)), (4, (.pointer (some w0)))]) H) E H)
noncomputable def sha_state_mix.W1.plan : Plan := .seq (.go) (.seq (.go) (.seq (.block (.seq (.go) (.draw ⟨[0, 1, 2, 3, 4, 5, 6, 7, 8, 9, 10, 11, 12, 13, 14, 15, 16, 17, 18, 19, 20, 21, 22, 23, 24, 25, 26, 27, 28, 29, 30, 31, 32, 33, 34, 35], (dl [(0, []), (1, []), (2, []), (3, []), (4, []), (5, []), (6, []), (7, []), (8, []), (9, []), (10, []), (11, []), (12, []), (13, []), (14, []), (15, []), (16, []), (17, []), (18, []), (19, []), (20, []), (21, []), (22, []), (23, []), (24, []), (25, []), (26, []), (27, []), (28, []), (29, []), (30, []), (31, []), (32, []), (33, []), (34, []), (35, [34, 33, 0, 1, 2, 3, 4, 5, 6, 7, 8, 9, 10, 11, 12, 13, 14, 15, 16, 17, 18, 19, 20, 21, 22, 23, 24, 25, 26, 27, 28, 29, 30, 31, 32])] .fin), []⟩))) (.go)))
theorem sha_state_mix.W1.pok : PlanOk Tryz.prog sha_state_mix.W1.plan (sub [1, 0, 1, 0, 0] sha_state_mix.body) := by
  have e : PlanOk Tryz.prog sha_state_mix.W1.plan (sub [1, 0, 1, 0, 0] sha_state_mix.body) = ((True) ∧ ((True) ∧ (((True) ∧ (True)) ∧ (True)))) := by kernel_rfl
  exact e.mpr ⟨trivial, ⟨trivial, ⟨⟨trivial, trivial⟩, trivial⟩⟩⟩
theorem sha_state_mix.W1.eq (h0 : Option Addr) (b0 : Option Addr) (b1 : Nat) (b2 : Nat) (w0 : Addr) (Q : Ex → Fr → Heap → Prop) (E : Value → Heap → Prop) (RR : Fr → Heap → Prop) (s : Int) (H : Heap) :
    (fun (RR : Int → Heap → Prop) (s : Int) (H : Heap) => sha_state_mix.W1.vc h0 b0 b1 b2 w0 s (fun  H => Q (.exit 0) (mkF 197 [(0, (.pointer h0)), (4, (.pointer (some w0)))]) H) (fun x0 H => RR (x0) H) E H) (fun s' H' => RR ((fun (s : Int) => (mkF 197 [(0, (.pointer h0)), (1, (.slice b0 b1 b2)), (4, (.pointer (some w0))), (21, (.int .i64 s))])) s') H') s H = keepT [0, 1, 4, 21] [] (fun i => if i = 0 then [0, 4] else []) (wC Tryz.prog sha_state_mix.Γ sha_state_mix.W1.plan (sub [1, 0, 1, 0, 0] sha_state_mix.body)) (fun e fr' H' => match e with | .normal => RR fr' H' | .exit id => Q (.exit id) fr' H' | .ret => Q .ret fr' H') E ((fun (s : Int) => (mkF 197 [(0, (.pointer h0)), (1, (.slice b0 b1 b2)), (4, (.pointer (some w0))), (21, (.int .i64 s))])) s) H := by
  kernel_rfl
theorem sha_state_mix.W1.ok : SoundCode Tryz.prog (sub [1, 0, 1, 0] sha_state_mix.body) sha_state_mix.W1.t := by
  have e : (sub [1, 0, 1, 0] sha_state_mix.body) = .loop (sub [1, 0, 1, 0, 0] sha_state_mix.body) := by kernel_rfl
  rw [e]
  refine piece_sound (loopN_sound (keepT_sound [0, 1, 4, 21] [] (fun i => if i = 0 then [0, 4] else []) (wC_sound sha_state_mix.hΓ Tryz.hm sha_state_mix.W1.plan _ sha_state_mix.W1.pok))) ?_
  intro Q E fr H h
  unfold sha_state_mix.W1.t at h
  obtain ⟨hl, h⟩ := lenIs_elim h
  obtain ⟨h0, q0, h⟩ := slP_elim h
  obtain ⟨b0, b1, b2, q1, h⟩ := slSl_elim h
  obtain ⟨w0, q4, h⟩ := slPA_elim h
  obtain ⟨x0, q21, h⟩ := slI_elim h
  obtain ⟨m, h⟩ := h.h
  refine ⟨(mkF 197 [(0, (.pointer h0)), (1, (.slice b0 b1 b2)), (4, (.pointer (some w0))), (21, (.int .i64 x0))]), fun a ha => ha.mk (Nat.le_of_eq hl.symm) (List.forall_mem_cons.2 ⟨q0, List.forall_mem_cons.2 ⟨q1, List.forall_mem_cons.2 ⟨q4, List.forall_mem_cons.2 ⟨q21, fun _ h => nomatch h⟩⟩⟩⟩), m, ?_⟩
  have e := loopS_eq (B := (fun (RR : Int → Heap → Prop) (s : Int) (H : Heap) => sha_state_mix.W1.vc h0 b0 b1 b2 w0 s (fun  H => Q (.exit 0) (mkF 197 [(0, (.pointer h0)), (4, (.pointer (some w0)))]) H) (fun x0 H => RR (x0) H) E H)) (A := keepT [0, 1, 4, 21] [] (fun i => if i = 0 then [0, 4] else []) (wC Tryz.prog sha_state_mix.Γ sha_state_mix.W1.plan (sub [1, 0, 1, 0, 0] sha_state_mix.body))) (m := (fun (s : Int) => (mkF 197 [(0, (.pointer h0)), (1, (.slice b0 b1 b2)), (4, (.pointer (some w0))), (21, (.int .i64 s))]))) (Q := Q) (E := E) (fun RR s H => sha_state_mix.W1.eq h0 b0 b1 b2 w0 Q E RR s H) m (x0) H
  exact cast e h
def sha_state_mix.W2.t : CT := fun Q E fr H => lenIs 197 fr (slP fr 0 fun h0 => slPA fr 4 fun w0 => slI fr 6 .i64 fun t0 => sha_state_mix.W2 h0 w0 t0 (fun  H => Q (.exit 2) (mkF 197 [(0, (.pointer h0)), (4, (.pointer (some w0)))]) H) E H)
noncomputable def sha_state_mix.W2.plan : Plan := .seq (.go) (.seq (.block (.seq (.draw ⟨[0, 1, 2, 3, 4, 5, 6, 7, 8], (dl [(0, []), (1, []), (2, []), (3, []), (4, []), (5, []), (6, []), (7, []), (8, [])] .fin), [9]⟩) (.draw ⟨[0, 1, 2, 3, 4, 5, 6, 7, 8, 9, 10, 11, 12, 13, 14, 15, 16, 17, 18, 19, 20, 21, 22, 23, 24, 25, 26, 27, 28, 29], (dl [(0, []), (1, []), (2, []), (3, []), (4, []), (5, []), (6, []), (7, []), (8, []), (9, []), (10, []), (12, []), (15, []), (16, []), (19, []), (21, []), (24, []), (25, []), (11, [10]), (13, [12, 11, 10]), (14, []), (17, []), (18, []), (20, [19, 13, 12, 11, 10]), (22, [21, 20, 19, 13, 12, 11, 10]), (23, []), (26, []), (27, []), (28, []), (29, [28, 27, 22, 0, 1, 2, 3, 4, 5, 6, 7, 8, 9, 10, 11, 12, 13, 14, 15, 16, 17, 18, 19, 20, 21, 23, 24, 25, 26])] .fin), []⟩))) (.go))
theorem sha_state_mix.W2.pok : PlanOk Tryz.prog sha_state_mix.W2.plan (sub [1, 1, 0, 1, 0, 0] sha_state_mix.body) := by
  have e : PlanOk Tryz.prog sha_state_mix.W2.plan (sub [1, 1, 0, 1, 0, 0] sha_state_mix.body) = ((True) ∧ (((True) ∧ (True)) ∧ (True))) := by kernel_rfl
  exact e.mpr ⟨trivial, ⟨⟨trivial, trivial⟩, trivial⟩⟩
theorem sha_state_mix.W2.eq (h0 : Option Addr) (w0 : Addr) (Q : Ex → Fr → Heap → Prop) (E : Value → Heap → Prop) (RR : Fr → Heap → Prop) (s : Int) (H : Heap) :
    (fun (RR : Int → Heap → Prop) (s : Int) (H : Heap) => sha_state_mix.W2.vc h0 w0 s (fun  H => Q (.exit 2) (mkF 197 [(0, (.pointer h0)), (4, (.pointer (some w0)))]) H) (fun t0 H => RR (t0) H) E H) (fun s' H' => RR ((fun (s : Int) => (mkF 197 [(0, (.pointer h0)), (4, (.pointer (some w0))), (6, (.int .i64 s))])) s') H') s H = keepT [0, 4, 6] [] (fun i => if i = 2 then [0, 4] else []) (wC Tryz.prog sha_state_mix.Γ sha_state_mix.W2.plan (sub [1, 1, 0, 1, 0, 0] sha_state_mix.body)) (fun e fr' H' => match e with | .normal => RR fr' H' | .exit id => Q (.exit id) fr' H' | .ret => Q .ret fr' H') E ((fun (s : Int) => (mkF 197 [(0, (.pointer h0)), (4, (.pointer (some w0))), (6, (.int .i64 s))])) s) H := by
  kernel_rfl
theorem sha_state_mix.W2.ok : SoundCode Tryz.prog (sub [1, 1, 0, 1, 0] sha_state_mix.body) sha_state_mix.W2.t := by
  have e : (sub [1, 1, 0, 1, 0] sha_state_mix.body) = .loop (sub [1, 1, 0, 1, 0, 0] sha_state_mix.body) := by kernel_rfl
  rw [e]
  refine piece_sound (loopN_sound (keepT_sound [0, 4, 6] [] (fun i => if i = 2 then [0, 4] else []) (wC_sound sha_state_mix.hΓ Tryz.hm sha_state_mix.W2.plan _ sha_state_mix.W2.pok))) ?_
  intro Q E fr H h
  unfold sha_state_mix.W2.t at h
  obtain ⟨hl, h⟩ := lenIs_elim h
  obtain ⟨h0, q0, h⟩ := slP_elim h
  obtain ⟨w0, q4, h⟩ := slPA_elim h
  obtain ⟨t0, q6, h⟩ := slI_elim h
  obtain ⟨m, h⟩ := h.h
  refine ⟨(mkF 197 [(0, (.pointer h0)), (4, (.pointer (some w0))), (6, (.int .i64 t0))]), fun a ha => ha.mk (Nat.le_of_eq hl.symm) (List.forall_mem_cons.2 ⟨q0, List.forall_mem_cons.2 ⟨q4, List.forall_mem_cons.2 ⟨q6, fun _ h => nomatch h⟩⟩⟩), m, ?_⟩
  have e := loopS_eq (B := (fun (RR : Int → Heap → Prop) (s : Int) (H : Heap) => sha_state_mix.W2.vc h0 w0 s (fun  H => Q (.exit 2) (mkF 197 [(0, (.pointer h0)), (4, (.pointer (some w0)))]) H) (fun t0 H => RR (t0) H) E H)) (A := keepT [0, 4, 6] [] (fun i => if i = 2 then [0, 4] else []) (wC Tryz.prog sha_state_mix.Γ sha_state_mix.W2.plan (sub [1, 1, 0, 1, 0, 0] sha_state_mix.body))) (m := (fun (s : Int) => (mkF 197 [(0, (.pointer h0)), (4, (.pointer (some w0))), (6, (.int .i64 s))]))) (Q := Q) (E := E) (fun RR s H => sha_state_mix.W2.eq h0 w0 Q E RR s H) m (t0) H
  exact cast e h
def sha_state_mix.W3.t : CT := fun Q E fr H => lenIs 197 fr (slP fr 0 fun h0 => slPA fr 4 fun w0 => slPA fr 9 fun v0 => slA1 fr 104 fun x0 => slI fr 105 .i64 fun x1 => sha_state_mix.W3 h0 w0 v0 x0 x1 (fun  H => Q (.exit 4) (mkF 197 [(0, (.pointer h0)), (9, (.pointer (some v0)))]) H) E H)
noncomputable def sha_state_mix.W3.plan : Plan := .seq (.go) (.seq (.go) (.seq (.block (.seq (.go) (.seq (.draw ⟨[0, 1, 2, 3, 4, 5, 6, 7, 8, 9, 10, 11, 12, 13, 14, 15, 16], (dl [(0, []), (1, []), (2, []), (3, []), (4, []), (5, []), (6, []), (7, []), (8, []), (9, []), (10, []), (11, []), (12, []), (13, []), (14, []), (15, []), (16, [])] .fin), [17]⟩) (.seq (.draw ⟨[0, 1, 2, 3, 4, 5, 6, 7, 8, 9, 10, 11, 12, 13, 14, 15, 16, 17, 18, 19, 20, 21, 22, 23, 24, 25], (dl [(0, []), (1, []), (2, []), (4, []), (7, []), (11, []), (12, []), (13, []), (14, []), (15, []), (16, []), (17, []), (18, []), (20, []), (22, []), (23, []), (24, []), (3, [2]), (5, [4, 3, 2]), (6, []), (8, [7, 5, 4, 3, 2]), (9, []), (10, []), (19, []), (21, []), (25, [])] .fin), [26]⟩) (.go))))) (.go)))
theorem sha_state_mix.W3.pok : PlanOk Tryz.prog sha_state_mix.W3.plan (sub [1, 1, 1, 1, 0, 1, 0, 0] sha_state_mix.body) := by
  have e : PlanOk Tryz.prog sha_state_mix.W3.plan (sub [1, 1, 1, 1, 0, 1, 0, 0] sha_state_mix.body) = ((True) ∧ ((True) ∧ (((True) ∧ ((True) ∧ ((True) ∧ (True)))) ∧ (True)))) := by kernel_rfl
  exact e.mpr ⟨trivial, ⟨trivial, ⟨⟨trivial, ⟨trivial, ⟨trivial, trivial⟩⟩⟩, trivial⟩⟩⟩
theorem sha_state_mix.W3.eq (h0 : Option Addr) (w0 : Addr) (v0 : Addr) (x0 : Array Value) (Q : Ex → Fr → Heap → Prop) (E : Value → Heap → Prop) (RR : Fr → Heap → Prop) (s : Int) (H : Heap) :
    (fun (RR : Int → Heap → Prop) (s : Int) (H : Heap) => sha_state_mix.W3.vc h0 w0 v0 x0 s (fun  H => Q (.exit 4) (mkF 197 [(0, (.pointer h0)), (9, (.pointer (some v0)))]) H) (fun x1 H => RR (x1) H) E H) (fun s' H' => RR ((fun (s : Int) => (mkF 197 [(0, (.pointer h0)), (4, (.pointer (some w0))), (9, (.pointer (some v0))), (104, (.agg x0)), (105, (.int .i64 s))])) s') H') s H = keepT [0, 4, 9, 104, 105] [] (fun i => if i = 4 then [0, 9] else []) (wC Tryz.prog sha_state_mix.Γ sha_state_mix.W3.plan (sub [1, 1, 1, 1, 0, 1, 0, 0] sha_state_mix.body)) (fun e fr' H' => match e with | .normal => RR fr' H' | .exit id => Q (.exit id) fr' H' | .ret => Q .ret fr' H') E ((fun (s : Int) => (mkF 197 [(0, (.pointer h0)), (4, (.pointer (some w0))), (9, (.pointer (some v0))), (104, (.agg x0)), (105, (.int .i64 s))])) s) H := by
  kernel_rfl
theorem sha_state_mix.W3.ok : SoundCode Tryz.prog (sub [1, 1, 1, 1, 0, 1, 0] sha_state_mix.body) sha_state_mix.W3.t := by
  have e : (sub [1, 1, 1, 1, 0, 1, 0] sha_state_mix.body) = .loop (sub [1, 1, 1, 1, 0, 1, 0, 0] sha_state_mix.body) := by kernel_rfl
  rw [e]
  refine piece_sound (loopN_sound (keepT_sound [0, 4, 9, 104, 105] [] (fun i => if i = 4 then [0, 9] else []) (wC_sound sha_state_mix.hΓ Tryz.hm sha_state_mix.W3.plan _ sha_state_mix.W3.pok))) ?_
  intro Q E fr H h
  unfold sha_state_mix.W3.t at h
  obtain ⟨hl, h⟩ := lenIs_elim h
  obtain ⟨h0, q0, h⟩ := slP_elim h
  obtain ⟨w0, q4, h⟩ := slPA_elim h
  obtain ⟨v0, q9, h⟩ := slPA_elim h
  obtain ⟨x0, q104, h⟩ := slA1_elim h
  obtain ⟨x1, q105, h⟩ := slI_elim h
  obtain ⟨m, h⟩ := h.h
  refine ⟨(mkF 197 [(0, (.pointer h0)), (4, (.pointer (some w0))), (9, (.pointer (some v0))), (104, (.agg x0)), (105, (.int .i64 x1))]), fun a ha => ha.mk (Nat.le_of_eq hl.symm) (List.forall_mem_cons.2 ⟨q0, List.forall_mem_cons.2 ⟨q4, List.forall_mem_cons.2 ⟨q9, List.forall_mem_cons.2 ⟨q104, List.forall_mem_cons.2 ⟨q105, fun _ h => nomatch h⟩⟩⟩⟩⟩), m, ?_⟩
  have e := loopS_eq (B := (fun (RR : Int → Heap → Prop) (s : Int) (H : Heap) => sha_state_mix.W3.vc h0 w0 v0 x0 s (fun  H => Q (.exit 4) (mkF 197 [(0, (.pointer h0)), (9, (.pointer (some v0)))]) H) (fun x1 H => RR (x1) H) E H)) (A := keepT [0, 4, 9, 104, 105] [] (fun i => if i = 4 then [0, 9] else []) (wC Tryz.prog sha_state_mix.Γ sha_state_mix.W3.plan (sub [1, 1, 1, 1, 0, 1, 0, 0] sha_state_mix.body))) (m := (fun (s : Int) => (mkF 197 [(0, (.pointer h0)), (4, (.pointer (some w0))), (9, (.pointer (some v0))), (104, (.agg x0)), (105, (.int .i64 s))]))) (Q := Q) (E := E) (fun RR s H => sha_state_mix.W3.eq h0 w0 v0 x0 Q E RR s H) m (x1) H
  exact cast e h
def sha_state_mix.W4.t : CT := fun Q E fr H => lenIs 197 fr (slP fr 0 fun h0 => slPA fr 9 fun v0 => slI fr 182 .i64 fun x0 => sha_state_mix.W4 h0 v0 x0 (fun  H => Q (.exit 6) (mkF 197 []) H) E H)
noncomputable def sha_state_mix.W4.plan : Plan := .seq (.go) (.seq (.go) (.seq (.block (.seq (.go) (.draw ⟨[0, 1, 2, 3, 4, 5, 6, 7, 8, 9, 10, 11], (dl [(0, []), (1, []), (2, []), (3, []), (4, []), (5, []), (6, []), (7, []), (8, []), (9, []), (10, []), (11, [10, 8, 0, 1, 2, 3, 4, 5, 6, 7, 9])] .fin), []⟩))) (.go)))
theorem sha_state_mix.W4.pok : PlanOk Tryz.prog sha_state_mix.W4.plan (sub [1, 1, 1, 1, 1, 1, 0, 0] sha_state_mix.body) := by
  have e : PlanOk Tryz.prog sha_state_mix.W4.plan (sub [1, 1, 1, 1, 1, 1, 0, 0] sha_state_mix.body) = ((True) ∧ ((True) ∧ (((True) ∧ (True)) ∧ (True)))) := by kernel_rfl
  exact e.mpr ⟨trivial, ⟨trivial, ⟨⟨trivial, trivial⟩, trivial⟩⟩⟩
theorem sha_state_mix.W4.eq (h0 : Option Addr) (v0 : Addr) (Q : Ex → Fr → Heap → Prop) (E : Value → Heap → Prop) (RR : Fr → Heap → Prop) (s : Int) (H : Heap) :
    (fun (RR : Int → Heap → Prop) (s : Int) (H : Heap) => sha_state_mix.W4.vc h0 v0 s (fun  H => Q (.exit 6) (mkF 197 []) H) (fun x0 H => RR (x0) H) E H) (fun s' H' => RR ((fun (s : Int) => (mkF 197 [(0, (.pointer h0)), (9, (.pointer (some v0))), (182, (.int .i64 s))])) s') H') s H = keepT [0, 9, 182] [] (fun i => if i = 6 then [] else []) (wC Tryz.prog sha_state_mix.Γ sha_state_mix.W4.plan (sub [1, 1, 1, 1, 1, 1, 0, 0] sha_state_mix.body)) (fun e fr' H' => match e with | .normal => RR fr' H' | .exit id => Q (.exit id) fr' H' | .ret => Q .ret fr' H') E ((fun (s : Int) => (mkF 197 [(0, (.pointer h0)), (9, (.pointer (some v0))), (182, (.int .i64 s))])) s) H := by
  kernel_rfl
theorem sha_state_mix.W4.ok : SoundCode Tryz.prog (sub [1, 1, 1, 1, 1, 1, 0] sha_state_mix.body) sha_state_mix.W4.t := by
  have e : (sub [1, 1, 1, 1, 1, 1, 0] sha_state_mix.body) = .loop (sub [1, 1, 1, 1, 1, 1, 0, 0] sha_state_mix.body) := by kernel_rfl
  rw [e]
  refine piece_sound (loopN_sound (keepT_sound [0, 9, 182] [] (fun i => if i = 6 then [] else []) (wC_sound sha_state_mix.hΓ Tryz.hm sha_state_mix.W4.plan _ sha_state_mix.W4.pok))) ?_
  intro Q E fr H h
  unfold sha_state_mix.W4.t at h
  obtain ⟨hl, h⟩ := lenIs_elim h
  obtain ⟨h0, q0, h⟩ := slP_elim h
  obtain ⟨v0, q9, h⟩ := slPA_elim h
  obtain ⟨x0, q182, h⟩ := slI_elim h
  obtain ⟨m, h⟩ := h.h
  refine ⟨(mkF 197 [(0, (.pointer h0)), (9, (.pointer (some v0))), (182, (.int .i64 x0))]), fun a ha => ha.mk (Nat.le_of_eq hl.symm) (List.forall_mem_cons.2 ⟨q0, List.forall_mem_cons.2 ⟨q9, List.forall_mem_cons.2 ⟨q182, fun _ h => nomatch h⟩⟩⟩), m, ?_⟩
  have e := loopS_eq (B := (fun (RR : Int → Heap → Prop) (s : Int) (H : Heap) => sha_state_mix.W4.vc h0 v0 s (fun  H => Q (.exit 6) (mkF 197 []) H) (fun x0 H => RR (x0) H) E H)) (A := keepT [0, 9, 182] [] (fun i => if i = 6 then [] else []) (wC Tryz.prog sha_state_mix.Γ sha_state_mix.W4.plan (sub [1, 1, 1, 1, 1, 1, 0, 0] sha_state_mix.body))) (m := (fun (s : Int) => (mkF 197 [(0, (.pointer h0)), (9, (.pointer (some v0))), (182, (.int .i64 s))]))) (Q := Q) (E := E) (fun RR s H => sha_state_mix.W4.eq h0 v0 Q E RR s H) m (x0) H
  exact cast e h
noncomputable def sha_state_mix.plan : Plan := .seq (.go) (.seq (.seq (.go) (.block (.use sha_state_mix.W1.t))) (.seq (.seq (.go) (.block (.use sha_state_mix.W2.t))) (.seq (.go) (.seq (.seq (.go) (.block (.use sha_state_mix.W3.t))) (.seq (.go) (.block (.use sha_state_mix.W4.t)))))))
theorem sha_state_mix.pok : PlanOk Tryz.prog sha_state_mix.plan sha_state_mix.body := by
  have e : PlanOk Tryz.prog sha_state_mix.plan sha_state_mix.body = ((True) ∧ (((True) ∧ (SoundCode Tryz.prog (sub [1, 0, 1, 0] sha_state_mix.body) sha_state_mix.W1.t)) ∧ (((True) ∧ (SoundCode Tryz.prog (sub [1, 1, 0, 1, 0] sha_state_mix.body) sha_state_mix.W2.t)) ∧ ((True) ∧ (((True) ∧ (SoundCode Tryz.prog (sub [1, 1, 1, 1, 0, 1, 0] sha_state_mix.body) sha_state_mix.W3.t)) ∧ ((True) ∧ (SoundCode Tryz.prog (sub [1, 1, 1, 1, 1, 1, 0] sha_state_mix.body) sha_state_mix.W4.t))))))) := by kernel_rfl
  exact e.mpr ⟨trivial, ⟨⟨trivial, sha_state_mix.W1.ok⟩, ⟨⟨trivial, sha_state_mix.W2.ok⟩, ⟨trivial, ⟨⟨trivial, sha_state_mix.W3.ok⟩, ⟨trivial, sha_state_mix.W4.ok⟩⟩⟩⟩⟩⟩
theorem sha_state_mix.eq (h0 : Option Addr) (b0 : Option Addr) (b1 : Nat) (b2 : Nat) (K : Value → Heap → Prop) (E : Value → Heap → Prop) (H : Heap) :
    fnT Tryz.prog Tryz.f199 (wC Tryz.prog sha_state_mix.Γ sha_state_mix.plan sha_state_mix.body) [(.pointer h0), (.slice b0 b1 b2)] K E H = sha_state_mix.vc h0 b0 b1 b2 (fun  H => K (.tuple #[]) H) E H := by
  kernel_rfl
theorem sha_state_mix.Fe {args : List Value} {K E : Value → Heap → Prop} {H : Heap} (h : sha_state_mix.F args K E H) : ∃ h0 b0 b1 b2, args = [(.pointer h0), (.slice b0 b1 b2)] ∧ sha_state_mix.c h0 b0 b1 b2 (fun  H => K (.tuple #[]) H) E H := by
  unfold sha_state_mix.F at h
  split at h
  · exact ⟨_, _, _, _, rfl, h⟩
  · exact h.elim
theorem sha_state_mix.ok : CalleeOk Tryz.prog 199 sha_state_mix.F :=
  callee_ok sha_state_mix.hΓ (fn := Tryz.f199) (c := sha_state_mix.body) (T := wC Tryz.prog sha_state_mix.Γ sha_state_mix.plan sha_state_mix.body) (by kernel_rfl) (by kernel_rfl) (by kernel_rfl) (wC_sound sha_state_mix.hΓ Tryz.hm sha_state_mix.plan _ sha_state_mix.pok) fun _ K E H h => by
    obtain ⟨z0, z1, z2, z3, e, h⟩ := sha_state_mix.Fe h
    subst e
    have h2 : sha_state_mix.vc z0 z1 z2 z3 (fun  H => ∃ H', Heap.Le H' H ∧ K (.tuple #[]) H') E H := h.h
    rw [sha_state_mix.eq z0 z1 z2 z3 (Fg K) E H]
    exact h2

/-! (*vizard/sha.Hash).Write -/
noncomputable def sha_Hash_Write.body : Code := Tryz.f160.body.getD .skip
def sha_Hash_Write.W2.vc (h0 : Option Addr) (Kx0 : Heap → Prop) (RR : Heap → Prop) (E : Value → Heap → Prop) (h1 : Heap) : Prop :=
  nilc h0 fun a0 =>
  ldSl h1 (a0.add 8) fun x0 x1 x2 =>
  (if (decide ((x1 : Int) ≥ 64)) = true then
  nilc h0 fun a1 =>
  nilc h0 fun a2 =>
  ldSl h1 (a2.add 8) fun x3 x4 x5 =>
  (0 : Int) ≤ 64 ∧ 64 ≤ (x5 : Int) ∧
  sha_state_mix.c (some (a1.add 0)) (slA x3 x5 0 1) 64 x5 (fun h2 =>
  nilc h0 fun a3 =>
  ldSl h2 (a3.add 8) fun x6 x7 x8 =>
  (0 : Int) ≤ 64 ∧ 64 ≤ (x7 : Int) ∧ x7 ≤ x8 ∧
  nilc h0 fun a4 =>
  stc h2 (a4.add 8) (.slice (slA x6 x8 64 1) (x7 - 64) (x8 - 64)) fun h3 =>
  RR h3) E h1
  else
  Kx0 h1)
structure sha_Hash_Write.W2 (h0 : Option Addr) (Kx0 : Heap → Prop) (E : Value → Heap → Prop) (H : Heap) : Prop where
  h : Loop (fun (RR : Unit → Heap → Prop) (s : Unit) (H : Heap) => sha_Hash_Write.W2.vc h0 Kx0 (fun  H => RR () H) E H) () H
def sha_Hash_Write.J1.vc (h0 : Option Addr) (Kn : Heap → Prop) (E : Value → Heap → Prop) (h1 : Heap) : Prop :=
  sha_Hash_Write.W2 h0 (fun h2 =>
  nilc h0 fun a0 =>
  ldSl h2 (a0.add 8) fun x0 x1 x2 =>
  (if ((x1 : Int) == 0) = true then
  nilc h0 fun a1 =>
  stc h2 (a1.add 8) (.slice none 0 0) fun h3 =>
  Kn h3
  else
  Kn h2)) E h1
structure sha_Hash_Write.J1 (h0 : Option Addr) (Kn : Heap → Prop) (E : Value → Heap → Prop) (H : Heap) : Prop where
  h : sha_Hash_Write.J1.vc h0 Kn E H
def sha_Hash_Write.vc (h0 : Option Addr) (s0 : ByteArray) (K : Heap → Prop) (E : Value → Heap → Prop) (h1 : Heap) : Prop :=
  nilc h0 fun a0 =>
  ldI h1 .u64 (a0.add 9) fun x0 =>
  nilc h0 fun a1 =>
  stc h1 (a1.add 9) (.int .u64 (IntKind.u64.wrap (x0 + (IntKind.u64.wrap (s0.size : Int))))) fun h2 =>
  nilc h0 fun a2 =>
  ldSl h2 (a2.add 8) fun x1 x2 x3 =>
  appT 5 (.int .u8 0) x1 x2 s0.size x3 1 1 (byteVals s0) (fun p0 n0 c0 h3 =>
  nilc h0 fun a3 =>
  stc h3 (a3.add 8) (.slice p0 n0 c0) fun h4 =>
  sha_Hash_Write.J1 h0 K E h4) h2
structure sha_Hash_Write.c (h0 : Option Addr) (s0 : ByteArray) (K : Heap → Prop) (E : Value → Heap → Prop) (H : Heap) : Prop where
  h : sha_Hash_Write.vc h0 s0 (fun  H => ∃ H', Heap.Le H' H ∧ K  H') E H
def sha_Hash_Write.F : FT := fun args K E H => match args with
  | [(.pointer h0), (.string s0)] => sha_Hash_Write.c h0 s0 (fun  H => K (.tuple #[]) H) E H
  | _ => False
noncomputable def sha_Hash_Write.Γ : FuncId → Option FT := Γof [(199, sha_state_mix.F)]
theorem sha_Hash_Write.hΓ : ∀ f F, sha_Hash_Write.Γ f = some F → CalleeOk Tryz.prog f F := Γof_ok (List.forall_mem_cons.2 ⟨sha_state_mix.ok, fun _ h => nomatch h⟩)
def sha_Hash_Write.W2.t : CT := fun Q E fr H => lenIs 55 fr (slP fr 0 fun h0 => sha_Hash_Write.W2 h0 (fun  H => Q (.exit 0) (mkF 55 [(0, (.pointer h0))]) H) E H)
noncomputable def sha_Hash_Write.W2.plan : Plan := .seq (.go) (.block (.seq (.draw ⟨[0, 1, 2, 3, 4, 5, 6, 7, 8], (dl [(0, []), (1, []), (2, []), (3, []), (4, []), (5, []), (6, []), (7, []), (8, [2, 7, 1, 6, 0, 5, 4, 3])] .fin), []⟩) (.go)))
theorem sha_Hash_Write.W2.pok : PlanOk Tryz.prog sha_Hash_Write.W2.plan (sub [1, 1, 0, 0, 0] sha_Hash_Write.body) := by
  have e : PlanOk Tryz.prog sha_Hash_Write.W2.plan (sub [1, 1, 0, 0, 0] sha_Hash_Write.body) = ((True) ∧ ((True) ∧ (True))) := by kernel_rfl
  exact e.mpr ⟨trivial, ⟨trivial, trivial⟩⟩
theorem sha_Hash_Write.W2.eq (h0 : Option Addr) (Q : Ex → Fr → Heap → Prop) (E : Value → Heap → Prop) (RR : Fr → Heap → Prop) (s : Unit) (H : Heap) :
    (fun (RR : Unit → Heap → Prop) (s : Unit) (H : Heap) => sha_Hash_Write.W2.vc h0 (fun  H => Q (.exit 0) (mkF 55 [(0, (.pointer h0))]) H) (fun  H => RR () H) E H) (fun s' H' => RR ((fun (s : Unit) => (mkF 55 [(0, (.pointer h0))])) s') H') s H = keepT [0] [] (fun i => if i = 0 then [0] else []) (wC Tryz.prog sha_Hash_Write.Γ sha_Hash_Write.W2.plan (sub [1, 1, 0, 0, 0] sha_Hash_Write.body)) (fun e fr' H' => match e with | .normal => RR fr' H' | .exit id => Q (.exit id) fr' H' | .ret => Q .ret fr' H') E ((fun (s : Unit) => (mkF 55 [(0, (.pointer h0))])) s) H := by
  kernel_rfl
theorem sha_Hash_Write.W2.ok : SoundCode Tryz.prog (sub [1, 1, 0, 0] sha_Hash_Write.body) sha_Hash_Write.W2.t := by
  have e : (sub [1, 1, 0, 0] sha_Hash_Write.body) = .loop (sub [1, 1, 0, 0, 0] sha_Hash_Write.body) := by kernel_rfl
  rw [e]
  refine piece_sound (loopN_sound (keepT_sound [0] [] (fun i => if i = 0 then [0] else []) (wC_sound sha_Hash_Write.hΓ Tryz.hm sha_Hash_Write.W2.plan _ sha_Hash_Write.W2.pok))) ?_
  intro Q E fr H h
  unfold sha_Hash_Write.W2.t at h
  obtain ⟨hl, h⟩ := lenIs_elim h
  obtain ⟨h0, q0, h⟩ := slP_elim h
  obtain ⟨m, h⟩ := h.h
  refine ⟨(mkF 55 [(0, (.pointer h0))]), fun a ha => ha.mk (Nat.le_of_eq hl.symm) (List.forall_mem_cons.2 ⟨q0, fun _ h => nomatch h⟩), m, ?_⟩
  have e := loopS_eq (B := (fun (RR : Unit → Heap → Prop) (s : Unit) (H : Heap) => sha_Hash_Write.W2.vc h0 (fun  H => Q (.exit 0) (mkF 55 [(0, (.pointer h0))]) H) (fun  H => RR () H) E H)) (A := keepT [0] [] (fun i => if i = 0 then [0] else []) (wC Tryz.prog sha_Hash_Write.Γ sha_Hash_Write.W2.plan (sub [1, 1, 0, 0, 0] sha_Hash_Write.body))) (m := (fun (s : Unit) => (mkF 55 [(0, (.pointer h0))]))) (Q := Q) (E := E) (fun RR s H => sha_Hash_Write.W2.eq h0 Q E RR s H) m () H
  exact cast e h
def sha_Hash_Write.J1.t : CT := fun Q E fr H => lenIs 55 fr (slP fr 0 fun h0 => sha_Hash_Write.J1 h0 (fun  H => Q .normal (mkF 55 []) H) E H)
noncomputable def sha_Hash_Write.J1.plan : Plan := .seq (.block (.use sha_Hash_Write.W2.t)) (.go)
theorem sha_Hash_Write.J1.pok : PlanOk Tryz.prog sha_Hash_Write.J1.plan (sub [1, 1] sha_Hash_Write.body) := by
  have e : PlanOk Tryz.prog sha_Hash_Write.J1.plan (sub [1, 1] sha_Hash_Write.body) = ((SoundCode Tryz.prog (sub [1, 1, 0, 0] sha_Hash_Write.body) sha_Hash_Write.W2.t) ∧ (True)) := by kernel_rfl
  exact e.mpr ⟨sha_Hash_Write.W2.ok, trivial⟩
theorem sha_Hash_Write.J1.eq (h0 : Option Addr) (Q : Ex → Fr → Heap → Prop) (E : Value → Heap → Prop) (H : Heap) :
    sha_Hash_Write.J1.vc h0 (fun  H => Q .normal (mkF 55 []) H) E H = keepT [] [] (fun i => []) (wC Tryz.prog sha_Hash_Write.Γ sha_Hash_Write.J1.plan (sub [1, 1] sha_Hash_Write.body)) Q E (mkF 55 [(0, (.pointer h0))]) H := by
  kernel_rfl
theorem sha_Hash_Write.J1.ok : SoundCode Tryz.prog (sub [1, 1] sha_Hash_Write.body) sha_Hash_Write.J1.t := by
  refine piece_sound (keepT_sound [] [] (fun i => []) (wC_sound sha_Hash_Write.hΓ Tryz.hm sha_Hash_Write.J1.plan _ sha_Hash_Write.J1.pok)) ?_
  intro Q E fr H h
  unfold sha_Hash_Write.J1.t at h
  obtain ⟨hl, h⟩ := lenIs_elim h
  obtain ⟨h0, q0, h⟩ := slP_elim h
  refine ⟨(mkF 55 [(0, (.pointer h0))]), fun a ha => ha.mk (Nat.le_of_eq hl.symm) (List.forall_mem_cons.2 ⟨q0, fun _ h => nomatch h⟩), ?_⟩
  have e := sha_Hash_Write.J1.eq h0 Q E H
  rw [← e]
  exact h.h
noncomputable def sha_Hash_Write.plan : Plan := .seq (.go) (.seq (.go) (.use sha_Hash_Write.J1.t))
theorem sha_Hash_Write.pok : PlanOk Tryz.prog sha_Hash_Write.plan sha_Hash_Write.body := by
  have e : PlanOk Tryz.prog sha_Hash_Write.plan sha_Hash_Write.body = ((True) ∧ ((True) ∧ (SoundCode Tryz.prog (sub [1, 1] sha_Hash_Write.body) sha_Hash_Write.J1.t))) := by kernel_rfl
  exact e.mpr ⟨trivial, ⟨trivial, sha_Hash_Write.J1.ok⟩⟩
theorem sha_Hash_Write.eq (h0 : Option Addr) (s0 : ByteArray) (K : Value → Heap → Prop) (E : Value → Heap → Prop) (H : Heap) :
    fnT Tryz.prog Tryz.f160 (wC Tryz.prog sha_Hash_Write.Γ sha_Hash_Write.plan sha_Hash_Write.body) [(.pointer h0), (.string s0)] K E H = sha_Hash_Write.vc h0 s0 (fun  H => K (.tuple #[]) H) E H := by
  kernel_rfl
theorem sha_Hash_Write.Fe {args : List Value} {K E : Value → Heap → Prop} {H : Heap} (h : sha_Hash_Write.F args K E H) : ∃ h0 s0, args = [(.pointer h0), (.string s0)] ∧ sha_Hash_Write.c h0 s0 (fun  H => K (.tuple #[]) H) E H := by
  unfold sha_Hash_Write.F at h
  split at h
  · exact ⟨_, _, rfl, h⟩
  · exact h.elim
theorem sha_Hash_Write.ok : CalleeOk Tryz.prog 160 sha_Hash_Write.F :=
  callee_ok sha_Hash_Write.hΓ (fn := Tryz.f160) (c := sha_Hash_Write.body) (T := wC Tryz.prog sha_Hash_Write.Γ sha_Hash_Write.plan sha_Hash_Write.body) (by kernel_rfl) (by kernel_rfl) (by kernel_rfl) (wC_sound sha_Hash_Write.hΓ Tryz.hm sha_Hash_Write.plan _ sha_Hash_Write.pok) fun _ K E H h => by
    obtain ⟨z0, z1, e, h⟩ := sha_Hash_Write.Fe h
    subst e
    have h2 : sha_Hash_Write.vc z0 z1 (fun  H => ∃ H', Heap.Le H' H ∧ K (.tuple #[]) H') E H := h.h
    rw [sha_Hash_Write.eq z0 z1 (Fg K) E H]
    exact h2

/-! (*vizard/sha.Hash).Sum -/
noncomputable def sha_Hash_Sum.body : Code := Tryz.f161.body.getD .skip
def sha_Hash_Sum.W3.vc (h0 : Option Addr) (x0 : Addr) (b0 : Option Addr) (b1 : Nat) (b2 : Nat) (Kx0 : Option Addr → Nat → Nat → Heap → Prop) (RR : Option Addr → Nat → Nat → Heap → Prop) (E : Value → Heap → Prop) (h1 : Heap) : Prop :=
  64 ≠ (0 : Int) ∧
  (if ((Int.tmod (b1 : Int) 64) != 56) = true then
  newB (.cells #[(.int .u8 0)] 5) (fun b3 h2 =>
  rdRow h2 (some (⟨b3, 0, none⟩ : Addr)) (1 * 1) fun cs0 =>
  appT 5 (.int .u8 0) b0 b1 1 b2 1 1 cs0 (fun p0 n0 c0 h3 =>
  RR p0 n0 c0 h3) h2) h1
  else
  Kx0 b0 b1 b2 h1)
structure sha_Hash_Sum.W3 (h0 : Option Addr) (x0 : Addr) (b0 : Option Addr) (b1 : Nat) (b2 : Nat) (Kx0 : Option Addr → Nat → Nat → Heap → Prop) (E : Value → Heap → Prop) (H : Heap) : Prop where
  h : Loop (fun (RR : Option Addr × Nat × Nat → Heap → Prop) (s : Option Addr × Nat × Nat) (H : Heap) => sha_Hash_Sum.W3.vc h0 x0 s.1 s.2.1 s.2.2 Kx0 (fun b0 b1 b2 H => RR (b0, b1, b2) H) E H) (b0, b1, b2) H
def sha_Hash_Sum.J5.vc (h0 : Option Addr) (x0 : Addr) (b0 : Option Addr) (b1 : Nat) (b2 : Nat) (x1 : Int) (Kn : Int → Heap → Prop) (E : Value → Heap → Prop) (h1 : Heap) : Prop :=
  Kn (IntKind.i64.wrap (x1 + 1)) h1
structure sha_Hash_Sum.J5 (h0 : Option Addr) (x0 : Addr) (b0 : Option Addr) (b1 : Nat) (b2 : Nat) (x1 : Int) (Kn : Int → Heap → Prop) (E : Value → Heap → Prop) (H : Heap) : Prop where
  h : sha_Hash_Sum.J5.vc h0 x0 b0 b1 b2 x1 Kn E H
def sha_Hash_Sum.W4.vc (h0 : Option Addr) (x0 : Addr) (b0 : Option Addr) (b1 : Nat) (b2 : Nat) (x1 : Int) (Kx2 : Option Addr → Nat → Nat → Heap → Prop) (RR : Option Addr → Nat → Nat → Int → Heap → Prop) (E : Value → Heap → Prop) (h1 : Heap) : Prop :=
  (if (decide (x1 < 8)) = true then
  nilc h0 fun a0 =>
  ldI h1 .u64 (a0.add 9) fun x2 =>
  (0 : Int) ≤ (IntKind.i64.wrap (56 - (IntKind.i64.wrap (8 * x1)))) ∧
  newB (.cells #[(.int .u8 (IntKind.u8.wrap (shrI .u64 (IntKind.u64.wrap (8 * x2)) (IntKind.i64.wrap (56 - (IntKind.i64.wrap (8 * x1)))))))] 5) (fun b3 h2 =>
  rdRow h2 (some (⟨b3, 0, none⟩ : Addr)) (1 * 1) fun cs0 =>
  appT 5 (.int .u8 0) b0 b1 1 b2 1 1 cs0 (fun p0 n0 c0 h3 =>
  sha_Hash_Sum.J5 h0 x0 p0 n0 c0 x1 (fun x3 h4 =>
  RR p0 n0 c0 x3 h4) E h3) h2) h1
  else
  Kx2 b0 b1 b2 h1)
structure sha_Hash_Sum.W4 (h0 : Option Addr) (x0 : Addr) (b0 : Option Addr) (b1 : Nat) (b2 : Nat) (x1 : Int) (Kx2 : Option Addr → Nat → Nat → Heap → Prop) (E : Value → Heap → Prop) (H : Heap) : Prop where
  h : Loop (fun (RR : Option Addr × Nat × Nat × Int → Heap → Prop) (s : Option Addr × Nat × Nat × Int) (H : Heap) => sha_Hash_Sum.W4.vc h0 x0 s.1 s.2.1 s.2.2.1 s.2.2.2 Kx2 (fun b0 b1 b2 x1 H => RR (b0, b1, b2, x1) H) E H) (b0, b1, b2, x1) H
def sha_Hash_Sum.W6.vc (x0 : Addr) (b0 : Option Addr) (b1 : Nat) (b2 : Nat) (Kx4 : Heap → Prop) (RR : Option Addr → Nat → Nat → Heap → Prop) (E : Value → Heap → Prop) (h0 : Heap) : Prop :=
  (if (decide ((b1 : Int) > 0)) = true then
  (0 : Int) ≤ 64 ∧ 64 ≤ (b2 : Int) ∧
  sha_state_mix.c (some x0) (slA b0 b2 0 1) 64 b2 (fun h1 =>
  (0 : Int) ≤ 64 ∧ 64 ≤ (b1 : Int) ∧ b1 ≤ b2 ∧
  RR (slA b0 b2 64 1) (b1 - 64) (b2 - 64) h1) E h0
  else
  Kx4 h0)
structure sha_Hash_Sum.W6 (x0 : Addr) (b0 : Option Addr) (b1 : Nat) (b2 : Nat) (Kx4 : Heap → Prop) (E : Value → Heap → Prop) (H : Heap) : Prop where
  h : Loop (fun (RR : Option Addr × Nat × Nat → Heap → Prop) (s : Option Addr × Nat × Nat) (H : Heap) => sha_Hash_Sum.W6.vc x0 s.1 s.2.1 s.2.2 Kx4 (fun b0 b1 b2 H => RR (b0, b1, b2) H) E H) (b0, b1, b2) H
def sha_Hash_Sum.J8.vc (out0 : Option Addr) (out1 : Nat) (out2 : Nat) (x0 : Int) (x1 : Int) (x2 : Int) (x3 : Int) (x4 : Int) (x5 : Int) (x6 : Int) (x7 : Int) (x8 : Int) (Kn : Int → Heap → Prop) (E : Value → Heap → Prop) (h0 : Heap) : Prop :=
  Kn (IntKind.i64.wrap (x8 + 1)) h0
structure sha_Hash_Sum.J8 (out0 : Option Addr) (out1 : Nat) (out2 : Nat) (x0 : Int) (x1 : Int) (x2 : Int) (x3 : Int) (x4 : Int) (x5 : Int) (x6 : Int) (x7 : Int) (x8 : Int) (Kn : Int → Heap → Prop) (E : Value → Heap → Prop) (H : Heap) : Prop where
  h : sha_Hash_Sum.J8.vc out0 out1 out2 x0 x1 x2 x3 x4 x5 x6 x7 x8 Kn E H
def sha_Hash_Sum.W7.vc (out0 : Option Addr) (out1 : Nat) (out2 : Nat) (x0 : Int) (x1 : Int) (x2 : Int) (x3 : Int) (x4 : Int) (x5 : Int) (x6 : Int) (x7 : Int) (x8 : Int) (Kx6 : Option Addr → Nat → Nat → Heap → Prop) (RR : Option Addr → Nat → Nat → Int → Heap → Prop) (E : Value → Heap → Prop) (h0 : Heap) : Prop :=
  (if (decide (x8 < 8)) = true then
  (0 : Int) ≤ x8 ∧ x8 < ((8 : Nat) : Int) ∧ ∃ v0, (#[(.int .u32 x0), (.int .u32 x1), (.int .u32 x2), (.int .u32 x3), (.int .u32 x4), (.int .u32 x5), (.int .u32 x6), (.int .u32 x7)] : Array Value)[x8.toNat]? = some v0 ∧ ∃ x9, v0 = (.int .u32 x9) ∧
  (0 : Int) ≤ 24 ∧
  (0 : Int) ≤ 16 ∧
  (0 : Int) ≤ 8 ∧
  newB (.cells #[(.int .u8 (IntKind.u8.wrap (shrI .u32 x9 24))), (.int .u8 (IntKind.u8.wrap (shrI .u32 x9 16))), (.int .u8 (IntKind.u8.wrap (shrI .u32 x9 8))), (.int .u8 (IntKind.u8.wrap x9))] 5) (fun b0 h1 =>
  rdRow h1 (some (⟨b0, 0, none⟩ : Addr)) (4 * 1) fun cs0 =>
  appT 5 (.int .u8 0) out0 out1 4 out2 1 1 cs0 (fun p0 n0 c0 h2 =>
  sha_Hash_Sum.J8 p0 n0 c0 x0 x1 x2 x3 x4 x5 x6 x7 x8 (fun x10 h3 =>
  RR p0 n0 c0 x10 h3) E h2) h1) h0
  else
  Kx6 out0 out1 out2 h0)
structure sha_Hash_Sum.W7 (out0 : Option Addr) (out1 : Nat) (out2 : Nat) (x0 : Int) (x1 : Int) (x2 : Int) (x3 : Int) (x4 : Int) (x5 : Int) (x6 : Int) (x7 : Int) (x8 : Int) (Kx6 : Option Addr → Nat → Nat → Heap → Prop) (E : Value → Heap → Prop) (H : Heap) : Prop where
  h : Loop (fun (RR : Option Addr × Nat × Nat × Int → Heap → Prop) (s : Option Addr × Nat × Nat × Int) (H : Heap) => sha_Hash_Sum.W7.vc s.1 s.2.1 s.2.2.1 x0 x1 x2 x3 x4 x5 x6 x7 s.2.2.2 Kx6 (fun out0 out1 out2 x8 H => RR (out0, out1, out2, x8) H) E H) (out0, out1, out2, x8) H
def sha_Hash_Sum.J2.vc (h0 : Option Addr) (x0 : Addr) (b0 : Option Addr) (b1 : Nat) (b2 : Nat) (Kr : ByteArray → Heap → Prop) (E : Value → Heap → Prop) (h1 : Heap) : Prop :=
  sha_Hash_Sum.W3 h0 x0 b0 b1 b2 (fun b3 b4 b5 h2 =>
  sha_Hash_Sum.W4 h0 x0 b3 b4 b5 0 (fun b6 b7 b8 h3 =>
  sha_Hash_Sum.W6 x0 b6 b7 b8 (fun h4 =>
  ldI h4 .u32 (x0.add 0) fun x1 => ldI h4 .u32 (x0.add 1) fun x2 => ldI h4 .u32 (x0.add 2) fun x3 => ldI h4 .u32 (x0.add 3) fun x4 => ldI h4 .u32 (x0.add 4) fun x5 => ldI h4 .u32 (x0.add 5) fun x6 => ldI h4 .u32 (x0.add 6) fun x7 => ldI h4 .u32 (x0.add 7) fun x8 =>
  sha_Hash_Sum.W7 none 0 0 x1 x2 x3 x4 x5 x6 x7 x8 0 (fun out0 out1 out2 h5 =>
  rdBytes h5 out0 out1 fun x9 =>
  Kr x9 h5) E h4) E h3) E h2) E h1
structure sha_Hash_Sum.J2 (h0 : Option Addr) (x0 : Addr) (b0 : Option Addr) (b1 : Nat) (b2 : Nat) (Kr : ByteArray → Heap → Prop) (E : Value → Heap → Prop) (H : Heap) : Prop where
  h : sha_Hash_Sum.J2.vc h0 x0 b0 b1 b2 Kr E H
def sha_Hash_Sum.J1.vc (h0 : Option Addr) (x0 : Addr) (b0 : Option Addr) (b1 : Nat) (b2 : Nat) (Kr : ByteArray → Heap → Prop) (E : Value → Heap → Prop) (h1 : Heap) : Prop :=
  newB (.cells #[(.int .u8 128)] 5) (fun b3 h2 =>
  rdRow h2 (some (⟨b3, 0, none⟩ : Addr)) (1 * 1) fun cs0 =>
  appT 5 (.int .u8 0) b0 b1 1 b2 1 1 cs0 (fun p0 n0 c0 h3 =>
  sha_Hash_Sum.J2 h0 x0 p0 n0 c0 Kr E h3) h2) h1
structure sha_Hash_Sum.J1 (h0 : Option Addr) (x0 : Addr) (b0 : Option Addr) (b1 : Nat) (b2 : Nat) (Kr : ByteArray → Heap → Prop) (E : Value → Heap → Prop) (H : Heap) : Prop where
  h : sha_Hash_Sum.J1.vc h0 x0 b0 b1 b2 Kr E H
def sha_Hash_Sum.vc (h0 : Option Addr) (K : ByteArray → Heap → Prop) (E : Value → Heap → Prop) (h1 : Heap) : Prop :=
  nilc h0 fun a0 =>
  ldI h1 .u32 ((a0.add 0).add 0) fun x0 => ldI h1 .u32 ((a0.add 0).add 1) fun x1 => ldI h1 .u32 ((a0.add 0).add 2) fun x2 => ldI h1 .u32 ((a0.add 0).add 3) fun x3 => ldI h1 .u32 ((a0.add 0).add 4) fun x4 => ldI h1 .u32 ((a0.add 0).add 5) fun x5 => ldI h1 .u32 ((a0.add 0).add 6) fun x6 => ldI h1 .u32 ((a0.add 0).add 7) fun x7 =>
  newB (.cells #[(.int .u32 0), (.int .u32 0), (.int .u32 0), (.int .u32 0), (.int .u32 0), (.int .u32 0), (.int .u32 0), (.int .u32 0)] 207) (fun b0 h2 =>
  (#[(.int .u32 x0), (.int .u32 x1), (.int .u32 x2), (.int .u32 x3), (.int .u32 x4), (.int .u32 x5), (.int .u32 x6), (.int .u32 x7)] : Array Value).size = 8 ∧ stRow (⟨b0, 0, none⟩ : Addr) (#[(.int .u32 x0), (.int .u32 x1), (.int .u32 x2), (.int .u32 x3), (.int .u32 x4), (.int .u32 x5), (.int .u32 x6), (.int .u32 x7)] : Array Value).toList (fun h3 =>
  newB (.cells #[] 5) (fun b1 h4 =>
  nilc h0 fun a1 =>
  ldSl h4 (a1.add 8) fun x8 x9 x10 =>
  rdRow h4 x8 (x9 * 1) fun cs0 =>
  appT 5 (.int .u8 0) (some (⟨b1, 0, none⟩ : Addr)) 0 x9 0 1 1 cs0 (fun p0 n0 c0 h5 =>
  sha_Hash_Sum.J1 h0 (⟨b0, 0, none⟩ : Addr) p0 n0 c0 K E h5) h4) h3) h2) h1
structure sha_Hash_Sum.c (h0 : Option Addr) (K : ByteArray → Heap → Prop) (E : Value → Heap → Prop) (H : Heap) : Prop where
  h : sha_Hash_Sum.vc h0 (fun r0_0 H => ∃ H', Heap.Le H' H ∧ K r0_0 H') E H
def sha_Hash_Sum.F : FT := fun args K E H => match args with
  | [(.pointer h0)] => sha_Hash_Sum.c h0 (fun r0_0 H => K (.string r0_0) H) E H
  | _ => False
noncomputable def sha_Hash_Sum.Γ : FuncId → Option FT := Γof [(199, sha_state_mix.F)]
theorem sha_Hash_Sum.hΓ : ∀ f F, sha_Hash_Sum.Γ f = some F → CalleeOk Tryz.prog f F := Γof_ok (List.forall_mem_cons.2 ⟨sha_state_mix.ok, fun _ h => nomatch h⟩)
def sha_Hash_Sum.r1 (fr : Fr) (t : Nat) (K : Int → Int → Int → Int → Int → Int → Int → Int → Prop) : Prop :=
  match fr.getD t none with
  | some (.agg ⟨[(.int .u32 x0), (.int .u32 x1), (.int .u32 x2), (.int .u32 x3), (.int .u32 x4), (.int .u32 x5), (.int .u32 x6), (.int .u32 x7)]⟩) => K x0 x1 x2 x3 x4 x5 x6 x7
  | _ => False
theorem sha_Hash_Sum.r1_elim {fr : Fr} {t : Nat} {K : Int → Int → Int → Int → Int → Int → Int → Int → Prop} (h : sha_Hash_Sum.r1 fr t K) : ∃ x0 x1 x2 x3 x4 x5 x6 x7, fr.getD t none = some (.agg #[(.int .u32 x0), (.int .u32 x1), (.int .u32 x2), (.int .u32 x3), (.int .u32 x4), (.int .u32 x5), (.int .u32 x6), (.int .u32 x7)]) ∧ K x0 x1 x2 x3 x4 x5 x6 x7 := by
  unfold sha_Hash_Sum.r1 at h
  split at h
  · rename_i e; exact ⟨_, _, _, _, _, _, _, _, e, h⟩
  · exact h.elim
def sha_Hash_Sum.W3.t : CT := fun Q E fr H => lenIs 75 fr (slP fr 0 fun h0 => slPA fr 3 fun x0 => slSl fr 4 fun b0 b1 b2 => sha_Hash_Sum.W3 h0 x0 b0 b1 b2 (fun y4_0 y4_1 y4_2 H => Q (.exit 0) (mkF 75 [(0, (.pointer h0)), (3, (.pointer (some x0))), (4, (.slice y4_0 y4_1 y4_2))]) H) E H)
noncomputable def sha_Hash_Sum.W3.plan : Plan := .go
theorem sha_Hash_Sum.W3.pok : PlanOk Tryz.prog sha_Hash_Sum.W3.plan (sub [1, 1, 1, 1, 0, 0, 0] sha_Hash_Sum.body) := by
  have e : PlanOk Tryz.prog sha_Hash_Sum.W3.plan (sub [1, 1, 1, 1, 0, 0, 0] sha_Hash_Sum.body) = (True) := by kernel_rfl
  exact e.mpr trivial
theorem sha_Hash_Sum.W3.eq (h0 : Option Addr) (x0 : Addr) (Q : Ex → Fr → Heap → Prop) (E : Value → Heap → Prop) (RR : Fr → Heap → Prop) (s : Option Addr × Nat × Nat) (H : Heap) :
    (fun (RR : Option Addr × Nat × Nat → Heap → Prop) (s : Option Addr × Nat × Nat) (H : Heap) => sha_Hash_Sum.W3.vc h0 x0 s.1 s.2.1 s.2.2 (fun y4_0 y4_1 y4_2 H => Q (.exit 0) (mkF 75 [(0, (.pointer h0)), (3, (.pointer (some x0))), (4, (.slice y4_0 y4_1 y4_2))]) H) (fun b0 b1 b2 H => RR (b0, b1, b2) H) E H) (fun s' H' => RR ((fun (s : Option Addr × Nat × Nat) => (mkF 75 [(0, (.pointer h0)), (3, (.pointer (some x0))), (4, (.slice s.1 s.2.1 s.2.2))])) s') H') s H = keepT [0, 3, 4] [] (fun i => if i = 0 then [0, 3, 4] else []) (wC Tryz.prog sha_Hash_Sum.Γ sha_Hash_Sum.W3.plan (sub [1, 1, 1, 1, 0, 0, 0] sha_Hash_Sum.body)) (fun e fr' H' => match e with | .normal => RR fr' H' | .exit id => Q (.exit id) fr' H' | .ret => Q .ret fr' H') E ((fun (s : Option Addr × Nat × Nat) => (mkF 75 [(0, (.pointer h0)), (3, (.pointer (some x0))), (4, (.slice s.1 s.2.1 s.2.2))])) s) H := by
  kernel_rfl
theorem sha_Hash_Sum.W3.ok : SoundCode Tryz.prog (sub [1, 1, 1, 1, 0, 0] sha_Hash_Sum.body) sha_Hash_Sum.W3.t := by
  have e : (sub [1, 1, 1, 1, 0, 0] sha_Hash_Sum.body) = .loop (sub [1, 1, 1, 1, 0, 0, 0] sha_Hash_Sum.body) := by kernel_rfl
  rw [e]
  refine piece_sound (loopN_sound (keepT_sound [0, 3, 4] [] (fun i => if i = 0 then [0, 3, 4] else []) (wC_sound sha_Hash_Sum.hΓ Tryz.hm sha_Hash_Sum.W3.plan _ sha_Hash_Sum.W3.pok))) ?_
  intro Q E fr H h
  unfold sha_Hash_Sum.W3.t at h
  obtain ⟨hl, h⟩ := lenIs_elim h
  obtain ⟨h0, q0, h⟩ := slP_elim h
  obtain ⟨x0, q3, h⟩ := slPA_elim h
  obtain ⟨b0, b1, b2, q4, h⟩ := slSl_elim h
  obtain ⟨m, h⟩ := h.h
  refine ⟨(mkF 75 [(0, (.pointer h0)), (3, (.pointer (some x0))), (4, (.slice b0 b1 b2))]), fun a ha => ha.mk (Nat.le_of_eq hl.symm) (List.forall_mem_cons.2 ⟨q0, List.forall_mem_cons.2 ⟨q3, List.forall_mem_cons.2 ⟨q4, fun _ h => nomatch h⟩⟩⟩), m, ?_⟩
  have e := loopS_eq (B := (fun (RR : Option Addr × Nat × Nat → Heap → Prop) (s : Option Addr × Nat × Nat) (H : Heap) => sha_Hash_Sum.W3.vc h0 x0 s.1 s.2.1 s.2.2 (fun y4_0 y4_1 y4_2 H => Q (.exit 0) (mkF 75 [(0, (.pointer h0)), (3, (.pointer (some x0))), (4, (.slice y4_0 y4_1 y4_2))]) H) (fun b0 b1 b2 H => RR (b0, b1, b2) H) E H)) (A := keepT [0, 3, 4] [] (fun i => if i = 0 then [0, 3, 4] else []) (wC Tryz.prog sha_Hash_Sum.Γ sha_Hash_Sum.W3.plan (sub [1, 1, 1, 1, 0, 0, 0] sha_Hash_Sum.body))) (m := (fun (s : Option Addr × Nat × Nat) => (mkF 75 [(0, (.pointer h0)), (3, (.pointer (some x0))), (4, (.slice s.1 s.2.1 s.2.2))]))) (Q := Q) (E := E) (fun RR s H => sha_Hash_Sum.W3.eq h0 x0 Q E RR s H) m (b0, b1, b2) H
  exact cast e h
def sha_Hash_Sum.J5.t : CT := fun Q E fr H => lenIs 75 fr (slP fr 0 fun h0 => slPA fr 3 fun x0 => slSl fr 4 fun b0 b1 b2 => slI fr 29 .i64 fun x1 => sha_Hash_Sum.J5 h0 x0 b0 b1 b2 x1 (fun y29_0 H => Q .normal (mkF 75 [(0, (.pointer h0)), (3, (.pointer (some x0))), (4, (.slice b0 b1 b2)), (29, (.int .i64 y29_0))]) H) E H)
noncomputable def sha_Hash_Sum.J5.plan : Plan := .go
theorem sha_Hash_Sum.J5.pok : PlanOk Tryz.prog sha_Hash_Sum.J5.plan (sub [1, 1, 1, 1, 1, 0, 1, 0, 0, 1, 1, 1] sha_Hash_Sum.body) := by
  have e : PlanOk Tryz.prog sha_Hash_Sum.J5.plan (sub [1, 1, 1, 1, 1, 0, 1, 0, 0, 1, 1, 1] sha_Hash_Sum.body) = (True) := by kernel_rfl
  exact e.mpr trivial
theorem sha_Hash_Sum.J5.eq (h0 : Option Addr) (x0 : Addr) (b0 : Option Addr) (b1 : Nat) (b2 : Nat) (x1 : Int) (Q : Ex → Fr → Heap → Prop) (E : Value → Heap → Prop) (H : Heap) :
    sha_Hash_Sum.J5.vc h0 x0 b0 b1 b2 x1 (fun y29_0 H => Q .normal (mkF 75 [(0, (.pointer h0)), (3, (.pointer (some x0))), (4, (.slice b0 b1 b2)), (29, (.int .i64 y29_0))]) H) E H = keepT [0, 3, 4, 29] [] (fun i => []) (wC Tryz.prog sha_Hash_Sum.Γ sha_Hash_Sum.J5.plan (sub [1, 1, 1, 1, 1, 0, 1, 0, 0, 1, 1, 1] sha_Hash_Sum.body)) Q E (mkF 75 [(0, (.pointer h0)), (3, (.pointer (some x0))), (4, (.slice b0 b1 b2)), (29, (.int .i64 x1))]) H := by
  kernel_rfl
theorem sha_Hash_Sum.J5.ok : SoundCode Tryz.prog (sub [1, 1, 1, 1, 1, 0, 1, 0, 0, 1, 1, 1] sha_Hash_Sum.body) sha_Hash_Sum.J5.t := by
  refine piece_sound (keepT_sound [0, 3, 4, 29] [] (fun i => []) (wC_sound sha_Hash_Sum.hΓ Tryz.hm sha_Hash_Sum.J5.plan _ sha_Hash_Sum.J5.pok)) ?_
  intro Q E fr H h
  unfold sha_Hash_Sum.J5.t at h
  obtain ⟨hl, h⟩ := lenIs_elim h
  obtain ⟨h0, q0, h⟩ := slP_elim h
  obtain ⟨x0, q3, h⟩ := slPA_elim h
  obtain ⟨b0, b1, b2, q4, h⟩ := slSl_elim h
  obtain ⟨x1, q29, h⟩ := slI_elim h
  refine ⟨(mkF 75 [(0, (.pointer h0)), (3, (.pointer (some x0))), (4, (.slice b0 b1 b2)), (29, (.int .i64 x1))]), fun a ha => ha.mk (Nat.le_of_eq hl.symm) (List.forall_mem_cons.2 ⟨q0, List.forall_mem_cons.2 ⟨q3, List.forall_mem_cons.2 ⟨q4, List.forall_mem_cons.2 ⟨q29, fun _ h => nomatch h⟩⟩⟩⟩), ?_⟩
  have e := sha_Hash_Sum.J5.eq h0 x0 b0 b1 b2 x1 Q E H
  rw [← e]
  exact h.h
def sha_Hash_Sum.W4.t : CT := fun Q E fr H => lenIs 75 fr (slP fr 0 fun h0 => slPA fr 3 fun x0 => slSl fr 4 fun b0 b1 b2 => slI fr 29 .i64 fun x1 => sha_Hash_Sum.W4 h0 x0 b0 b1 b2 x1 (fun y4_0 y4_1 y4_2 H => Q (.exit 2) (mkF 75 [(3, (.pointer (some x0))), (4, (.slice y4_0 y4_1 y4_2))]) H) E H)
noncomputable def sha_Hash_Sum.W4.plan : Plan := .seq (.go) (.seq (.go) (.seq (.go) (.use sha_Hash_Sum.J5.t)))
theorem sha_Hash_Sum.W4.pok : PlanOk Tryz.prog sha_Hash_Sum.W4.plan (sub [1, 1, 1, 1, 1, 0, 1, 0, 0] sha_Hash_Sum.body) := by
  have e : PlanOk Tryz.prog sha_Hash_Sum.W4.plan (sub [1, 1, 1, 1, 1, 0, 1, 0, 0] sha_Hash_Sum.body) = ((True) ∧ ((True) ∧ ((True) ∧ (SoundCode Tryz.prog (sub [1, 1, 1, 1, 1, 0, 1, 0, 0, 1, 1, 1] sha_Hash_Sum.body) sha_Hash_Sum.J5.t)))) := by kernel_rfl
  exact e.mpr ⟨trivial, ⟨trivial, ⟨trivial, sha_Hash_Sum.J5.ok⟩⟩⟩
theorem sha_Hash_Sum.W4.eq (h0 : Option Addr) (x0 : Addr) (Q : Ex → Fr → Heap → Prop) (E : Value → Heap → Prop) (RR : Fr → Heap → Prop) (s : Option Addr × Nat × Nat × Int) (H : Heap) :
    (fun (RR : Option Addr × Nat × Nat × Int → Heap → Prop) (s : Option Addr × Nat × Nat × Int) (H : Heap) => sha_Hash_Sum.W4.vc h0 x0 s.1 s.2.1 s.2.2.1 s.2.2.2 (fun y4_0 y4_1 y4_2 H => Q (.exit 2) (mkF 75 [(3, (.pointer (some x0))), (4, (.slice y4_0 y4_1 y4_2))]) H) (fun b0 b1 b2 x1 H => RR (b0, b1, b2, x1) H) E H) (fun s' H' => RR ((fun (s : Option Addr × Nat × Nat × Int) => (mkF 75 [(0, (.pointer h0)), (3, (.pointer (some x0))), (4, (.slice s.1 s.2.1 s.2.2.1)), (29, (.int .i64 s.2.2.2))])) s') H') s H = keepT [0, 3, 4, 29] [] (fun i => if i = 2 then [3, 4] else []) (wC Tryz.prog sha_Hash_Sum.Γ sha_Hash_Sum.W4.plan (sub [1, 1, 1, 1, 1, 0, 1, 0, 0] sha_Hash_Sum.body)) (fun e fr' H' => match e with | .normal => RR fr' H' | .exit id => Q (.exit id) fr' H' | .ret => Q .ret fr' H') E ((fun (s : Option Addr × Nat × Nat × Int) => (mkF 75 [(0, (.pointer h0)), (3, (.pointer (some x0))), (4, (.slice s.1 s.2.1 s.2.2.1)), (29, (.int .i64 s.2.2.2))])) s) H := by
  kernel_rfl
theorem sha_Hash_Sum.W4.ok : SoundCode Tryz.prog (sub [1, 1, 1, 1, 1, 0, 1, 0] sha_Hash_Sum.body) sha_Hash_Sum.W4.t := by
  have e : (sub [1, 1, 1, 1, 1, 0, 1, 0] sha_Hash_Sum.body) = .loop (sub [1, 1, 1, 1, 1, 0, 1, 0, 0] sha_Hash_Sum.body) := by kernel_rfl
  rw [e]
  refine piece_sound (loopN_sound (keepT_sound [0, 3, 4, 29] [] (fun i => if i = 2 then [3, 4] else []) (wC_sound sha_Hash_Sum.hΓ Tryz.hm sha_Hash_Sum.W4.plan _ sha_Hash_Sum.W4.pok))) ?_
  intro Q E fr H h
  unfold sha_Hash_Sum.W4.t at h
  obtain ⟨hl, h⟩ := lenIs_elim h
  obtain ⟨h0, q0, h⟩ := slP_elim h
  obtain ⟨x0, q3, h⟩ := slPA_elim h
  obtain ⟨b0, b1, b2, q4, h⟩ := slSl_elim h
  obtain ⟨x1, q29, h⟩ := slI_elim h
  obtain ⟨m, h⟩ := h.h
  refine ⟨(mkF 75 [(0, (.pointer h0)), (3, (.pointer (some x0))), (4, (.slice b0 b1 b2)), (29, (.int .i64 x1))]), fun a ha => ha.mk (Nat.le_of_eq hl.symm) (List.forall_mem_cons.2 ⟨q0, List.forall_mem_cons.2 ⟨q3, List.forall_mem_cons.2 ⟨q4, List.forall_mem_cons.2 ⟨q29, fun _ h => nomatch h⟩⟩⟩⟩), m, ?_⟩
  have e := loopS_eq (B := (fun (RR : Option Addr × Nat × Nat × Int → Heap → Prop) (s : Option Addr × Nat × Nat × Int) (H : Heap) => sha_Hash_Sum.W4.vc h0 x0 s.1 s.2.1 s.2.2.1 s.2.2.2 (fun y4_0 y4_1 y4_2 H => Q (.exit 2) (mkF 75 [(3, (.pointer (some x0))), (4, (.slice y4_0 y4_1 y4_2))]) H) (fun b0 b1 b2 x1 H => RR (b0, b1, b2, x1) H) E H)) (A := keepT [0, 3, 4, 29] [] (fun i => if i = 2 then [3, 4] else []) (wC Tryz.prog sha_Hash_Sum.Γ sha_Hash_Sum.W4.plan (sub [1, 1, 1, 1, 1, 0, 1, 0, 0] sha_Hash_Sum.body))) (m := (fun (s : Option Addr × Nat × Nat × Int) => (mkF 75 [(0, (.pointer h0)), (3, (.pointer (some x0))), (4, (.slice s.1 s.2.1 s.2.2.1)), (29, (.int .i64 s.2.2.2))]))) (Q := Q) (E := E) (fun RR s H => sha_Hash_Sum.W4.eq h0 x0 Q E RR s H) m (b0, b1, b2, x1) H
  exact cast e h
def sha_Hash_Sum.W6.t : CT := fun Q E fr H => lenIs 75 fr (slPA fr 3 fun x0 => slSl fr 4 fun b0 b1 b2 => sha_Hash_Sum.W6 x0 b0 b1 b2 (fun  H => Q (.exit 4) (mkF 75 [(3, (.pointer (some x0)))]) H) E H)
noncomputable def sha_Hash_Sum.W6.plan : Plan := .go
theorem sha_Hash_Sum.W6.pok : PlanOk Tryz.prog sha_Hash_Sum.W6.plan (sub [1, 1, 1, 1, 1, 1, 0, 0, 0] sha_Hash_Sum.body) := by
  have e : PlanOk Tryz.prog sha_Hash_Sum.W6.plan (sub [1, 1, 1, 1, 1, 1, 0, 0, 0] sha_Hash_Sum.body) = (True) := by kernel_rfl
  exact e.mpr trivial
theorem sha_Hash_Sum.W6.eq (x0 : Addr) (Q : Ex → Fr → Heap → Prop) (E : Value → Heap → Prop) (RR : Fr → Heap → Prop) (s : Option Addr × Nat × Nat) (H : Heap) :
    (fun (RR : Option Addr × Nat × Nat → Heap → Prop) (s : Option Addr × Nat × Nat) (H : Heap) => sha_Hash_Sum.W6.vc x0 s.1 s.2.1 s.2.2 (fun  H => Q (.exit 4) (mkF 75 [(3, (.pointer (some x0)))]) H) (fun b0 b1 b2 H => RR (b0, b1, b2) H) E H) (fun s' H' => RR ((fun (s : Option Addr × Nat × Nat) => (mkF 75 [(3, (.pointer (some x0))), (4, (.slice s.1 s.2.1 s.2.2))])) s') H') s H = keepT [3, 4] [] (fun i => if i = 4 then [3] else []) (wC Tryz.prog sha_Hash_Sum.Γ sha_Hash_Sum.W6.plan (sub [1, 1, 1, 1, 1, 1, 0, 0, 0] sha_Hash_Sum.body)) (fun e fr' H' => match e with | .normal => RR fr' H' | .exit id => Q (.exit id) fr' H' | .ret => Q .ret fr' H') E ((fun (s : Option Addr × Nat × Nat) => (mkF 75 [(3, (.pointer (some x0))), (4, (.slice s.1 s.2.1 s.2.2))])) s) H := by
  kernel_rfl
theorem sha_Hash_Sum.W6.ok : SoundCode Tryz.prog (sub [1, 1, 1, 1, 1, 1, 0, 0] sha_Hash_Sum.body) sha_Hash_Sum.W6.t := by
  have e : (sub [1, 1, 1, 1, 1, 1, 0, 0] sha_Hash_Sum.body) = .loop (sub [1, 1, 1, 1, 1, 1, 0, 0, 0] sha_Hash_Sum.body) := by kernel_rfl
  rw [e]
  refine piece_sound (loopN_sound (keepT_sound [3, 4] [] (fun i => if i = 4 then [3] else []) (wC_sound sha_Hash_Sum.hΓ Tryz.hm sha_Hash_Sum.W6.plan _ sha_Hash_Sum.W6.pok))) ?_
  intro Q E fr H h
  unfold sha_Hash_Sum.W6.t at h
  obtain ⟨hl, h⟩ := lenIs_elim h
  obtain ⟨x0, q3, h⟩ := slPA_elim h
  obtain ⟨b0, b1, b2, q4, h⟩ := slSl_elim h
  obtain ⟨m, h⟩ := h.h
  refine ⟨(mkF 75 [(3, (.pointer (some x0))), (4, (.slice b0 b1 b2))]), fun a ha => ha.mk (Nat.le_of_eq hl.symm) (List.forall_mem_cons.2 ⟨q3, List.forall_mem_cons.2 ⟨q4, fun _ h => nomatch h⟩⟩), m, ?_⟩
  have e := loopS_eq (B := (fun (RR : Option Addr × Nat × Nat → Heap → Prop) (s : Option Addr × Nat × Nat) (H : Heap) => sha_Hash_Sum.W6.vc x0 s.1 s.2.1 s.2.2 (fun  H => Q (.exit 4) (mkF 75 [(3, (.pointer (some x0)))]) H) (fun b0 b1 b2 H => RR (b0, b1, b2) H) E H)) (A := keepT [3, 4] [] (fun i => if i = 4 then [3] else []) (wC Tryz.prog sha_Hash_Sum.Γ sha_Hash_Sum.W6.plan (sub [1, 1, 1, 1, 1, 1, 0, 0, 0] sha_Hash_Sum.body))) (m := (fun (s : Option Addr × Nat × Nat) => (mkF 75 [(3, (.pointer (some x0))), (4, (.slice s.1 s.2.1 s.2.2))]))) (Q := Q) (E := E) (fun RR s H => sha_Hash_Sum.W6.eq x0 Q E RR s H) m (b0, b1, b2) H
  exact cast e h
def sha_Hash_Sum.J8.t : CT := fun Q E fr H => lenIs 75 fr (slSl fr 6 fun out0 out1 out2 => sha_Hash_Sum.r1 fr 54 fun x0 x1 x2 x3 x4 x5 x6 x7 => slI fr 55 .i64 fun x8 => sha_Hash_Sum.J8 out0 out1 out2 x0 x1 x2 x3 x4 x5 x6 x7 x8 (fun y55_0 H => Q .normal (mkF 75 [(6, (.slice out0 out1 out2)), (54, (.agg #[(.int .u32 x0), (.int .u32 x1), (.int .u32 x2), (.int .u32 x3), (.int .u32 x4), (.int .u32 x5), (.int .u32 x6), (.int .u32 x7)])), (55, (.int .i64 y55_0))]) H) E H)
noncomputable def sha_Hash_Sum.J8.plan : Plan := .go
theorem sha_Hash_Sum.J8.pok : PlanOk Tryz.prog sha_Hash_Sum.J8.plan (sub [1, 1, 1, 1, 1, 1, 1, 1, 0, 1, 0, 0, 1, 1, 1] sha_Hash_Sum.body) := by
  have e : PlanOk Tryz.prog sha_Hash_Sum.J8.plan (sub [1, 1, 1, 1, 1, 1, 1, 1, 0, 1, 0, 0, 1, 1, 1] sha_Hash_Sum.body) = (True) := by kernel_rfl
  exact e.mpr trivial
theorem sha_Hash_Sum.J8.eq (out0 : Option Addr) (out1 : Nat) (out2 : Nat) (x0 : Int) (x1 : Int) (x2 : Int) (x3 : Int) (x4 : Int) (x5 : Int) (x6 : Int) (x7 : Int) (x8 : Int) (Q : Ex → Fr → Heap → Prop) (E : Value → Heap → Prop) (H : Heap) :
    sha_Hash_Sum.J8.vc out0 out1 out2 x0 x1 x2 x3 x4 x5 x6 x7 x8 (fun y55_0 H => Q .normal (mkF 75 [(6, (.slice out0 out1 out2)), (54, (.agg #[(.int .u32 x0), (.int .u32 x1), (.int .u32 x2), (.int .u32 x3), (.int .u32 x4), (.int .u32 x5), (.int .u32 x6), (.int .u32 x7)])), (55, (.int .i64 y55_0))]) H) E H = keepT [6, 54, 55] [] (fun i => []) (wC Tryz.prog sha_Hash_Sum.Γ sha_Hash_Sum.J8.plan (sub [1, 1, 1, 1, 1, 1, 1, 1, 0, 1, 0, 0, 1, 1, 1] sha_Hash_Sum.body)) Q E (mkF 75 [(6, (.slice out0 out1 out2)), (54, (.agg #[(.int .u32 x0), (.int .u32 x1), (.int .u32 x2), (.int .u32 x3), (.int .u32 x4), (.int .u32 x5), (.int .u32 x6), (.int .u32 x7)])), (55, (.int .i64 x8))]) H := by
  kernel_rfl
theorem sha_Hash_Sum.J8.ok : SoundCode Tryz.prog (sub [1, 1, 1, 1, 1, 1, 1, 1, 0, 1, 0, 0, 1, 1, 1] sha_Hash_Sum.body) sha_Hash_Sum.J8.t := by
  refine piece_sound (keepT_sound [6, 54, 55] [] (fun i => []) (wC_sound sha_Hash_Sum.hΓ Tryz.hm sha_Hash_Sum.J8.plan _ sha_Hash_Sum.J8.pok)) ?_
  intro Q E fr H h
  unfold sha_Hash_Sum.J8.t at h
  obtain ⟨hl, h⟩ := lenIs_elim h
  obtain ⟨out0, out1, out2, q6, h⟩ := slSl_elim h
  obtain ⟨x0, x1, x2, x3, x4, x5, x6, x7, q54, h⟩ := sha_Hash_Sum.r1_elim h
  obtain ⟨x8, q55, h⟩ := slI_elim h
  refine ⟨(mkF 75 [(6, (.slice out0 out1 out2)), (54, (.agg #[(.int .u32 x0), (.int .u32 x1), (.int .u32 x2), (.int .u32 x3), (.int .u32 x4), (.int .u32 x5), (.int .u32 x6), (.int .u32 x7)])), (55, (.int .i64 x8))]), fun a ha => ha.mk (Nat.le_of_eq hl.symm) (List.forall_mem_cons.2 ⟨q6, List.forall_mem_cons.2 ⟨q54, List.forall_mem_cons.2 ⟨q55, fun _ h => nomatch h⟩⟩⟩), ?_⟩
  have e := sha_Hash_Sum.J8.eq out0 out1 out2 x0 x1 x2 x3 x4 x5 x6 x7 x8 Q E H
  rw [← e]
  exact h.h
def sha_Hash_Sum.W7.t : CT := fun Q E fr H => lenIs 75 fr (slSl fr 6 fun out0 out1 out2 => sha_Hash_Sum.r1 fr 54 fun x0 x1 x2 x3 x4 x5 x6 x7 => slI fr 55 .i64 fun x8 => sha_Hash_Sum.W7 out0 out1 out2 x0 x1 x2 x3 x4 x5 x6 x7 x8 (fun y6_0 y6_1 y6_2 H => Q (.exit 6) (mkF 75 [(6, (.slice y6_0 y6_1 y6_2))]) H) E H)
noncomputable def sha_Hash_Sum.W7.plan : Plan := .seq (.go) (.seq (.go) (.seq (.go) (.use sha_Hash_Sum.J8.t)))
theorem sha_Hash_Sum.W7.pok : PlanOk Tryz.prog sha_Hash_Sum.W7.plan (sub [1, 1, 1, 1, 1, 1, 1, 1, 0, 1, 0, 0] sha_Hash_Sum.body) := by
  have e : PlanOk Tryz.prog sha_Hash_Sum.W7.plan (sub [1, 1, 1, 1, 1, 1, 1, 1, 0, 1, 0, 0] sha_Hash_Sum.body) = ((True) ∧ ((True) ∧ ((True) ∧ (SoundCode Tryz.prog (sub [1, 1, 1, 1, 1, 1, 1, 1, 0, 1, 0, 0, 1, 1, 1] sha_Hash_Sum.body) sha_Hash_Sum.J8.t)))) := by kernel_rfl
  exact e.mpr ⟨trivial, ⟨trivial, ⟨trivial, sha_Hash_Sum.J8.ok⟩⟩⟩
theorem sha_Hash_Sum.W7.eq (x0 : Int) (x1 : Int) (x2 : Int) (x3 : Int) (x4 : Int) (x5 : Int) (x6 : Int) (x7 : Int) (Q : Ex → Fr → Heap → Prop) (E : Value → Heap → Prop) (RR : Fr → Heap → Prop) (s : Option Addr × Nat × Nat × Int) (H : Heap) :
    (fun (RR : Option Addr × Nat × Nat × Int → Heap → Prop) (s : Option Addr × Nat × Nat × Int) (H : Heap) => sha_Hash_Sum.W7.vc s.1 s.2.1 s.2.2.1 x0 x1 x2 x3 x4 x5 x6 x7 s.2.2.2 (fun y6_0 y6_1 y6_2 H => Q (.exit 6) (mkF 75 [(6, (.slice y6_0 y6_1 y6_2))]) H) (fun out0 out1 out2 x8 H => RR (out0, out1, out2, x8) H) E H) (fun s' H' => RR ((fun (s : Option Addr × Nat × Nat × Int) => (mkF 75 [(6, (.slice s.1 s.2.1 s.2.2.1)), (54, (.agg #[(.int .u32 x0), (.int .u32 x1), (.int .u32 x2), (.int .u32 x3), (.int .u32 x4), (.int .u32 x5), (.int .u32 x6), (.int .u32 x7)])), (55, (.int .i64 s.2.2.2))])) s') H') s H = keepT [6, 54, 55] [] (fun i => if i = 6 then [6] else []) (wC Tryz.prog sha_Hash_Sum.Γ sha_Hash_Sum.W7.plan (sub [1, 1, 1, 1, 1, 1, 1, 1, 0, 1, 0, 0] sha_Hash_Sum.body)) (fun e fr' H' => match e with | .normal => RR fr' H' | .exit id => Q (.exit id) fr' H' | .ret => Q .ret fr' H') E ((fun (s : Option Addr × Nat × Nat × Int) => (mkF 75 [(6, (.slice s.1 s.2.1 s.2.2.1)), (54, (.agg #[(.int .u32 x0), (.int .u32 x1), (.int .u32 x2), (.int .u32 x3), (.int .u32 x4), (.int .u32 x5), (.int .u32 x6), (.int .u32 x7)])), (55, (.int .i64 s.2.2.2))])) s) H := by
  kernel_rfl
theorem sha_Hash_Sum.W7.ok : SoundCode Tryz.prog (sub [1, 1, 1, 1, 1, 1, 1, 1, 0, 1, 0] sha_Hash_Sum.body) sha_Hash_Sum.W7.t := by
  have e : (sub [1, 1, 1, 1, 1, 1, 1, 1, 0, 1, 0] sha_Hash_Sum.body) = .loop (sub [1, 1, 1, 1, 1, 1, 1, 1, 0, 1, 0, 0] sha_Hash_Sum.body) := by kernel_rfl
  rw [e]
  refine piece_sound (loopN_sound (keepT_sound [6, 54, 55] [] (fun i => if i = 6 then [6] else []) (wC_sound sha_Hash_Sum.hΓ Tryz.hm sha_Hash_Sum.W7.plan _ sha_Hash_Sum.W7.pok))) ?_
  intro Q E fr H h
  unfold sha_Hash_Sum.W7.t at h
  obtain ⟨hl, h⟩ := lenIs_elim h
  obtain ⟨out0, out1, out2, q6, h⟩ := slSl_elim h
  obtain ⟨x0, x1, x2, x3, x4, x5, x6, x7, q54, h⟩ := sha_Hash_Sum.r1_elim h
  obtain ⟨x8, q55, h⟩ := slI_elim h
  obtain ⟨m, h⟩ := h.h
  refine ⟨(mkF 75 [(6, (.slice out0 out1 out2)), (54, (.agg #[(.int .u32 x0), (.int .u32 x1), (.int .u32 x2), (.int .u32 x3), (.int .u32 x4), (.int .u32 x5), (.int .u32 x6), (.int .u32 x7)])), (55, (.int .i64 x8))]), fun a ha => ha.mk (Nat.le_of_eq hl.symm) (List.forall_mem_cons.2 ⟨q6, List.forall_mem_cons.2 ⟨q54, List.forall_mem_cons.2 ⟨q55, fun _ h => nomatch h⟩⟩⟩), m, ?_⟩
  have e := loopS_eq (B := (fun (RR : Option Addr × Nat × Nat × Int → Heap → Prop) (s : Option Addr × Nat × Nat × Int) (H : Heap) => sha_Hash_Sum.W7.vc s.1 s.2.1 s.2.2.1 x0 x1 x2 x3 x4 x5 x6 x7 s.2.2.2 (fun y6_0 y6_1 y6_2 H => Q (.exit 6) (mkF 75 [(6, (.slice y6_0 y6_1 y6_2))]) H) (fun out0 out1 out2 x8 H => RR (out0, out1, out2, x8) H) E H)) (A := keepT [6, 54, 55] [] (fun i => if i = 6 then [6] else []) (wC Tryz.prog sha_Hash_Sum.Γ sha_Hash_Sum.W7.plan (sub [1, 1, 1, 1, 1, 1, 1, 1, 0, 1, 0, 0] sha_Hash_Sum.body))) (m := (fun (s : Option Addr × Nat × Nat × Int) => (mkF 75 [(6, (.slice s.1 s.2.1 s.2.2.1)), (54, (.agg #[(.int .u32 x0), (.int .u32 x1), (.int .u32 x2), (.int .u32 x3), (.int .u32 x4), (.int .u32 x5), (.int .u32 x6), (.int .u32 x7)])), (55, (.int .i64 s.2.2.2))]))) (Q := Q) (E := E) (fun RR s H => sha_Hash_Sum.W7.eq x0 x1 x2 x3 x4 x5 x6 x7 Q E RR s H) m (out0, out1, out2, x8) H
  exact cast e h
def sha_Hash_Sum.J2.t : CT := fun Q E fr H => lenIs 75 fr (slP fr 0 fun h0 => slPA fr 3 fun x0 => slSl fr 4 fun b0 b1 b2 => sha_Hash_Sum.J2 h0 x0 b0 b1 b2 (fun y2_0 H => Q .ret (mkF 75 [(2, (.string y2_0))]) H) E H)
noncomputable def sha_Hash_Sum.J2.plan : Plan := .seq (.block (.use sha_Hash_Sum.W3.t)) (.seq (.seq (.go) (.block (.use sha_Hash_Sum.W4.t))) (.seq (.block (.use sha_Hash_Sum.W6.t)) (.seq (.go) (.seq (.seq (.go) (.block (.use sha_Hash_Sum.W7.t))) (.go)))))
theorem sha_Hash_Sum.J2.pok : PlanOk Tryz.prog sha_Hash_Sum.J2.plan (sub [1, 1, 1, 1] sha_Hash_Sum.body) := by
  have e : PlanOk Tryz.prog sha_Hash_Sum.J2.plan (sub [1, 1, 1, 1] sha_Hash_Sum.body) = ((SoundCode Tryz.prog (sub [1, 1, 1, 1, 0, 0] sha_Hash_Sum.body) sha_Hash_Sum.W3.t) ∧ (((True) ∧ (SoundCode Tryz.prog (sub [1, 1, 1, 1, 1, 0, 1, 0] sha_Hash_Sum.body) sha_Hash_Sum.W4.t)) ∧ ((SoundCode Tryz.prog (sub [1, 1, 1, 1, 1, 1, 0, 0] sha_Hash_Sum.body) sha_Hash_Sum.W6.t) ∧ ((True) ∧ (((True) ∧ (SoundCode Tryz.prog (sub [1, 1, 1, 1, 1, 1, 1, 1, 0, 1, 0] sha_Hash_Sum.body) sha_Hash_Sum.W7.t)) ∧ (True)))))) := by kernel_rfl
  exact e.mpr ⟨sha_Hash_Sum.W3.ok, ⟨⟨trivial, sha_Hash_Sum.W4.ok⟩, ⟨sha_Hash_Sum.W6.ok, ⟨trivial, ⟨⟨trivial, sha_Hash_Sum.W7.ok⟩, trivial⟩⟩⟩⟩⟩
theorem sha_Hash_Sum.J2.eq (h0 : Option Addr) (x0 : Addr) (b0 : Option Addr) (b1 : Nat) (b2 : Nat) (Q : Ex → Fr → Heap → Prop) (E : Value → Heap → Prop) (H : Heap) :
    sha_Hash_Sum.J2.vc h0 x0 b0 b1 b2 (fun y2_0 H => Q .ret (mkF 75 [(2, (.string y2_0))]) H) E H = keepT [] [2] (fun i => []) (wC Tryz.prog sha_Hash_Sum.Γ sha_Hash_Sum.J2.plan (sub [1, 1, 1, 1] sha_Hash_Sum.body)) Q E (mkF 75 [(0, (.pointer h0)), (3, (.pointer (some x0))), (4, (.slice b0 b1 b2))]) H := by
  kernel_rfl
theorem sha_Hash_Sum.J2.ok : SoundCode Tryz.prog (sub [1, 1, 1, 1] sha_Hash_Sum.body) sha_Hash_Sum.J2.t := by
  refine piece_sound (keepT_sound [] [2] (fun i => []) (wC_sound sha_Hash_Sum.hΓ Tryz.hm sha_Hash_Sum.J2.plan _ sha_Hash_Sum.J2.pok)) ?_
  intro Q E fr H h
  unfold sha_Hash_Sum.J2.t at h
  obtain ⟨hl, h⟩ := lenIs_elim h
  obtain ⟨h0, q0, h⟩ := slP_elim h
  obtain ⟨x0, q3, h⟩ := slPA_elim h
  obtain ⟨b0, b1, b2, q4, h⟩ := slSl_elim h
  refine ⟨(mkF 75 [(0, (.pointer h0)), (3, (.pointer (some x0))), (4, (.slice b0 b1 b2))]), fun a ha => ha.mk (Nat.le_of_eq hl.symm) (List.forall_mem_cons.2 ⟨q0, List.forall_mem_cons.2 ⟨q3, List.forall_mem_cons.2 ⟨q4, fun _ h => nomatch h⟩⟩⟩), ?_⟩
  have e := sha_Hash_Sum.J2.eq h0 x0 b0 b1 b2 Q E H
  rw [← e]
  exact h.h
def sha_Hash_Sum.J1.t : CT := fun Q E fr H => lenIs 75 fr (slP fr 0 fun h0 => slPA fr 3 fun x0 => slSl fr 4 fun b0 b1 b2 => sha_Hash_Sum.J1 h0 x0 b0 b1 b2 (fun y2_0 H => Q .ret (mkF 75 [(2, (.string y2_0))]) H) E H)
noncomputable def sha_Hash_Sum.J1.plan : Plan := .seq (.go) (.use sha_Hash_Sum.J2.t)
theorem sha_Hash_Sum.J1.pok : PlanOk Tryz.prog sha_Hash_Sum.J1.plan (sub [1, 1, 1] sha_Hash_Sum.body) := by
  have e : PlanOk Tryz.prog sha_Hash_Sum.J1.plan (sub [1, 1, 1] sha_Hash_Sum.body) = ((True) ∧ (SoundCode Tryz.prog (sub [1, 1, 1, 1] sha_Hash_Sum.body) sha_Hash_Sum.J2.t)) := by kernel_rfl
  exact e.mpr ⟨trivial, sha_Hash_Sum.J2.ok⟩
theorem sha_Hash_Sum.J1.eq (h0 : Option Addr) (x0 : Addr) (b0 : Option Addr) (b1 : Nat) (b2 : Nat) (Q : Ex → Fr → Heap → Prop) (E : Value → Heap → Prop) (H : Heap) :
    sha_Hash_Sum.J1.vc h0 x0 b0 b1 b2 (fun y2_0 H => Q .ret (mkF 75 [(2, (.string y2_0))]) H) E H = keepT [] [2] (fun i => []) (wC Tryz.prog sha_Hash_Sum.Γ sha_Hash_Sum.J1.plan (sub [1, 1, 1] sha_Hash_Sum.body)) Q E (mkF 75 [(0, (.pointer h0)), (3, (.pointer (some x0))), (4, (.slice b0 b1 b2))]) H := by
  kernel_rfl
theorem sha_Hash_Sum.J1.ok : SoundCode Tryz.prog (sub [1, 1, 1] sha_Hash_Sum.body) sha_Hash_Sum.J1.t := by
  refine piece_sound (keepT_sound [] [2] (fun i => []) (wC_sound sha_Hash_Sum.hΓ Tryz.hm sha_Hash_Sum.J1.plan _ sha_Hash_Sum.J1.pok)) ?_
  intro Q E fr H h
  unfold sha_Hash_Sum.J1.t at h
  obtain ⟨hl, h⟩ := lenIs_elim h
  obtain ⟨h0, q0, h⟩ := slP_elim h
  obtain ⟨x0, q3, h⟩ := slPA_elim h
  obtain ⟨b0, b1, b2, q4, h⟩ := slSl_elim h
  refine ⟨(mkF 75 [(0, (.pointer h0)), (3, (.pointer (some x0))), (4, (.slice b0 b1 b2))]), fun a ha => ha.mk (Nat.le_of_eq hl.symm) (List.forall_mem_cons.2 ⟨q0, List.forall_mem_cons.2 ⟨q3, List.forall_mem_cons.2 ⟨q4, fun _ h => nomatch h⟩⟩⟩), ?_⟩
  have e := sha_Hash_Sum.J1.eq h0 x0 b0 b1 b2 Q E H
  rw [← e]
  exact h.h
noncomputable def sha_Hash_Sum.plan : Plan := .seq (.go) (.seq (.go) (.seq (.go) (.use sha_Hash_Sum.J1.t)))
theorem sha_Hash_Sum.pok : PlanOk Tryz.prog sha_Hash_Sum.plan sha_Hash_Sum.body := by
  have e : PlanOk Tryz.prog sha_Hash_Sum.plan sha_Hash_Sum.body = ((True) ∧ ((True) ∧ ((True) ∧ (SoundCode Tryz.prog (sub [1, 1, 1] sha_Hash_Sum.body) sha_Hash_Sum.J1.t)))) := by kernel_rfl
  exact e.mpr ⟨trivial, ⟨trivial, ⟨trivial, sha_Hash_Sum.J1.ok⟩⟩⟩
theorem sha_Hash_Sum.eq (h0 : Option Addr) (K : Value → Heap → Prop) (E : Value → Heap → Prop) (H : Heap) :
    fnT Tryz.prog Tryz.f161 (wC Tryz.prog sha_Hash_Sum.Γ sha_Hash_Sum.plan sha_Hash_Sum.body) [(.pointer h0)] K E H = sha_Hash_Sum.vc h0 (fun r0_0 H => K (.string r0_0) H) E H := by
  kernel_rfl
theorem sha_Hash_Sum.Fe {args : List Value} {K E : Value → Heap → Prop} {H : Heap} (h : sha_Hash_Sum.F args K E H) : ∃ h0, args = [(.pointer h0)] ∧ sha_Hash_Sum.c h0 (fun r0_0 H => K (.string r0_0) H) E H := by
  unfold sha_Hash_Sum.F at h
  split at h
  · exact ⟨_, rfl, h⟩
  · exact h.elim
theorem sha_Hash_Sum.ok : CalleeOk Tryz.prog 161 sha_Hash_Sum.F :=
  callee_ok sha_Hash_Sum.hΓ (fn := Tryz.f161) (c := sha_Hash_Sum.body) (T := wC Tryz.prog sha_Hash_Sum.Γ sha_Hash_Sum.plan sha_Hash_Sum.body) (by kernel_rfl) (by kernel_rfl) (by kernel_rfl) (wC_sound sha_Hash_Sum.hΓ Tryz.hm sha_Hash_Sum.plan _ sha_Hash_Sum.pok) fun _ K E H h => by
    obtain ⟨z0, e, h⟩ := sha_Hash_Sum.Fe h
    subst e
    have h2 : sha_Hash_Sum.vc z0 (fun r0_0 H => ∃ H', Heap.Le H' H ∧ K (.string r0_0) H') E H := h.h
    rw [sha_Hash_Sum.eq z0 (Fg K) E H]
    exact h2

/-! vizard/sha.Sum -/
noncomputable def sha_Sum.body : Code := Tryz.f117.body.getD .skip
def sha_Sum.vc (s0 : ByteArray) (K : ByteArray → Heap → Prop) (E : Value → Heap → Prop) (h0 : Heap) : Prop :=
  sha_New.c (fun x0 h1 =>
  sha_Hash_Write.c x0 s0 (fun h2 =>
  sha_Hash_Sum.c x0 K E h2) E h1) E h0
structure sha_Sum.c (s0 : ByteArray) (K : ByteArray → Heap → Prop) (E : Value → Heap → Prop) (H : Heap) : Prop where
  h : sha_Sum.vc s0 (fun r0_0 H => ∃ H', Heap.Le H' H ∧ K r0_0 H') E H
def sha_Sum.F : FT := fun args K E H => match args with
  | [(.string s0)] => sha_Sum.c s0 (fun r0_0 H => K (.string r0_0) H) E H
  | _ => False
noncomputable def sha_Sum.Γ : FuncId → Option FT := Γof [(159, sha_New.F), (160, sha_Hash_Write.F), (161, sha_Hash_Sum.F)]
theorem sha_Sum.hΓ : ∀ f F, sha_Sum.Γ f = some F → CalleeOk Tryz.prog f F := Γof_ok (List.forall_mem_cons.2 ⟨sha_New.ok, List.forall_mem_cons.2 ⟨sha_Hash_Write.ok, List.forall_mem_cons.2 ⟨sha_Hash_Sum.ok, fun _ h => nomatch h⟩⟩⟩)
noncomputable def sha_Sum.plan : Plan := .go
theorem sha_Sum.pok : PlanOk Tryz.prog sha_Sum.plan sha_Sum.body := by
  have e : PlanOk Tryz.prog sha_Sum.plan sha_Sum.body = (True) := by kernel_rfl
  exact e.mpr trivial
theorem sha_Sum.eq (s0 : ByteArray) (K : Value → Heap → Prop) (E : Value → Heap → Prop) (H : Heap) :
    fnT Tryz.prog Tryz.f117 (wC Tryz.prog sha_Sum.Γ sha_Sum.plan sha_Sum.body) [(.string s0)] K E H = sha_Sum.vc s0 (fun r0_0 H => K (.string r0_0) H) E H := by
  kernel_rfl
theorem sha_Sum.Fe {args : List Value} {K E : Value → Heap → Prop} {H : Heap} (h : sha_Sum.F args K E H) : ∃ s0, args = [(.string s0)] ∧ sha_Sum.c s0 (fun r0_0 H => K (.string r0_0) H) E H := by
  unfold sha_Sum.F at h
  split at h
  · exact ⟨_, rfl, h⟩
  · exact h.elim
theorem sha_Sum.ok : CalleeOk Tryz.prog 117 sha_Sum.F :=
  callee_ok sha_Sum.hΓ (fn := Tryz.f117) (c := sha_Sum.body) (T := wC Tryz.prog sha_Sum.Γ sha_Sum.plan sha_Sum.body) (by kernel_rfl) (by kernel_rfl) (by kernel_rfl) (wC_sound sha_Sum.hΓ Tryz.hm sha_Sum.plan _ sha_Sum.pok) fun _ K E H h => by
    obtain ⟨z0, e, h⟩ := sha_Sum.Fe h
    subst e
    have h2 : sha_Sum.vc z0 (fun r0_0 H => ∃ H', Heap.Le H' H ∧ K (.string r0_0) H') E H := h.h
    rw [sha_Sum.eq z0 (Fg K) E H]
    exact h2

/-! vizard/sha.pad -/
noncomputable def sha_pad.body : Code := Tryz.f118.body.getD .skip
def sha_pad.W1.vc (by0 : Int) (b0 : Option Addr) (b1 : Nat) (b2 : Nat) (x0 : Int) (x1 : Int) (Kx0 : Heap → Prop) (RR : Int → Heap → Prop) (E : Value → Heap → Prop) (h0 : Heap) : Prop :=
  (if (decide (x1 < x0)) = true then
  nilc b0 fun a0 => (0 : Int) ≤ x1 ∧ x1 < (b1 : Int) ∧
  ldI h0 .u8 (a0.add (x1.toNat * 1)) fun x2 =>
  nilc b0 fun a1 => (0 : Int) ≤ x1 ∧ x1 < (b1 : Int) ∧
  stc h0 (a1.add (x1.toNat * 1)) (.int .u8 (bits .xor .u8 x2 by0)) fun h1 =>
  RR (IntKind.i64.wrap (x1 + 1)) h1
  else
  Kx0 h0)
structure sha_pad.W1 (by0 : Int) (b0 : Option Addr) (b1 : Nat) (b2 : Nat) (x0 : Int) (x1 : Int) (Kx0 : Heap → Prop) (E : Value → Heap → Prop) (H : Heap) : Prop where
  h : Loop (fun (RR : Int → Heap → Prop) (s : Int) (H : Heap) => sha_pad.W1.vc by0 b0 b1 b2 x0 s Kx0 (fun x1 H => RR (x1) H) E H) (x1) H
def sha_pad.vc (key0 : ByteArray) (by0 : Int) (K : ByteArray → Heap → Prop) (E : Value → Heap → Prop) (h0 : Heap) : Prop :=
  strings_Repeat.c (⟨#[0]⟩ : ByteArray) (IntKind.i64.wrap (64 - (key0.size : Int))) (fun x0 h1 =>
  key0.size + x0.size ≤ 9223372036854775807 ∧
  ∀ j0, newB (.cells ((byteVals (key0 ++ x0)).toArray ++ Array.replicate j0 (.int .u8 0)) 5 ((key0 ++ x0).size + j0, (key0 ++ x0).size + j0 + 1)) (fun b0 h2 =>
  sha_pad.W1 by0 (some (⟨b0, 0, none⟩ : Addr)) (key0 ++ x0).size ((key0 ++ x0).size + j0) ((key0 ++ x0).size : Int) 0 (fun h3 =>
  rdBytes h3 (some (⟨b0, 0, none⟩ : Addr)) (key0 ++ x0).size fun x1 =>
  K x1 h3) E h2) h1) E h0
structure sha_pad.c (key0 : ByteArray) (by0 : Int) (K : ByteArray → Heap → Prop) (E : Value → Heap → Prop) (H : Heap) : Prop where
  h : sha_pad.vc key0 by0 (fun r0_0 H => ∃ H', Heap.Le H' H ∧ K r0_0 H') E H
def sha_pad.F : FT := fun args K E H => match args with
  | [(.string key0), (.int .u8 by0)] => sha_pad.c key0 by0 (fun r0_0 H => K (.string r0_0) H) E H
  | _ => False
noncomputable def sha_pad.Γ : FuncId → Option FT := Γof [(82, strings_Repeat.F)]
theorem sha_pad.hΓ : ∀ f F, sha_pad.Γ f = some F → CalleeOk Tryz.prog f F := Γof_ok (List.forall_mem_cons.2 ⟨strings_Repeat.ok, fun _ h => nomatch h⟩)
def sha_pad.W1.t : CT := fun Q E fr H => lenIs 29 fr (slI fr 1 .u8 fun by0 => slSl fr 5 fun b0 b1 b2 => slI fr 15 .i64 fun x0 => slI fr 16 .i64 fun x1 => sha_pad.W1 by0 b0 b1 b2 x0 x1 (fun  H => Q (.exit 0) (mkF 29 [(5, (.slice b0 b1 b2))]) H) E H)
noncomputable def sha_pad.W1.plan : Plan := .go
theorem sha_pad.W1.pok : PlanOk Tryz.prog sha_pad.W1.plan (sub [1, 1, 0, 1, 0, 0] sha_pad.body) := by
  have e : PlanOk Tryz.prog sha_pad.W1.plan (sub [1, 1, 0, 1, 0, 0] sha_pad.body) = (True) := by kernel_rfl
  exact e.mpr trivial
theorem sha_pad.W1.eq (by0 : Int) (b0 : Option Addr) (b1 : Nat) (b2 : Nat) (x0 : Int) (Q : Ex → Fr → Heap → Prop) (E : Value → Heap → Prop) (RR : Fr → Heap → Prop) (s : Int) (H : Heap) :
    (fun (RR : Int → Heap → Prop) (s : Int) (H : Heap) => sha_pad.W1.vc by0 b0 b1 b2 x0 s (fun  H => Q (.exit 0) (mkF 29 [(5, (.slice b0 b1 b2))]) H) (fun x1 H => RR (x1) H) E H) (fun s' H' => RR ((fun (s : Int) => (mkF 29 [(1, (.int .u8 by0)), (5, (.slice b0 b1 b2)), (15, (.int .i64 x0)), (16, (.int .i64 s))])) s') H') s H = keepT [1, 5, 15, 16] [] (fun i => if i = 0 then [5] else []) (wC Tryz.prog sha_pad.Γ sha_pad.W1.plan (sub [1, 1, 0, 1, 0, 0] sha_pad.body)) (fun e fr' H' => match e with | .normal => RR fr' H' | .exit id => Q (.exit id) fr' H' | .ret => Q .ret fr' H') E ((fun (s : Int) => (mkF 29 [(1, (.int .u8 by0)), (5, (.slice b0 b1 b2)), (15, (.int .i64 x0)), (16, (.int .i64 s))])) s) H := by
  kernel_rfl
theorem sha_pad.W1.ok : SoundCode Tryz.prog (sub [1, 1, 0, 1, 0] sha_pad.body) sha_pad.W1.t := by
  have e : (sub [1, 1, 0, 1, 0] sha_pad.body) = .loop (sub [1, 1, 0, 1, 0, 0] sha_pad.body) := by kernel_rfl
  rw [e]
  refine piece_sound (loopN_sound (keepT_sound [1, 5, 15, 16] [] (fun i => if i = 0 then [5] else []) (wC_sound sha_pad.hΓ Tryz.hm sha_pad.W1.plan _ sha_pad.W1.pok))) ?_
  intro Q E fr H h
  unfold sha_pad.W1.t at h
  obtain ⟨hl, h⟩ := lenIs_elim h
  obtain ⟨by0, q1, h⟩ := slI_elim h
  obtain ⟨b0, b1, b2, q5, h⟩ := slSl_elim h
  obtain ⟨x0, q15, h⟩ := slI_elim h
  obtain ⟨x1, q16, h⟩ := slI_elim h
  obtain ⟨m, h⟩ := h.h
  refine ⟨(mkF 29 [(1, (.int .u8 by0)), (5, (.slice b0 b1 b2)), (15, (.int .i64 x0)), (16, (.int .i64 x1))]), fun a ha => ha.mk (Nat.le_of_eq hl.symm) (List.forall_mem_cons.2 ⟨q1, List.forall_mem_cons.2 ⟨q5, List.forall_mem_cons.2 ⟨q15, List.forall_mem_cons.2 ⟨q16, fun _ h => nomatch h⟩⟩⟩⟩), m, ?_⟩
  have e := loopS_eq (B := (fun (RR : Int → Heap → Prop) (s : Int) (H : Heap) => sha_pad.W1.vc by0 b0 b1 b2 x0 s (fun  H => Q (.exit 0) (mkF 29 [(5, (.slice b0 b1 b2))]) H) (fun x1 H => RR (x1) H) E H)) (A := keepT [1, 5, 15, 16] [] (fun i => if i = 0 then [5] else []) (wC Tryz.prog sha_pad.Γ sha_pad.W1.plan (sub [1, 1, 0, 1, 0, 0] sha_pad.body))) (m := (fun (s : Int) => (mkF 29 [(1, (.int .u8 by0)), (5, (.slice b0 b1 b2)), (15, (.int .i64 x0)), (16, (.int .i64 s))]))) (Q := Q) (E := E) (fun RR s H => sha_pad.W1.eq by0 b0 b1 b2 x0 Q E RR s H) m (x1) H
  exact cast e h
noncomputable def sha_pad.plan : Plan := .seq (.go) (.seq (.go) (.seq (.seq (.go) (.block (.use sha_pad.W1.t))) (.go)))
theorem sha_pad.pok : PlanOk Tryz.prog sha_pad.plan sha_pad.body := by
  have e : PlanOk Tryz.prog sha_pad.plan sha_pad.body = ((True) ∧ ((True) ∧ (((True) ∧ (SoundCode Tryz.prog (sub [1, 1, 0, 1, 0] sha_pad.body) sha_pad.W1.t)) ∧ (True)))) := by kernel_rfl
  exact e.mpr ⟨trivial, ⟨trivial, ⟨⟨trivial, sha_pad.W1.ok⟩, trivial⟩⟩⟩
theorem sha_pad.eq (key0 : ByteArray) (by0 : Int) (K : Value → Heap → Prop) (E : Value → Heap → Prop) (H : Heap) :
    fnT Tryz.prog Tryz.f118 (wC Tryz.prog sha_pad.Γ sha_pad.plan sha_pad.body) [(.string key0), (.int .u8 by0)] K E H = sha_pad.vc key0 by0 (fun r0_0 H => K (.string r0_0) H) E H := by
  kernel_rfl
theorem sha_pad.Fe {args : List Value} {K E : Value → Heap → Prop} {H : Heap} (h : sha_pad.F args K E H) : ∃ key0 by0, args = [(.string key0), (.int .u8 by0)] ∧ sha_pad.c key0 by0 (fun r0_0 H => K (.string r0_0) H) E H := by
  unfold sha_pad.F at h
  split at h
  · exact ⟨_, _, rfl, h⟩
  · exact h.elim
theorem sha_pad.ok : CalleeOk Tryz.prog 118 sha_pad.F :=
  callee_ok sha_pad.hΓ (fn := Tryz.f118) (c := sha_pad.body) (T := wC Tryz.prog sha_pad.Γ sha_pad.plan sha_pad.body) (by kernel_rfl) (by kernel_rfl) (by kernel_rfl) (wC_sound sha_pad.hΓ Tryz.hm sha_pad.plan _ sha_pad.pok) fun _ K E H h => by
    obtain ⟨z0, z1, e, h⟩ := sha_pad.Fe h
    subst e
    have h2 : sha_pad.vc z0 z1 (fun r0_0 H => ∃ H', Heap.Le H' H ∧ K (.string r0_0) H') E H := h.h
    rw [sha_pad.eq z0 z1 (Fg K) E H]
    exact h2

/-! vizard/sha.Hmac -/
noncomputable def sha_Hmac.body : Code := Tryz.f66.body.getD .skip
def sha_Hmac.J1.vc (key0 : ByteArray) (s0 : ByteArray) (Kr : ByteArray → Heap → Prop) (E : Value → Heap → Prop) (h0 : Heap) : Prop :=
  sha_pad.c key0 92 (fun x0 h1 =>
  sha_pad.c key0 54 (fun x1 h2 =>
  x1.size + s0.size ≤ 9223372036854775807 ∧
  sha_Sum.c (x1 ++ s0) (fun x2 h3 =>
  x0.size + x2.size ≤ 9223372036854775807 ∧
  sha_Sum.c (x0 ++ x2) Kr E h3) E h2) E h1) E h0
structure sha_Hmac.J1 (key0 : ByteArray) (s0 : ByteArray) (Kr : ByteArray → Heap → Prop) (E : Value → Heap → Prop) (H : Heap) : Prop where
  h : sha_Hmac.J1.vc key0 s0 Kr E H
def sha_Hmac.vc (key0 : ByteArray) (s0 : ByteArray) (K : ByteArray → Heap → Prop) (E : Value → Heap → Prop) (h0 : Heap) : Prop :=
  (if (decide ((key0.size : Int) > 64)) = true then
  sha_Sum.c key0 (fun x0 h1 =>
  sha_Hmac.J1 x0 s0 K E h1) E h0
  else
  sha_Hmac.J1 key0 s0 K E h0)
structure sha_Hmac.c (key0 : ByteArray) (s0 : ByteArray) (K : ByteArray → Heap → Prop) (E : Value → Heap → Prop) (H : Heap) : Prop where
  h : sha_Hmac.vc key0 s0 (fun r0_0 H => ∃ H', Heap.Le H' H ∧ K r0_0 H') E H
def sha_Hmac.F : FT := fun args K E H => match args with
  | [(.string key0), (.string s0)] => sha_Hmac.c key0 s0 (fun r0_0 H => K (.string r0_0) H) E H
  | _ => False
noncomputable def sha_Hmac.Γ : FuncId → Option FT := Γof [(117, sha_Sum.F), (118, sha_pad.F)]
theorem sha_Hmac.hΓ : ∀ f F, sha_Hmac.Γ f = some F → CalleeOk Tryz.prog f F := Γof_ok (List.forall_mem_cons.2 ⟨sha_Sum.ok, List.forall_mem_cons.2 ⟨sha_pad.ok, fun _ h => nomatch h⟩⟩)
def sha_Hmac.J1.t : CT := fun Q E fr H => lenIs 19 fr (slS fr 0 fun key0 => slS fr 1 fun s0 => sha_Hmac.J1 key0 s0 (fun y4_0 H => Q .ret (mkF 19 [(4, (.string y4_0))]) H) E H)
noncomputable def sha_Hmac.J1.plan : Plan := .go
theorem sha_Hmac.J1.pok : PlanOk Tryz.prog sha_Hmac.J1.plan (sub [1, 1] sha_Hmac.body) := by
  have e : PlanOk Tryz.prog sha_Hmac.J1.plan (sub [1, 1] sha_Hmac.body) = (True) := by kernel_rfl
  exact e.mpr trivial
theorem sha_Hmac.J1.eq (key0 : ByteArray) (s0 : ByteArray) (Q : Ex → Fr → Heap → Prop) (E : Value → Heap → Prop) (H : Heap) :
    sha_Hmac.J1.vc key0 s0 (fun y4_0 H => Q .ret (mkF 19 [(4, (.string y4_0))]) H) E H = keepT [] [4] (fun i => []) (wC Tryz.prog sha_Hmac.Γ sha_Hmac.J1.plan (sub [1, 1] sha_Hmac.body)) Q E (mkF 19 [(0, (.string key0)), (1, (.string s0))]) H := by
  kernel_rfl
theorem sha_Hmac.J1.ok : SoundCode Tryz.prog (sub [1, 1] sha_Hmac.body) sha_Hmac.J1.t := by
  refine piece_sound (keepT_sound [] [4] (fun i => []) (wC_sound sha_Hmac.hΓ Tryz.hm sha_Hmac.J1.plan _ sha_Hmac.J1.pok)) ?_
  intro Q E fr H h
  unfold sha_Hmac.J1.t at h
  obtain ⟨hl, h⟩ := lenIs_elim h
  obtain ⟨key0, q0, h⟩ := slS_elim h
  obtain ⟨s0, q1, h⟩ := slS_elim h
  refine ⟨(mkF 19 [(0, (.string key0)), (1, (.string s0))]), fun a ha => ha.mk (Nat.le_of_eq hl.symm) (List.forall_mem_cons.2 ⟨q0, List.forall_mem_cons.2 ⟨q1, fun _ h => nomatch h⟩⟩), ?_⟩
  have e := sha_Hmac.J1.eq key0 s0 Q E H
  rw [← e]
  exact h.h
noncomputable def sha_Hmac.plan : Plan := .seq (.go) (.seq (.go) (.use sha_Hmac.J1.t))
theorem sha_Hmac.pok : PlanOk Tryz.prog sha_Hmac.plan sha_Hmac.body := by
  have e : PlanOk Tryz.prog sha_Hmac.plan sha_Hmac.body = ((True) ∧ ((True) ∧ (SoundCode Tryz.prog (sub [1, 1] sha_Hmac.body) sha_Hmac.J1.t))) := by kernel_rfl
  exact e.mpr ⟨trivial, ⟨trivial, sha_Hmac.J1.ok⟩⟩
theorem sha_Hmac.eq (key0 : ByteArray) (s0 : ByteArray) (K : Value → Heap → Prop) (E : Value → Heap → Prop) (H : Heap) :
    fnT Tryz.prog Tryz.f66 (wC Tryz.prog sha_Hmac.Γ sha_Hmac.plan sha_Hmac.body) [(.string key0), (.string s0)] K E H = sha_Hmac.vc key0 s0 (fun r0_0 H => K (.string r0_0) H) E H := by
  kernel_rfl
theorem sha_Hmac.Fe {args : List Value} {K E : Value → Heap → Prop} {H : Heap} (h : sha_Hmac.F args K E H) : ∃ key0 s0, args = [(.string key0), (.string s0)] ∧ sha_Hmac.c key0 s0 (fun r0_0 H => K (.string r0_0) H) E H := by
  unfold sha_Hmac.F at h
  split at h
  · exact ⟨_, _, rfl, h⟩
  · exact h.elim
theorem sha_Hmac.ok : CalleeOk Tryz.prog 66 sha_Hmac.F :=
  callee_ok sha_Hmac.hΓ (fn := Tryz.f66) (c := sha_Hmac.body) (T := wC Tryz.prog sha_Hmac.Γ sha_Hmac.plan sha_Hmac.body) (by kernel_rfl) (by kernel_rfl) (by kernel_rfl) (wC_sound sha_Hmac.hΓ Tryz.hm sha_Hmac.plan _ sha_Hmac.pok) fun _ K E H h => by
    obtain ⟨z0, z1, e, h⟩ := sha_Hmac.Fe h
    subst e
    have h2 : sha_Hmac.vc z0 z1 (fun r0_0 H => ∃ H', Heap.Le H' H ∧ K (.string r0_0) H') E H := h.h
    rw [sha_Hmac.eq z0 z1 (Fg K) E H]
    exact h2

/-! vizard/sha.Derive -/
noncomputable def sha_Derive.body : Code := Tryz.f29.body.getD .skip
def sha_Derive.vc (key0 : ByteArray) (label0 : ByteArray) (context0 : ByteArray) (K : ByteArray → Heap → Prop) (E : Value → Heap → Prop) (h0 : Heap) : Prop :=
  varint_Text.c label0 (fun x0 h1 =>
  varint_Text.c context0 (fun x1 h2 =>
  x0.size + x1.size ≤ 9223372036854775807 ∧
  sha_Hmac.c key0 (x0 ++ x1) K E h2) E h1) E h0
structure sha_Derive.c (key0 : ByteArray) (label0 : ByteArray) (context0 : ByteArray) (K : ByteArray → Heap → Prop) (E : Value → Heap → Prop) (H : Heap) : Prop where
  h : sha_Derive.vc key0 label0 context0 (fun r0_0 H => ∃ H', Heap.Le H' H ∧ K r0_0 H') E H
def sha_Derive.F : FT := fun args K E H => match args with
  | [(.string key0), (.string label0), (.string context0)] => sha_Derive.c key0 label0 context0 (fun r0_0 H => K (.string r0_0) H) E H
  | _ => False
noncomputable def sha_Derive.Γ : FuncId → Option FT := Γof [(66, sha_Hmac.F), (67, varint_Text.F)]
theorem sha_Derive.hΓ : ∀ f F, sha_Derive.Γ f = some F → CalleeOk Tryz.prog f F := Γof_ok (List.forall_mem_cons.2 ⟨sha_Hmac.ok, List.forall_mem_cons.2 ⟨varint_Text.ok, fun _ h => nomatch h⟩⟩)
noncomputable def sha_Derive.plan : Plan := .go
theorem sha_Derive.pok : PlanOk Tryz.prog sha_Derive.plan sha_Derive.body := by
  have e : PlanOk Tryz.prog sha_Derive.plan sha_Derive.body = (True) := by kernel_rfl
  exact e.mpr trivial
theorem sha_Derive.eq (key0 : ByteArray) (label0 : ByteArray) (context0 : ByteArray) (K : Value → Heap → Prop) (E : Value → Heap → Prop) (H : Heap) :
    fnT Tryz.prog Tryz.f29 (wC Tryz.prog sha_Derive.Γ sha_Derive.plan sha_Derive.body) [(.string key0), (.string label0), (.string context0)] K E H = sha_Derive.vc key0 label0 context0 (fun r0_0 H => K (.string r0_0) H) E H := by
  kernel_rfl
theorem sha_Derive.Fe {args : List Value} {K E : Value → Heap → Prop} {H : Heap} (h : sha_Derive.F args K E H) : ∃ key0 label0 context0, args = [(.string key0), (.string label0), (.string context0)] ∧ sha_Derive.c key0 label0 context0 (fun r0_0 H => K (.string r0_0) H) E H := by
  unfold sha_Derive.F at h
  split at h
  · exact ⟨_, _, _, rfl, h⟩
  · exact h.elim
theorem sha_Derive.ok : CalleeOk Tryz.prog 29 sha_Derive.F :=
  callee_ok sha_Derive.hΓ (fn := Tryz.f29) (c := sha_Derive.body) (T := wC Tryz.prog sha_Derive.Γ sha_Derive.plan sha_Derive.body) (by kernel_rfl) (by kernel_rfl) (by kernel_rfl) (wC_sound sha_Derive.hΓ Tryz.hm sha_Derive.plan _ sha_Derive.pok) fun _ K E H h => by
    obtain ⟨z0, z1, z2, e, h⟩ := sha_Derive.Fe h
    subst e
    have h2 : sha_Derive.vc z0 z1 z2 (fun r0_0 H => ∃ H', Heap.Le H' H ∧ K (.string r0_0) H') E H := h.h
    rw [sha_Derive.eq z0 z1 z2 (Fg K) E H]
    exact h2

/-! vizard/vizardref01.Size -/
noncomputable def vizardref01_Size.body : Code := Tryz.f166.body.getD .skip
def vizardref01_Size.J1.vc (n0 : Int) (x0 : Bool) (Kn : Heap → Prop) (Kr : Int → Heap → Prop) (E : Value → Heap → Prop) (h0 : Heap) : Prop :=
  (if x0 = true then
  Kr 0 h0
  else
  (if (decide (n0 < 64)) = true then
  Kr 1 h0
  else
  (if (decide (n0 < 16384)) = true then
  Kr 2 h0
  else
  (if (decide (n0 < 1073741824)) = true then
  Kr 4 h0
  else
  Kn h0))))
structure vizardref01_Size.J1 (n0 : Int) (x0 : Bool) (Kn : Heap → Prop) (Kr : Int → Heap → Prop) (E : Value → Heap → Prop) (H : Heap) : Prop where
  h : vizardref01_Size.J1.vc n0 x0 Kn Kr E H
def vizardref01_Size.vc (n0 : Int) (K : Int → Heap → Prop) (E : Value → Heap → Prop) (h0 : Heap) : Prop :=
  (if (decide (n0 < 0)) = true then
  vizardref01_Size.J1 n0 true (fun h1 =>
  K 8 h1) K E h0
  else
  vizardref01_Size.J1 n0 (decide (n0 > 4611686018427387903)) (fun h3 =>
  K 8 h3) K E h0)
structure vizardref01_Size.c (n0 : Int) (K : Int → Heap → Prop) (E : Value → Heap → Prop) (H : Heap) : Prop where
  h : vizardref01_Size.vc n0 (fun r0_0 H => ∃ H', Heap.Le H' H ∧ K r0_0 H') E H
def vizardref01_Size.F : FT := fun args K E H => match args with
  | [(.int .i64 n0)] => vizardref01_Size.c n0 (fun r0_0 H => K (.int .i64 r0_0) H) E H
  | _ => False
noncomputable def vizardref01_Size.Γ : FuncId → Option FT := Γof []
theorem vizardref01_Size.hΓ : ∀ f F, vizardref01_Size.Γ f = some F → CalleeOk Tryz.prog f F := Γof_ok (fun _ h => nomatch h)
def vizardref01_Size.J1.t : CT := fun Q E fr H => lenIs 19 fr (slI fr 0 .i64 fun n0 => slB fr 3 fun x0 => vizardref01_Size.J1 n0 x0 (fun  H => Q .normal (mkF 19 []) H) (fun y2_0 H => Q .ret (mkF 19 [(2, (.int .i64 y2_0))]) H) E H)
noncomputable def vizardref01_Size.J1.plan : Plan := .go
theorem vizardref01_Size.J1.pok : PlanOk Tryz.prog vizardref01_Size.J1.plan (sub [1, 0, 0, 1] vizardref01_Size.body) := by
  have e : PlanOk Tryz.prog vizardref01_Size.J1.plan (sub [1, 0, 0, 1] vizardref01_Size.body) = (True) := by kernel_rfl
  exact e.mpr trivial
theorem vizardref01_Size.J1.eq (n0 : Int) (x0 : Bool) (Q : Ex → Fr → Heap → Prop) (E : Value → Heap → Prop) (H : Heap) :
    vizardref01_Size.J1.vc n0 x0 (fun  H => Q .normal (mkF 19 []) H) (fun y2_0 H => Q .ret (mkF 19 [(2, (.int .i64 y2_0))]) H) E H = keepT [] [2] (fun i => []) (wC Tryz.prog vizardref01_Size.Γ vizardref01_Size.J1.plan (sub [1, 0, 0, 1] vizardref01_Size.body)) Q E (mkF 19 [(0, (.int .i64 n0)), (3, (.bool x0))]) H := by
  kernel_rfl
theorem vizardref01_Size.J1.ok : SoundCode Tryz.prog (sub [1, 0, 0, 1] vizardref01_Size.body) vizardref01_Size.J1.t := by
  refine piece_sound (keepT_sound [] [2] (fun i => []) (wC_sound vizardref01_Size.hΓ Tryz.hm vizardref01_Size.J1.plan _ vizardref01_Size.J1.pok)) ?_
  intro Q E fr H h
  unfold vizardref01_Size.J1.t at h
  obtain ⟨hl, h⟩ := lenIs_elim h
  obtain ⟨n0, q0, h⟩ := slI_elim h
  obtain ⟨x0, q3, h⟩ := slB_elim h
  refine ⟨(mkF 19 [(0, (.int .i64 n0)), (3, (.bool x0))]), fun a ha => ha.mk (Nat.le_of_eq hl.symm) (List.forall_mem_cons.2 ⟨q0, List.forall_mem_cons.2 ⟨q3, fun _ h => nomatch h⟩⟩), ?_⟩
  have e := vizardref01_Size.J1.eq n0 x0 Q E H
  rw [← e]
  exact h.h
noncomputable def vizardref01_Size.plan : Plan := .seq (.go) (.seq (.block (.seq (.go) (.use vizardref01_Size.J1.t))) (.go))
theorem vizardref01_Size.pok : PlanOk Tryz.prog vizardref01_Size.plan vizardref01_Size.body := by
  have e : PlanOk Tryz.prog vizardref01_Size.plan vizardref01_Size.body = ((True) ∧ (((True) ∧ (SoundCode Tryz.prog (sub [1, 0, 0, 1] vizardref01_Size.body) vizardref01_Size.J1.t)) ∧ (True))) := by kernel_rfl
  exact e.mpr ⟨trivial, ⟨⟨trivial, vizardref01_Size.J1.ok⟩, trivial⟩⟩
theorem vizardref01_Size.eq (n0 : Int) (K : Value → Heap → Prop) (E : Value → Heap → Prop) (H : Heap) :
    fnT Tryz.prog Tryz.f166 (wC Tryz.prog vizardref01_Size.Γ vizardref01_Size.plan vizardref01_Size.body) [(.int .i64 n0)] K E H = vizardref01_Size.vc n0 (fun r0_0 H => K (.int .i64 r0_0) H) E H := by
  kernel_rfl
theorem vizardref01_Size.Fe {args : List Value} {K E : Value → Heap → Prop} {H : Heap} (h : vizardref01_Size.F args K E H) : ∃ n0, args = [(.int .i64 n0)] ∧ vizardref01_Size.c n0 (fun r0_0 H => K (.int .i64 r0_0) H) E H := by
  unfold vizardref01_Size.F at h
  split at h
  · exact ⟨_, rfl, h⟩
  · exact h.elim
theorem vizardref01_Size.ok : CalleeOk Tryz.prog 166 vizardref01_Size.F :=
  callee_ok vizardref01_Size.hΓ (fn := Tryz.f166) (c := vizardref01_Size.body) (T := wC Tryz.prog vizardref01_Size.Γ vizardref01_Size.plan vizardref01_Size.body) (by kernel_rfl) (by kernel_rfl) (by kernel_rfl) (wC_sound vizardref01_Size.hΓ Tryz.hm vizardref01_Size.plan _ vizardref01_Size.pok) fun _ K E H h => by
    obtain ⟨z0, e, h⟩ := vizardref01_Size.Fe h
    subst e
    have h2 : vizardref01_Size.vc z0 (fun r0_0 H => ∃ H', Heap.Le H' H ∧ K (.int .i64 r0_0) H') E H := h.h
    rw [vizardref01_Size.eq z0 (Fg K) E H]
    exact h2

/-! vizard/vizardref01.Bytes -/
noncomputable def vizardref01_Bytes.body : Code := Tryz.f138.body.getD .skip
def vizardref01_Bytes.vc (self : Int → Int → (ByteArray → Heap → Prop) → (Value → Heap → Prop) → Heap → Prop) (n0 : Int) (k0 : Int) (K : ByteArray → Heap → Prop) (E : Value → Heap → Prop) (h0 : Heap) : Prop :=
  (if (k0 == 0) = true then
  K (⟨#[]⟩ : ByteArray) h0
  else
  256 ≠ (0 : Int) ∧
  256 ≠ (0 : Int) ∧
  (self (IntKind.i64.wrap (Int.tdiv n0 256)) (IntKind.i64.wrap (k0 - 1)) (fun x0 h1 =>
  (eqv h1 h1 (some (.int .u8 (IntKind.u8.wrap (Int.tmod n0 256)))) (.int .u8 (IntKind.u8.wrap (Int.tmod n0 256)))) ∧
  newB (.cells #[(.int .u8 (IntKind.u8.wrap (Int.tmod n0 256)))] 5) (fun b0 h2 =>
  rdBytes h2 (some (⟨b0, 0, none⟩ : Addr)) 1 fun x1 =>
  x0.size + x1.size ≤ 9223372036854775807 ∧
  K (x0 ++ x1) h2) h1) E h0) ∧
  newB (.cells #[(.int .u8 (IntKind.u8.wrap (Int.tmod n0 256)))] 5) (fun b1 h3 =>
  rdBytes h3 (some (⟨b1, 0, none⟩ : Addr)) 1 fun x2 =>
  self (IntKind.i64.wrap (Int.tdiv n0 256)) (IntKind.i64.wrap (k0 - 1)) (fun x3 h4 =>
  (rdBytes h4 (some (⟨b1, 0, none⟩ : Addr)) 1 fun x4 =>
  eqv h4 h4 (some (.string x2)) (.string x4)) ∧
  (eqv h4 h4 (some (.int .u8 (IntKind.u8.wrap (Int.tmod n0 256)))) (.int .u8 (IntKind.u8.wrap (Int.tmod n0 256)))) ∧
  x3.size + x2.size ≤ 9223372036854775807 ∧
  K (x3 ++ x2) h4) E h3) h0)
def vizardref01_Bytes.cn : Nat → Int → Int → (ByteArray → Heap → Prop) → (Value → Heap → Prop) → Heap → Prop
  | 0, _, _, _, _, _ => False
  | n + 1, n0, k0, K, E, H => vizardref01_Bytes.vc (vizardref01_Bytes.cn n) n0 k0 (fun r0_0 H => ∃ H', Heap.Le H' H ∧ K r0_0 H') E H
structure vizardref01_Bytes.c (n0 : Int) (k0 : Int) (K : ByteArray → Heap → Prop) (E : Value → Heap → Prop) (H : Heap) : Prop where
  h : ∃ n, vizardref01_Bytes.cn n n0 k0 K E H
def vizardref01_Bytes.Fn (n : Nat) : FT := fun args K E H => match args with
  | [(.int .i64 n0), (.int .i64 k0)] => vizardref01_Bytes.cn n n0 k0 (fun r0_0 H => K (.string r0_0) H) E H
  | _ => False
def vizardref01_Bytes.F : FT := fun args K E H => match args with
  | [(.int .i64 n0), (.int .i64 k0)] => vizardref01_Bytes.c n0 k0 (fun r0_0 H => K (.string r0_0) H) E H
  | _ => False
noncomputable def vizardref01_Bytes.Γ (n : Nat) : FuncId → Option FT := Γof [(138, vizardref01_Bytes.Fn n)]
theorem vizardref01_Bytes.hΓ (n : Nat) (hr : CalleeOk Tryz.prog 138 (vizardref01_Bytes.Fn n)) : ∀ f F, (vizardref01_Bytes.Γ n) f = some F → CalleeOk Tryz.prog f F := Γof_ok (List.forall_mem_cons.2 ⟨hr, fun _ h => nomatch h⟩)
noncomputable def vizardref01_Bytes.plan (n : Nat) : Plan := .seq (.go) (.seq (.go) (.seq (.draw ⟨[0, 1, 2, 3, 4, 5, 6, 7, 8, 9, 10], (dl [(0, []), (1, []), (2, []), (3, []), (5, []), (6, []), (7, [])] (.alt (dl [(4, [1, 3, 0, 2]), (8, [7, 6, 5]), (9, []), (10, [])] .fin) (dl [(8, [7, 6, 5]), (9, []), (4, [1, 3, 0, 2]), (10, [])] .fin))), [11]⟩) (.go)))
theorem vizardref01_Bytes.pok (n : Nat) (hr : CalleeOk Tryz.prog 138 (vizardref01_Bytes.Fn n)) : PlanOk Tryz.prog (vizardref01_Bytes.plan n) vizardref01_Bytes.body := by
  have e : PlanOk Tryz.prog (vizardref01_Bytes.plan n) vizardref01_Bytes.body = ((True) ∧ ((True) ∧ ((True) ∧ (True)))) := by kernel_rfl
  exact e.mpr ⟨trivial, ⟨trivial, ⟨trivial, trivial⟩⟩⟩
theorem vizardref01_Bytes.eq (n : Nat) (n0 : Int) (k0 : Int) (K : Value → Heap → Prop) (E : Value → Heap → Prop) (H : Heap) :
    fnT Tryz.prog Tryz.f138 (wC Tryz.prog (vizardref01_Bytes.Γ n) (vizardref01_Bytes.plan n) vizardref01_Bytes.body) [(.int .i64 n0), (.int .i64 k0)] K E H = vizardref01_Bytes.vc (vizardref01_Bytes.cn n) n0 k0 (fun r0_0 H => K (.string r0_0) H) E H := by
  kernel_rfl
theorem vizardref01_Bytes.Fne {n : Nat} {args : List Value} {K E : Value → Heap → Prop} {H : Heap} (h : vizardref01_Bytes.Fn n args K E H) : ∃ n0 k0, args = [(.int .i64 n0), (.int .i64 k0)] ∧ vizardref01_Bytes.cn n n0 k0 (fun r0_0 H => K (.string r0_0) H) E H := by
  unfold vizardref01_Bytes.Fn at h
  split at h
  · exact ⟨_, _, rfl, h⟩
  · exact h.elim
theorem vizardref01_Bytes.Fe {args : List Value} {K E : Value → Heap → Prop} {H : Heap} (h : vizardref01_Bytes.F args K E H) : ∃ n0 k0, args = [(.int .i64 n0), (.int .i64 k0)] ∧ vizardref01_Bytes.c n0 k0 (fun r0_0 H => K (.string r0_0) H) E H := by
  unfold vizardref01_Bytes.F at h
  split at h
  · exact ⟨_, _, rfl, h⟩
  · exact h.elim
theorem vizardref01_Bytes.okn : ∀ n, CalleeOk Tryz.prog 138 (vizardref01_Bytes.Fn n)
  | 0 => fun args K E H w hS h => by
    obtain ⟨z0, z1, e, h⟩ := vizardref01_Bytes.Fne h
    exact (show False from h).elim
  | n + 1 => have hr := vizardref01_Bytes.okn n
    callee_ok (vizardref01_Bytes.hΓ n hr) (fn := Tryz.f138) (c := vizardref01_Bytes.body) (T := wC Tryz.prog (vizardref01_Bytes.Γ n) (vizardref01_Bytes.plan n) vizardref01_Bytes.body) (by kernel_rfl) (by kernel_rfl) (by kernel_rfl) (wC_sound (vizardref01_Bytes.hΓ n hr) Tryz.hm (vizardref01_Bytes.plan n) _ (vizardref01_Bytes.pok n hr)) fun _ K E H h => by
    obtain ⟨z0, z1, e, h⟩ := vizardref01_Bytes.Fne h
    subst e
    have h2 : vizardref01_Bytes.vc (vizardref01_Bytes.cn n) z0 z1 (fun r0_0 H => ∃ H', Heap.Le H' H ∧ K (.string r0_0) H') E H := h
    rw [vizardref01_Bytes.eq n z0 z1 (Fg K) E H]
    exact h2
theorem vizardref01_Bytes.ok : CalleeOk Tryz.prog 138 vizardref01_Bytes.F := by
  intro args K E H w hS h
  obtain ⟨z0, z1, e, h⟩ := vizardref01_Bytes.Fe h
  subst e
  obtain ⟨n, h⟩ := h.h
  exact vizardref01_Bytes.okn n _ K E H w hS h

/-! vizard/vizardref01.Put -/
noncomputable def vizardref01_Put.body : Code := Tryz.f122.body.getD .skip
def vizardref01_Put.W1.vc (k0 : Int) (b0 : Option Addr) (b1 : Nat) (b2 : Nat) (mark0 : Int) (i0 : Int) (Kx0 : Int → Heap → Prop) (RR : Int → Int → Heap → Prop) (E : Value → Heap → Prop) (h0 : Heap) : Prop :=
  (if (decide (i0 < k0)) = true then
  RR (IntKind.u8.wrap (mark0 + 1)) (IntKind.i64.wrap (2 * i0)) h0
  else
  Kx0 mark0 h0)
structure vizardref01_Put.W1 (k0 : Int) (b0 : Option Addr) (b1 : Nat) (b2 : Nat) (mark0 : Int) (i0 : Int) (Kx0 : Int → Heap → Prop) (E : Value → Heap → Prop) (H : Heap) : Prop where
  h : Loop (fun (RR : Int × Int → Heap → Prop) (s : Int × Int) (H : Heap) => vizardref01_Put.W1.vc k0 b0 b1 b2 s.1 s.2 Kx0 (fun mark0 i0 H => RR (mark0, i0) H) E H) (mark0, i0) H
def vizardref01_Put.vc (n0 : Int) (K : ByteArray → Heap → Prop) (E : Value → Heap → Prop) (h0 : Heap) : Prop :=
  vizardref01_Size.c n0 (fun x0 h1 =>
  (if (x0 == 0) = true then
  K (⟨#[]⟩ : ByteArray) h1
  else
  vizardref01_Bytes.c n0 x0 (fun x1 h2 =>
  ∀ j0, newB (.cells ((byteVals x1).toArray ++ Array.replicate j0 (.int .u8 0)) 5 (x1.size + j0, x1.size + j0 + 1)) (fun b0 h3 =>
  vizardref01_Put.W1 x0 (some (⟨b0, 0, none⟩ : Addr)) x1.size (x1.size + j0) 0 1 (fun mark0 h4 =>
  nilc (some (⟨b0, 0, none⟩ : Addr)) fun a0 => (0 : Int) ≤ 0 ∧ 0 < (x1.size : Int) ∧
  ldI h4 .u8 (a0.add (0 * 1)) fun x2 =>
  nilc (some (⟨b0, 0, none⟩ : Addr)) fun a1 => (0 : Int) ≤ 0 ∧ 0 < (x1.size : Int) ∧
  stc h4 (a1.add (0 * 1)) (.int .u8 (IntKind.u8.wrap (x2 + (IntKind.u8.wrap (64 * mark0))))) fun h5 =>
  rdBytes h5 (some (⟨b0, 0, none⟩ : Addr)) x1.size fun x3 =>
  K x3 h5) E h3) h2) E h1)) E h0
structure vizardref01_Put.c (n0 : Int) (K : ByteArray → Heap → Prop) (E : Value → Heap → Prop) (H : Heap) : Prop where
  h : vizardref01_Put.vc n0 (fun r0_0 H => ∃ H', Heap.Le H' H ∧ K r0_0 H') E H
def vizardref01_Put.F : FT := fun args K E H => match args with
  | [(.int .i64 n0)] => vizardref01_Put.c n0 (fun r0_0 H => K (.string r0_0) H) E H
  | _ => False
noncomputable def vizardref01_Put.Γ : FuncId → Option FT := Γof [(138, vizardref01_Bytes.F), (166, vizardref01_Size.F)]
theorem vizardref01_Put.hΓ : ∀ f F, vizardref01_Put.Γ f = some F → CalleeOk Tryz.prog f F := Γof_ok (List.forall_mem_cons.2 ⟨vizardref01_Bytes.ok, List.forall_mem_cons.2 ⟨vizardref01_Size.ok, fun _ h => nomatch h⟩⟩)
def vizardref01_Put.W1.t : CT := fun Q E fr H => lenIs 32 fr (slI fr 3 .i64 fun k0 => slSl fr 4 fun b0 b1 b2 => slI fr 5 .u8 fun mark0 => slI fr 6 .i64 fun i0 => vizardref01_Put.W1 k0 b0 b1 b2 mark0 i0 (fun y5_0 H => Q (.exit 0) (mkF 32 [(4, (.slice b0 b1 b2)), (5, (.int .u8 y5_0))]) H) E H)
noncomputable def vizardref01_Put.W1.plan : Plan := .go
theorem vizardref01_Put.W1.pok : PlanOk Tryz.prog vizardref01_Put.W1.plan (sub [1, 1, 1, 1, 1, 0, 1, 0, 0] vizardref01_Put.body) := by
  have e : PlanOk Tryz.prog vizardref01_Put.W1.plan (sub [1, 1, 1, 1, 1, 0, 1, 0, 0] vizardref01_Put.body) = (True) := by kernel_rfl
  exact e.mpr trivial
theorem vizardref01_Put.W1.eq (k0 : Int) (b0 : Option Addr) (b1 : Nat) (b2 : Nat) (Q : Ex → Fr → Heap → Prop) (E : Value → Heap → Prop) (RR : Fr → Heap → Prop) (s : Int × Int) (H : Heap) :
    (fun (RR : Int × Int → Heap → Prop) (s : Int × Int) (H : Heap) => vizardref01_Put.W1.vc k0 b0 b1 b2 s.1 s.2 (fun y5_0 H => Q (.exit 0) (mkF 32 [(4, (.slice b0 b1 b2)), (5, (.int .u8 y5_0))]) H) (fun mark0 i0 H => RR (mark0, i0) H) E H) (fun s' H' => RR ((fun (s : Int × Int) => (mkF 32 [(3, (.int .i64 k0)), (4, (.slice b0 b1 b2)), (5, (.int .u8 s.1)), (6, (.int .i64 s.2))])) s') H') s H = keepT [3, 4, 5, 6] [] (fun i => if i = 0 then [4, 5] else []) (wC Tryz.prog vizardref01_Put.Γ vizardref01_Put.W1.plan (sub [1, 1, 1, 1, 1, 0, 1, 0, 0] vizardref01_Put.body)) (fun e fr' H' => match e with | .normal => RR fr' H' | .exit id => Q (.exit id) fr' H' | .ret => Q .ret fr' H') E ((fun (s : Int × Int) => (mkF 32 [(3, (.int .i64 k0)), (4, (.slice b0 b1 b2)), (5, (.int .u8 s.1)), (6, (.int .i64 s.2))])) s) H := by
  kernel_rfl
theorem vizardref01_Put.W1.ok : SoundCode Tryz.prog (sub [1, 1, 1, 1, 1, 0, 1, 0] vizardref01_Put.body) vizardref01_Put.W1.t := by
  have e : (sub [1, 1, 1, 1, 1, 0, 1, 0] vizardref01_Put.body) = .loop (sub [1, 1, 1, 1, 1, 0, 1, 0, 0] vizardref01_Put.body) := by kernel_rfl
  rw [e]
  refine piece_sound (loopN_sound (keepT_sound [3, 4, 5, 6] [] (fun i => if i = 0 then [4, 5] else []) (wC_sound vizardref01_Put.hΓ Tryz.hm vizardref01_Put.W1.plan _ vizardref01_Put.W1.pok))) ?_
  intro Q E fr H h
  unfold vizardref01_Put.W1.t at h
  obtain ⟨hl, h⟩ := lenIs_elim h
  obtain ⟨k0, q3, h⟩ := slI_elim h
  obtain ⟨b0, b1, b2, q4, h⟩ := slSl_elim h
  obtain ⟨mark0, q5, h⟩ := slI_elim h
  obtain ⟨i0, q6, h⟩ := slI_elim h
  obtain ⟨m, h⟩ := h.h
  refine ⟨(mkF 32 [(3, (.int .i64 k0)), (4, (.slice b0 b1 b2)), (5, (.int .u8 mark0)), (6, (.int .i64 i0))]), fun a ha => ha.mk (Nat.le_of_eq hl.symm) (List.forall_mem_cons.2 ⟨q3, List.forall_mem_cons.2 ⟨q4, List.forall_mem_cons.2 ⟨q5, List.forall_mem_cons.2 ⟨q6, fun _ h => nomatch h⟩⟩⟩⟩), m, ?_⟩
  have e := loopS_eq (B := (fun (RR : Int × Int → Heap → Prop) (s : Int × Int) (H : Heap) => vizardref01_Put.W1.vc k0 b0 b1 b2 s.1 s.2 (fun y5_0 H => Q (.exit 0) (mkF 32 [(4, (.slice b0 b1 b2)), (5, (.int .u8 y5_0))]) H) (fun mark0 i0 H => RR (mark0, i0) H) E H)) (A := keepT [3, 4, 5, 6] [] (fun i => if i = 0 then [4, 5] else []) (wC Tryz.prog vizardref01_Put.Γ vizardref01_Put.W1.plan (sub [1, 1, 1, 1, 1, 0, 1, 0, 0] vizardref01_Put.body))) (m := (fun (s : Int × Int) => (mkF 32 [(3, (.int .i64 k0)), (4, (.slice b0 b1 b2)), (5, (.int .u8 s.1)), (6, (.int .i64 s.2))]))) (Q := Q) (E := E) (fun RR s H => vizardref01_Put.W1.eq k0 b0 b1 b2 Q E RR s H) m (mark0, i0) H
  exact cast e h
noncomputable def vizardref01_Put.plan : Plan := .seq (.go) (.seq (.go) (.seq (.go) (.seq (.go) (.seq (.go) (.seq (.seq (.go) (.block (.use vizardref01_Put.W1.t))) (.go))))))
theorem vizardref01_Put.pok : PlanOk Tryz.prog vizardref01_Put.plan vizardref01_Put.body := by
  have e : PlanOk Tryz.prog vizardref01_Put.plan vizardref01_Put.body = ((True) ∧ ((True) ∧ ((True) ∧ ((True) ∧ ((True) ∧ (((True) ∧ (SoundCode Tryz.prog (sub [1, 1, 1, 1, 1, 0, 1, 0] vizardref01_Put.body) vizardref01_Put.W1.t)) ∧ (True))))))) := by kernel_rfl
  exact e.mpr ⟨trivial, ⟨trivial, ⟨trivial, ⟨trivial, ⟨trivial, ⟨⟨trivial, vizardref01_Put.W1.ok⟩, trivial⟩⟩⟩⟩⟩⟩
theorem vizardref01_Put.eq (n0 : Int) (K : Value → Heap → Prop) (E : Value → Heap → Prop) (H : Heap) :
    fnT Tryz.prog Tryz.f122 (wC Tryz.prog vizardref01_Put.Γ vizardref01_Put.plan vizardref01_Put.body) [(.int .i64 n0)] K E H = vizardref01_Put.vc n0 (fun r0_0 H => K (.string r0_0) H) E H := by
  kernel_rfl
theorem vizardref01_Put.Fe {args : List Value} {K E : Value → Heap → Prop} {H : Heap} (h : vizardref01_Put.F args K E H) : ∃ n0, args = [(.int .i64 n0)] ∧ vizardref01_Put.c n0 (fun r0_0 H => K (.string r0_0) H) E H := by
  unfold vizardref01_Put.F at h
  split at h
  · exact ⟨_, rfl, h⟩
  · exact h.elim
theorem vizardref01_Put.ok : CalleeOk Tryz.prog 122 vizardref01_Put.F :=
  callee_ok vizardref01_Put.hΓ (fn := Tryz.f122) (c := vizardref01_Put.body) (T := wC Tryz.prog vizardref01_Put.Γ vizardref01_Put.plan vizardref01_Put.body) (by kernel_rfl) (by kernel_rfl) (by kernel_rfl) (wC_sound vizardref01_Put.hΓ Tryz.hm vizardref01_Put.plan _ vizardref01_Put.pok) fun _ K E H h => by
    obtain ⟨z0, e, h⟩ := vizardref01_Put.Fe h
    subst e
    have h2 : vizardref01_Put.vc z0 (fun r0_0 H => ∃ H', Heap.Le H' H ∧ K (.string r0_0) H') E H := h.h
    rw [vizardref01_Put.eq z0 (Fg K) E H]
    exact h2

/-! vizard/vizardref01.Text -/
noncomputable def vizardref01_Text.body : Code := Tryz.f70.body.getD .skip
def vizardref01_Text.vc (s0 : ByteArray) (K : ByteArray → Heap → Prop) (E : Value → Heap → Prop) (h0 : Heap) : Prop :=
  vizardref01_Put.c (s0.size : Int) (fun x0 h1 =>
  x0.size + s0.size ≤ 9223372036854775807 ∧
  K (x0 ++ s0) h1) E h0
structure vizardref01_Text.c (s0 : ByteArray) (K : ByteArray → Heap → Prop) (E : Value → Heap → Prop) (H : Heap) : Prop where
  h : vizardref01_Text.vc s0 (fun r0_0 H => ∃ H', Heap.Le H' H ∧ K r0_0 H') E H
def vizardref01_Text.F : FT := fun args K E H => match args with
  | [(.string s0)] => vizardref01_Text.c s0 (fun r0_0 H => K (.string r0_0) H) E H
  | _ => False
noncomputable def vizardref01_Text.Γ : FuncId → Option FT := Γof [(122, vizardref01_Put.F)]
theorem vizardref01_Text.hΓ : ∀ f F, vizardref01_Text.Γ f = some F → CalleeOk Tryz.prog f F := Γof_ok (List.forall_mem_cons.2 ⟨vizardref01_Put.ok, fun _ h => nomatch h⟩)
noncomputable def vizardref01_Text.plan : Plan := .go
theorem vizardref01_Text.pok : PlanOk Tryz.prog vizardref01_Text.plan vizardref01_Text.body := by
  have e : PlanOk Tryz.prog vizardref01_Text.plan vizardref01_Text.body = (True) := by kernel_rfl
  exact e.mpr trivial
theorem vizardref01_Text.eq (s0 : ByteArray) (K : Value → Heap → Prop) (E : Value → Heap → Prop) (H : Heap) :
    fnT Tryz.prog Tryz.f70 (wC Tryz.prog vizardref01_Text.Γ vizardref01_Text.plan vizardref01_Text.body) [(.string s0)] K E H = vizardref01_Text.vc s0 (fun r0_0 H => K (.string r0_0) H) E H := by
  kernel_rfl
theorem vizardref01_Text.Fe {args : List Value} {K E : Value → Heap → Prop} {H : Heap} (h : vizardref01_Text.F args K E H) : ∃ s0, args = [(.string s0)] ∧ vizardref01_Text.c s0 (fun r0_0 H => K (.string r0_0) H) E H := by
  unfold vizardref01_Text.F at h
  split at h
  · exact ⟨_, rfl, h⟩
  · exact h.elim
theorem vizardref01_Text.ok : CalleeOk Tryz.prog 70 vizardref01_Text.F :=
  callee_ok vizardref01_Text.hΓ (fn := Tryz.f70) (c := vizardref01_Text.body) (T := wC Tryz.prog vizardref01_Text.Γ vizardref01_Text.plan vizardref01_Text.body) (by kernel_rfl) (by kernel_rfl) (by kernel_rfl) (wC_sound vizardref01_Text.hΓ Tryz.hm vizardref01_Text.plan _ vizardref01_Text.pok) fun _ K E H h => by
    obtain ⟨z0, e, h⟩ := vizardref01_Text.Fe h
    subst e
    have h2 : vizardref01_Text.vc z0 (fun r0_0 H => ∃ H', Heap.Le H' H ∧ K (.string r0_0) H') E H := h.h
    rw [vizardref01_Text.eq z0 (Fg K) E H]
    exact h2

/-! vizard/vizardref05.first -/
noncomputable def vizardref05_first.body : Code := Tryz.f163.body.getD .skip
def vizardref05_first.vc (K : Option Addr → Nat → Nat → Heap → Prop) (E : Value → Heap → Prop) (h0 : Heap) : Prop :=
  newB (.cells #[(.int .u32 1779033703), (.int .u32 3144134277), (.int .u32 1013904242), (.int .u32 2773480762), (.int .u32 1359893119), (.int .u32 2600822924), (.int .u32 528734635), (.int .u32 1541459225)] 197) (fun b0 h1 =>
  K (some (⟨b0, 0, none⟩ : Addr)) 8 8 h1) h0
structure vizardref05_first.c (K : Option Addr → Nat → Nat → Heap → Prop) (E : Value → Heap → Prop) (H : Heap) : Prop where
  h : vizardref05_first.vc  (fun r0_0 r0_1 r0_2 H => ∃ H', Heap.Le H' H ∧ K r0_0 r0_1 r0_2 H') E H
def vizardref05_first.F : FT := fun args K E H => match args with
  | [] => vizardref05_first.c  (fun r0_0 r0_1 r0_2 H => K (.slice r0_0 r0_1 r0_2) H) E H
  | _ => False
noncomputable def vizardref05_first.Γ : FuncId → Option FT := Γof []
theorem vizardref05_first.hΓ : ∀ f F, vizardref05_first.Γ f = some F → CalleeOk Tryz.prog f F := Γof_ok (fun _ h => nomatch h)
noncomputable def vizardref05_first.plan : Plan := .go
theorem vizardref05_first.pok : PlanOk Tryz.prog vizardref05_first.plan vizardref05_first.body := by
  have e : PlanOk Tryz.prog vizardref05_first.plan vizardref05_first.body = (True) := by kernel_rfl
  exact e.mpr trivial
theorem vizardref05_first.eq (K : Value → Heap → Prop) (E : Value → Heap → Prop) (H : Heap) :
    fnT Tryz.prog Tryz.f163 (wC Tryz.prog vizardref05_first.Γ vizardref05_first.plan vizardref05_first.body) [] K E H = vizardref05_first.vc  (fun r0_0 r0_1 r0_2 H => K (.slice r0_0 r0_1 r0_2) H) E H := by
  kernel_rfl
theorem vizardref05_first.Fe {args : List Value} {K E : Value → Heap → Prop} {H : Heap} (h : vizardref05_first.F args K E H) : args = [] ∧ vizardref05_first.c  (fun r0_0 r0_1 r0_2 H => K (.slice r0_0 r0_1 r0_2) H) E H := by
  unfold vizardref05_first.F at h
  split at h
  · exact ⟨rfl, h⟩
  · exact h.elim
theorem vizardref05_first.ok : CalleeOk Tryz.prog 163 vizardref05_first.F :=
  callee_ok vizardref05_first.hΓ (fn := Tryz.f163) (c := vizardref05_first.body) (T := wC Tryz.prog vizardref05_first.Γ vizardref05_first.plan vizardref05_first.body) (by kernel_rfl) (by kernel_rfl) (by kernel_rfl) (wC_sound vizardref05_first.hΓ Tryz.hm vizardref05_first.plan _ vizardref05_first.pok) fun _ K E H h => by
    obtain ⟨e, h⟩ := vizardref05_first.Fe h
    subst e
    have h2 : vizardref05_first.vc (fun r0_0 r0_1 r0_2 H => ∃ H', Heap.Le H' H ∧ K (.slice r0_0 r0_1 r0_2) H') E H := h.h
    rw [vizardref05_first.eq (Fg K) E H]
    exact h2

/-! vizard/vizardref05.constants -/
noncomputable def vizardref05_constants.body : Code := Tryz.f164.body.getD .skip
def vizardref05_constants.vc (K : Option Addr → Nat → Nat → Heap → Prop) (E : Value → Heap → Prop) (h0 : Heap) : Prop :=
  newB (.cells #[(.int .u32 1116352408), (.int .u32 1899447441), (.int .u32 3049323471), (.int .u32 3921009573), (.int .u32 961987163), (.int .u32 1508970993), (.int .u32 2453635748), (.int .u32 2870763221), (.int .u32 3624381080), (.int .u32 310598401), (.int .u32 607225278), (.int .u32 1426881987), (.int .u32 1925078388), (.int .u32 2162078206), (.int .u32 2614888103), (.int .u32 3248222580), (.int .u32 3835390401), (.int .u32 4022224774), (.int .u32 264347078), (.int .u32 604807628), (.int .u32 770255983), (.int .u32 1249150122), (.int .u32 1555081692), (.int .u32 1996064986), (.int .u32 2554220882), (.int .u32 2821834349), (.int .u32 2952996808), (.int .u32 3210313671), (.int .u32 3336571891), (.int .u32 3584528711), (.int .u32 113926993), (.int .u32 338241895), (.int .u32 666307205), (.int .u32 773529912), (.int .u32 1294757372), (.int .u32 1396182291), (.int .u32 1695183700), (.int .u32 1986661051), (.int .u32 2177026350), (.int .u32 2456956037), (.int .u32 2730485921), (.int .u32 2820302411), (.int .u32 3259730800), (.int .u32 3345764771), (.int .u32 3516065817), (.int .u32 3600352804), (.int .u32 4094571909), (.int .u32 275423344), (.int .u32 430227734), (.int .u32 506948616), (.int .u32 659060556), (.int .u32 883997877), (.int .u32 958139571), (.int .u32 1322822218), (.int .u32 1537002063), (.int .u32 1747873779), (.int .u32 1955562222), (.int .u32 2024104815), (.int .u32 2227730452), (.int .u32 2361852424), (.int .u32 2428436474), (.int .u32 2756734187), (.int .u32 3204031479), (.int .u32 3329325298)] 197) (fun b0 h1 =>
  K (some (⟨b0, 0, none⟩ : Addr)) 64 64 h1) h0
structure vizardref05_constants.c (K : Option Addr → Nat → Nat → Heap → Prop) (E : Value → Heap → Prop) (H : Heap) : Prop where
  h : vizardref05_constants.vc  (fun r0_0 r0_1 r0_2 H => ∃ H', Heap.Le H' H ∧ K r0_0 r0_1 r0_2 H') E H
def vizardref05_constants.F : FT := fun args K E H => match args with
  | [] => vizardref05_constants.c  (fun r0_0 r0_1 r0_2 H => K (.slice r0_0 r0_1 r0_2) H) E H
  | _ => False
noncomputable def vizardref05_constants.Γ : FuncId → Option FT := Γof []
theorem vizardref05_constants.hΓ : ∀ f F, vizardref05_constants.Γ f = some F → CalleeOk Tryz.prog f F := Γof_ok (fun _ h => nomatch h)
noncomputable def vizardref05_constants.plan : Plan := .go
theorem vizardref05_constants.pok : PlanOk Tryz.prog vizardref05_constants.plan vizardref05_constants.body := by
  have e : PlanOk Tryz.prog vizardref05_constants.plan vizardref05_constants.body = (True) := by kernel_rfl
  exact e.mpr trivial
theorem vizardref05_constants.eq (K : Value → Heap → Prop) (E : Value → Heap → Prop) (H : Heap) :
    fnT Tryz.prog Tryz.f164 (wC Tryz.prog vizardref05_constants.Γ vizardref05_constants.plan vizardref05_constants.body) [] K E H = vizardref05_constants.vc  (fun r0_0 r0_1 r0_2 H => K (.slice r0_0 r0_1 r0_2) H) E H := by
  kernel_rfl
theorem vizardref05_constants.Fe {args : List Value} {K E : Value → Heap → Prop} {H : Heap} (h : vizardref05_constants.F args K E H) : args = [] ∧ vizardref05_constants.c  (fun r0_0 r0_1 r0_2 H => K (.slice r0_0 r0_1 r0_2) H) E H := by
  unfold vizardref05_constants.F at h
  split at h
  · exact ⟨rfl, h⟩
  · exact h.elim
theorem vizardref05_constants.ok : CalleeOk Tryz.prog 164 vizardref05_constants.F :=
  callee_ok vizardref05_constants.hΓ (fn := Tryz.f164) (c := vizardref05_constants.body) (T := wC Tryz.prog vizardref05_constants.Γ vizardref05_constants.plan vizardref05_constants.body) (by kernel_rfl) (by kernel_rfl) (by kernel_rfl) (wC_sound vizardref05_constants.hΓ Tryz.hm vizardref05_constants.plan _ vizardref05_constants.pok) fun _ K E H h => by
    obtain ⟨e, h⟩ := vizardref05_constants.Fe h
    subst e
    have h2 : vizardref05_constants.vc (fun r0_0 r0_1 r0_2 H => ∃ H', Heap.Le H' H ∧ K (.slice r0_0 r0_1 r0_2) H') E H := h.h
    rw [vizardref05_constants.eq (Fg K) E H]
    exact h2

/-! vizard/vizardref05.turn -/
noncomputable def vizardref05_turn.body : Code := Tryz.f201.body.getD .skip
def vizardref05_turn.vc (x0 : Int) (n0 : Int) (K : Int → Heap → Prop) (E : Value → Heap → Prop) (h0 : Heap) : Prop :=
  (0 : Int) ≤ n0 ∧
  (0 : Int) ≤ (IntKind.i64.wrap (32 - n0)) ∧
  K (bits .or .u32 (shrI .u32 x0 n0) (shlI .u32 x0 (IntKind.i64.wrap (32 - n0)))) h0
structure vizardref05_turn.c (x0 : Int) (n0 : Int) (K : Int → Heap → Prop) (E : Value → Heap → Prop) (H : Heap) : Prop where
  h : vizardref05_turn.vc x0 n0 (fun r0_0 H => ∃ H', Heap.Le H' H ∧ K r0_0 H') E H
def vizardref05_turn.F : FT := fun args K E H => match args with
  | [(.int .u32 x0), (.int .i64 n0)] => vizardref05_turn.c x0 n0 (fun r0_0 H => K (.int .u32 r0_0) H) E H
  | _ => False
noncomputable def vizardref05_turn.Γ : FuncId → Option FT := Γof []
theorem vizardref05_turn.hΓ : ∀ f F, vizardref05_turn.Γ f = some F → CalleeOk Tryz.prog f F := Γof_ok (fun _ h => nomatch h)
noncomputable def vizardref05_turn.plan : Plan := .seq (.go) (.seq (.draw ⟨[0, 1, 2, 3, 4, 5, 6, 7], (dl [(0, []), (1, []), (2, []), (3, []), (4, []), (5, []), (6, []), (7, [])] .fin), [8]⟩) (.go))
theorem vizardref05_turn.pok : PlanOk Tryz.prog vizardref05_turn.plan vizardref05_turn.body := by
  have e : PlanOk Tryz.prog vizardref05_turn.plan vizardref05_turn.body = ((True) ∧ ((True) ∧ (True))) := by kernel_rfl
  exact e.mpr ⟨trivial, ⟨trivial, trivial⟩⟩
theorem vizardref05_turn.eq (x0 : Int) (n0 : Int) (K : Value → Heap → Prop) (E : Value → Heap → Prop) (H : Heap) :
    fnT Tryz.prog Tryz.f201 (wC Tryz.prog vizardref05_turn.Γ vizardref05_turn.plan vizardref05_turn.body) [(.int .u32 x0), (.int .i64 n0)] K E H = vizardref05_turn.vc x0 n0 (fun r0_0 H => K (.int .u32 r0_0) H) E H := by
  kernel_rfl
theorem vizardref05_turn.Fe {args : List Value} {K E : Value → Heap → Prop} {H : Heap} (h : vizardref05_turn.F args K E H) : ∃ x0 n0, args = [(.int .u32 x0), (.int .i64 n0)] ∧ vizardref05_turn.c x0 n0 (fun r0_0 H => K (.int .u32 r0_0) H) E H := by
  unfold vizardref05_turn.F at h
  split at h
  · exact ⟨_, _, rfl, h⟩
  · exact h.elim
theorem vizardref05_turn.ok : CalleeOk Tryz.prog 201 vizardref05_turn.F :=
  callee_ok vizardref05_turn.hΓ (fn := Tryz.f201) (c := vizardref05_turn.body) (T := wC Tryz.prog vizardref05_turn.Γ vizardref05_turn.plan vizardref05_turn.body) (by kernel_rfl) (by kernel_rfl) (by kernel_rfl) (wC_sound vizardref05_turn.hΓ Tryz.hm vizardref05_turn.plan _ vizardref05_turn.pok) fun _ K E H h => by
    obtain ⟨z0, z1, e, h⟩ := vizardref05_turn.Fe h
    subst e
    have h2 : vizardref05_turn.vc z0 z1 (fun r0_0 H => ∃ H', Heap.Le H' H ∧ K (.int .u32 r0_0) H') E H := h.h
    rw [vizardref05_turn.eq z0 z1 (Fg K) E H]
    exact h2

/-! vizard/vizardref05.words -/
noncomputable def vizardref05_words.body : Code := Tryz.f200.body.getD .skip
def vizardref05_words.W1.vc (s0 : ByteArray) (w0 : Option Addr) (w1 : Nat) (w2 : Nat) (t0 : Int) (Kx0 : Heap → Prop) (RR : Int → Heap → Prop) (E : Value → Heap → Prop) (h0 : Heap) : Prop :=
  (if (decide (t0 < 16)) = true then
  (0 : Int) ≤ (IntKind.i64.wrap (4 * t0)) ∧ (IntKind.i64.wrap (4 * t0)) < (s0.size : Int) ∧
  (0 : Int) ≤ (IntKind.i64.wrap ((IntKind.i64.wrap (4 * t0)) + 1)) ∧ (IntKind.i64.wrap ((IntKind.i64.wrap (4 * t0)) + 1)) < (s0.size : Int) ∧
  (0 : Int) ≤ (IntKind.i64.wrap ((IntKind.i64.wrap (4 * t0)) + 2)) ∧ (IntKind.i64.wrap ((IntKind.i64.wrap (4 * t0)) + 2)) < (s0.size : Int) ∧
  (0 : Int) ≤ (IntKind.i64.wrap ((IntKind.i64.wrap (4 * t0)) + 3)) ∧ (IntKind.i64.wrap ((IntKind.i64.wrap (4 * t0)) + 3)) < (s0.size : Int) ∧
  nilc w0 fun a0 => (0 : Int) ≤ t0 ∧ t0 < (w1 : Int) ∧
  stc h0 (a0.add (t0.toNat * 1)) (.int .u32 (IntKind.u32.wrap ((IntKind.u32.wrap ((IntKind.u32.wrap ((IntKind.u32.wrap ((IntKind.u32.wrap (bt s0 (IntKind.i64.wrap (4 * t0)))) * 16777216)) + (IntKind.u32.wrap ((IntKind.u32.wrap (bt s0 (IntKind.i64.wrap ((IntKind.i64.wrap (4 * t0)) + 1)))) * 65536)))) + (IntKind.u32.wrap ((IntKind.u32.wrap (bt s0 (IntKind.i64.wrap ((IntKind.i64.wrap (4 * t0)) + 2)))) * 256)))) + (IntKind.u32.wrap (bt s0 (IntKind.i64.wrap ((IntKind.i64.wrap (4 * t0)) + 3))))))) fun h1 =>
  RR (IntKind.i64.wrap (t0 + 1)) h1
  else
  Kx0 h0)
structure vizardref05_words.W1 (s0 : ByteArray) (w0 : Option Addr) (w1 : Nat) (w2 : Nat) (t0 : Int) (Kx0 : Heap → Prop) (E : Value → Heap → Prop) (H : Heap) : Prop where
  h : Loop (fun (RR : Int → Heap → Prop) (s : Int) (H : Heap) => vizardref05_words.W1.vc s0 w0 w1 w2 s Kx0 (fun t0 H => RR (t0) H) E H) (t0) H
def vizardref05_words.W2.vc (w0 : Option Addr) (w1 : Nat) (w2 : Nat) (t0 : Int) (Kx2 : Heap → Prop) (RR : Int → Heap → Prop) (E : Value → Heap → Prop) (h0 : Heap) : Prop :=
  (if (decide (t0 < 64)) = true then
  nilc w0 fun a0 => (0 : Int) ≤ (IntKind.i64.wrap (t0 - 15)) ∧ (IntKind.i64.wrap (t0 - 15)) < (w1 : Int) ∧
  ldI h0 .u32 (a0.add ((IntKind.i64.wrap (t0 - 15)).toNat * 1)) fun x0 =>
  nilc w0 fun a1 => (0 : Int) ≤ (IntKind.i64.wrap (t0 - 2)) ∧ (IntKind.i64.wrap (t0 - 2)) < (w1 : Int) ∧
  ldI h0 .u32 (a1.add ((IntKind.i64.wrap (t0 - 2)).toNat * 1)) fun x1 =>
  vizardref05_turn.c x0 7 (fun x2 h1 =>
  vizardref05_turn.c x0 18 (fun x3 h2 =>
  (0 : Int) ≤ 3 ∧
  vizardref05_turn.c x1 17 (fun x4 h3 =>
  vizardref05_turn.c x1 19 (fun x5 h4 =>
  (0 : Int) ≤ 10 ∧
  nilc w0 fun a2 => (0 : Int) ≤ (IntKind.i64.wrap (t0 - 7)) ∧ (IntKind.i64.wrap (t0 - 7)) < (w1 : Int) ∧
  ldI h4 .u32 (a2.add ((IntKind.i64.wrap (t0 - 7)).toNat * 1)) fun x6 =>
  nilc w0 fun a3 => (0 : Int) ≤ (IntKind.i64.wrap (t0 - 16)) ∧ (IntKind.i64.wrap (t0 - 16)) < (w1 : Int) ∧
  ldI h4 .u32 (a3.add ((IntKind.i64.wrap (t0 - 16)).toNat * 1)) fun x7 =>
  nilc w0 fun a4 => (0 : Int) ≤ t0 ∧ t0 < (w1 : Int) ∧
  stc h4 (a4.add (t0.toNat * 1)) (.int .u32 (IntKind.u32.wrap ((IntKind.u32.wrap ((IntKind.u32.wrap ((bits .xor .u32 (bits .xor .u32 x4 x5) (shrI .u32 x1 10)) + x6)) + (bits .xor .u32 (bits .xor .u32 x2 x3) (shrI .u32 x0 3)))) + x7))) fun h5 =>
  RR (IntKind.i64.wrap (t0 + 1)) h5) E h3) E h2) E h1) E h0
  else
  Kx2 h0)
structure vizardref05_words.W2 (w0 : Option Addr) (w1 : Nat) (w2 : Nat) (t0 : Int) (Kx2 : Heap → Prop) (E : Value → Heap → Prop) (H : Heap) : Prop where
  h : Loop (fun (RR : Int → Heap → Prop) (s : Int) (H : Heap) => vizardref05_words.W2.vc w0 w1 w2 s Kx2 (fun t0 H => RR (t0) H) E H) (t0) H
def vizardref05_words.vc (s0 : ByteArray) (K : Option Addr → Nat → Nat → Heap → Prop) (E : Value → Heap → Prop) (h0 : Heap) : Prop :=
  (0 : Int) ≤ 64 ∧ (64 : Int) ≤ 64 ∧ (64 : Int) ≤ 9223372036854775807 ∧ (64 : Int) * 4 ≤ 281474976710656 ∧ newB (.cells (zerosOf (.int .u32 0) 64).toArray 197) (fun b0 h1 =>
  vizardref05_words.W1 s0 (some (⟨b0, 0, none⟩ : Addr)) 64 64 0 (fun h2 =>
  vizardref05_words.W2 (some (⟨b0, 0, none⟩ : Addr)) 64 64 16 (fun h3 =>
  K (some (⟨b0, 0, none⟩ : Addr)) 64 64 h3) E h2) E h1) h0
structure vizardref05_words.c (s0 : ByteArray) (K : Option Addr → Nat → Nat → Heap → Prop) (E : Value → Heap → Prop) (H : Heap) : Prop where
  h : vizardref05_words.vc s0 (fun r0_0 r0_1 r0_2 H => ∃ H', Heap.Le H' H ∧ K r0_0 r0_1 r0_2 H') E H
def vizardref05_words.F : FT := fun args K E H => match args with
  | [(.string s0)] => vizardref05_words.c s0 (fun r0_0 r0_1 r0_2 H => K (.slice r0_0 r0_1 r0_2) H) E H
  | _ => False
noncomputable def vizardref05_words.Γ : FuncId → Option FT := Γof [(201, vizardref05_turn.F)]
theorem vizardref05_words.hΓ : ∀ f F, vizardref05_words.Γ f = some F → CalleeOk Tryz.prog f F := Γof_ok (List.forall_mem_cons.2 ⟨vizardref05_turn.ok, fun _ h => nomatch h⟩)
def vizardref05_words.W1.t : CT := fun Q E fr H => lenIs 96 fr (slS fr 0 fun s0 => slSl fr 3 fun w0 w1 w2 => slI fr 4 .i64 fun t0 => vizardref05_words.W1 s0 w0 w1 w2 t0 (fun  H => Q (.exit 0) (mkF 96 [(3, (.slice w0 w1 w2))]) H) E H)
noncomputable def vizardref05_words.W1.plan : Plan := .seq (.go) (.seq (.block (.draw ⟨[0, 1, 2, 3, 4, 5, 6, 7, 8, 9, 10, 11, 12, 13, 14, 15, 16, 17, 18, 19, 20, 21, 22, 23, 24, 25, 26, 27, 28, 29, 30, 31, 32], (dl [(0, []), (1, []), (2, []), (3, []), (4, []), (5, []), (6, []), (7, []), (8, []), (9, []), (10, []), (11, []), (12, []), (13, []), (14, []), (15, []), (16, []), (17, []), (18, []), (19, []), (20, []), (21, []), (22, []), (23, []), (24, []), (25, []), (26, []), (27, []), (28, []), (29, []), (30, []), (31, []), (32, [31, 30, 0, 1, 2, 3, 4, 5, 6, 7, 8, 9, 10, 11, 12, 13, 14, 15, 16, 17, 18, 19, 20, 21, 22, 23, 24, 25, 26, 27, 28, 29])] .fin), []⟩)) (.go))
theorem vizardref05_words.W1.pok : PlanOk Tryz.prog vizardref05_words.W1.plan (sub [1, 1, 0, 1, 0, 0] vizardref05_words.body) := by
  have e : PlanOk Tryz.prog vizardref05_words.W1.plan (sub [1, 1, 0, 1, 0, 0] vizardref05_words.body) = ((True) ∧ ((True) ∧ (True))) := by kernel_rfl
  exact e.mpr ⟨trivial, ⟨trivial, trivial⟩⟩
theorem vizardref05_words.W1.eq (s0 : ByteArray) (w0 : Option Addr) (w1 : Nat) (w2 : Nat) (Q : Ex → Fr → Heap → Prop) (E : Value → Heap → Prop) (RR : Fr → Heap → Prop) (s : Int) (H : Heap) :
    (fun (RR : Int → Heap → Prop) (s : Int) (H : Heap) => vizardref05_words.W1.vc s0 w0 w1 w2 s (fun  H => Q (.exit 0) (mkF 96 [(3, (.slice w0 w1 w2))]) H) (fun t0 H => RR (t0) H) E H) (fun s' H' => RR ((fun (s : Int) => (mkF 96 [(0, (.string s0)), (3, (.slice w0 w1 w2)), (4, (.int .i64 s))])) s') H') s H = keepT [0, 3, 4] [] (fun i => if i = 0 then [3] else []) (wC Tryz.prog vizardref05_words.Γ vizardref05_words.W1.plan (sub [1, 1, 0, 1, 0, 0] vizardref05_words.body)) (fun e fr' H' => match e with | .normal => RR fr' H' | .exit id => Q (.exit id) fr' H' | .ret => Q .ret fr' H') E ((fun (s : Int) => (mkF 96 [(0, (.string s0)), (3, (.slice w0 w1 w2)), (4, (.int .i64 s))])) s) H := by
  kernel_rfl
theorem vizardref05_words.W1.ok : SoundCode Tryz.prog (sub [1, 1, 0, 1, 0] vizardref05_words.body) vizardref05_words.W1.t := by
  have e : (sub [1, 1, 0, 1, 0] vizardref05_words.body) = .loop (sub [1, 1, 0, 1, 0, 0] vizardref05_words.body) := by kernel_rfl
  rw [e]
  refine piece_sound (loopN_sound (keepT_sound [0, 3, 4] [] (fun i => if i = 0 then [3] else []) (wC_sound vizardref05_words.hΓ Tryz.hm vizardref05_words.W1.plan _ vizardref05_words.W1.pok))) ?_
  intro Q E fr H h
  unfold vizardref05_words.W1.t at h
  obtain ⟨hl, h⟩ := lenIs_elim h
  obtain ⟨s0, q0, h⟩ := slS_elim h
  obtain ⟨w0, w1, w2, q3, h⟩ := slSl_elim h
  obtain ⟨t0, q4, h⟩ := slI_elim h
  obtain ⟨m, h⟩ := h.h
  refine ⟨(mkF 96 [(0, (.string s0)), (3, (.slice w0 w1 w2)), (4, (.int .i64 t0))]), fun a ha => ha.mk (Nat.le_of_eq hl.symm) (List.forall_mem_cons.2 ⟨q0, List.forall_mem_cons.2 ⟨q3, List.forall_mem_cons.2 ⟨q4, fun _ h => nomatch h⟩⟩⟩), m, ?_⟩
  have e := loopS_eq (B := (fun (RR : Int → Heap → Prop) (s : Int) (H : Heap) => vizardref05_words.W1.vc s0 w0 w1 w2 s (fun  H => Q (.exit 0) (mkF 96 [(3, (.slice w0 w1 w2))]) H) (fun t0 H => RR (t0) H) E H)) (A := keepT [0, 3, 4] [] (fun i => if i = 0 then [3] else []) (wC Tryz.prog vizardref05_words.Γ vizardref05_words.W1.plan (sub [1, 1, 0, 1, 0, 0] vizardref05_words.body))) (m := (fun (s : Int) => (mkF 96 [(0, (.string s0)), (3, (.slice w0 w1 w2)), (4, (.int .i64 s))]))) (Q := Q) (E := E) (fun RR s H => vizardref05_words.W1.eq s0 w0 w1 w2 Q E RR s H) m (t0) H
  exact cast e h
def vizardref05_words.W2.t : CT := fun Q E fr H => lenIs 96 fr (slSl fr 3 fun w0 w1 w2 => slI fr 5 .i64 fun t0 => vizardref05_words.W2 w0 w1 w2 t0 (fun  H => Q (.exit 2) (mkF 96 [(3, (.slice w0 w1 w2))]) H) E H)
noncomputable def vizardref05_words.W2.plan : Plan := .seq (.go) (.seq (.block (.seq (.draw ⟨[0, 1, 2, 3, 4, 5, 6, 7, 8, 9, 10], (dl [(0, []), (1, []), (2, []), (3, []), (4, []), (5, []), (6, []), (7, []), (8, []), (9, []), (10, [])] .fin), [11]⟩) (.seq (.go) (.seq (.go) (.draw ⟨[0, 1, 2, 3, 4, 5, 6, 7, 8, 9, 10, 11, 12, 13, 14, 15, 16, 17, 18], (dl [(0, []), (1, []), (2, []), (3, []), (4, []), (5, []), (6, []), (7, []), (8, []), (9, []), (10, []), (11, []), (12, []), (13, []), (14, []), (15, []), (16, []), (17, []), (18, [17, 16, 0, 1, 2, 3, 4, 5, 6, 7, 8, 9, 10, 11, 12, 13, 14, 15])] .fin), []⟩))))) (.go))
theorem vizardref05_words.W2.pok : PlanOk Tryz.prog vizardref05_words.W2.plan (sub [1, 1, 1, 0, 1, 0, 0] vizardref05_words.body) := by
  have e : PlanOk Tryz.prog vizardref05_words.W2.plan (sub [1, 1, 1, 0, 1, 0, 0] vizardref05_words.body) = ((True) ∧ (((True) ∧ ((True) ∧ ((True) ∧ (True)))) ∧ (True))) := by kernel_rfl
  exact e.mpr ⟨trivial, ⟨⟨trivial, ⟨trivial, ⟨trivial, trivial⟩⟩⟩, trivial⟩⟩
theorem vizardref05_words.W2.eq (w0 : Option Addr) (w1 : Nat) (w2 : Nat) (Q : Ex → Fr → Heap → Prop) (E : Value → Heap → Prop) (RR : Fr → Heap → Prop) (s : Int) (H : Heap) :
    (fun (RR : Int → Heap → Prop) (s : Int) (H : Heap) => vizardref05_words.W2.vc w0 w1 w2 s (fun  H => Q (.exit 2) (mkF 96 [(3, (.slice w0 w1 w2))]) H) (fun t0 H => RR (t0) H) E H) (fun s' H' => RR ((fun (s : Int) => (mkF 96 [(3, (.slice w0 w1 w2)), (5, (.int .i64 s))])) s') H') s H = keepT [3, 5] [] (fun i => if i = 2 then [3] else []) (wC Tryz.prog vizardref05_words.Γ vizardref05_words.W2.plan (sub [1, 1, 1, 0, 1, 0, 0] vizardref05_words.body)) (fun e fr' H' => match e with | .normal => RR fr' H' | .exit id => Q (.exit id) fr' H' | .ret => Q .ret fr' H') E ((fun (s : Int) => (mkF 96 [(3, (.slice w0 w1 w2)), (5, (.int .i64 s))])) s) H := by
  kernel_rfl
theorem vizardref05_words.W2.ok : SoundCode Tryz.prog (sub [1, 1, 1, 0, 1, 0] vizardref05_words.body) vizardref05_words.W2.t := by
  have e : (sub [1, 1, 1, 0, 1, 0] vizardref05_words.body) = .loop (sub [1, 1, 1, 0, 1, 0, 0] vizardref05_words.body) := by kernel_rfl
  rw [e]
  refine piece_sound (loopN_sound (keepT_sound [3, 5] [] (fun i => if i = 2 then [3] else []) (wC_sound vizardref05_words.hΓ Tryz.hm vizardref05_words.W2.plan _ vizardref05_words.W2.pok))) ?_
  intro Q E fr H h
  unfold vizardref05_words.W2.t at h
  obtain ⟨hl, h⟩ := lenIs_elim h
  obtain ⟨w0, w1, w2, q3, h⟩ := slSl_elim h
  obtain ⟨t0, q5, h⟩ := slI_elim h
  obtain ⟨m, h⟩ := h.h
  refine ⟨(mkF 96 [(3, (.slice w0 w1 w2)), (5, (.int .i64 t0))]), fun a ha => ha.mk (Nat.le_of_eq hl.symm) (List.forall_mem_cons.2 ⟨q3, List.forall_mem_cons.2 ⟨q5, fun _ h => nomatch h⟩⟩), m, ?_⟩
  have e := loopS_eq (B := (fun (RR : Int → Heap → Prop) (s : Int) (H : Heap) => vizardref05_words.W2.vc w0 w1 w2 s (fun  H => Q (.exit 2) (mkF 96 [(3, (.slice w0 w1 w2))]) H) (fun t0 H => RR (t0) H) E H)) (A := keepT [3, 5] [] (fun i => if i = 2 then [3] else []) (wC Tryz.prog vizardref05_words.Γ vizardref05_words.W2.plan (sub [1, 1, 1, 0, 1, 0, 0] vizardref05_words.body))) (m := (fun (s : Int) => (mkF 96 [(3, (.slice w0 w1 w2)), (5, (.int .i64 s))]))) (Q := Q) (E := E) (fun RR s H => vizardref05_words.W2.eq w0 w1 w2 Q E RR s H) m (t0) H
  exact cast e h
noncomputable def vizardref05_words.plan : Plan := .seq (.go) (.seq (.go) (.seq (.seq (.go) (.block (.use vizardref05_words.W1.t))) (.seq (.seq (.go) (.block (.use vizardref05_words.W2.t))) (.go))))
theorem vizardref05_words.pok : PlanOk Tryz.prog vizardref05_words.plan vizardref05_words.body := by
  have e : PlanOk Tryz.prog vizardref05_words.plan vizardref05_words.body = ((True) ∧ ((True) ∧ (((True) ∧ (SoundCode Tryz.prog (sub [1, 1, 0, 1, 0] vizardref05_words.body) vizardref05_words.W1.t)) ∧ (((True) ∧ (SoundCode Tryz.prog (sub [1, 1, 1, 0, 1, 0] vizardref05_words.body) vizardref05_words.W2.t)) ∧ (True))))) := by kernel_rfl
  exact e.mpr ⟨trivial, ⟨trivial, ⟨⟨trivial, vizardref05_words.W1.ok⟩, ⟨⟨trivial, vizardref05_words.W2.ok⟩, trivial⟩⟩⟩⟩
theorem vizardref05_words.eq (s0 : ByteArray) (K : Value → Heap → Prop) (E : Value → Heap → Prop) (H : Heap) :
    fnT Tryz.prog Tryz.f200 (wC Tryz.prog vizardref05_words.Γ vizardref05_words.plan vizardref05_words.body) [(.string s0)] K E H = vizardref05_words.vc s0 (fun r0_0 r0_1 r0_2 H => K (.slice r0_0 r0_1 r0_2) H) E H := by
  kernel_rfl
theorem vizardref05_words.Fe {args : List Value} {K E : Value → Heap → Prop} {H : Heap} (h : vizardref05_words.F args K E H) : ∃ s0, args = [(.string s0)] ∧ vizardref05_words.c s0 (fun r0_0 r0_1 r0_2 H => K (.slice r0_0 r0_1 r0_2) H) E H := by
  unfold vizardref05_words.F at h
  split at h
  · exact ⟨_, rfl, h⟩
  · exact h.elim
theorem vizardref05_words.ok : CalleeOk Tryz.prog 200 vizardref05_words.F :=
  callee_ok vizardref05_words.hΓ (fn := Tryz.f200) (c := vizardref05_words.body) (T := wC Tryz.prog vizardref05_words.Γ vizardref05_words.plan vizardref05_words.body) (by kernel_rfl) (by kernel_rfl) (by kernel_rfl) (wC_sound vizardref05_words.hΓ Tryz.hm vizardref05_words.plan _ vizardref05_words.pok) fun _ K E H h => by
    obtain ⟨z0, e, h⟩ := vizardref05_words.Fe h
    subst e
    have h2 : vizardref05_words.vc z0 (fun r0_0 r0_1 r0_2 H => ∃ H', Heap.Le H' H ∧ K (.slice r0_0 r0_1 r0_2) H') E H := h.h
    rw [vizardref05_words.eq z0 (Fg K) E H]
    exact h2

/-! vizard/vizardref05.block -/
noncomputable def vizardref05_block.body : Code := Tryz.f165.body.getD .skip
def vizardref05_block.W1.vc (o0 : Option Addr) (o1 : Nat) (o2 : Nat) (k0 : Option Addr) (k1 : Nat) (k2 : Nat) (w0 : Option Addr) (w1 : Nat) (w2 : Nat) (a0 : Int) (b0 : Int) (c0 : Int) (d0 : Int) (e0 : Int) (f0 : Int) (g0 : Int) (h0 : Int) (t0 : Int) (Kx0 : Int → Int → Int → Int → Int → Int → Int → Int → Heap → Prop) (RR : Int → Int → Int → Int → Int → Int → Int → Int → Int → Heap → Prop) (E : Value → Heap → Prop) (h1 : Heap) : Prop :=
  (if (decide (t0 < 64)) = true then
  nilc k0 fun a1 => (0 : Int) ≤ t0 ∧ t0 < (k1 : Int) ∧
  ldI h1 .u32 (a1.add (t0.toNat * 1)) fun x0 =>
  nilc w0 fun a2 => (0 : Int) ≤ t0 ∧ t0 < (w1 : Int) ∧
  ldI h1 .u32 (a2.add (t0.toNat * 1)) fun x1 =>
  vizardref05_turn.c e0 6 (fun x2 h2 =>
  (ldI h2 .u32 (a2.add (t0.toNat * 1)) fun x3 =>
  eqv h2 h2 (some (.int .u32 x1)) (.int .u32 x3)) ∧
  (ldI h2 .u32 (a1.add (t0.toNat * 1)) fun x4 =>
  eqv h2 h2 (some (.int .u32 x0)) (.int .u32 x4)) ∧
  vizardref05_turn.c e0 11 (fun x5 h3 =>
  (ldI h3 .u32 (a2.add (t0.toNat * 1)) fun x6 =>
  eqv h3 h3 (some (.int .u32 x1)) (.int .u32 x6)) ∧
  (ldI h3 .u32 (a1.add (t0.toNat * 1)) fun x7 =>
  eqv h3 h3 (some (.int .u32 x0)) (.int .u32 x7)) ∧
  vizardref05_turn.c e0 25 (fun x8 h4 =>
  (ldI h4 .u32 (a2.add (t0.toNat * 1)) fun x9 =>
  eqv h4 h4 (some (.int .u32 x1)) (.int .u32 x9)) ∧
  (ldI h4 .u32 (a1.add (t0.toNat * 1)) fun x10 =>
  eqv h4 h4 (some (.int .u32 x0)) (.int .u32 x10)) ∧
  vizardref05_turn.c a0 2 (fun x11 h5 =>
  vizardref05_turn.c a0 13 (fun x12 h6 =>
  vizardref05_turn.c a0 22 (fun x13 h7 =>
  RR (IntKind.u32.wrap ((IntKind.u32.wrap ((IntKind.u32.wrap ((IntKind.u32.wrap ((IntKind.u32.wrap (h0 + (bits .xor .u32 (bits .xor .u32 x2 x5) x8))) + (bits .xor .u32 (bits .and .u32 e0 f0) (bits .and .u32 (IntKind.u32.wrap (4294967295 - e0)) g0)))) + x0)) + x1)) + (IntKind.u32.wrap ((bits .xor .u32 (bits .xor .u32 x11 x12) x13) + (bits .xor .u32 (bits .xor .u32 (bits .and .u32 a0 b0) (bits .and .u32 a0 c0)) (bits .and .u32 b0 c0)))))) a0 b0 c0 (IntKind.u32.wrap (d0 + (IntKind.u32.wrap ((IntKind.u32.wrap ((IntKind.u32.wrap ((IntKind.u32.wrap (h0 + (bits .xor .u32 (bits .xor .u32 x2 x5) x8))) + (bits .xor .u32 (bits .and .u32 e0 f0) (bits .and .u32 (IntKind.u32.wrap (4294967295 - e0)) g0)))) + x0)) + x1)))) e0 f0 g0 (IntKind.i64.wrap (t0 + 1)) h7) E h6) E h5) E h4) E h3) E h2) E h1
  else
  Kx0 a0 b0 c0 d0 e0 f0 g0 h0 h1)
structure vizardref05_block.W1 (o0 : Option Addr) (o1 : Nat) (o2 : Nat) (k0 : Option Addr) (k1 : Nat) (k2 : Nat) (w0 : Option Addr) (w1 : Nat) (w2 : Nat) (a0 : Int) (b0 : Int) (c0 : Int) (d0 : Int) (e0 : Int) (f0 : Int) (g0 : Int) (h0 : Int) (t0 : Int) (Kx0 : Int → Int → Int → Int → Int → Int → Int → Int → Heap → Prop) (E : Value → Heap → Prop) (H : Heap) : Prop where
  h : Loop (fun (RR : Int × Int × Int × Int × Int × Int × Int × Int × Int → Heap → Prop) (s : Int × Int × Int × Int × Int × Int × Int × Int × Int) (H : Heap) => vizardref05_block.W1.vc o0 o1 o2 k0 k1 k2 w0 w1 w2 s.1 s.2.1 s.2.2.1 s.2.2.2.1 s.2.2.2.2.1 s.2.2.2.2.2.1 s.2.2.2.2.2.2.1 s.2.2.2.2.2.2.2.1 s.2.2.2.2.2.2.2.2 Kx0 (fun a0 b0 c0 d0 e0 f0 g0 h0 t0 H => RR (a0, b0, c0, d0, e0, f0, g0, h0, t0) H) E H) (a0, b0, c0, d0, e0, f0, g0, h0, t0) H
def vizardref05_block.vc (o0 : Option Addr) (o1 : Nat) (o2 : Nat) (k0 : Option Addr) (k1 : Nat) (k2 : Nat) (s0 : ByteArray) (K : Option Addr → Nat → Nat → Heap → Prop) (E : Value → Heap → Prop) (h0 : Heap) : Prop :=
  vizardref05_words.c s0 (fun x0 x1 x2 h1 =>
  nilc o0 fun a0 => (0 : Int) ≤ 0 ∧ 0 < (o1 : Int) ∧
  ldI h1 .u32 (a0.add (0 * 1)) fun x3 =>
  nilc o0 fun a1 => (0 : Int) ≤ 1 ∧ 1 < (o1 : Int) ∧
  ldI h1 .u32 (a1.add (1 * 1)) fun x4 =>
  nilc o0 fun a2 => (0 : Int) ≤ 2 ∧ 2 < (o1 : Int) ∧
  ldI h1 .u32 (a2.add (2 * 1)) fun x5 =>
  nilc o0 fun a3 => (0 : Int) ≤ 3 ∧ 3 < (o1 : Int) ∧
  ldI h1 .u32 (a3.add (3 * 1)) fun x6 =>
  nilc o0 fun a4 => (0 : Int) ≤ 4 ∧ 4 < (o1 : Int) ∧
  ldI h1 .u32 (a4.add (4 * 1)) fun x7 =>
  nilc o0 fun a5 => (0 : Int) ≤ 5 ∧ 5 < (o1 : Int) ∧
  ldI h1 .u32 (a5.add (5 * 1)) fun x8 =>
  nilc o0 fun a6 => (0 : Int) ≤ 6 ∧ 6 < (o1 : Int) ∧
  ldI h1 .u32 (a6.add (6 * 1)) fun x9 =>
  nilc o0 fun a7 => (0 : Int) ≤ 7 ∧ 7 < (o1 : Int) ∧
  ldI h1 .u32 (a7.add (7 * 1)) fun x10 =>
  vizardref05_block.W1 o0 o1 o2 k0 k1 k2 x0 x1 x2 x3 x4 x5 x6 x7 x8 x9 x10 0 (fun a8 b0 c0 d0 e0 f0 g0 h2 h3 =>
  nilc o0 fun a9 => (0 : Int) ≤ 0 ∧ 0 < (o1 : Int) ∧
  ldI h3 .u32 (a9.add (0 * 1)) fun x11 =>
  nilc o0 fun a10 => (0 : Int) ≤ 1 ∧ 1 < (o1 : Int) ∧
  ldI h3 .u32 (a10.add (1 * 1)) fun x12 =>
  nilc o0 fun a11 => (0 : Int) ≤ 2 ∧ 2 < (o1 : Int) ∧
  ldI h3 .u32 (a11.add (2 * 1)) fun x13 =>
  nilc o0 fun a12 => (0 : Int) ≤ 3 ∧ 3 < (o1 : Int) ∧
  ldI h3 .u32 (a12.add (3 * 1)) fun x14 =>
  nilc o0 fun a13 => (0 : Int) ≤ 4 ∧ 4 < (o1 : Int) ∧
  ldI h3 .u32 (a13.add (4 * 1)) fun x15 =>
  nilc o0 fun a14 => (0 : Int) ≤ 5 ∧ 5 < (o1 : Int) ∧
  ldI h3 .u32 (a14.add (5 * 1)) fun x16 =>
  nilc o0 fun a15 => (0 : Int) ≤ 6 ∧ 6 < (o1 : Int) ∧
  ldI h3 .u32 (a15.add (6 * 1)) fun x17 =>
  nilc o0 fun a16 => (0 : Int) ≤ 7 ∧ 7 < (o1 : Int) ∧
  ldI h3 .u32 (a16.add (7 * 1)) fun x18 =>
  newB (.cells #[(.int .u32 (IntKind.u32.wrap (x11 + a8))), (.int .u32 (IntKind.u32.wrap (x12 + b0))), (.int .u32 (IntKind.u32.wrap (x13 + c0))), (.int .u32 (IntKind.u32.wrap (x14 + d0))), (.int .u32 (IntKind.u32.wrap (x15 + e0))), (.int .u32 (IntKind.u32.wrap (x16 + f0))), (.int .u32 (IntKind.u32.wrap (x17 + g0))), (.int .u32 (IntKind.u32.wrap (x18 + h2)))] 197) (fun b1 h4 =>
  K (some (⟨b1, 0, none⟩ : Addr)) 8 8 h4) h3) E h1) E h0
structure vizardref05_block.c (o0 : Option Addr) (o1 : Nat) (o2 : Nat) (k0 : Option Addr) (k1 : Nat) (k2 : Nat) (s0 : ByteArray) (K : Option Addr → Nat → Nat → Heap → Prop) (E : Value → Heap → Prop) (H : Heap) : Prop where
  h : vizardref05_block.vc o0 o1 o2 k0 k1 k2 s0 (fun r0_0 r0_1 r0_2 H => ∃ H', Heap.Le H' H ∧ K r0_0 r0_1 r0_2 H') E H
def vizardref05_block.F : FT := fun args K E H => match args with
  | [(.slice o0 o1 o2), (.slice k0 k1 k2), (.string s0)] => vizardref05_block.c o0 o1 o2 k0 k1 k2 s0 (fun r0_0 r0_1 r0_2 H => K (.slice r0_0 r0_1 r0_2) H) E H
  | _ => False
noncomputable def vizardref05_block.Γ : FuncId → Option FT := Γof [(200, vizardref05_words.F), (201, vizardref05_turn.F)]
theorem vizardref05_block.hΓ : ∀ f F, vizardref05_block.Γ f = some F → CalleeOk Tryz.prog f F := Γof_ok (List.forall_mem_cons.2 ⟨vizardref05_words.ok, List.forall_mem_cons.2 ⟨vizardref05_turn.ok, fun _ h => nomatch h⟩⟩)
def vizardref05_block.W1.t : CT := fun Q E fr H => lenIs 151 fr (slSl fr 0 fun o0 o1 o2 => slSl fr 1 fun k0 k1 k2 => slSl fr 7 fun w0 w1 w2 => slI fr 8 .u32 fun a0 => slI fr 9 .u32 fun b0 => slI fr 10 .u32 fun c0 => slI fr 11 .u32 fun d0 => slI fr 12 .u32 fun e0 => slI fr 13 .u32 fun f0 => slI fr 14 .u32 fun g0 => slI fr 15 .u32 fun h0 => slI fr 16 .i64 fun t0 => vizardref05_block.W1 o0 o1 o2 k0 k1 k2 w0 w1 w2 a0 b0 c0 d0 e0 f0 g0 h0 t0 (fun y8_0 y9_0 y10_0 y11_0 y12_0 y13_0 y14_0 y15_0 H => Q (.exit 0) (mkF 151 [(0, (.slice o0 o1 o2)), (8, (.int .u32 y8_0)), (9, (.int .u32 y9_0)), (10, (.int .u32 y10_0)), (11, (.int .u32 y11_0)), (12, (.int .u32 y12_0)), (13, (.int .u32 y13_0)), (14, (.int .u32 y14_0)), (15, (.int .u32 y15_0))]) H) E H)
noncomputable def vizardref05_block.W1.plan : Plan := .seq (.go) (.seq (.block (.seq (.draw ⟨[0, 1, 2, 3, 4, 5, 6, 7, 8, 9, 10, 11, 12, 13, 14, 15, 16, 17, 18, 19, 20, 21, 22, 23, 24, 25, 26, 27, 28], (dl [(0, []), (1, []), (3, []), (6, []), (10, []), (11, []), (12, []), (13, []), (14, []), (15, []), (16, []), (17, []), (19, []), (20, []), (21, []), (22, []), (24, []), (25, []), (26, []), (27, []), (2, [1]), (4, [3, 2, 1]), (5, []), (7, [6, 4, 3, 2, 1]), (8, []), (9, []), (18, []), (23, []), (28, [])] .fin), [29]⟩) (.go))) (.go))
theorem vizardref05_block.W1.pok : PlanOk Tryz.prog vizardref05_block.W1.plan (sub [1, 1, 1, 0, 1, 0, 0] vizardref05_block.body) := by
  have e : PlanOk Tryz.prog vizardref05_block.W1.plan (sub [1, 1, 1, 0, 1, 0, 0] vizardref05_block.body) = ((True) ∧ (((True) ∧ (True)) ∧ (True))) := by kernel_rfl
  exact e.mpr ⟨trivial, ⟨⟨trivial, trivial⟩, trivial⟩⟩
theorem vizardref05_block.W1.eq (o0 : Option Addr) (o1 : Nat) (o2 : Nat) (k0 : Option Addr) (k1 : Nat) (k2 : Nat) (w0 : Option Addr) (w1 : Nat) (w2 : Nat) (Q : Ex → Fr → Heap → Prop) (E : Value → Heap → Prop) (RR : Fr → Heap → Prop) (s : Int × Int × Int × Int × Int × Int × Int × Int × Int) (H : Heap) :
    (fun (RR : Int × Int × Int × Int × Int × Int × Int × Int × Int → Heap → Prop) (s : Int × Int × Int × Int × Int × Int × Int × Int × Int) (H : Heap) => vizardref05_block.W1.vc o0 o1 o2 k0 k1 k2 w0 w1 w2 s.1 s.2.1 s.2.2.1 s.2.2.2.1 s.2.2.2.2.1 s.2.2.2.2.2.1 s.2.2.2.2.2.2.1 s.2.2.2.2.2.2.2.1 s.2.2.2.2.2.2.2.2 (fun y8_0 y9_0 y10_0 y11_0 y12_0 y13_0 y14_0 y15_0 H => Q (.exit 0) (mkF 151 [(0, (.slice o0 o1 o2)), (8, (.int .u32 y8_0)), (9, (.int .u32 y9_0)), (10, (.int .u32 y10_0)), (11, (.int .u32 y11_0)), (12, (.int .u32 y12_0)), (13, (.int .u32 y13_0)), (14, (.int .u32 y14_0)), (15, (.int .u32 y15_0))]) H) (fun a0 b0 c0 d0 e0 f0 g0 h0 t0 H => RR (a0, b0, c0, d0, e0, f0, g0, h0, t0) H) E H) (fun s' H' => RR ((fun (s : Int × Int × Int × Int × Int × Int × Int × Int × Int) => (mkF 151 [(0, (.slice o0 o1 o2)), (1, (.slice k0 k1 k2)), (7, (.slice w0 w1 w2)), (8, (.int .u32 s.1)), (9, (.int .u32 s.2.1)), (10, (.int .u32 s.2.2.1)), (11, (.int .u32 s.2.2.2.1)), (12, (.int .u32 s.2.2.2.2.1)), (13, (.int .u32 s.2.2.2.2.2.1)), (14, (.int .u32 s.2.2.2.2.2.2.1)), (15, (.int .u32 s.2.2.2.2.2.2.2.1)), (16, (.int .i64 s.2.2.2.2.2.2.2.2))])) s') H') s H = keepT [0, 1, 7, 8, 9, 10, 11, 12, 13, 14, 15, 16] [] (fun i => if i = 0 then [0, 8, 9, 10, 11, 12, 13, 14, 15] else []) (wC Tryz.prog vizardref05_block.Γ vizardref05_block.W1.plan (sub [1, 1, 1, 0, 1, 0, 0] vizardref05_block.body)) (fun e fr' H' => match e with | .normal => RR fr' H' | .exit id => Q (.exit id) fr' H' | .ret => Q .ret fr' H') E ((fun (s : Int × Int × Int × Int × Int × Int × Int × Int × Int) => (mkF 151 [(0, (.slice o0 o1 o2)), (1, (.slice k0 k1 k2)), (7, (.slice w0 w1 w2)), (8, (.int .u32 s.1)), (9, (.int .u32 s.2.1)), (10, (.int .u32 s.2.2.1)), (11, (.int .u32 s.2.2.2.1)), (12, (.int .u32 s.2.2.2.2.1)), (13, (.int .u32 s.2.2.2.2.2.1)), (14, (.int .u32 s.2.2.2.2.2.2.1)), (15, (.int .u32 s.2.2.2.2.2.2.2.1)), (16, (.int .i64 s.2.2.2.2.2.2.2.2))])) s) H := by
  kernel_rfl
theorem vizardref05_block.W1.ok : SoundCode Tryz.prog (sub [1, 1, 1, 0, 1, 0] vizardref05_block.body) vizardref05_block.W1.t := by
  have e : (sub [1, 1, 1, 0, 1, 0] vizardref05_block.body) = .loop (sub [1, 1, 1, 0, 1, 0, 0] vizardref05_block.body) := by kernel_rfl
  rw [e]
  refine piece_sound (loopN_sound (keepT_sound [0, 1, 7, 8, 9, 10, 11, 12, 13, 14, 15, 16] [] (fun i => if i = 0 then [0, 8, 9, 10, 11, 12, 13, 14, 15] else []) (wC_sound vizardref05_block.hΓ Tryz.hm vizardref05_block.W1.plan _ vizardref05_block.W1.pok))) ?_
  intro Q E fr H h
  unfold vizardref05_block.W1.t at h
  obtain ⟨hl, h⟩ := lenIs_elim h
  obtain ⟨o0, o1, o2, q0, h⟩ := slSl_elim h
  obtain ⟨k0, k1, k2, q1, h⟩ := slSl_elim h
  obtain ⟨w0, w1, w2, q7, h⟩ := slSl_elim h
  obtain ⟨a0, q8, h⟩ := slI_elim h
  obtain ⟨b0, q9, h⟩ := slI_elim h
  obtain ⟨c0, q10, h⟩ := slI_elim h
  obtain ⟨d0, q11, h⟩ := slI_elim h
  obtain ⟨e0, q12, h⟩ := slI_elim h
  obtain ⟨f0, q13, h⟩ := slI_elim h
  obtain ⟨g0, q14, h⟩ := slI_elim h
  obtain ⟨h0, q15, h⟩ := slI_elim h
  obtain ⟨t0, q16, h⟩ := slI_elim h
  obtain ⟨m, h⟩ := h.h
  refine ⟨(mkF 151 [(0, (.slice o0 o1 o2)), (1, (.slice k0 k1 k2)), (7, (.slice w0 w1 w2)), (8, (.int .u32 a0)), (9, (.int .u32 b0)), (10, (.int .u32 c0)), (11, (.int .u32 d0)), (12, (.int .u32 e0)), (13, (.int .u32 f0)), (14, (.int .u32 g0)), (15, (.int .u32 h0)), (16, (.int .i64 t0))]), fun a ha => ha.mk (Nat.le_of_eq hl.symm) (List.forall_mem_cons.2 ⟨q0, List.forall_mem_cons.2 ⟨q1, List.forall_mem_cons.2 ⟨q7, List.forall_mem_cons.2 ⟨q8, List.forall_mem_cons.2 ⟨q9, List.forall_mem_cons.2 ⟨q10, List.forall_mem_cons.2 ⟨q11, List.forall_mem_cons.2 ⟨q12, List.forall_mem_cons.2 ⟨q13, List.forall_mem_cons.2 ⟨q14, List.forall_mem_cons.2 ⟨q15, List.forall_mem_cons.2 ⟨q16, fun _ h => nomatch h⟩⟩⟩⟩⟩⟩⟩⟩⟩⟩⟩⟩), m, ?_⟩
  have e := loopS_eq (B := (fun (RR : Int × Int × Int × Int × Int × Int × Int × Int × Int → Heap → Prop) (s : Int × Int × Int × Int × Int × Int × Int × Int × Int) (H : Heap) => vizardref05_block.W1.vc o0 o1 o2 k0 k1 k2 w0 w1 w2 s.1 s.2.1 s.2.2.1 s.2.2.2.1 s.2.2.2.2.1 s.2.2.2.2.2.1 s.2.2.2.2.2.2.1 s.2.2.2.2.2.2.2.1 s.2.2.2.2.2.2.2.2 (fun y8_0 y9_0 y10_0 y11_0 y12_0 y13_0 y14_0 y15_0 H => Q (.exit 0) (mkF 151 [(0, (.slice o0 o1 o2)), (8, (.int .u32 y8_0)), (9, (.int .u32 y9_0)), (10, (.int .u32 y10_0)), (11, (.int .u32 y11_0)), (12, (.int .u32 y12_0)), (13, (.int .u32 y13_0)), (14, (.int .u32 y14_0)), (15, (.int .u32 y15_0))]) H) (fun a0 b0 c0 d0 e0 f0 g0 h0 t0 H => RR (a0, b0, c0, d0, e0, f0, g0, h0, t0) H) E H)) (A := keepT [0, 1, 7, 8, 9, 10, 11, 12, 13, 14, 15, 16] [] (fun i => if i = 0 then [0, 8, 9, 10, 11, 12, 13, 14, 15] else []) (wC Tryz.prog vizardref05_block.Γ vizardref05_block.W1.plan (sub [1, 1, 1, 0, 1, 0, 0] vizardref05_block.body))) (m := (fun (s : Int × Int × Int × Int × Int × Int × Int × Int × Int) => (mkF 151 [(0, (.slice o0 o1 o2)), (1, (.slice k0 k1 k2)), (7, (.slice w0 w1 w2)), (8, (.int .u32 s.1)), (9, (.int .u32 s.2.1)), (10, (.int .u32 s.2.2.1)), (11, (.int .u32 s.2.2.2.1)), (12, (.int .u32 s.2.2.2.2.1)), (13, (.int .u32 s.2.2.2.2.2.1)), (14, (.int .u32 s.2.2.2.2.2.2.1)), (15, (.int .u32 s.2.2.2.2.2.2.2.1)), (16, (.int .i64 s.2.2.2.2.2.2.2.2))]))) (Q := Q) (E := E) (fun RR s H => vizardref05_block.W1.eq o0 o1 o2 k0 k1 k2 w0 w1 w2 Q E RR s H) m (a0, b0, c0, d0, e0, f0, g0, h0, t0) H
  exact cast e h
noncomputable def vizardref05_block.plan : Plan := .seq (.go) (.seq (.go) (.seq (.draw ⟨[0, 1, 2, 3, 4, 5, 6, 7, 8, 9, 10, 11, 12, 13, 14, 15, 16, 17, 18, 19, 20, 21, 22, 23, 24, 25, 26, 27, 28, 29, 30], (dl [(0, []), (1, []), (2, []), (3, []), (4, []), (5, []), (6, []), (7, []), (8, []), (9, []), (10, []), (11, []), (12, []), (13, []), (14, []), (15, []), (16, []), (17, []), (18, []), (19, []), (20, []), (21, []), (22, []), (23, []), (24, []), (25, []), (26, []), (27, []), (28, []), (29, []), (30, [])] .fin), [31]⟩) (.seq (.seq (.go) (.block (.use vizardref05_block.W1.t))) (.seq (.draw ⟨[0, 1, 2, 3, 4, 5, 6, 7, 8, 9, 10, 11, 12, 13, 14, 15, 16, 17, 18, 19, 20, 21, 22, 23, 24, 25, 26, 27, 28, 29, 30, 31, 32, 33, 34, 35, 36, 37, 38, 39, 40], (dl [(0, []), (1, []), (2, []), (3, []), (4, []), (5, []), (6, []), (7, []), (8, []), (9, []), (10, []), (11, []), (12, []), (13, []), (14, []), (15, []), (16, []), (17, []), (18, []), (19, []), (20, []), (21, []), (22, []), (23, []), (24, []), (25, []), (26, []), (27, []), (28, []), (29, []), (30, []), (31, []), (32, []), (33, []), (34, []), (35, []), (36, []), (37, []), (38, []), (39, []), (40, [4, 9, 14, 19, 24, 29, 34, 39, 2, 3, 7, 8, 12, 13, 17, 18, 22, 23, 27, 28, 32, 33, 37, 38, 1, 6, 11, 16, 21, 26, 31, 36, 0, 5, 10, 15, 20, 25, 30, 35])] .fin), [41]⟩) (.go)))))
theorem vizardref05_block.pok : PlanOk Tryz.prog vizardref05_block.plan vizardref05_block.body := by
  have e : PlanOk Tryz.prog vizardref05_block.plan vizardref05_block.body = ((True) ∧ ((True) ∧ ((True) ∧ (((True) ∧ (SoundCode Tryz.prog (sub [1, 1, 1, 0, 1, 0] vizardref05_block.body) vizardref05_block.W1.t)) ∧ ((True) ∧ (True)))))) := by kernel_rfl
  exact e.mpr ⟨trivial, ⟨trivial, ⟨trivial, ⟨⟨trivial, vizardref05_block.W1.ok⟩, ⟨trivial, trivial⟩⟩⟩⟩⟩
theorem vizardref05_block.eq (o0 : Option Addr) (o1 : Nat) (o2 : Nat) (k0 : Option Addr) (k1 : Nat) (k2 : Nat) (s0 : ByteArray) (K : Value → Heap → Prop) (E : Value → Heap → Prop) (H : Heap) :
    fnT Tryz.prog Tryz.f165 (wC Tryz.prog vizardref05_block.Γ vizardref05_block.plan vizardref05_block.body) [(.slice o0 o1 o2), (.slice k0 k1 k2), (.string s0)] K E H = vizardref05_block.vc o0 o1 o2 k0 k1 k2 s0 (fun r0_0 r0_1 r0_2 H => K (.slice r0_0 r0_1 r0_2) H) E H := by
  kernel_rfl
theorem vizardref05_block.Fe {args : List Value} {K E : Value → Heap → Prop} {H : Heap} (h : vizardref05_block.F args K E H) : ∃ o0 o1 o2 k0 k1 k2 s0, args = [(.slice o0 o1 o2), (.slice k0 k1 k2), (.string s0)] ∧ vizardref05_block.c o0 o1 o2 k0 k1 k2 s0 (fun r0_0 r0_1 r0_2 H => K (.slice r0_0 r0_1 r0_2) H) E H := by
  unfold vizardref05_block.F at h
  split at h
  · exact ⟨_, _, _, _, _, _, _, rfl, h⟩
  · exact h.elim
theorem vizardref05_block.ok : CalleeOk Tryz.prog 165 vizardref05_block.F :=
  callee_ok vizardref05_block.hΓ (fn := Tryz.f165) (c := vizardref05_block.body) (T := wC Tryz.prog vizardref05_block.Γ vizardref05_block.plan vizardref05_block.body) (by kernel_rfl) (by kernel_rfl) (by kernel_rfl) (wC_sound vizardref05_block.hΓ Tryz.hm vizardref05_block.plan _ vizardref05_block.pok) fun _ K E H h => by
    obtain ⟨z0, z1, z2, z3, z4, z5, z6, e, h⟩ := vizardref05_block.Fe h
    subst e
    have h2 : vizardref05_block.vc z0 z1 z2 z3 z4 z5 z6 (fun r0_0 r0_1 r0_2 H => ∃ H', Heap.Le H' H ∧ K (.slice r0_0 r0_1 r0_2) H') E H := h.h
    rw [vizardref05_block.eq z0 z1 z2 z3 z4 z5 z6 (Fg K) E H]
    exact h2

/-! vizard/vizardref05.Sum -/
noncomputable def vizardref05_Sum.body : Code := Tryz.f120.body.getD .skip
def vizardref05_Sum.W1.vc (s0 : ByteArray) (t0 : ByteArray) (Kx0 : ByteArray → Heap → Prop) (RR : ByteArray → Heap → Prop) (E : Value → Heap → Prop) (h0 : Heap) : Prop :=
  64 ≠ (0 : Int) ∧
  (if ((Int.tmod (t0.size : Int) 64) != 56) = true then
  t0.size + (⟨#[0]⟩ : ByteArray).size ≤ 9223372036854775807 ∧
  RR (t0 ++ (⟨#[0]⟩ : ByteArray)) h0
  else
  Kx0 t0 h0)
structure vizardref05_Sum.W1 (s0 : ByteArray) (t0 : ByteArray) (Kx0 : ByteArray → Heap → Prop) (E : Value → Heap → Prop) (H : Heap) : Prop where
  h : Loop (fun (RR : ByteArray → Heap → Prop) (s : ByteArray) (H : Heap) => vizardref05_Sum.W1.vc s0 s Kx0 (fun t0 H => RR (t0) H) E H) (t0) H
def vizardref05_Sum.W2.vc (t0 : ByteArray) (h0 : Option Addr) (h1 : Nat) (h2 : Nat) (k0 : Option Addr) (k1 : Nat) (k2 : Nat) (i0 : Int) (Kx2 : Option Addr → Nat → Nat → Heap → Prop) (RR : Option Addr → Nat → Nat → Int → Heap → Prop) (E : Value → Heap → Prop) (h3 : Heap) : Prop :=
  (if (decide (i0 < (t0.size : Int))) = true then
  (0 : Int) ≤ i0 ∧ i0 ≤ ((IntKind.i64.wrap (i0 + 64)) : Int) ∧ (IntKind.i64.wrap (i0 + 64)) ≤ (t0.size : Int) ∧
  vizardref05_block.c h0 h1 h2 k0 k1 k2 (t0.extract i0.toNat (IntKind.i64.wrap (i0 + 64)).toNat) (fun x0 x1 x2 h4 =>
  RR x0 x1 x2 (IntKind.i64.wrap (i0 + 64)) h4) E h3
  else
  Kx2 h0 h1 h2 h3)
structure vizardref05_Sum.W2 (t0 : ByteArray) (h0 : Option Addr) (h1 : Nat) (h2 : Nat) (k0 : Option Addr) (k1 : Nat) (k2 : Nat) (i0 : Int) (Kx2 : Option Addr → Nat → Nat → Heap → Prop) (E : Value → Heap → Prop) (H : Heap) : Prop where
  h : Loop (fun (RR : Option Addr × Nat × Nat × Int → Heap → Prop) (s : Option Addr × Nat × Nat × Int) (H : Heap) => vizardref05_Sum.W2.vc t0 s.1 s.2.1 s.2.2.1 k0 k1 k2 s.2.2.2 Kx2 (fun h0 h1 h2 i0 H => RR (h0, h1, h2, i0) H) E H) (h0, h1, h2, i0) H
def vizardref05_Sum.W3.vc (h0 : Option Addr) (h1 : Nat) (h2 : Nat) (out0 : ByteArray) (i0 : Int) (Kx4 : ByteArray → Heap → Prop) (RR : ByteArray → Int → Heap → Prop) (E : Value → Heap → Prop) (h3 : Heap) : Prop :=
  (if (decide (i0 < 8)) = true then
  nilc h0 fun a0 => (0 : Int) ≤ i0 ∧ i0 < (h1 : Int) ∧
  ldI h3 .u32 (a0.add (i0.toNat * 1)) fun x0 =>
  vizardref01_Bytes.c (IntKind.i64.wrap x0) 4 (fun x1 h4 =>
  out0.size + x1.size ≤ 9223372036854775807 ∧
  RR (out0 ++ x1) (IntKind.i64.wrap (i0 + 1)) h4) E h3
  else
  Kx4 out0 h3)
structure vizardref05_Sum.W3 (h0 : Option Addr) (h1 : Nat) (h2 : Nat) (out0 : ByteArray) (i0 : Int) (Kx4 : ByteArray → Heap → Prop) (E : Value → Heap → Prop) (H : Heap) : Prop where
  h : Loop (fun (RR : ByteArray × Int → Heap → Prop) (s : ByteArray × Int) (H : Heap) => vizardref05_Sum.W3.vc h0 h1 h2 s.1 s.2 Kx4 (fun out0 i0 H => RR (out0, i0) H) E H) (out0, i0) H
def vizardref05_Sum.vc (s0 : ByteArray) (K : ByteArray → Heap → Prop) (E : Value → Heap → Prop) (h0 : Heap) : Prop :=
  s0.size + (⟨#[128]⟩ : ByteArray).size ≤ 9223372036854775807 ∧
  vizardref05_Sum.W1 s0 (s0 ++ (⟨#[128]⟩ : ByteArray)) (fun t0 h1 =>
  vizardref01_Bytes.c (IntKind.i64.wrap (8 * (s0.size : Int))) 8 (fun x0 h2 =>
  t0.size + x0.size ≤ 9223372036854775807 ∧
  vizardref05_first.c (fun x1 x2 x3 h3 =>
  vizardref05_constants.c (fun x4 x5 x6 h4 =>
  vizardref05_Sum.W2 (t0 ++ x0) x1 x2 x3 x4 x5 x6 0 (fun h5 h6 h7 h8 =>
  vizardref05_Sum.W3 h5 h6 h7 (⟨#[]⟩ : ByteArray) 0 K E h8) E h4) E h3) E h2) E h1) E h0
structure vizardref05_Sum.c (s0 : ByteArray) (K : ByteArray → Heap → Prop) (E : Value → Heap → Prop) (H : Heap) : Prop where
  h : vizardref05_Sum.vc s0 (fun r0_0 H => ∃ H', Heap.Le H' H ∧ K r0_0 H') E H
def vizardref05_Sum.F : FT := fun args K E H => match args with
  | [(.string s0)] => vizardref05_Sum.c s0 (fun r0_0 H => K (.string r0_0) H) E H
  | _ => False
noncomputable def vizardref05_Sum.Γ : FuncId → Option FT := Γof [(138, vizardref01_Bytes.F), (163, vizardref05_first.F), (164, vizardref05_constants.F), (165, vizardref05_block.F)]
theorem vizardref05_Sum.hΓ : ∀ f F, vizardref05_Sum.Γ f = some F → CalleeOk Tryz.prog f F := Γof_ok (List.forall_mem_cons.2 ⟨vizardref01_Bytes.ok, List.forall_mem_cons.2 ⟨vizardref05_first.ok, List.forall_mem_cons.2 ⟨vizardref05_constants.ok, List.forall_mem_cons.2 ⟨vizardref05_block.ok, fun _ h => nomatch h⟩⟩⟩⟩)
def vizardref05_Sum.W1.t : CT := fun Q E fr H => lenIs 52 fr (slS fr 0 fun s0 => slS fr 3 fun t0 => vizardref05_Sum.W1 s0 t0 (fun y3_0 H => Q (.exit 0) (mkF 52 [(0, (.string s0)), (3, (.string y3_0))]) H) E H)
noncomputable def vizardref05_Sum.W1.plan : Plan := .go
theorem vizardref05_Sum.W1.pok : PlanOk Tryz.prog vizardref05_Sum.W1.plan (sub [1, 1, 0, 0, 0] vizardref05_Sum.body) := by
  have e : PlanOk Tryz.prog vizardref05_Sum.W1.plan (sub [1, 1, 0, 0, 0] vizardref05_Sum.body) = (True) := by kernel_rfl
  exact e.mpr trivial
theorem vizardref05_Sum.W1.eq (s0 : ByteArray) (Q : Ex → Fr → Heap → Prop) (E : Value → Heap → Prop) (RR : Fr → Heap → Prop) (s : ByteArray) (H : Heap) :
    (fun (RR : ByteArray → Heap → Prop) (s : ByteArray) (H : Heap) => vizardref05_Sum.W1.vc s0 s (fun y3_0 H => Q (.exit 0) (mkF 52 [(0, (.string s0)), (3, (.string y3_0))]) H) (fun t0 H => RR (t0) H) E H) (fun s' H' => RR ((fun (s : ByteArray) => (mkF 52 [(0, (.string s0)), (3, (.string s))])) s') H') s H = keepT [0, 3] [] (fun i => if i = 0 then [0, 3] else []) (wC Tryz.prog vizardref05_Sum.Γ vizardref05_Sum.W1.plan (sub [1, 1, 0, 0, 0] vizardref05_Sum.body)) (fun e fr' H' => match e with | .normal => RR fr' H' | .exit id => Q (.exit id) fr' H' | .ret => Q .ret fr' H') E ((fun (s : ByteArray) => (mkF 52 [(0, (.string s0)), (3, (.string s))])) s) H := by
  kernel_rfl
theorem vizardref05_Sum.W1.ok : SoundCode Tryz.prog (sub [1, 1, 0, 0] vizardref05_Sum.body) vizardref05_Sum.W1.t := by
  have e : (sub [1, 1, 0, 0] vizardref05_Sum.body) = .loop (sub [1, 1, 0, 0, 0] vizardref05_Sum.body) := by kernel_rfl
  rw [e]
  refine piece_sound (loopN_sound (keepT_sound [0, 3] [] (fun i => if i = 0 then [0, 3] else []) (wC_sound vizardref05_Sum.hΓ Tryz.hm vizardref05_Sum.W1.plan _ vizardref05_Sum.W1.pok))) ?_
  intro Q E fr H h
  unfold vizardref05_Sum.W1.t at h
  obtain ⟨hl, h⟩ := lenIs_elim h
  obtain ⟨s0, q0, h⟩ := slS_elim h
  obtain ⟨t0, q3, h⟩ := slS_elim h
  obtain ⟨m, h⟩ := h.h
  refine ⟨(mkF 52 [(0, (.string s0)), (3, (.string t0))]), fun a ha => ha.mk (Nat.le_of_eq hl.symm) (List.forall_mem_cons.2 ⟨q0, List.forall_mem_cons.2 ⟨q3, fun _ h => nomatch h⟩⟩), m, ?_⟩
  have e := loopS_eq (B := (fun (RR : ByteArray → Heap → Prop) (s : ByteArray) (H : Heap) => vizardref05_Sum.W1.vc s0 s (fun y3_0 H => Q (.exit 0) (mkF 52 [(0, (.string s0)), (3, (.string y3_0))]) H) (fun t0 H => RR (t0) H) E H)) (A := keepT [0, 3] [] (fun i => if i = 0 then [0, 3] else []) (wC Tryz.prog vizardref05_Sum.Γ vizardref05_Sum.W1.plan (sub [1, 1, 0, 0, 0] vizardref05_Sum.body))) (m := (fun (s : ByteArray) => (mkF 52 [(0, (.string s0)), (3, (.string s))]))) (Q := Q) (E := E) (fun RR s H => vizardref05_Sum.W1.eq s0 Q E RR s H) m (t0) H
  exact cast e h
def vizardref05_Sum.W2.t : CT := fun Q E fr H => lenIs 52 fr (slS fr 3 fun t0 => slSl fr 4 fun h0 h1 h2 => slSl fr 5 fun k0 k1 k2 => slI fr 6 .i64 fun i0 => vizardref05_Sum.W2 t0 h0 h1 h2 k0 k1 k2 i0 (fun y4_0 y4_1 y4_2 H => Q (.exit 2) (mkF 52 [(4, (.slice y4_0 y4_1 y4_2))]) H) E H)
noncomputable def vizardref05_Sum.W2.plan : Plan := .go
theorem vizardref05_Sum.W2.pok : PlanOk Tryz.prog vizardref05_Sum.W2.plan (sub [1, 1, 1, 1, 1, 0, 1, 0, 0] vizardref05_Sum.body) := by
  have e : PlanOk Tryz.prog vizardref05_Sum.W2.plan (sub [1, 1, 1, 1, 1, 0, 1, 0, 0] vizardref05_Sum.body) = (True) := by kernel_rfl
  exact e.mpr trivial
theorem vizardref05_Sum.W2.eq (t0 : ByteArray) (k0 : Option Addr) (k1 : Nat) (k2 : Nat) (Q : Ex → Fr → Heap → Prop) (E : Value → Heap → Prop) (RR : Fr → Heap → Prop) (s : Option Addr × Nat × Nat × Int) (H : Heap) :
    (fun (RR : Option Addr × Nat × Nat × Int → Heap → Prop) (s : Option Addr × Nat × Nat × Int) (H : Heap) => vizardref05_Sum.W2.vc t0 s.1 s.2.1 s.2.2.1 k0 k1 k2 s.2.2.2 (fun y4_0 y4_1 y4_2 H => Q (.exit 2) (mkF 52 [(4, (.slice y4_0 y4_1 y4_2))]) H) (fun h0 h1 h2 i0 H => RR (h0, h1, h2, i0) H) E H) (fun s' H' => RR ((fun (s : Option Addr × Nat × Nat × Int) => (mkF 52 [(3, (.string t0)), (4, (.slice s.1 s.2.1 s.2.2.1)), (5, (.slice k0 k1 k2)), (6, (.int .i64 s.2.2.2))])) s') H') s H = keepT [3, 4, 5, 6] [] (fun i => if i = 2 then [4] else []) (wC Tryz.prog vizardref05_Sum.Γ vizardref05_Sum.W2.plan (sub [1, 1, 1, 1, 1, 0, 1, 0, 0] vizardref05_Sum.body)) (fun e fr' H' => match e with | .normal => RR fr' H' | .exit id => Q (.exit id) fr' H' | .ret => Q .ret fr' H') E ((fun (s : Option Addr × Nat × Nat × Int) => (mkF 52 [(3, (.string t0)), (4, (.slice s.1 s.2.1 s.2.2.1)), (5, (.slice k0 k1 k2)), (6, (.int .i64 s.2.2.2))])) s) H := by
  kernel_rfl
theorem vizardref05_Sum.W2.ok : SoundCode Tryz.prog (sub [1, 1, 1, 1, 1, 0, 1, 0] vizardref05_Sum.body) vizardref05_Sum.W2.t := by
  have e : (sub [1, 1, 1, 1, 1, 0, 1, 0] vizardref05_Sum.body) = .loop (sub [1, 1, 1, 1, 1, 0, 1, 0, 0] vizardref05_Sum.body) := by kernel_rfl
  rw [e]
  refine piece_sound (loopN_sound (keepT_sound [3, 4, 5, 6] [] (fun i => if i = 2 then [4] else []) (wC_sound vizardref05_Sum.hΓ Tryz.hm vizardref05_Sum.W2.plan _ vizardref05_Sum.W2.pok))) ?_
  intro Q E fr H h
  unfold vizardref05_Sum.W2.t at h
  obtain ⟨hl, h⟩ := lenIs_elim h
  obtain ⟨t0, q3, h⟩ := slS_elim h
  obtain ⟨h0, h1, h2, q4, h⟩ := slSl_elim h
  obtain ⟨k0, k1, k2, q5, h⟩ := slSl_elim h
  obtain ⟨i0, q6, h⟩ := slI_elim h
  obtain ⟨m, h⟩ := h.h
  refine ⟨(mkF 52 [(3, (.string t0)), (4, (.slice h0 h1 h2)), (5, (.slice k0 k1 k2)), (6, (.int .i64 i0))]), fun a ha => ha.mk (Nat.le_of_eq hl.symm) (List.forall_mem_cons.2 ⟨q3, List.forall_mem_cons.2 ⟨q4, List.forall_mem_cons.2 ⟨q5, List.forall_mem_cons.2 ⟨q6, fun _ h => nomatch h⟩⟩⟩⟩), m, ?_⟩
  have e := loopS_eq (B := (fun (RR : Option Addr × Nat × Nat × Int → Heap → Prop) (s : Option Addr × Nat × Nat × Int) (H : Heap) => vizardref05_Sum.W2.vc t0 s.1 s.2.1 s.2.2.1 k0 k1 k2 s.2.2.2 (fun y4_0 y4_1 y4_2 H => Q (.exit 2) (mkF 52 [(4, (.slice y4_0 y4_1 y4_2))]) H) (fun h0 h1 h2 i0 H => RR (h0, h1, h2, i0) H) E H)) (A := keepT [3, 4, 5, 6] [] (fun i => if i = 2 then [4] else []) (wC Tryz.prog vizardref05_Sum.Γ vizardref05_Sum.W2.plan (sub [1, 1, 1, 1, 1, 0, 1, 0, 0] vizardref05_Sum.body))) (m := (fun (s : Option Addr × Nat × Nat × Int) => (mkF 52 [(3, (.string t0)), (4, (.slice s.1 s.2.1 s.2.2.1)), (5, (.slice k0 k1 k2)), (6, (.int .i64 s.2.2.2))]))) (Q := Q) (E := E) (fun RR s H => vizardref05_Sum.W2.eq t0 k0 k1 k2 Q E RR s H) m (h0, h1, h2, i0) H
  exact cast e h
def vizardref05_Sum.W3.t : CT := fun Q E fr H => lenIs 52 fr (slSl fr 4 fun h0 h1 h2 => slS fr 7 fun out0 => slI fr 8 .i64 fun i0 => vizardref05_Sum.W3 h0 h1 h2 out0 i0 (fun y7_0 H => Q (.exit 4) (mkF 52 [(7, (.string y7_0))]) H) E H)
noncomputable def vizardref05_Sum.W3.plan : Plan := .go
theorem vizardref05_Sum.W3.pok : PlanOk Tryz.prog vizardref05_Sum.W3.plan (sub [1, 1, 1, 1, 1, 1, 1, 0, 1, 0, 0] vizardref05_Sum.body) := by
  have e : PlanOk Tryz.prog vizardref05_Sum.W3.plan (sub [1, 1, 1, 1, 1, 1, 1, 0, 1, 0, 0] vizardref05_Sum.body) = (True) := by kernel_rfl
  exact e.mpr trivial
theorem vizardref05_Sum.W3.eq (h0 : Option Addr) (h1 : Nat) (h2 : Nat) (Q : Ex → Fr → Heap → Prop) (E : Value → Heap → Prop) (RR : Fr → Heap → Prop) (s : ByteArray × Int) (H : Heap) :
    (fun (RR : ByteArray × Int → Heap → Prop) (s : ByteArray × Int) (H : Heap) => vizardref05_Sum.W3.vc h0 h1 h2 s.1 s.2 (fun y7_0 H => Q (.exit 4) (mkF 52 [(7, (.string y7_0))]) H) (fun out0 i0 H => RR (out0, i0) H) E H) (fun s' H' => RR ((fun (s : ByteArray × Int) => (mkF 52 [(4, (.slice h0 h1 h2)), (7, (.string s.1)), (8, (.int .i64 s.2))])) s') H') s H = keepT [4, 7, 8] [] (fun i => if i = 4 then [7] else []) (wC Tryz.prog vizardref05_Sum.Γ vizardref05_Sum.W3.plan (sub [1, 1, 1, 1, 1, 1, 1, 0, 1, 0, 0] vizardref05_Sum.body)) (fun e fr' H' => match e with | .normal => RR fr' H' | .exit id => Q (.exit id) fr' H' | .ret => Q .ret fr' H') E ((fun (s : ByteArray × Int) => (mkF 52 [(4, (.slice h0 h1 h2)), (7, (.string s.1)), (8, (.int .i64 s.2))])) s) H := by
  kernel_rfl
theorem vizardref05_Sum.W3.ok : SoundCode Tryz.prog (sub [1, 1, 1, 1, 1, 1, 1, 0, 1, 0] vizardref05_Sum.body) vizardref05_Sum.W3.t := by
  have e : (sub [1, 1, 1, 1, 1, 1, 1, 0, 1, 0] vizardref05_Sum.body) = .loop (sub [1, 1, 1, 1, 1, 1, 1, 0, 1, 0, 0] vizardref05_Sum.body) := by kernel_rfl
  rw [e]
  refine piece_sound (loopN_sound (keepT_sound [4, 7, 8] [] (fun i => if i = 4 then [7] else []) (wC_sound vizardref05_Sum.hΓ Tryz.hm vizardref05_Sum.W3.plan _ vizardref05_Sum.W3.pok))) ?_
  intro Q E fr H h
  unfold vizardref05_Sum.W3.t at h
  obtain ⟨hl, h⟩ := lenIs_elim h
  obtain ⟨h0, h1, h2, q4, h⟩ := slSl_elim h
  obtain ⟨out0, q7, h⟩ := slS_elim h
  obtain ⟨i0, q8, h⟩ := slI_elim h
  obtain ⟨m, h⟩ := h.h
  refine ⟨(mkF 52 [(4, (.slice h0 h1 h2)), (7, (.string out0)), (8, (.int .i64 i0))]), fun a ha => ha.mk (Nat.le_of_eq hl.symm) (List.forall_mem_cons.2 ⟨q4, List.forall_mem_cons.2 ⟨q7, List.forall_mem_cons.2 ⟨q8, fun _ h => nomatch h⟩⟩⟩), m, ?_⟩
  have e := loopS_eq (B := (fun (RR : ByteArray × Int → Heap → Prop) (s : ByteArray × Int) (H : Heap) => vizardref05_Sum.W3.vc h0 h1 h2 s.1 s.2 (fun y7_0 H => Q (.exit 4) (mkF 52 [(7, (.string y7_0))]) H) (fun out0 i0 H => RR (out0, i0) H) E H)) (A := keepT [4, 7, 8] [] (fun i => if i = 4 then [7] else []) (wC Tryz.prog vizardref05_Sum.Γ vizardref05_Sum.W3.plan (sub [1, 1, 1, 1, 1, 1, 1, 0, 1, 0, 0] vizardref05_Sum.body))) (m := (fun (s : ByteArray × Int) => (mkF 52 [(4, (.slice h0 h1 h2)), (7, (.string s.1)), (8, (.int .i64 s.2))]))) (Q := Q) (E := E) (fun RR s H => vizardref05_Sum.W3.eq h0 h1 h2 Q E RR s H) m (out0, i0) H
  exact cast e h
noncomputable def vizardref05_Sum.plan : Plan := .seq (.go) (.seq (.go) (.seq (.block (.use vizardref05_Sum.W1.t)) (.seq (.go) (.seq (.go) (.seq (.seq (.go) (.block (.use vizardref05_Sum.W2.t))) (.seq (.go) (.seq (.seq (.go) (.block (.use vizardref05_Sum.W3.t))) (.go))))))))
theorem vizardref05_Sum.pok : PlanOk Tryz.prog vizardref05_Sum.plan vizardref05_Sum.body := by
  have e : PlanOk Tryz.prog vizardref05_Sum.plan vizardref05_Sum.body = ((True) ∧ ((True) ∧ ((SoundCode Tryz.prog (sub [1, 1, 0, 0] vizardref05_Sum.body) vizardref05_Sum.W1.t) ∧ ((True) ∧ ((True) ∧ (((True) ∧ (SoundCode Tryz.prog (sub [1, 1, 1, 1, 1, 0, 1, 0] vizardref05_Sum.body) vizardref05_Sum.W2.t)) ∧ ((True) ∧ (((True) ∧ (SoundCode Tryz.prog (sub [1, 1, 1, 1, 1, 1, 1, 0, 1, 0] vizardref05_Sum.body) vizardref05_Sum.W3.t)) ∧ (True))))))))) := by kernel_rfl
  exact e.mpr ⟨trivial, ⟨trivial, ⟨vizardref05_Sum.W1.ok, ⟨trivial, ⟨trivial, ⟨⟨trivial, vizardref05_Sum.W2.ok⟩, ⟨trivial, ⟨⟨trivial, vizardref05_Sum.W3.ok⟩, trivial⟩⟩⟩⟩⟩⟩⟩⟩
theorem vizardref05_Sum.eq (s0 : ByteArray) (K : Value → Heap → Prop) (E : Value → Heap → Prop) (H : Heap) :
    fnT Tryz.prog Tryz.f120 (wC Tryz.prog vizardref05_Sum.Γ vizardref05_Sum.plan vizardref05_Sum.body) [(.string s0)] K E H = vizardref05_Sum.vc s0 (fun r0_0 H => K (.string r0_0) H) E H := by
  kernel_rfl
theorem vizardref05_Sum.Fe {args : List Value} {K E : Value → Heap → Prop} {H : Heap} (h : vizardref05_Sum.F args K E H) : ∃ s0, args = [(.string s0)] ∧ vizardref05_Sum.c s0 (fun r0_0 H => K (.string r0_0) H) E H := by
  unfold vizardref05_Sum.F at h
  split at h
  · exact ⟨_, rfl, h⟩
  · exact h.elim
theorem vizardref05_Sum.ok : CalleeOk Tryz.prog 120 vizardref05_Sum.F :=
  callee_ok vizardref05_Sum.hΓ (fn := Tryz.f120) (c := vizardref05_Sum.body) (T := wC Tryz.prog vizardref05_Sum.Γ vizardref05_Sum.plan vizardref05_Sum.body) (by kernel_rfl) (by kernel_rfl) (by kernel_rfl) (wC_sound vizardref05_Sum.hΓ Tryz.hm vizardref05_Sum.plan _ vizardref05_Sum.pok) fun _ K E H h => by
    obtain ⟨z0, e, h⟩ := vizardref05_Sum.Fe h
    subst e
    have h2 : vizardref05_Sum.vc z0 (fun r0_0 H => ∃ H', Heap.Le H' H ∧ K (.string r0_0) H') E H := h.h
    rw [vizardref05_Sum.eq z0 (Fg K) E H]
    exact h2

/-! vizard/vizardref05.turned -/
noncomputable def vizardref05_turned.body : Code := Tryz.f121.body.getD .skip
def vizardref05_turned.J2.vc (key0 : ByteArray) (by0 : Int) (b0 : Option Addr) (b1 : Nat) (b2 : Nat) (i0 : Int) (c0 : Int) (Kn : Option Addr → Nat → Nat → Heap → Prop) (E : Value → Heap → Prop) (h0 : Heap) : Prop :=
  newB (.cells #[(.int .u8 c0)] 5) (fun b3 h1 =>
  rdRow h1 (some (⟨b3, 0, none⟩ : Addr)) (1 * 1) fun cs0 =>
  appT 5 (.int .u8 0) b0 b1 1 b2 1 1 cs0 (fun p0 n0 c1 h2 =>
  Kn p0 n0 c1 h2) h1) h0
structure vizardref05_turned.J2 (key0 : ByteArray) (by0 : Int) (b0 : Option Addr) (b1 : Nat) (b2 : Nat) (i0 : Int) (c0 : Int) (Kn : Option Addr → Nat → Nat → Heap → Prop) (E : Value → Heap → Prop) (H : Heap) : Prop where
  h : vizardref05_turned.J2.vc key0 by0 b0 b1 b2 i0 c0 Kn E H
def vizardref05_turned.J3.vc (key0 : ByteArray) (by0 : Int) (b0 : Option Addr) (b1 : Nat) (b2 : Nat) (i0 : Int) (Kn : Int → Heap → Prop) (E : Value → Heap → Prop) (h0 : Heap) : Prop :=
  Kn (IntKind.i64.wrap (i0 + 1)) h0
structure vizardref05_turned.J3 (key0 : ByteArray) (by0 : Int) (b0 : Option Addr) (b1 : Nat) (b2 : Nat) (i0 : Int) (Kn : Int → Heap → Prop) (E : Value → Heap → Prop) (H : Heap) : Prop where
  h : vizardref05_turned.J3.vc key0 by0 b0 b1 b2 i0 Kn E H
def vizardref05_turned.W1.vc (key0 : ByteArray) (by0 : Int) (b0 : Option Addr) (b1 : Nat) (b2 : Nat) (i0 : Int) (Kx0 : Option Addr → Nat → Nat → Heap → Prop) (RR : Option Addr → Nat → Nat → Int → Heap → Prop) (E : Value → Heap → Prop) (h0 : Heap) : Prop :=
  (if (decide (i0 < 64)) = true then
  (if (decide (i0 < (key0.size : Int))) = true then
  (0 : Int) ≤ i0 ∧ i0 < (key0.size : Int) ∧
  vizardref05_turned.J2 key0 by0 b0 b1 b2 i0 (bits .xor .u8 (bt key0 i0) by0) (fun b3 b4 b5 h1 =>
  vizardref05_turned.J3 key0 by0 b3 b4 b5 i0 (fun i1 h2 =>
  RR b3 b4 b5 i1 h2) E h1) E h0
  else
  vizardref05_turned.J2 key0 by0 b0 b1 b2 i0 by0 (fun b6 b7 b8 h3 =>
  vizardref05_turned.J3 key0 by0 b6 b7 b8 i0 (fun i2 h4 =>
  RR b6 b7 b8 i2 h4) E h3) E h0)
  else
  Kx0 b0 b1 b2 h0)
structure vizardref05_turned.W1 (key0 : ByteArray) (by0 : Int) (b0 : Option Addr) (b1 : Nat) (b2 : Nat) (i0 : Int) (Kx0 : Option Addr → Nat → Nat → Heap → Prop) (E : Value → Heap → Prop) (H : Heap) : Prop where
  h : Loop (fun (RR : Option Addr × Nat × Nat × Int → Heap → Prop) (s : Option Addr × Nat × Nat × Int) (H : Heap) => vizardref05_turned.W1.vc key0 by0 s.1 s.2.1 s.2.2.1 s.2.2.2 Kx0 (fun b0 b1 b2 i0 H => RR (b0, b1, b2, i0) H) E H) (b0, b1, b2, i0) H
def vizardref05_turned.vc (key0 : ByteArray) (by0 : Int) (K : ByteArray → Heap → Prop) (E : Value → Heap → Prop) (h0 : Heap) : Prop :=
  vizardref05_turned.W1 key0 by0 none 0 0 0 (fun b0 b1 b2 h1 =>
  rdBytes h1 b0 b1 fun x0 =>
  K x0 h1) E h0
structure vizardref05_turned.c (key0 : ByteArray) (by0 : Int) (K : ByteArray → Heap → Prop) (E : Value → Heap → Prop) (H : Heap) : Prop where
  h : vizardref05_turned.vc key0 by0 (fun r0_0 H => ∃ H', Heap.Le H' H ∧ K r0_0 H') E H
def vizardref05_turned.F : FT := fun args K E H => match args with
  | [(.string key0), (.int .u8 by0)] => vizardref05_turned.c key0 by0 (fun r0_0 H => K (.string r0_0) H) E H
  | _ => False
noncomputable def vizardref05_turned.Γ : FuncId → Option FT := Γof []
theorem vizardref05_turned.hΓ : ∀ f F, vizardref05_turned.Γ f = some F → CalleeOk Tryz.prog f F := Γof_ok (fun _ h => nomatch h)
def vizardref05_turned.J2.t : CT := fun Q E fr H => lenIs 28 fr (slS fr 0 fun key0 => slI fr 1 .u8 fun by0 => slSl fr 5 fun b0 b1 b2 => slI fr 6 .i64 fun i0 => slI fr 7 .u8 fun c0 => vizardref05_turned.J2 key0 by0 b0 b1 b2 i0 c0 (fun y5_0 y5_1 y5_2 H => Q .normal (mkF 28 [(0, (.string key0)), (1, (.int .u8 by0)), (5, (.slice y5_0 y5_1 y5_2)), (6, (.int .i64 i0))]) H) E H)
noncomputable def vizardref05_turned.J2.plan : Plan := .go
theorem vizardref05_turned.J2.pok : PlanOk Tryz.prog vizardref05_turned.J2.plan (sub [1, 1, 0, 1, 0, 0, 1, 0, 0, 1, 1] vizardref05_turned.body) := by
  have e : PlanOk Tryz.prog vizardref05_turned.J2.plan (sub [1, 1, 0, 1, 0, 0, 1, 0, 0, 1, 1] vizardref05_turned.body) = (True) := by kernel_rfl
  exact e.mpr trivial
theorem vizardref05_turned.J2.eq (key0 : ByteArray) (by0 : Int) (b0 : Option Addr) (b1 : Nat) (b2 : Nat) (i0 : Int) (c0 : Int) (Q : Ex → Fr → Heap → Prop) (E : Value → Heap → Prop) (H : Heap) :
    vizardref05_turned.J2.vc key0 by0 b0 b1 b2 i0 c0 (fun y5_0 y5_1 y5_2 H => Q .normal (mkF 28 [(0, (.string key0)), (1, (.int .u8 by0)), (5, (.slice y5_0 y5_1 y5_2)), (6, (.int .i64 i0))]) H) E H = keepT [0, 1, 5, 6] [] (fun i => []) (wC Tryz.prog vizardref05_turned.Γ vizardref05_turned.J2.plan (sub [1, 1, 0, 1, 0, 0, 1, 0, 0, 1, 1] vizardref05_turned.body)) Q E (mkF 28 [(0, (.string key0)), (1, (.int .u8 by0)), (5, (.slice b0 b1 b2)), (6, (.int .i64 i0)), (7, (.int .u8 c0))]) H := by
  kernel_rfl
theorem vizardref05_turned.J2.ok : SoundCode Tryz.prog (sub [1, 1, 0, 1, 0, 0, 1, 0, 0, 1, 1] vizardref05_turned.body) vizardref05_turned.J2.t := by
  refine piece_sound (keepT_sound [0, 1, 5, 6] [] (fun i => []) (wC_sound vizardref05_turned.hΓ Tryz.hm vizardref05_turned.J2.plan _ vizardref05_turned.J2.pok)) ?_
  intro Q E fr H h
  unfold vizardref05_turned.J2.t at h
  obtain ⟨hl, h⟩ := lenIs_elim h
  obtain ⟨key0, q0, h⟩ := slS_elim h
  obtain ⟨by0, q1, h⟩ := slI_elim h
  obtain ⟨b0, b1, b2, q5, h⟩ := slSl_elim h
  obtain ⟨i0, q6, h⟩ := slI_elim h
  obtain ⟨c0, q7, h⟩ := slI_elim h
  refine ⟨(mkF 28 [(0, (.string key0)), (1, (.int .u8 by0)), (5, (.slice b0 b1 b2)), (6, (.int .i64 i0)), (7, (.int .u8 c0))]), fun a ha => ha.mk (Nat.le_of_eq hl.symm) (List.forall_mem_cons.2 ⟨q0, List.forall_mem_cons.2 ⟨q1, List.forall_mem_cons.2 ⟨q5, List.forall_mem_cons.2 ⟨q6, List.forall_mem_cons.2 ⟨q7, fun _ h => nomatch h⟩⟩⟩⟩⟩), ?_⟩
  have e := vizardref05_turned.J2.eq key0 by0 b0 b1 b2 i0 c0 Q E H
  rw [← e]
  exact h.h
def vizardref05_turned.J3.t : CT := fun Q E fr H => lenIs 28 fr (slS fr 0 fun key0 => slI fr 1 .u8 fun by0 => slSl fr 5 fun b0 b1 b2 => slI fr 6 .i64 fun i0 => vizardref05_turned.J3 key0 by0 b0 b1 b2 i0 (fun y6_0 H => Q .normal (mkF 28 [(0, (.string key0)), (1, (.int .u8 by0)), (5, (.slice b0 b1 b2)), (6, (.int .i64 y6_0))]) H) E H)
noncomputable def vizardref05_turned.J3.plan : Plan := .go
theorem vizardref05_turned.J3.pok : PlanOk Tryz.prog vizardref05_turned.J3.plan (sub [1, 1, 0, 1, 0, 0, 1, 1] vizardref05_turned.body) := by
  have e : PlanOk Tryz.prog vizardref05_turned.J3.plan (sub [1, 1, 0, 1, 0, 0, 1, 1] vizardref05_turned.body) = (True) := by kernel_rfl
  exact e.mpr trivial
theorem vizardref05_turned.J3.eq (key0 : ByteArray) (by0 : Int) (b0 : Option Addr) (b1 : Nat) (b2 : Nat) (i0 : Int) (Q : Ex → Fr → Heap → Prop) (E : Value → Heap → Prop) (H : Heap) :
    vizardref05_turned.J3.vc key0 by0 b0 b1 b2 i0 (fun y6_0 H => Q .normal (mkF 28 [(0, (.string key0)), (1, (.int .u8 by0)), (5, (.slice b0 b1 b2)), (6, (.int .i64 y6_0))]) H) E H = keepT [0, 1, 5, 6] [] (fun i => []) (wC Tryz.prog vizardref05_turned.Γ vizardref05_turned.J3.plan (sub [1, 1, 0, 1, 0, 0, 1, 1] vizardref05_turned.body)) Q E (mkF 28 [(0, (.string key0)), (1, (.int .u8 by0)), (5, (.slice b0 b1 b2)), (6, (.int .i64 i0))]) H := by
  kernel_rfl
theorem vizardref05_turned.J3.ok : SoundCode Tryz.prog (sub [1, 1, 0, 1, 0, 0, 1, 1] vizardref05_turned.body) vizardref05_turned.J3.t := by
  refine piece_sound (keepT_sound [0, 1, 5, 6] [] (fun i => []) (wC_sound vizardref05_turned.hΓ Tryz.hm vizardref05_turned.J3.plan _ vizardref05_turned.J3.pok)) ?_
  intro Q E fr H h
  unfold vizardref05_turned.J3.t at h
  obtain ⟨hl, h⟩ := lenIs_elim h
  obtain ⟨key0, q0, h⟩ := slS_elim h
  obtain ⟨by0, q1, h⟩ := slI_elim h
  obtain ⟨b0, b1, b2, q5, h⟩ := slSl_elim h
  obtain ⟨i0, q6, h⟩ := slI_elim h
  refine ⟨(mkF 28 [(0, (.string key0)), (1, (.int .u8 by0)), (5, (.slice b0 b1 b2)), (6, (.int .i64 i0))]), fun a ha => ha.mk (Nat.le_of_eq hl.symm) (List.forall_mem_cons.2 ⟨q0, List.forall_mem_cons.2 ⟨q1, List.forall_mem_cons.2 ⟨q5, List.forall_mem_cons.2 ⟨q6, fun _ h => nomatch h⟩⟩⟩⟩), ?_⟩
  have e := vizardref05_turned.J3.eq key0 by0 b0 b1 b2 i0 Q E H
  rw [← e]
  exact h.h
def vizardref05_turned.W1.t : CT := fun Q E fr H => lenIs 28 fr (slS fr 0 fun key0 => slI fr 1 .u8 fun by0 => slSl fr 5 fun b0 b1 b2 => slI fr 6 .i64 fun i0 => vizardref05_turned.W1 key0 by0 b0 b1 b2 i0 (fun y5_0 y5_1 y5_2 H => Q (.exit 0) (mkF 28 [(5, (.slice y5_0 y5_1 y5_2))]) H) E H)
noncomputable def vizardref05_turned.W1.plan : Plan := .seq (.go) (.seq (.block (.seq (.go) (.seq (.go) (.use vizardref05_turned.J2.t)))) (.use vizardref05_turned.J3.t))
theorem vizardref05_turned.W1.pok : PlanOk Tryz.prog vizardref05_turned.W1.plan (sub [1, 1, 0, 1, 0, 0] vizardref05_turned.body) := by
  have e : PlanOk Tryz.prog vizardref05_turned.W1.plan (sub [1, 1, 0, 1, 0, 0] vizardref05_turned.body) = ((True) ∧ (((True) ∧ ((True) ∧ (SoundCode Tryz.prog (sub [1, 1, 0, 1, 0, 0, 1, 0, 0, 1, 1] vizardref05_turned.body) vizardref05_turned.J2.t))) ∧ (SoundCode Tryz.prog (sub [1, 1, 0, 1, 0, 0, 1, 1] vizardref05_turned.body) vizardref05_turned.J3.t))) := by kernel_rfl
  exact e.mpr ⟨trivial, ⟨⟨trivial, ⟨trivial, vizardref05_turned.J2.ok⟩⟩, vizardref05_turned.J3.ok⟩⟩
theorem vizardref05_turned.W1.eq (key0 : ByteArray) (by0 : Int) (Q : Ex → Fr → Heap → Prop) (E : Value → Heap → Prop) (RR : Fr → Heap → Prop) (s : Option Addr × Nat × Nat × Int) (H : Heap) :
    (fun (RR : Option Addr × Nat × Nat × Int → Heap → Prop) (s : Option Addr × Nat × Nat × Int) (H : Heap) => vizardref05_turned.W1.vc key0 by0 s.1 s.2.1 s.2.2.1 s.2.2.2 (fun y5_0 y5_1 y5_2 H => Q (.exit 0) (mkF 28 [(5, (.slice y5_0 y5_1 y5_2))]) H) (fun b0 b1 b2 i0 H => RR (b0, b1, b2, i0) H) E H) (fun s' H' => RR ((fun (s : Option Addr × Nat × Nat × Int) => (mkF 28 [(0, (.string key0)), (1, (.int .u8 by0)), (5, (.slice s.1 s.2.1 s.2.2.1)), (6, (.int .i64 s.2.2.2))])) s') H') s H = keepT [0, 1, 5, 6] [] (fun i => if i = 0 then [5] else []) (wC Tryz.prog vizardref05_turned.Γ vizardref05_turned.W1.plan (sub [1, 1, 0, 1, 0, 0] vizardref05_turned.body)) (fun e fr' H' => match e with | .normal => RR fr' H' | .exit id => Q (.exit id) fr' H' | .ret => Q .ret fr' H') E ((fun (s : Option Addr × Nat × Nat × Int) => (mkF 28 [(0, (.string key0)), (1, (.int .u8 by0)), (5, (.slice s.1 s.2.1 s.2.2.1)), (6, (.int .i64 s.2.2.2))])) s) H := by
  kernel_rfl
theorem vizardref05_turned.W1.ok : SoundCode Tryz.prog (sub [1, 1, 0, 1, 0] vizardref05_turned.body) vizardref05_turned.W1.t := by
  have e : (sub [1, 1, 0, 1, 0] vizardref05_turned.body) = .loop (sub [1, 1, 0, 1, 0, 0] vizardref05_turned.body) := by kernel_rfl
  rw [e]
  refine piece_sound (loopN_sound (keepT_sound [0, 1, 5, 6] [] (fun i => if i = 0 then [5] else []) (wC_sound vizardref05_turned.hΓ Tryz.hm vizardref05_turned.W1.plan _ vizardref05_turned.W1.pok))) ?_
  intro Q E fr H h
  unfold vizardref05_turned.W1.t at h
  obtain ⟨hl, h⟩ := lenIs_elim h
  obtain ⟨key0, q0, h⟩ := slS_elim h
  obtain ⟨by0, q1, h⟩ := slI_elim h
  obtain ⟨b0, b1, b2, q5, h⟩ := slSl_elim h
  obtain ⟨i0, q6, h⟩ := slI_elim h
  obtain ⟨m, h⟩ := h.h
  refine ⟨(mkF 28 [(0, (.string key0)), (1, (.int .u8 by0)), (5, (.slice b0 b1 b2)), (6, (.int .i64 i0))]), fun a ha => ha.mk (Nat.le_of_eq hl.symm) (List.forall_mem_cons.2 ⟨q0, List.forall_mem_cons.2 ⟨q1, List.forall_mem_cons.2 ⟨q5, List.forall_mem_cons.2 ⟨q6, fun _ h => nomatch h⟩⟩⟩⟩), m, ?_⟩
  have e := loopS_eq (B := (fun (RR : Option Addr × Nat × Nat × Int → Heap → Prop) (s : Option Addr × Nat × Nat × Int) (H : Heap) => vizardref05_turned.W1.vc key0 by0 s.1 s.2.1 s.2.2.1 s.2.2.2 (fun y5_0 y5_1 y5_2 H => Q (.exit 0) (mkF 28 [(5, (.slice y5_0 y5_1 y5_2))]) H) (fun b0 b1 b2 i0 H => RR (b0, b1, b2, i0) H) E H)) (A := keepT [0, 1, 5, 6] [] (fun i => if i = 0 then [5] else []) (wC Tryz.prog vizardref05_turned.Γ vizardref05_turned.W1.plan (sub [1, 1, 0, 1, 0, 0] vizardref05_turned.body))) (m := (fun (s : Option Addr × Nat × Nat × Int) => (mkF 28 [(0, (.string key0)), (1, (.int .u8 by0)), (5, (.slice s.1 s.2.1 s.2.2.1)), (6, (.int .i64 s.2.2.2))]))) (Q := Q) (E := E) (fun RR s H => vizardref05_turned.W1.eq key0 by0 Q E RR s H) m (b0, b1, b2, i0) H
  exact cast e h
noncomputable def vizardref05_turned.plan : Plan := .seq (.go) (.seq (.go) (.seq (.seq (.go) (.block (.use vizardref05_turned.W1.t))) (.go)))
theorem vizardref05_turned.pok : PlanOk Tryz.prog vizardref05_turned.plan vizardref05_turned.body := by
  have e : PlanOk Tryz.prog vizardref05_turned.plan vizardref05_turned.body = ((True) ∧ ((True) ∧ (((True) ∧ (SoundCode Tryz.prog (sub [1, 1, 0, 1, 0] vizardref05_turned.body) vizardref05_turned.W1.t)) ∧ (True)))) := by kernel_rfl
  exact e.mpr ⟨trivial, ⟨trivial, ⟨⟨trivial, vizardref05_turned.W1.ok⟩, trivial⟩⟩⟩
theorem vizardref05_turned.eq (key0 : ByteArray) (by0 : Int) (K : Value → Heap → Prop) (E : Value → Heap → Prop) (H : Heap) :
    fnT Tryz.prog Tryz.f121 (wC Tryz.prog vizardref05_turned.Γ vizardref05_turned.plan vizardref05_turned.body) [(.string key0), (.int .u8 by0)] K E H = vizardref05_turned.vc key0 by0 (fun r0_0 H => K (.string r0_0) H) E H := by
  kernel_rfl
theorem vizardref05_turned.Fe {args : List Value} {K E : Value → Heap → Prop} {H : Heap} (h : vizardref05_turned.F args K E H) : ∃ key0 by0, args = [(.string key0), (.int .u8 by0)] ∧ vizardref05_turned.c key0 by0 (fun r0_0 H => K (.string r0_0) H) E H := by
  unfold vizardref05_turned.F at h
  split at h
  · exact ⟨_, _, rfl, h⟩
  · exact h.elim
theorem vizardref05_turned.ok : CalleeOk Tryz.prog 121 vizardref05_turned.F :=
  callee_ok vizardref05_turned.hΓ (fn := Tryz.f121) (c := vizardref05_turned.body) (T := wC Tryz.prog vizardref05_turned.Γ vizardref05_turned.plan vizardref05_turned.body) (by kernel_rfl) (by kernel_rfl) (by kernel_rfl) (wC_sound vizardref05_turned.hΓ Tryz.hm vizardref05_turned.plan _ vizardref05_turned.pok) fun _ K E H h => by
    obtain ⟨z0, z1, e, h⟩ := vizardref05_turned.Fe h
    subst e
    have h2 : vizardref05_turned.vc z0 z1 (fun r0_0 H => ∃ H', Heap.Le H' H ∧ K (.string r0_0) H') E H := h.h
    rw [vizardref05_turned.eq z0 z1 (Fg K) E H]
    exact h2

/-! vizard/vizardref05.Hmac -/
noncomputable def vizardref05_Hmac.body : Code := Tryz.f69.body.getD .skip
def vizardref05_Hmac.J1.vc (key0 : ByteArray) (s0 : ByteArray) (Kr : ByteArray → Heap → Prop) (E : Value → Heap → Prop) (h0 : Heap) : Prop :=
  vizardref05_turned.c key0 92 (fun x0 h1 =>
  vizardref05_turned.c key0 54 (fun x1 h2 =>
  x1.size + s0.size ≤ 9223372036854775807 ∧
  vizardref05_Sum.c (x1 ++ s0) (fun x2 h3 =>
  x0.size + x2.size ≤ 9223372036854775807 ∧
  vizardref05_Sum.c (x0 ++ x2) Kr E h3) E h2) E h1) E h0
structure vizardref05_Hmac.J1 (key0 : ByteArray) (s0 : ByteArray) (Kr : ByteArray → Heap → Prop) (E : Value → Heap → Prop) (H : Heap) : Prop where
  h : vizardref05_Hmac.J1.vc key0 s0 Kr E H
def vizardref05_Hmac.vc (key0 : ByteArray) (s0 : ByteArray) (K : ByteArray → Heap → Prop) (E : Value → Heap → Prop) (h0 : Heap) : Prop :=
  (if (decide ((key0.size : Int) > 64)) = true then
  vizardref05_Sum.c key0 (fun x0 h1 =>
  vizardref05_Hmac.J1 x0 s0 K E h1) E h0
  else
  vizardref05_Hmac.J1 key0 s0 K E h0)
structure vizardref05_Hmac.c (key0 : ByteArray) (s0 : ByteArray) (K : ByteArray → Heap → Prop) (E : Value → Heap → Prop) (H : Heap) : Prop where
  h : vizardref05_Hmac.vc key0 s0 (fun r0_0 H => ∃ H', Heap.Le H' H ∧ K r0_0 H') E H
def vizardref05_Hmac.F : FT := fun args K E H => match args with
  | [(.string key0), (.string s0)] => vizardref05_Hmac.c key0 s0 (fun r0_0 H => K (.string r0_0) H) E H
  | _ => False
noncomputable def vizardref05_Hmac.Γ : FuncId → Option FT := Γof [(120, vizardref05_Sum.F), (121, vizardref05_turned.F)]
theorem vizardref05_Hmac.hΓ : ∀ f F, vizardref05_Hmac.Γ f = some F → CalleeOk Tryz.prog f F := Γof_ok (List.forall_mem_cons.2 ⟨vizardref05_Sum.ok, List.forall_mem_cons.2 ⟨vizardref05_turned.ok, fun _ h => nomatch h⟩⟩)
def vizardref05_Hmac.J1.t : CT := fun Q E fr H => lenIs 19 fr (slS fr 0 fun key0 => slS fr 1 fun s0 => vizardref05_Hmac.J1 key0 s0 (fun y4_0 H => Q .ret (mkF 19 [(4, (.string y4_0))]) H) E H)
noncomputable def vizardref05_Hmac.J1.plan : Plan := .go
theorem vizardref05_Hmac.J1.pok : PlanOk Tryz.prog vizardref05_Hmac.J1.plan (sub [1, 1] vizardref05_Hmac.body) := by
  have e : PlanOk Tryz.prog vizardref05_Hmac.J1.plan (sub [1, 1] vizardref05_Hmac.body) = (True) := by kernel_rfl
  exact e.mpr trivial
theorem vizardref05_Hmac.J1.eq (key0 : ByteArray) (s0 : ByteArray) (Q : Ex → Fr → Heap → Prop) (E : Value → Heap → Prop) (H : Heap) :
    vizardref05_Hmac.J1.vc key0 s0 (fun y4_0 H => Q .ret (mkF 19 [(4, (.string y4_0))]) H) E H = keepT [] [4] (fun i => []) (wC Tryz.prog vizardref05_Hmac.Γ vizardref05_Hmac.J1.plan (sub [1, 1] vizardref05_Hmac.body)) Q E (mkF 19 [(0, (.string key0)), (1, (.string s0))]) H := by
  kernel_rfl
theorem vizardref05_Hmac.J1.ok : SoundCode Tryz.prog (sub [1, 1] vizardref05_Hmac.body) vizardref05_Hmac.J1.t := by
  refine piece_sound (keepT_sound [] [4] (fun i => []) (wC_sound vizardref05_Hmac.hΓ Tryz.hm vizardref05_Hmac.J1.plan _ vizardref05_Hmac.J1.pok)) ?_
  intro Q E fr H h
  unfold vizardref05_Hmac.J1.t at h
  obtain ⟨hl, h⟩ := lenIs_elim h
  obtain ⟨key0, q0, h⟩ := slS_elim h
  obtain ⟨s0, q1, h⟩ := slS_elim h
  refine ⟨(mkF 19 [(0, (.string key0)), (1, (.string s0))]), fun a ha => ha.mk (Nat.le_of_eq hl.symm) (List.forall_mem_cons.2 ⟨q0, List.forall_mem_cons.2 ⟨q1, fun _ h => nomatch h⟩⟩), ?_⟩
  have e := vizardref05_Hmac.J1.eq key0 s0 Q E H
  rw [← e]
  exact h.h
noncomputable def vizardref05_Hmac.plan : Plan := .seq (.go) (.seq (.go) (.use vizardref05_Hmac.J1.t))
theorem vizardref05_Hmac.pok : PlanOk Tryz.prog vizardref05_Hmac.plan vizardref05_Hmac.body := by
  have e : PlanOk Tryz.prog vizardref05_Hmac.plan vizardref05_Hmac.body = ((True) ∧ ((True) ∧ (SoundCode Tryz.prog (sub [1, 1] vizardref05_Hmac.body) vizardref05_Hmac.J1.t))) := by kernel_rfl
  exact e.mpr ⟨trivial, ⟨trivial, vizardref05_Hmac.J1.ok⟩⟩
theorem vizardref05_Hmac.eq (key0 : ByteArray) (s0 : ByteArray) (K : Value → Heap → Prop) (E : Value → Heap → Prop) (H : Heap) :
    fnT Tryz.prog Tryz.f69 (wC Tryz.prog vizardref05_Hmac.Γ vizardref05_Hmac.plan vizardref05_Hmac.body) [(.string key0), (.string s0)] K E H = vizardref05_Hmac.vc key0 s0 (fun r0_0 H => K (.string r0_0) H) E H := by
  kernel_rfl
theorem vizardref05_Hmac.Fe {args : List Value} {K E : Value → Heap → Prop} {H : Heap} (h : vizardref05_Hmac.F args K E H) : ∃ key0 s0, args = [(.string key0), (.string s0)] ∧ vizardref05_Hmac.c key0 s0 (fun r0_0 H => K (.string r0_0) H) E H := by
  unfold vizardref05_Hmac.F at h
  split at h
  · exact ⟨_, _, rfl, h⟩
  · exact h.elim
theorem vizardref05_Hmac.ok : CalleeOk Tryz.prog 69 vizardref05_Hmac.F :=
  callee_ok vizardref05_Hmac.hΓ (fn := Tryz.f69) (c := vizardref05_Hmac.body) (T := wC Tryz.prog vizardref05_Hmac.Γ vizardref05_Hmac.plan vizardref05_Hmac.body) (by kernel_rfl) (by kernel_rfl) (by kernel_rfl) (wC_sound vizardref05_Hmac.hΓ Tryz.hm vizardref05_Hmac.plan _ vizardref05_Hmac.pok) fun _ K E H h => by
    obtain ⟨z0, z1, e, h⟩ := vizardref05_Hmac.Fe h
    subst e
    have h2 : vizardref05_Hmac.vc z0 z1 (fun r0_0 H => ∃ H', Heap.Le H' H ∧ K (.string r0_0) H') E H := h.h
    rw [vizardref05_Hmac.eq z0 z1 (Fg K) E H]
    exact h2

/-! vizard/vizardref05.Derive -/
noncomputable def vizardref05_Derive.body : Code := Tryz.f31.body.getD .skip
def vizardref05_Derive.vc (key0 : ByteArray) (label0 : ByteArray) (context0 : ByteArray) (K : ByteArray → Heap → Prop) (E : Value → Heap → Prop) (h0 : Heap) : Prop :=
  vizardref01_Text.c label0 (fun x0 h1 =>
  vizardref01_Text.c context0 (fun x1 h2 =>
  x0.size + x1.size ≤ 9223372036854775807 ∧
  vizardref05_Hmac.c key0 (x0 ++ x1) K E h2) E h1) E h0
structure vizardref05_Derive.c (key0 : ByteArray) (label0 : ByteArray) (context0 : ByteArray) (K : ByteArray → Heap → Prop) (E : Value → Heap → Prop) (H : Heap) : Prop where
  h : vizardref05_Derive.vc key0 label0 context0 (fun r0_0 H => ∃ H', Heap.Le H' H ∧ K r0_0 H') E H
def vizardref05_Derive.F : FT := fun args K E H => match args with
  | [(.string key0), (.string label0), (.string context0)] => vizardref05_Derive.c key0 label0 context0 (fun r0_0 H => K (.string r0_0) H) E H
  | _ => False
noncomputable def vizardref05_Derive.Γ : FuncId → Option FT := Γof [(69, vizardref05_Hmac.F), (70, vizardref01_Text.F)]
theorem vizardref05_Derive.hΓ : ∀ f F, vizardref05_Derive.Γ f = some F → CalleeOk Tryz.prog f F := Γof_ok (List.forall_mem_cons.2 ⟨vizardref05_Hmac.ok, List.forall_mem_cons.2 ⟨vizardref01_Text.ok, fun _ h => nomatch h⟩⟩)
noncomputable def vizardref05_Derive.plan : Plan := .go
theorem vizardref05_Derive.pok : PlanOk Tryz.prog vizardref05_Derive.plan vizardref05_Derive.body := by
  have e : PlanOk Tryz.prog vizardref05_Derive.plan vizardref05_Derive.body = (True) := by kernel_rfl
  exact e.mpr trivial
theorem vizardref05_Derive.eq (key0 : ByteArray) (label0 : ByteArray) (context0 : ByteArray) (K : Value → Heap → Prop) (E : Value → Heap → Prop) (H : Heap) :
    fnT Tryz.prog Tryz.f31 (wC Tryz.prog vizardref05_Derive.Γ vizardref05_Derive.plan vizardref05_Derive.body) [(.string key0), (.string label0), (.string context0)] K E H = vizardref05_Derive.vc key0 label0 context0 (fun r0_0 H => K (.string r0_0) H) E H := by
  kernel_rfl
theorem vizardref05_Derive.Fe {args : List Value} {K E : Value → Heap → Prop} {H : Heap} (h : vizardref05_Derive.F args K E H) : ∃ key0 label0 context0, args = [(.string key0), (.string label0), (.string context0)] ∧ vizardref05_Derive.c key0 label0 context0 (fun r0_0 H => K (.string r0_0) H) E H := by
  unfold vizardref05_Derive.F at h
  split at h
  · exact ⟨_, _, _, rfl, h⟩
  · exact h.elim
theorem vizardref05_Derive.ok : CalleeOk Tryz.prog 31 vizardref05_Derive.F :=
  callee_ok vizardref05_Derive.hΓ (fn := Tryz.f31) (c := vizardref05_Derive.body) (T := wC Tryz.prog vizardref05_Derive.Γ vizardref05_Derive.plan vizardref05_Derive.body) (by kernel_rfl) (by kernel_rfl) (by kernel_rfl) (wC_sound vizardref05_Derive.hΓ Tryz.hm vizardref05_Derive.plan _ vizardref05_Derive.pok) fun _ K E H h => by
    obtain ⟨z0, z1, z2, e, h⟩ := vizardref05_Derive.Fe h
    subst e
    have h2 : vizardref05_Derive.vc z0 z1 z2 (fun r0_0 H => ∃ H', Heap.Le H' H ∧ K (.string r0_0) H') E H := h.h
    rw [vizardref05_Derive.eq z0 z1 z2 (Fg K) E H]
    exact h2
end Go.Sh
