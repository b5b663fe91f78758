/- PRINTED by a program (sh.py): what the walk over each function asks, and that it asks just that. -/
import Derived.Test.YtjbfpeeigjjbdaaG1
namespace Go.Sh
open Go.Proofs
set_option linter.unusedVariables false
set_option maxRecDepth 8000
/-! vizard/vizardlaw18.own -/
noncomputable def vizardlaw18_own.body : Code := Try.f24.body.getD .skip
def vizardlaw18_own.vc (l0 : Option Addr) (l1 : Nat) (l2 : Nat) (K : Option Addr → Nat → Nat → Heap → Prop) (E : Value → Heap → Prop) (h0 : Heap) : Prop :=
  newB (.cells #[] 91) (fun b0 h1 =>
  rdRow h1 l0 (l1 * 6) fun cs0 =>
  appT 91 (.agg #[(.bool false), (.int .i64 0), (.int .u32 0), (.int .i64 0), (.int .i64 0), (.int .i64 0)]) (some (⟨b0, 0, none⟩ : Addr)) 0 l1 0 6 48 cs0 (fun p0 n0 c0 h2 =>
  K p0 n0 c0 h2) h1) h0
structure vizardlaw18_own.c (l0 : Option Addr) (l1 : Nat) (l2 : Nat) (K : Option Addr → Nat → Nat → Heap → Prop) (E : Value → Heap → Prop) (H : Heap) : Prop where
  h : vizardlaw18_own.vc l0 l1 l2 (fun r0_0 r0_1 r0_2 H => ∃ H', Heap.Le H' H ∧ K r0_0 r0_1 r0_2 H') E H
def vizardlaw18_own.F : FT := fun args K E H => match args with
  | [(.slice l0 l1 l2)] => vizardlaw18_own.c l0 l1 l2 (fun r0_0 r0_1 r0_2 H => K (.slice r0_0 r0_1 r0_2) H) E H
  | _ => False
noncomputable def vizardlaw18_own.Γ : FuncId → Option FT := Γof []
theorem vizardlaw18_own.hΓ : ∀ f F, vizardlaw18_own.Γ f = some F → CalleeOk Try.prog f F := Γof_ok (fun _ h => nomatch h)
noncomputable def vizardlaw18_own.plan : Plan := .go
theorem vizardlaw18_own.pok : PlanOk Try.prog vizardlaw18_own.plan vizardlaw18_own.body := by
  have e : PlanOk Try.prog vizardlaw18_own.plan vizardlaw18_own.body = (True) := by kernel_rfl
  exact e.mpr trivial
theorem vizardlaw18_own.eq (l0 : Option Addr) (l1 : Nat) (l2 : Nat) (K : Value → Heap → Prop) (E : Value → Heap → Prop) (H : Heap) :
    fnT Try.prog Try.f24 (wC Try.prog vizardlaw18_own.Γ vizardlaw18_own.plan vizardlaw18_own.body) [(.slice l0 l1 l2)] K E H = vizardlaw18_own.vc l0 l1 l2 (fun r0_0 r0_1 r0_2 H => K (.slice r0_0 r0_1 r0_2) H) E H := by
  kernel_rfl
theorem vizardlaw18_own.Fe {args : List Value} {K E : Value → Heap → Prop} {H : Heap} (h : vizardlaw18_own.F args K E H) : ∃ l0 l1 l2, args = [(.slice l0 l1 l2)] ∧ vizardlaw18_own.c l0 l1 l2 (fun r0_0 r0_1 r0_2 H => K (.slice r0_0 r0_1 r0_2) H) E H := by
  unfold vizardlaw18_own.F at h
  split at h
  · exact ⟨_, _, _, rfl, h⟩
  · exact h.elim
theorem vizardlaw18_own.ok : CalleeOk Try.prog 24 vizardlaw18_own.F :=
  callee_ok vizardlaw18_own.hΓ (fn := Try.f24) (c := vizardlaw18_own.body) (T := wC Try.prog vizardlaw18_own.Γ vizardlaw18_own.plan vizardlaw18_own.body) (by kernel_rfl) (by kernel_rfl) (by kernel_rfl) (wC_sound vizardlaw18_own.hΓ Try.hm vizardlaw18_own.plan _ vizardlaw18_own.pok) fun _ K E H h => by
    obtain ⟨z0, z1, z2, e, h⟩ := vizardlaw18_own.Fe h
    subst e
    have h2 : vizardlaw18_own.vc z0 z1 z2 (fun r0_0 r0_1 r0_2 H => ∃ H', Heap.Le H' H ∧ K (.slice r0_0 r0_1 r0_2) H') E H := h.h
    rw [vizardlaw18_own.eq z0 z1 z2 (Fg K) E H]
    exact h2

/-! vizard/policy.right -/
noncomputable def policy_right.body : Code := Try.f54.body.getD .skip
def policy_right.vc (x0 : Bool) (x1 : Int) (x2 : Int) (x3 : Int) (x4 : Int) (x5 : Int) (K : Bool → Heap → Prop) (E : Value → Heap → Prop) (h0 : Heap) : Prop :=
  newB (.cells #[(.bool x0), (.int .i64 x1), (.int .u32 x2), (.int .i64 x3), (.int .i64 x4), (.int .i64 x5)] 91) (fun b0 h1 =>
  ldI h1 .i64 ((⟨b0, 0, none⟩ : Addr).add 1) fun x6 =>
  (if (decide (x6 ≥ 0)) = true then
  ldI h1 .i64 ((⟨b0, 0, none⟩ : Addr).add 1) fun x7 =>
  (if (decide (x7 ≤ 255)) = true then
  ldI h1 .u32 (((⟨b0, 0, none⟩ : Addr).add 2).add 0) fun x8 => ldI h1 .i64 (((⟨b0, 0, none⟩ : Addr).add 2).add 1) fun x9 =>
  prefix_Check.c x8 x9 (fun x10 h2 =>
  (if x10 = true then
  ldI h2 .i64 ((⟨b0, 0, none⟩ : Addr).add 4) fun x11 =>
  (if (decide (x11 ≥ 0)) = true then
  ldI h2 .i64 ((⟨b0, 0, none⟩ : Addr).add 4) fun x12 =>
  ldI h2 .i64 ((⟨b0, 0, none⟩ : Addr).add 5) fun x13 =>
  (if (decide (x12 ≤ x13)) = true then
  ldI h2 .i64 ((⟨b0, 0, none⟩ : Addr).add 5) fun x14 =>
  K (decide (x14 ≤ 65535)) h2
  else
  K false h2)
  else
  K false h2)
  else
  K false h2)) E h1
  else
  K false h1)
  else
  K false h1)) h0
structure policy_right.c (x0 : Bool) (x1 : Int) (x2 : Int) (x3 : Int) (x4 : Int) (x5 : Int) (K : Bool → Heap → Prop) (E : Value → Heap → Prop) (H : Heap) : Prop where
  h : policy_right.vc x0 x1 x2 x3 x4 x5 (fun r0_0 H => ∃ H', Heap.Le H' H ∧ K r0_0 H') E H
def policy_right.F : FT := fun args K E H => match args with
  | [(.agg ⟨[(.bool x0), (.int .i64 x1), (.int .u32 x2), (.int .i64 x3), (.int .i64 x4), (.int .i64 x5)]⟩)] => policy_right.c x0 x1 x2 x3 x4 x5 (fun r0_0 H => K (.bool r0_0) H) E H
  | _ => False
noncomputable def policy_right.Γ : FuncId → Option FT := Γof [(15, prefix_Check.F)]
theorem policy_right.hΓ : ∀ f F, policy_right.Γ f = some F → CalleeOk Try.prog f F := Γof_ok (List.forall_mem_cons.2 ⟨prefix_Check.ok, fun _ h => nomatch h⟩)
noncomputable def policy_right.plan : Plan := .go
theorem policy_right.pok : PlanOk Try.prog policy_right.plan policy_right.body := by
  have e : PlanOk Try.prog policy_right.plan policy_right.body = (True) := by kernel_rfl
  exact e.mpr trivial
theorem policy_right.eq (x0 : Bool) (x1 : Int) (x2 : Int) (x3 : Int) (x4 : Int) (x5 : Int) (K : Value → Heap → Prop) (E : Value → Heap → Prop) (H : Heap) :
    fnT Try.prog Try.f54 (wC Try.prog policy_right.Γ policy_right.plan policy_right.body) [(.agg #[(.bool x0), (.int .i64 x1), (.int .u32 x2), (.int .i64 x3), (.int .i64 x4), (.int .i64 x5)])] K E H = policy_right.vc x0 x1 x2 x3 x4 x5 (fun r0_0 H => K (.bool r0_0) H) E H := by
  kernel_rfl
theorem policy_right.Fe {args : List Value} {K E : Value → Heap → Prop} {H : Heap} (h : policy_right.F args K E H) : ∃ x0 x1 x2 x3 x4 x5, args = [(.agg #[(.bool x0), (.int .i64 x1), (.int .u32 x2), (.int .i64 x3), (.int .i64 x4), (.int .i64 x5)])] ∧ policy_right.c x0 x1 x2 x3 x4 x5 (fun r0_0 H => K (.bool r0_0) H) E H := by
  unfold policy_right.F at h
  split at h
  · exact ⟨_, _, _, _, _, _, rfl, h⟩
  · exact h.elim
theorem policy_right.ok : CalleeOk Try.prog 54 policy_right.F :=
  callee_ok policy_right.hΓ (fn := Try.f54) (c := policy_right.body) (T := wC Try.prog policy_right.Γ policy_right.plan policy_right.body) (by kernel_rfl) (by kernel_rfl) (by kernel_rfl) (wC_sound policy_right.hΓ Try.hm policy_right.plan _ policy_right.pok) fun _ K E H h => by
    obtain ⟨z0, z1, z2, z3, z4, z5, e, h⟩ := policy_right.Fe h
    subst e
    have h2 : policy_right.vc z0 z1 z2 z3 z4 z5 (fun r0_0 H => ∃ H', Heap.Le H' H ∧ K (.bool r0_0) H') E H := h.h
    rw [policy_right.eq z0 z1 z2 z3 z4 z5 (Fg K) E H]
    exact h2

/-! vizard/policy.Check -/
noncomputable def policy_Check.body : Code := Try.f23.body.getD .skip
def policy_Check.W1.vc (x0 : Option Addr) (x1 : Nat) (x2 : Nat) (x3 : Int) (x4 : Int) (Kx0 : Heap → Prop) (Kr : Int → Heap → Prop) (RR : Int → Heap → Prop) (E : Value → Heap → Prop) (h0 : Heap) : Prop :=
  (if (decide (x4 < x3)) = true then
  nilc x0 fun a0 => (0 : Int) ≤ x4 ∧ x4 < (x1 : Int) ∧
  ldB h0 ((a0.add (x4.toNat * 6)).add 0) fun x5 => ldI h0 .i64 ((a0.add (x4.toNat * 6)).add 1) fun x6 => ldI h0 .u32 ((a0.add (x4.toNat * 6)).add 2) fun x7 => ldI h0 .i64 ((a0.add (x4.toNat * 6)).add 3) fun x8 => ldI h0 .i64 ((a0.add (x4.toNat * 6)).add 4) fun x9 => ldI h0 .i64 ((a0.add (x4.toNat * 6)).add 5) fun x10 =>
  newB (.cells #[(.bool false), (.int .i64 0), (.int .u32 0), (.int .i64 0), (.int .i64 0), (.int .i64 0)] 91) (fun b0 h1 =>
  stc h1 ((⟨b0, 0, none⟩ : Addr).add 0) (.bool x5) fun h2 =>
  stc h2 ((⟨b0, 0, none⟩ : Addr).add 1) (.int .i64 x6) fun h3 =>
  stc h3 ((⟨b0, 0, none⟩ : Addr).add 2) (.int .u32 x7) fun h4 =>
  stc h4 ((⟨b0, 0, none⟩ : Addr).add 3) (.int .i64 x8) fun h5 =>
  stc h5 ((⟨b0, 0, none⟩ : Addr).add 4) (.int .i64 x9) fun h6 =>
  stc h6 ((⟨b0, 0, none⟩ : Addr).add 5) (.int .i64 x10) fun h7 =>
  ldB h7 ((⟨b0, 0, none⟩ : Addr).add 0) fun x11 => ldI h7 .i64 ((⟨b0, 0, none⟩ : Addr).add 1) fun x12 => ldI h7 .u32 ((⟨b0, 0, none⟩ : Addr).add 2) fun x13 => ldI h7 .i64 ((⟨b0, 0, none⟩ : Addr).add 3) fun x14 => ldI h7 .i64 ((⟨b0, 0, none⟩ : Addr).add 4) fun x15 => ldI h7 .i64 ((⟨b0, 0, none⟩ : Addr).add 5) fun x16 =>
  policy_right.c x11 x12 x13 x14 x15 x16 (fun x17 h8 =>
  (if (!x17) = true then
  Kr 2 h8
  else
  RR (IntKind.i64.wrap (x4 + 1)) h8)) E h7) h0
  else
  Kx0 h0)
structure policy_Check.W1 (x0 : Option Addr) (x1 : Nat) (x2 : Nat) (x3 : Int) (x4 : Int) (Kx0 : Heap → Prop) (Kr : Int → Heap → Prop) (E : Value → Heap → Prop) (H : Heap) : Prop where
  h : Loop (fun (RR : Int → Heap → Prop) (s : Int) (H : Heap) => policy_Check.W1.vc x0 x1 x2 x3 s Kx0 Kr (fun x4 H => RR (x4) H) E H) (x4) H
def policy_Check.vc (l0 : Option Addr) (l1 : Nat) (l2 : Nat) (K : Int → Heap → Prop) (E : Value → Heap → Prop) (h0 : Heap) : Prop :=
  (if (decide ((l1 : Int) > 32)) = true then
  K 8 h0
  else
  policy_Check.W1 l0 l1 l2 (l1 : Int) 0 (fun h1 =>
  K 0 h1) K E h0)
structure policy_Check.c (l0 : Option Addr) (l1 : Nat) (l2 : Nat) (K : Int → Heap → Prop) (E : Value → Heap → Prop) (H : Heap) : Prop where
  h : policy_Check.vc l0 l1 l2 (fun r0_0 H => ∃ H', Heap.Le H' H ∧ K r0_0 H') E H
def policy_Check.F : FT := fun args K E H => match args with
  | [(.slice l0 l1 l2)] => policy_Check.c l0 l1 l2 (fun r0_0 H => K (.int .i64 r0_0) H) E H
  | _ => False
noncomputable def policy_Check.Γ : FuncId → Option FT := Γof [(54, policy_right.F)]
theorem policy_Check.hΓ : ∀ f F, policy_Check.Γ f = some F → CalleeOk Try.prog f F := Γof_ok (List.forall_mem_cons.2 ⟨policy_right.ok, fun _ h => nomatch h⟩)
def policy_Check.W1.t : CT := fun Q E fr H => lenIs 18 fr (slSl fr 8 fun x0 x1 x2 => slI fr 9 .i64 fun x3 => slI fr 10 .i64 fun x4 => policy_Check.W1 x0 x1 x2 x3 x4 (fun  H => Q (.exit 0) (mkF 18 []) H) (fun y2_0 H => Q .ret (mkF 18 [(2, (.int .i64 y2_0))]) H) E H)
noncomputable def policy_Check.W1.plan : Plan := .go
theorem policy_Check.W1.pok : PlanOk Try.prog policy_Check.W1.plan (sub [1, 1, 0, 1, 0, 0] policy_Check.body) := by
  have e : PlanOk Try.prog policy_Check.W1.plan (sub [1, 1, 0, 1, 0, 0] policy_Check.body) = (True) := by kernel_rfl
  exact e.mpr trivial
theorem policy_Check.W1.eq (x0 : Option Addr) (x1 : Nat) (x2 : Nat) (x3 : Int) (Q : Ex → Fr → Heap → Prop) (E : Value → Heap → Prop) (RR : Fr → Heap → Prop) (s : Int) (H : Heap) :
    (fun (RR : Int → Heap → Prop) (s : Int) (H : Heap) => policy_Check.W1.vc x0 x1 x2 x3 s (fun  H => Q (.exit 0) (mkF 18 []) H) (fun y2_0 H => Q .ret (mkF 18 [(2, (.int .i64 y2_0))]) H) (fun x4 H => RR (x4) H) E H) (fun s' H' => RR ((fun (s : Int) => (mkF 18 [(8, (.slice x0 x1 x2)), (9, (.int .i64 x3)), (10, (.int .i64 s))])) s') H') s H = keepT [8, 9, 10] [2] (fun i => if i = 0 then [] else []) (wC Try.prog policy_Check.Γ policy_Check.W1.plan (sub [1, 1, 0, 1, 0, 0] policy_Check.body)) (fun e fr' H' => match e with | .normal => RR fr' H' | .exit id => Q (.exit id) fr' H' | .ret => Q .ret fr' H') E ((fun (s : Int) => (mkF 18 [(8, (.slice x0 x1 x2)), (9, (.int .i64 x3)), (10, (.int .i64 s))])) s) H := by
  kernel_rfl
theorem policy_Check.W1.ok : SoundCode Try.prog (sub [1, 1, 0, 1, 0] policy_Check.body) policy_Check.W1.t := by
  have e : (sub [1, 1, 0, 1, 0] policy_Check.body) = .loop (sub [1, 1, 0, 1, 0, 0] policy_Check.body) := by kernel_rfl
  rw [e]
  refine piece_sound (loopN_sound (keepT_sound [8, 9, 10] [2] (fun i => if i = 0 then [] else []) (wC_sound policy_Check.hΓ Try.hm policy_Check.W1.plan _ policy_Check.W1.pok))) ?_
  intro Q E fr H h
  unfold policy_Check.W1.t at h
  obtain ⟨hl, h⟩ := lenIs_elim h
  obtain ⟨x0, x1, x2, q8, h⟩ := slSl_elim h
  obtain ⟨x3, q9, h⟩ := slI_elim h
  obtain ⟨x4, q10, h⟩ := slI_elim h
  obtain ⟨m, h⟩ := h.h
  refine ⟨(mkF 18 [(8, (.slice x0 x1 x2)), (9, (.int .i64 x3)), (10, (.int .i64 x4))]), fun a ha => ha.mk (Nat.le_of_eq hl.symm) (List.forall_mem_cons.2 ⟨q8, List.forall_mem_cons.2 ⟨q9, List.forall_mem_cons.2 ⟨q10, fun _ h => nomatch h⟩⟩⟩), m, ?_⟩
  have e := loopS_eq (B := (fun (RR : Int → Heap → Prop) (s : Int) (H : Heap) => policy_Check.W1.vc x0 x1 x2 x3 s (fun  H => Q (.exit 0) (mkF 18 []) H) (fun y2_0 H => Q .ret (mkF 18 [(2, (.int .i64 y2_0))]) H) (fun x4 H => RR (x4) H) E H)) (A := keepT [8, 9, 10] [2] (fun i => if i = 0 then [] else []) (wC Try.prog policy_Check.Γ policy_Check.W1.plan (sub [1, 1, 0, 1, 0, 0] policy_Check.body))) (m := (fun (s : Int) => (mkF 18 [(8, (.slice x0 x1 x2)), (9, (.int .i64 x3)), (10, (.int .i64 s))]))) (Q := Q) (E := E) (fun RR s H => policy_Check.W1.eq x0 x1 x2 x3 Q E RR s H) m (x4) H
  exact cast e h
noncomputable def policy_Check.plan : Plan := .seq (.go) (.seq (.go) (.seq (.seq (.go) (.block (.use policy_Check.W1.t))) (.go)))
theorem policy_Check.pok : PlanOk Try.prog policy_Check.plan policy_Check.body := by
  have e : PlanOk Try.prog policy_Check.plan policy_Check.body = ((True) ∧ ((True) ∧ (((True) ∧ (SoundCode Try.prog (sub [1, 1, 0, 1, 0] policy_Check.body) policy_Check.W1.t)) ∧ (True)))) := by kernel_rfl
  exact e.mpr ⟨trivial, ⟨trivial, ⟨⟨trivial, policy_Check.W1.ok⟩, trivial⟩⟩⟩
theorem policy_Check.eq (l0 : Option Addr) (l1 : Nat) (l2 : Nat) (K : Value → Heap → Prop) (E : Value → Heap → Prop) (H : Heap) :
    fnT Try.prog Try.f23 (wC Try.prog policy_Check.Γ policy_Check.plan policy_Check.body) [(.slice l0 l1 l2)] K E H = policy_Check.vc l0 l1 l2 (fun r0_0 H => K (.int .i64 r0_0) H) E H := by
  kernel_rfl
theorem policy_Check.Fe {args : List Value} {K E : Value → Heap → Prop} {H : Heap} (h : policy_Check.F args K E H) : ∃ l0 l1 l2, args = [(.slice l0 l1 l2)] ∧ policy_Check.c l0 l1 l2 (fun r0_0 H => K (.int .i64 r0_0) H) E H := by
  unfold policy_Check.F at h
  split at h
  · exact ⟨_, _, _, rfl, h⟩
  · exact h.elim
theorem policy_Check.ok : CalleeOk Try.prog 23 policy_Check.F :=
  callee_ok policy_Check.hΓ (fn := Try.f23) (c := policy_Check.body) (T := wC Try.prog policy_Check.Γ policy_Check.plan policy_Check.body) (by kernel_rfl) (by kernel_rfl) (by kernel_rfl) (wC_sound policy_Check.hΓ Try.hm policy_Check.plan _ policy_Check.pok) fun _ K E H h => by
    obtain ⟨z0, z1, z2, e, h⟩ := policy_Check.Fe h
    subst e
    have h2 : policy_Check.vc z0 z1 z2 (fun r0_0 H => ∃ H', Heap.Le H' H ∧ K (.int .i64 r0_0) H') E H := h.h
    rw [policy_Check.eq z0 z1 z2 (Fg K) E H]
    exact h2

/-! vizard/vizardref18.port -/
noncomputable def vizardref18_port.body : Code := Try.f55.body.getD .skip
def vizardref18_port.vc (n0 : Int) (K : Bool → Heap → Prop) (E : Value → Heap → Prop) (h0 : Heap) : Prop :=
  (if (decide (n0 ≥ 0)) = true then
  K (decide (n0 ≤ 65535)) h0
  else
  K false h0)
structure vizardref18_port.c (n0 : Int) (K : Bool → Heap → Prop) (E : Value → Heap → Prop) (H : Heap) : Prop where
  h : vizardref18_port.vc n0 (fun r0_0 H => ∃ H', Heap.Le H' H ∧ K r0_0 H') E H
def vizardref18_port.F : FT := fun args K E H => match args with
  | [(.int .i64 n0)] => vizardref18_port.c n0 (fun r0_0 H => K (.bool r0_0) H) E H
  | _ => False
noncomputable def vizardref18_port.Γ : FuncId → Option FT := Γof []
theorem vizardref18_port.hΓ : ∀ f F, vizardref18_port.Γ f = some F → CalleeOk Try.prog f F := Γof_ok (fun _ h => nomatch h)
noncomputable def vizardref18_port.plan : Plan := .go
theorem vizardref18_port.pok : PlanOk Try.prog vizardref18_port.plan vizardref18_port.body := by
  have e : PlanOk Try.prog vizardref18_port.plan vizardref18_port.body = (True) := by kernel_rfl
  exact e.mpr trivial
theorem vizardref18_port.eq (n0 : Int) (K : Value → Heap → Prop) (E : Value → Heap → Prop) (H : Heap) :
    fnT Try.prog Try.f55 (wC Try.prog vizardref18_port.Γ vizardref18_port.plan vizardref18_port.body) [(.int .i64 n0)] K E H = vizardref18_port.vc n0 (fun r0_0 H => K (.bool r0_0) H) E H := by
  kernel_rfl
theorem vizardref18_port.Fe {args : List Value} {K E : Value → Heap → Prop} {H : Heap} (h : vizardref18_port.F args K E H) : ∃ n0, args = [(.int .i64 n0)] ∧ vizardref18_port.c n0 (fun r0_0 H => K (.bool r0_0) H) E H := by
  unfold vizardref18_port.F at h
  split at h
  · exact ⟨_, rfl, h⟩
  · exact h.elim
theorem vizardref18_port.ok : CalleeOk Try.prog 55 vizardref18_port.F :=
  callee_ok vizardref18_port.hΓ (fn := Try.f55) (c := vizardref18_port.body) (T := wC Try.prog vizardref18_port.Γ vizardref18_port.plan vizardref18_port.body) (by kernel_rfl) (by kernel_rfl) (by kernel_rfl) (wC_sound vizardref18_port.hΓ Try.hm vizardref18_port.plan _ vizardref18_port.pok) fun _ K E H h => by
    obtain ⟨z0, e, h⟩ := vizardref18_port.Fe h
    subst e
    have h2 : vizardref18_port.vc z0 (fun r0_0 H => ∃ H', Heap.Le H' H ∧ K (.bool r0_0) H') E H := h.h
    rw [vizardref18_port.eq z0 (Fg K) E H]
    exact h2

/-! vizard/vizardref18.Check -/
noncomputable def vizardref18_Check.body : Code := Try.f25.body.getD .skip
def vizardref18_Check.J2.vc (l0 : Option Addr) (l1 : Nat) (l2 : Nat) (i0 : Int) (x0 : Bool) (Kn : Heap → Prop) (Kr : Int → Heap → Prop) (E : Value → Heap → Prop) (h0 : Heap) : Prop :=
  (if x0 = true then
  Kr 2 h0
  else
  Kn h0)
structure vizardref18_Check.J2 (l0 : Option Addr) (l1 : Nat) (l2 : Nat) (i0 : Int) (x0 : Bool) (Kn : Heap → Prop) (Kr : Int → Heap → Prop) (E : Value → Heap → Prop) (H : Heap) : Prop where
  h : vizardref18_Check.J2.vc l0 l1 l2 i0 x0 Kn Kr E H
def vizardref18_Check.J3.vc (l0 : Option Addr) (l1 : Nat) (l2 : Nat) (i0 : Int) (Kn : Int → Heap → Prop) (E : Value → Heap → Prop) (h0 : Heap) : Prop :=
  Kn (IntKind.i64.wrap (i0 + 1)) h0
structure vizardref18_Check.J3 (l0 : Option Addr) (l1 : Nat) (l2 : Nat) (i0 : Int) (Kn : Int → Heap → Prop) (E : Value → Heap → Prop) (H : Heap) : Prop where
  h : vizardref18_Check.J3.vc l0 l1 l2 i0 Kn E H
def vizardref18_Check.W1.vc (l0 : Option Addr) (l1 : Nat) (l2 : Nat) (i0 : Int) (Kx0 : Heap → Prop) (Kr : Int → Heap → Prop) (RR : Int → Heap → Prop) (E : Value → Heap → Prop) (h0 : Heap) : Prop :=
  (if (decide (i0 < (l1 : Int))) = true then
  nilc l0 fun a0 => (0 : Int) ≤ i0 ∧ i0 < (l1 : Int) ∧
  ldB h0 ((a0.add (i0.toNat * 6)).add 0) fun x0 => ldI h0 .i64 ((a0.add (i0.toNat * 6)).add 1) fun x1 => ldI h0 .u32 ((a0.add (i0.toNat * 6)).add 2) fun x2 => ldI h0 .i64 ((a0.add (i0.toNat * 6)).add 3) fun x3 => ldI h0 .i64 ((a0.add (i0.toNat * 6)).add 4) fun x4 => ldI h0 .i64 ((a0.add (i0.toNat * 6)).add 5) fun x5 =>
  newB (.cells #[(.bool false), (.int .i64 0), (.int .u32 0), (.int .i64 0), (.int .i64 0), (.int .i64 0)] 91) (fun b0 h1 =>
  stc h1 ((⟨b0, 0, none⟩ : Addr).add 0) (.bool x0) fun h2 =>
  stc h2 ((⟨b0, 0, none⟩ : Addr).add 1) (.int .i64 x1) fun h3 =>
  stc h3 ((⟨b0, 0, none⟩ : Addr).add 2) (.int .u32 x2) fun h4 =>
  stc h4 ((⟨b0, 0, none⟩ : Addr).add 3) (.int .i64 x3) fun h5 =>
  stc h5 ((⟨b0, 0, none⟩ : Addr).add 4) (.int .i64 x4) fun h6 =>
  stc h6 ((⟨b0, 0, none⟩ : Addr).add 5) (.int .i64 x5) fun h7 =>
  ldI h7 .i64 ((⟨b0, 0, none⟩ : Addr).add 1) fun x6 =>
  (if (decide (x6 < 0)) = true then
  vizardref18_Check.J2 l0 l1 l2 i0 true (fun h8 =>
  vizardref18_Check.J3 l0 l1 l2 i0 RR E h8) Kr E h7
  else
  ldI h7 .i64 ((⟨b0, 0, none⟩ : Addr).add 1) fun x8 =>
  (if (decide (x8 > 255)) = true then
  vizardref18_Check.J2 l0 l1 l2 i0 true (fun h11 =>
  vizardref18_Check.J3 l0 l1 l2 i0 RR E h11) Kr E h7
  else
  ldI h7 .u32 (((⟨b0, 0, none⟩ : Addr).add 2).add 0) fun x10 => ldI h7 .i64 (((⟨b0, 0, none⟩ : Addr).add 2).add 1) fun x11 =>
  vizardref04_Check.c x10 x11 (fun x12 h14 =>
  (if (!x12) = true then
  vizardref18_Check.J2 l0 l1 l2 i0 true (fun h15 =>
  vizardref18_Check.J3 l0 l1 l2 i0 RR E h15) Kr E h14
  else
  ldI h14 .i64 ((⟨b0, 0, none⟩ : Addr).add 4) fun x14 =>
  vizardref18_port.c x14 (fun x15 h18 =>
  (if (!x15) = true then
  vizardref18_Check.J2 l0 l1 l2 i0 true (fun h19 =>
  vizardref18_Check.J3 l0 l1 l2 i0 RR E h19) Kr E h18
  else
  ldI h18 .i64 ((⟨b0, 0, none⟩ : Addr).add 5) fun x17 =>
  vizardref18_port.c x17 (fun x18 h22 =>
  (if (!x18) = true then
  vizardref18_Check.J2 l0 l1 l2 i0 true (fun h23 =>
  vizardref18_Check.J3 l0 l1 l2 i0 RR E h23) Kr E h22
  else
  ldI h22 .i64 ((⟨b0, 0, none⟩ : Addr).add 4) fun x20 =>
  ldI h22 .i64 ((⟨b0, 0, none⟩ : Addr).add 5) fun x21 =>
  vizardref18_Check.J2 l0 l1 l2 i0 (decide (x20 > x21)) (fun h26 =>
  vizardref18_Check.J3 l0 l1 l2 i0 RR E h26) Kr E h22)) E h18)) E h14)) E h7))) h0
  else
  Kx0 h0)
structure vizardref18_Check.W1 (l0 : Option Addr) (l1 : Nat) (l2 : Nat) (i0 : Int) (Kx0 : Heap → Prop) (Kr : Int → Heap → Prop) (E : Value → Heap → Prop) (H : Heap) : Prop where
  h : Loop (fun (RR : Int → Heap → Prop) (s : Int) (H : Heap) => vizardref18_Check.W1.vc l0 l1 l2 s Kx0 Kr (fun i0 H => RR (i0) H) E H) (i0) H
def vizardref18_Check.vc (l0 : Option Addr) (l1 : Nat) (l2 : Nat) (K : Int → Heap → Prop) (E : Value → Heap → Prop) (h0 : Heap) : Prop :=
  (if (decide ((l1 : Int) > 32)) = true then
  K 8 h0
  else
  vizardref18_Check.W1 l0 l1 l2 0 (fun h1 =>
  K 0 h1) K E h0)
structure vizardref18_Check.c (l0 : Option Addr) (l1 : Nat) (l2 : Nat) (K : Int → Heap → Prop) (E : Value → Heap → Prop) (H : Heap) : Prop where
  h : vizardref18_Check.vc l0 l1 l2 (fun r0_0 H => ∃ H', Heap.Le H' H ∧ K r0_0 H') E H
def vizardref18_Check.F : FT := fun args K E H => match args with
  | [(.slice l0 l1 l2)] => vizardref18_Check.c l0 l1 l2 (fun r0_0 H => K (.int .i64 r0_0) H) E H
  | _ => False
noncomputable def vizardref18_Check.Γ : FuncId → Option FT := Γof [(16, vizardref04_Check.F), (55, vizardref18_port.F)]
theorem vizardref18_Check.hΓ : ∀ f F, vizardref18_Check.Γ f = some F → CalleeOk Try.prog f F := Γof_ok (List.forall_mem_cons.2 ⟨vizardref04_Check.ok, List.forall_mem_cons.2 ⟨vizardref18_port.ok, fun _ h => nomatch h⟩⟩)
def vizardref18_Check.J2.t : CT := fun Q E fr H => lenIs 51 fr (slSl fr 0 fun l0 l1 l2 => slI fr 3 .i64 fun i0 => slB fr 50 fun x0 => vizardref18_Check.J2 l0 l1 l2 i0 x0 (fun  H => Q .normal (mkF 51 [(0, (.slice l0 l1 l2)), (3, (.int .i64 i0))]) H) (fun y2_0 H => Q .ret (mkF 51 [(2, (.int .i64 y2_0))]) H) E H)
noncomputable def vizardref18_Check.J2.plan : Plan := .go
theorem vizardref18_Check.J2.pok : PlanOk Try.prog vizardref18_Check.J2.plan (sub [1, 1, 0, 1, 0, 0, 1, 0, 0, 1, 1] vizardref18_Check.body) := by
  have e : PlanOk Try.prog vizardref18_Check.J2.plan (sub [1, 1, 0, 1, 0, 0, 1, 0, 0, 1, 1] vizardref18_Check.body) = (True) := by kernel_rfl
  exact e.mpr trivial
theorem vizardref18_Check.J2.eq (l0 : Option Addr) (l1 : Nat) (l2 : Nat) (i0 : Int) (x0 : Bool) (Q : Ex → Fr → Heap → Prop) (E : Value → Heap → Prop) (H : Heap) :
    vizardref18_Check.J2.vc l0 l1 l2 i0 x0 (fun  H => Q .normal (mkF 51 [(0, (.slice l0 l1 l2)), (3, (.int .i64 i0))]) H) (fun y2_0 H => Q .ret (mkF 51 [(2, (.int .i64 y2_0))]) H) E H = keepT [0, 3] [2] (fun i => []) (wC Try.prog vizardref18_Check.Γ vizardref18_Check.J2.plan (sub [1, 1, 0, 1, 0, 0, 1, 0, 0, 1, 1] vizardref18_Check.body)) Q E (mkF 51 [(0, (.slice l0 l1 l2)), (3, (.int .i64 i0)), (50, (.bool x0))]) H := by
  kernel_rfl
theorem vizardref18_Check.J2.ok : SoundCode Try.prog (sub [1, 1, 0, 1, 0, 0, 1, 0, 0, 1, 1] vizardref18_Check.body) vizardref18_Check.J2.t := by
  refine piece_sound (keepT_sound [0, 3] [2] (fun i => []) (wC_sound vizardref18_Check.hΓ Try.hm vizardref18_Check.J2.plan _ vizardref18_Check.J2.pok)) ?_
  intro Q E fr H h
  unfold vizardref18_Check.J2.t at h
  obtain ⟨hl, h⟩ := lenIs_elim h
  obtain ⟨l0, l1, l2, q0, h⟩ := slSl_elim h
  obtain ⟨i0, q3, h⟩ := slI_elim h
  obtain ⟨x0, q50, h⟩ := slB_elim h
  refine ⟨(mkF 51 [(0, (.slice l0 l1 l2)), (3, (.int .i64 i0)), (50, (.bool x0))]), fun a ha => ha.mk (Nat.le_of_eq hl.symm) (List.forall_mem_cons.2 ⟨q0, List.forall_mem_cons.2 ⟨q3, List.forall_mem_cons.2 ⟨q50, fun _ h => nomatch h⟩⟩⟩), ?_⟩
  have e := vizardref18_Check.J2.eq l0 l1 l2 i0 x0 Q E H
  rw [← e]
  exact h.h
def vizardref18_Check.J3.t : CT := fun Q E fr H => lenIs 51 fr (slSl fr 0 fun l0 l1 l2 => slI fr 3 .i64 fun i0 => vizardref18_Check.J3 l0 l1 l2 i0 (fun y3_0 H => Q .normal (mkF 51 [(0, (.slice l0 l1 l2)), (3, (.int .i64 y3_0))]) H) E H)
noncomputable def vizardref18_Check.J3.plan : Plan := .go
theorem vizardref18_Check.J3.pok : PlanOk Try.prog vizardref18_Check.J3.plan (sub [1, 1, 0, 1, 0, 0, 1, 1] vizardref18_Check.body) := by
  have e : PlanOk Try.prog vizardref18_Check.J3.plan (sub [1, 1, 0, 1, 0, 0, 1, 1] vizardref18_Check.body) = (True) := by kernel_rfl
  exact e.mpr trivial
theorem vizardref18_Check.J3.eq (l0 : Option Addr) (l1 : Nat) (l2 : Nat) (i0 : Int) (Q : Ex → Fr → Heap → Prop) (E : Value → Heap → Prop) (H : Heap) :
    vizardref18_Check.J3.vc l0 l1 l2 i0 (fun y3_0 H => Q .normal (mkF 51 [(0, (.slice l0 l1 l2)), (3, (.int .i64 y3_0))]) H) E H = keepT [0, 3] [] (fun i => []) (wC Try.prog vizardref18_Check.Γ vizardref18_Check.J3.plan (sub [1, 1, 0, 1, 0, 0, 1, 1] vizardref18_Check.body)) Q E (mkF 51 [(0, (.slice l0 l1 l2)), (3, (.int .i64 i0))]) H := by
  kernel_rfl
theorem vizardref18_Check.J3.ok : SoundCode Try.prog (sub [1, 1, 0, 1, 0, 0, 1, 1] vizardref18_Check.body) vizardref18_Check.J3.t := by
  refine piece_sound (keepT_sound [0, 3] [] (fun i => []) (wC_sound vizardref18_Check.hΓ Try.hm vizardref18_Check.J3.plan _ vizardref18_Check.J3.pok)) ?_
  intro Q E fr H h
  unfold vizardref18_Check.J3.t at h
  obtain ⟨hl, h⟩ := lenIs_elim h
  obtain ⟨l0, l1, l2, q0, h⟩ := slSl_elim h
  obtain ⟨i0, q3, h⟩ := slI_elim h
  refine ⟨(mkF 51 [(0, (.slice l0 l1 l2)), (3, (.int .i64 i0))]), fun a ha => ha.mk (Nat.le_of_eq hl.symm) (List.forall_mem_cons.2 ⟨q0, List.forall_mem_cons.2 ⟨q3, fun _ h => nomatch h⟩⟩), ?_⟩
  have e := vizardref18_Check.J3.eq l0 l1 l2 i0 Q E H
  rw [← e]
  exact h.h
def vizardref18_Check.W1.t : CT := fun Q E fr H => lenIs 51 fr (slSl fr 0 fun l0 l1 l2 => slI fr 3 .i64 fun i0 => vizardref18_Check.W1 l0 l1 l2 i0 (fun  H => Q (.exit 0) (mkF 51 []) H) (fun y2_0 H => Q .ret (mkF 51 [(2, (.int .i64 y2_0))]) H) E H)
noncomputable def vizardref18_Check.W1.plan : Plan := .seq (.go) (.seq (.block (.seq (.go) (.seq (.go) (.use vizardref18_Check.J2.t)))) (.use vizardref18_Check.J3.t))
theorem vizardref18_Check.W1.pok : PlanOk Try.prog vizardref18_Check.W1.plan (sub [1, 1, 0, 1, 0, 0] vizardref18_Check.body) := by
  have e : PlanOk Try.prog vizardref18_Check.W1.plan (sub [1, 1, 0, 1, 0, 0] vizardref18_Check.body) = ((True) ∧ (((True) ∧ ((True) ∧ (SoundCode Try.prog (sub [1, 1, 0, 1, 0, 0, 1, 0, 0, 1, 1] vizardref18_Check.body) vizardref18_Check.J2.t))) ∧ (SoundCode Try.prog (sub [1, 1, 0, 1, 0, 0, 1, 1] vizardref18_Check.body) vizardref18_Check.J3.t))) := by kernel_rfl
  exact e.mpr ⟨trivial, ⟨⟨trivial, ⟨trivial, vizardref18_Check.J2.ok⟩⟩, vizardref18_Check.J3.ok⟩⟩
theorem vizardref18_Check.W1.eq (l0 : Option Addr) (l1 : Nat) (l2 : Nat) (Q : Ex → Fr → Heap → Prop) (E : Value → Heap → Prop) (RR : Fr → Heap → Prop) (s : Int) (H : Heap) :
    (fun (RR : Int → Heap → Prop) (s : Int) (H : Heap) => vizardref18_Check.W1.vc l0 l1 l2 s (fun  H => Q (.exit 0) (mkF 51 []) H) (fun y2_0 H => Q .ret (mkF 51 [(2, (.int .i64 y2_0))]) H) (fun i0 H => RR (i0) H) E H) (fun s' H' => RR ((fun (s : Int) => (mkF 51 [(0, (.slice l0 l1 l2)), (3, (.int .i64 s))])) s') H') s H = keepT [0, 3] [2] (fun i => if i = 0 then [] else []) (wC Try.prog vizardref18_Check.Γ vizardref18_Check.W1.plan (sub [1, 1, 0, 1, 0, 0] vizardref18_Check.body)) (fun e fr' H' => match e with | .normal => RR fr' H' | .exit id => Q (.exit id) fr' H' | .ret => Q .ret fr' H') E ((fun (s : Int) => (mkF 51 [(0, (.slice l0 l1 l2)), (3, (.int .i64 s))])) s) H := by
  kernel_rfl
theorem vizardref18_Check.W1.ok : SoundCode Try.prog (sub [1, 1, 0, 1, 0] vizardref18_Check.body) vizardref18_Check.W1.t := by
  have e : (sub [1, 1, 0, 1, 0] vizardref18_Check.body) = .loop (sub [1, 1, 0, 1, 0, 0] vizardref18_Check.body) := by kernel_rfl
  rw [e]
  refine piece_sound (loopN_sound (keepT_sound [0, 3] [2] (fun i => if i = 0 then [] else []) (wC_sound vizardref18_Check.hΓ Try.hm vizardref18_Check.W1.plan _ vizardref18_Check.W1.pok))) ?_
  intro Q E fr H h
  unfold vizardref18_Check.W1.t at h
  obtain ⟨hl, h⟩ := lenIs_elim h
  obtain ⟨l0, l1, l2, q0, h⟩ := slSl_elim h
  obtain ⟨i0, q3, h⟩ := slI_elim h
  obtain ⟨m, h⟩ := h.h
  refine ⟨(mkF 51 [(0, (.slice l0 l1 l2)), (3, (.int .i64 i0))]), fun a ha => ha.mk (Nat.le_of_eq hl.symm) (List.forall_mem_cons.2 ⟨q0, List.forall_mem_cons.2 ⟨q3, fun _ h => nomatch h⟩⟩), m, ?_⟩
  have e := loopS_eq (B := (fun (RR : Int → Heap → Prop) (s : Int) (H : Heap) => vizardref18_Check.W1.vc l0 l1 l2 s (fun  H => Q (.exit 0) (mkF 51 []) H) (fun y2_0 H => Q .ret (mkF 51 [(2, (.int .i64 y2_0))]) H) (fun i0 H => RR (i0) H) E H)) (A := keepT [0, 3] [2] (fun i => if i = 0 then [] else []) (wC Try.prog vizardref18_Check.Γ vizardref18_Check.W1.plan (sub [1, 1, 0, 1, 0, 0] vizardref18_Check.body))) (m := (fun (s : Int) => (mkF 51 [(0, (.slice l0 l1 l2)), (3, (.int .i64 s))]))) (Q := Q) (E := E) (fun RR s H => vizardref18_Check.W1.eq l0 l1 l2 Q E RR s H) m (i0) H
  exact cast e h
noncomputable def vizardref18_Check.plan : Plan := .seq (.go) (.seq (.go) (.seq (.seq (.go) (.block (.use vizardref18_Check.W1.t))) (.go)))
theorem vizardref18_Check.pok : PlanOk Try.prog vizardref18_Check.plan vizardref18_Check.body := by
  have e : PlanOk Try.prog vizardref18_Check.plan vizardref18_Check.body = ((True) ∧ ((True) ∧ (((True) ∧ (SoundCode Try.prog (sub [1, 1, 0, 1, 0] vizardref18_Check.body) vizardref18_Check.W1.t)) ∧ (True)))) := by kernel_rfl
  exact e.mpr ⟨trivial, ⟨trivial, ⟨⟨trivial, vizardref18_Check.W1.ok⟩, trivial⟩⟩⟩
theorem vizardref18_Check.eq (l0 : Option Addr) (l1 : Nat) (l2 : Nat) (K : Value → Heap → Prop) (E : Value → Heap → Prop) (H : Heap) :
    fnT Try.prog Try.f25 (wC Try.prog vizardref18_Check.Γ vizardref18_Check.plan vizardref18_Check.body) [(.slice l0 l1 l2)] K E H = vizardref18_Check.vc l0 l1 l2 (fun r0_0 H => K (.int .i64 r0_0) H) E H := by
  kernel_rfl
theorem vizardref18_Check.Fe {args : List Value} {K E : Value → Heap → Prop} {H : Heap} (h : vizardref18_Check.F args K E H) : ∃ l0 l1 l2, args = [(.slice l0 l1 l2)] ∧ vizardref18_Check.c l0 l1 l2 (fun r0_0 H => K (.int .i64 r0_0) H) E H := by
  unfold vizardref18_Check.F at h
  split at h
  · exact ⟨_, _, _, rfl, h⟩
  · exact h.elim
theorem vizardref18_Check.ok : CalleeOk Try.prog 25 vizardref18_Check.F :=
  callee_ok vizardref18_Check.hΓ (fn := Try.f25) (c := vizardref18_Check.body) (T := wC Try.prog vizardref18_Check.Γ vizardref18_Check.plan vizardref18_Check.body) (by kernel_rfl) (by kernel_rfl) (by kernel_rfl) (wC_sound vizardref18_Check.hΓ Try.hm vizardref18_Check.plan _ vizardref18_Check.pok) fun _ K E H h => by
    obtain ⟨z0, z1, z2, e, h⟩ := vizardref18_Check.Fe h
    subst e
    have h2 : vizardref18_Check.vc z0 z1 z2 (fun r0_0 H => ∃ H', Heap.Le H' H ∧ K (.int .i64 r0_0) H') E H := h.h
    rw [vizardref18_Check.eq z0 z1 z2 (Fg K) E H]
    exact h2

/-! vizard/policy.allow -/
noncomputable def policy_allow.body : Code := Try.f56.body.getD .skip
def policy_allow.J2.vc (proto0 : Int) (dst0 : Int) (port0 : Int) (x0 : Addr) (x1 : Option Addr) (x2 : Nat) (x3 : Nat) (x4 : Int) (x5 : Int) (x6 : Bool) (Kn : Heap → Prop) (Kr : Bool → Heap → Prop) (E : Value → Heap → Prop) (h0 : Heap) : Prop :=
  (if x6 = true then
  ldB h0 (x0.add 0) fun x7 =>
  Kr x7 h0
  else
  Kn h0)
structure policy_allow.J2 (proto0 : Int) (dst0 : Int) (port0 : Int) (x0 : Addr) (x1 : Option Addr) (x2 : Nat) (x3 : Nat) (x4 : Int) (x5 : Int) (x6 : Bool) (Kn : Heap → Prop) (Kr : Bool → Heap → Prop) (E : Value → Heap → Prop) (H : Heap) : Prop where
  h : policy_allow.J2.vc proto0 dst0 port0 x0 x1 x2 x3 x4 x5 x6 Kn Kr E H
def policy_allow.J3.vc (proto0 : Int) (dst0 : Int) (port0 : Int) (x0 : Option Addr) (x1 : Nat) (x2 : Nat) (x3 : Int) (x4 : Int) (Kn : Int → Heap → Prop) (E : Value → Heap → Prop) (h0 : Heap) : Prop :=
  Kn (IntKind.i64.wrap (x4 + 1)) h0
structure policy_allow.J3 (proto0 : Int) (dst0 : Int) (port0 : Int) (x0 : Option Addr) (x1 : Nat) (x2 : Nat) (x3 : Int) (x4 : Int) (Kn : Int → Heap → Prop) (E : Value → Heap → Prop) (H : Heap) : Prop where
  h : policy_allow.J3.vc proto0 dst0 port0 x0 x1 x2 x3 x4 Kn E H
def policy_allow.W1.vc (proto0 : Int) (dst0 : Int) (port0 : Int) (x0 : Option Addr) (x1 : Nat) (x2 : Nat) (x3 : Int) (x4 : Int) (Kx0 : Heap → Prop) (Kr : Bool → Heap → Prop) (RR : Int → Heap → Prop) (E : Value → Heap → Prop) (h0 : Heap) : Prop :=
  (if (decide (x4 < x3)) = true then
  nilc x0 fun a0 => (0 : Int) ≤ x4 ∧ x4 < (x1 : Int) ∧
  ldB h0 ((a0.add (x4.toNat * 6)).add 0) fun x5 => ldI h0 .i64 ((a0.add (x4.toNat * 6)).add 1) fun x6 => ldI h0 .u32 ((a0.add (x4.toNat * 6)).add 2) fun x7 => ldI h0 .i64 ((a0.add (x4.toNat * 6)).add 3) fun x8 => ldI h0 .i64 ((a0.add (x4.toNat * 6)).add 4) fun x9 => ldI h0 .i64 ((a0.add (x4.toNat * 6)).add 5) fun x10 =>
  newB (.cells #[(.bool false), (.int .i64 0), (.int .u32 0), (.int .i64 0), (.int .i64 0), (.int .i64 0)] 91) (fun b0 h1 =>
  stc h1 ((⟨b0, 0, none⟩ : Addr).add 0) (.bool x5) fun h2 =>
  stc h2 ((⟨b0, 0, none⟩ : Addr).add 1) (.int .i64 x6) fun h3 =>
  stc h3 ((⟨b0, 0, none⟩ : Addr).add 2) (.int .u32 x7) fun h4 =>
  stc h4 ((⟨b0, 0, none⟩ : Addr).add 3) (.int .i64 x8) fun h5 =>
  stc h5 ((⟨b0, 0, none⟩ : Addr).add 4) (.int .i64 x9) fun h6 =>
  stc h6 ((⟨b0, 0, none⟩ : Addr).add 5) (.int .i64 x10) fun h7 =>
  ldI h7 .i64 ((⟨b0, 0, none⟩ : Addr).add 1) fun x11 =>
  (if (x11 == 0) = true then
  ldI h7 .u32 (((⟨b0, 0, none⟩ : Addr).add 2).add 0) fun x12 => ldI h7 .i64 (((⟨b0, 0, none⟩ : Addr).add 2).add 1) fun x13 =>
  prefix_Has.c x12 x13 dst0 (fun x14 h8 =>
  (if x14 = true then
  ldI h8 .i64 ((⟨b0, 0, none⟩ : Addr).add 4) fun x15 =>
  (if (decide (port0 ≥ x15)) = true then
  ldI h8 .i64 ((⟨b0, 0, none⟩ : Addr).add 5) fun x16 =>
  policy_allow.J2 proto0 dst0 port0 (⟨b0, 0, none⟩ : Addr) x0 x1 x2 x3 x4 (decide (port0 ≤ x16)) (fun h9 =>
  policy_allow.J3 proto0 dst0 port0 x0 x1 x2 x3 x4 RR E h9) Kr E h8
  else
  policy_allow.J2 proto0 dst0 port0 (⟨b0, 0, none⟩ : Addr) x0 x1 x2 x3 x4 false (fun h12 =>
  policy_allow.J3 proto0 dst0 port0 x0 x1 x2 x3 x4 RR E h12) Kr E h8)
  else
  policy_allow.J2 proto0 dst0 port0 (⟨b0, 0, none⟩ : Addr) x0 x1 x2 x3 x4 false (fun h15 =>
  policy_allow.J3 proto0 dst0 port0 x0 x1 x2 x3 x4 RR E h15) Kr E h8)) E h7
  else
  ldI h7 .i64 ((⟨b0, 0, none⟩ : Addr).add 1) fun x23 =>
  (if (x23 == proto0) = true then
  ldI h7 .u32 (((⟨b0, 0, none⟩ : Addr).add 2).add 0) fun x24 => ldI h7 .i64 (((⟨b0, 0, none⟩ : Addr).add 2).add 1) fun x25 =>
  prefix_Has.c x24 x25 dst0 (fun x26 h18 =>
  (if x26 = true then
  ldI h18 .i64 ((⟨b0, 0, none⟩ : Addr).add 4) fun x27 =>
  (if (decide (port0 ≥ x27)) = true then
  ldI h18 .i64 ((⟨b0, 0, none⟩ : Addr).add 5) fun x28 =>
  policy_allow.J2 proto0 dst0 port0 (⟨b0, 0, none⟩ : Addr) x0 x1 x2 x3 x4 (decide (port0 ≤ x28)) (fun h19 =>
  policy_allow.J3 proto0 dst0 port0 x0 x1 x2 x3 x4 RR E h19) Kr E h18
  else
  policy_allow.J2 proto0 dst0 port0 (⟨b0, 0, none⟩ : Addr) x0 x1 x2 x3 x4 false (fun h22 =>
  policy_allow.J3 proto0 dst0 port0 x0 x1 x2 x3 x4 RR E h22) Kr E h18)
  else
  policy_allow.J2 proto0 dst0 port0 (⟨b0, 0, none⟩ : Addr) x0 x1 x2 x3 x4 false (fun h25 =>
  policy_allow.J3 proto0 dst0 port0 x0 x1 x2 x3 x4 RR E h25) Kr E h18)) E h7
  else
  policy_allow.J2 proto0 dst0 port0 (⟨b0, 0, none⟩ : Addr) x0 x1 x2 x3 x4 false (fun h28 =>
  policy_allow.J3 proto0 dst0 port0 x0 x1 x2 x3 x4 RR E h28) Kr E h7))) h0
  else
  Kx0 h0)
structure policy_allow.W1 (proto0 : Int) (dst0 : Int) (port0 : Int) (x0 : Option Addr) (x1 : Nat) (x2 : Nat) (x3 : Int) (x4 : Int) (Kx0 : Heap → Prop) (Kr : Bool → Heap → Prop) (E : Value → Heap → Prop) (H : Heap) : Prop where
  h : Loop (fun (RR : Int → Heap → Prop) (s : Int) (H : Heap) => policy_allow.W1.vc proto0 dst0 port0 x0 x1 x2 x3 s Kx0 Kr (fun x4 H => RR (x4) H) E H) (x4) H
def policy_allow.vc (l0 : Option Addr) (l1 : Nat) (l2 : Nat) (proto0 : Int) (dst0 : Int) (port0 : Int) (K : Bool → Heap → Prop) (E : Value → Heap → Prop) (h0 : Heap) : Prop :=
  policy_allow.W1 proto0 dst0 port0 l0 l1 l2 (l1 : Int) 0 (fun h1 =>
  K false h1) K E h0
structure policy_allow.c (l0 : Option Addr) (l1 : Nat) (l2 : Nat) (proto0 : Int) (dst0 : Int) (port0 : Int) (K : Bool → Heap → Prop) (E : Value → Heap → Prop) (H : Heap) : Prop where
  h : policy_allow.vc l0 l1 l2 proto0 dst0 port0 (fun r0_0 H => ∃ H', Heap.Le H' H ∧ K r0_0 H') E H
def policy_allow.F : FT := fun args K E H => match args with
  | [(.slice l0 l1 l2), (.int .i64 proto0), (.int .u32 dst0), (.int .i64 port0)] => policy_allow.c l0 l1 l2 proto0 dst0 port0 (fun r0_0 H => K (.bool r0_0) H) E H
  | _ => False
noncomputable def policy_allow.Γ : FuncId → Option FT := Γof [(17, prefix_Has.F)]
theorem policy_allow.hΓ : ∀ f F, policy_allow.Γ f = some F → CalleeOk Try.prog f F := Γof_ok (List.forall_mem_cons.2 ⟨prefix_Has.ok, fun _ h => nomatch h⟩)
def policy_allow.J2.t : CT := fun Q E fr H => lenIs 47 fr (slI fr 1 .i64 fun proto0 => slI fr 2 .u32 fun dst0 => slI fr 3 .i64 fun port0 => slPA fr 10 fun x0 => slSl fr 11 fun x1 x2 x3 => slI fr 12 .i64 fun x4 => slI fr 13 .i64 fun x5 => slB fr 43 fun x6 => policy_allow.J2 proto0 dst0 port0 x0 x1 x2 x3 x4 x5 x6 (fun  H => Q .normal (mkF 47 [(1, (.int .i64 proto0)), (2, (.int .u32 dst0)), (3, (.int .i64 port0)), (11, (.slice x1 x2 x3)), (12, (.int .i64 x4)), (13, (.int .i64 x5))]) H) (fun y8_0 H => Q .ret (mkF 47 [(8, (.bool y8_0))]) H) E H)
noncomputable def policy_allow.J2.plan : Plan := .go
theorem policy_allow.J2.pok : PlanOk Try.prog policy_allow.J2.plan (sub [1, 0, 1, 0, 0, 1, 1, 0, 0, 1, 1] policy_allow.body) := by
  have e : PlanOk Try.prog policy_allow.J2.plan (sub [1, 0, 1, 0, 0, 1, 1, 0, 0, 1, 1] policy_allow.body) = (True) := by kernel_rfl
  exact e.mpr trivial
theorem policy_allow.J2.eq (proto0 : Int) (dst0 : Int) (port0 : Int) (x0 : Addr) (x1 : Option Addr) (x2 : Nat) (x3 : Nat) (x4 : Int) (x5 : Int) (x6 : Bool) (Q : Ex → Fr → Heap → Prop) (E : Value → Heap → Prop) (H : Heap) :
    policy_allow.J2.vc proto0 dst0 port0 x0 x1 x2 x3 x4 x5 x6 (fun  H => Q .normal (mkF 47 [(1, (.int .i64 proto0)), (2, (.int .u32 dst0)), (3, (.int .i64 port0)), (11, (.slice x1 x2 x3)), (12, (.int .i64 x4)), (13, (.int .i64 x5))]) H) (fun y8_0 H => Q .ret (mkF 47 [(8, (.bool y8_0))]) H) E H = keepT [1, 2, 3, 11, 12, 13] [8] (fun i => []) (wC Try.prog policy_allow.Γ policy_allow.J2.plan (sub [1, 0, 1, 0, 0, 1, 1, 0, 0, 1, 1] policy_allow.body)) Q E (mkF 47 [(1, (.int .i64 proto0)), (2, (.int .u32 dst0)), (3, (.int .i64 port0)), (10, (.pointer (some x0))), (11, (.slice x1 x2 x3)), (12, (.int .i64 x4)), (13, (.int .i64 x5)), (43, (.bool x6))]) H := by
  kernel_rfl
theorem policy_allow.J2.ok : SoundCode Try.prog (sub [1, 0, 1, 0, 0, 1, 1, 0, 0, 1, 1] policy_allow.body) policy_allow.J2.t := by
  refine piece_sound (keepT_sound [1, 2, 3, 11, 12, 13] [8] (fun i => []) (wC_sound policy_allow.hΓ Try.hm policy_allow.J2.plan _ policy_allow.J2.pok)) ?_
  intro Q E fr H h
  unfold policy_allow.J2.t at h
  obtain ⟨hl, h⟩ := lenIs_elim h
  obtain ⟨proto0, q1, h⟩ := slI_elim h
  obtain ⟨dst0, q2, h⟩ := slI_elim h
  obtain ⟨port0, q3, h⟩ := slI_elim h
  obtain ⟨x0, q10, h⟩ := slPA_elim h
  obtain ⟨x1, x2, x3, q11, h⟩ := slSl_elim h
  obtain ⟨x4, q12, h⟩ := slI_elim h
  obtain ⟨x5, q13, h⟩ := slI_elim h
  obtain ⟨x6, q43, h⟩ := slB_elim h
  refine ⟨(mkF 47 [(1, (.int .i64 proto0)), (2, (.int .u32 dst0)), (3, (.int .i64 port0)), (10, (.pointer (some x0))), (11, (.slice x1 x2 x3)), (12, (.int .i64 x4)), (13, (.int .i64 x5)), (43, (.bool x6))]), fun a ha => ha.mk (Nat.le_of_eq hl.symm) (List.forall_mem_cons.2 ⟨q1, List.forall_mem_cons.2 ⟨q2, List.forall_mem_cons.2 ⟨q3, List.forall_mem_cons.2 ⟨q10, List.forall_mem_cons.2 ⟨q11, List.forall_mem_cons.2 ⟨q12, List.forall_mem_cons.2 ⟨q13, List.forall_mem_cons.2 ⟨q43, fun _ h => nomatch h⟩⟩⟩⟩⟩⟩⟩⟩), ?_⟩
  have e := policy_allow.J2.eq proto0 dst0 port0 x0 x1 x2 x3 x4 x5 x6 Q E H
  rw [← e]
  exact h.h
def policy_allow.J3.t : CT := fun Q E fr H => lenIs 47 fr (slI fr 1 .i64 fun proto0 => slI fr 2 .u32 fun dst0 => slI fr 3 .i64 fun port0 => slSl fr 11 fun x0 x1 x2 => slI fr 12 .i64 fun x3 => slI fr 13 .i64 fun x4 => policy_allow.J3 proto0 dst0 port0 x0 x1 x2 x3 x4 (fun y13_0 H => Q .normal (mkF 47 [(1, (.int .i64 proto0)), (2, (.int .u32 dst0)), (3, (.int .i64 port0)), (11, (.slice x0 x1 x2)), (12, (.int .i64 x3)), (13, (.int .i64 y13_0))]) H) E H)
noncomputable def policy_allow.J3.plan : Plan := .go
theorem policy_allow.J3.pok : PlanOk Try.prog policy_allow.J3.plan (sub [1, 0, 1, 0, 0, 1, 1, 1] policy_allow.body) := by
  have e : PlanOk Try.prog policy_allow.J3.plan (sub [1, 0, 1, 0, 0, 1, 1, 1] policy_allow.body) = (True) := by kernel_rfl
  exact e.mpr trivial
theorem policy_allow.J3.eq (proto0 : Int) (dst0 : Int) (port0 : Int) (x0 : Option Addr) (x1 : Nat) (x2 : Nat) (x3 : Int) (x4 : Int) (Q : Ex → Fr → Heap → Prop) (E : Value → Heap → Prop) (H : Heap) :
    policy_allow.J3.vc proto0 dst0 port0 x0 x1 x2 x3 x4 (fun y13_0 H => Q .normal (mkF 47 [(1, (.int .i64 proto0)), (2, (.int .u32 dst0)), (3, (.int .i64 port0)), (11, (.slice x0 x1 x2)), (12, (.int .i64 x3)), (13, (.int .i64 y13_0))]) H) E H = keepT [1, 2, 3, 11, 12, 13] [] (fun i => []) (wC Try.prog policy_allow.Γ policy_allow.J3.plan (sub [1, 0, 1, 0, 0, 1, 1, 1] policy_allow.body)) Q E (mkF 47 [(1, (.int .i64 proto0)), (2, (.int .u32 dst0)), (3, (.int .i64 port0)), (11, (.slice x0 x1 x2)), (12, (.int .i64 x3)), (13, (.int .i64 x4))]) H := by
  kernel_rfl
theorem policy_allow.J3.ok : SoundCode Try.prog (sub [1, 0, 1, 0, 0, 1, 1, 1] policy_allow.body) policy_allow.J3.t := by
  refine piece_sound (keepT_sound [1, 2, 3, 11, 12, 13] [] (fun i => []) (wC_sound policy_allow.hΓ Try.hm policy_allow.J3.plan _ policy_allow.J3.pok)) ?_
  intro Q E fr H h
  unfold policy_allow.J3.t at h
  obtain ⟨hl, h⟩ := lenIs_elim h
  obtain ⟨proto0, q1, h⟩ := slI_elim h
  obtain ⟨dst0, q2, h⟩ := slI_elim h
  obtain ⟨port0, q3, h⟩ := slI_elim h
  obtain ⟨x0, x1, x2, q11, h⟩ := slSl_elim h
  obtain ⟨x3, q12, h⟩ := slI_elim h
  obtain ⟨x4, q13, h⟩ := slI_elim h
  refine ⟨(mkF 47 [(1, (.int .i64 proto0)), (2, (.int .u32 dst0)), (3, (.int .i64 port0)), (11, (.slice x0 x1 x2)), (12, (.int .i64 x3)), (13, (.int .i64 x4))]), fun a ha => ha.mk (Nat.le_of_eq hl.symm) (List.forall_mem_cons.2 ⟨q1, List.forall_mem_cons.2 ⟨q2, List.forall_mem_cons.2 ⟨q3, List.forall_mem_cons.2 ⟨q11, List.forall_mem_cons.2 ⟨q12, List.forall_mem_cons.2 ⟨q13, fun _ h => nomatch h⟩⟩⟩⟩⟩⟩), ?_⟩
  have e := policy_allow.J3.eq proto0 dst0 port0 x0 x1 x2 x3 x4 Q E H
  rw [← e]
  exact h.h
def policy_allow.W1.t : CT := fun Q E fr H => lenIs 47 fr (slI fr 1 .i64 fun proto0 => slI fr 2 .u32 fun dst0 => slI fr 3 .i64 fun port0 => slSl fr 11 fun x0 x1 x2 => slI fr 12 .i64 fun x3 => slI fr 13 .i64 fun x4 => policy_allow.W1 proto0 dst0 port0 x0 x1 x2 x3 x4 (fun  H => Q (.exit 0) (mkF 47 []) H) (fun y8_0 H => Q .ret (mkF 47 [(8, (.bool y8_0))]) H) E H)
noncomputable def policy_allow.W1.plan : Plan := .seq (.go) (.seq (.go) (.seq (.block (.seq (.go) (.seq (.go) (.use policy_allow.J2.t)))) (.use policy_allow.J3.t)))
theorem policy_allow.W1.pok : PlanOk Try.prog policy_allow.W1.plan (sub [1, 0, 1, 0, 0] policy_allow.body) := by
  have e : PlanOk Try.prog policy_allow.W1.plan (sub [1, 0, 1, 0, 0] policy_allow.body) = ((True) ∧ ((True) ∧ (((True) ∧ ((True) ∧ (SoundCode Try.prog (sub [1, 0, 1, 0, 0, 1, 1, 0, 0, 1, 1] policy_allow.body) policy_allow.J2.t))) ∧ (SoundCode Try.prog (sub [1, 0, 1, 0, 0, 1, 1, 1] policy_allow.body) policy_allow.J3.t)))) := by kernel_rfl
  exact e.mpr ⟨trivial, ⟨trivial, ⟨⟨trivial, ⟨trivial, policy_allow.J2.ok⟩⟩, policy_allow.J3.ok⟩⟩⟩
theorem policy_allow.W1.eq (proto0 : Int) (dst0 : Int) (port0 : Int) (x0 : Option Addr) (x1 : Nat) (x2 : Nat) (x3 : Int) (Q : Ex → Fr → Heap → Prop) (E : Value → Heap → Prop) (RR : Fr → Heap → Prop) (s : Int) (H : Heap) :
    (fun (RR : Int → Heap → Prop) (s : Int) (H : Heap) => policy_allow.W1.vc proto0 dst0 port0 x0 x1 x2 x3 s (fun  H => Q (.exit 0) (mkF 47 []) H) (fun y8_0 H => Q .ret (mkF 47 [(8, (.bool y8_0))]) H) (fun x4 H => RR (x4) H) E H) (fun s' H' => RR ((fun (s : Int) => (mkF 47 [(1, (.int .i64 proto0)), (2, (.int .u32 dst0)), (3, (.int .i64 port0)), (11, (.slice x0 x1 x2)), (12, (.int .i64 x3)), (13, (.int .i64 s))])) s') H') s H = keepT [1, 2, 3, 11, 12, 13] [8] (fun i => if i = 0 then [] else []) (wC Try.prog policy_allow.Γ policy_allow.W1.plan (sub [1, 0, 1, 0, 0] policy_allow.body)) (fun e fr' H' => match e with | .normal => RR fr' H' | .exit id => Q (.exit id) fr' H' | .ret => Q .ret fr' H') E ((fun (s : Int) => (mkF 47 [(1, (.int .i64 proto0)), (2, (.int .u32 dst0)), (3, (.int .i64 port0)), (11, (.slice x0 x1 x2)), (12, (.int .i64 x3)), (13, (.int .i64 s))])) s) H := by
  kernel_rfl
theorem policy_allow.W1.ok : SoundCode Try.prog (sub [1, 0, 1, 0] policy_allow.body) policy_allow.W1.t := by
  have e : (sub [1, 0, 1, 0] policy_allow.body) = .loop (sub [1, 0, 1, 0, 0] policy_allow.body) := by kernel_rfl
  rw [e]
  refine piece_sound (loopN_sound (keepT_sound [1, 2, 3, 11, 12, 13] [8] (fun i => if i = 0 then [] else []) (wC_sound policy_allow.hΓ Try.hm policy_allow.W1.plan _ policy_allow.W1.pok))) ?_
  intro Q E fr H h
  unfold policy_allow.W1.t at h
  obtain ⟨hl, h⟩ := lenIs_elim h
  obtain ⟨proto0, q1, h⟩ := slI_elim h
  obtain ⟨dst0, q2, h⟩ := slI_elim h
  obtain ⟨port0, q3, h⟩ := slI_elim h
  obtain ⟨x0, x1, x2, q11, h⟩ := slSl_elim h
  obtain ⟨x3, q12, h⟩ := slI_elim h
  obtain ⟨x4, q13, h⟩ := slI_elim h
  obtain ⟨m, h⟩ := h.h
  refine ⟨(mkF 47 [(1, (.int .i64 proto0)), (2, (.int .u32 dst0)), (3, (.int .i64 port0)), (11, (.slice x0 x1 x2)), (12, (.int .i64 x3)), (13, (.int .i64 x4))]), fun a ha => ha.mk (Nat.le_of_eq hl.symm) (List.forall_mem_cons.2 ⟨q1, List.forall_mem_cons.2 ⟨q2, List.forall_mem_cons.2 ⟨q3, List.forall_mem_cons.2 ⟨q11, List.forall_mem_cons.2 ⟨q12, List.forall_mem_cons.2 ⟨q13, fun _ h => nomatch h⟩⟩⟩⟩⟩⟩), m, ?_⟩
  have e := loopS_eq (B := (fun (RR : Int → Heap → Prop) (s : Int) (H : Heap) => policy_allow.W1.vc proto0 dst0 port0 x0 x1 x2 x3 s (fun  H => Q (.exit 0) (mkF 47 []) H) (fun y8_0 H => Q .ret (mkF 47 [(8, (.bool y8_0))]) H) (fun x4 H => RR (x4) H) E H)) (A := keepT [1, 2, 3, 11, 12, 13] [8] (fun i => if i = 0 then [] else []) (wC Try.prog policy_allow.Γ policy_allow.W1.plan (sub [1, 0, 1, 0, 0] policy_allow.body))) (m := (fun (s : Int) => (mkF 47 [(1, (.int .i64 proto0)), (2, (.int .u32 dst0)), (3, (.int .i64 port0)), (11, (.slice x0 x1 x2)), (12, (.int .i64 x3)), (13, (.int .i64 s))]))) (Q := Q) (E := E) (fun RR s H => policy_allow.W1.eq proto0 dst0 port0 x0 x1 x2 x3 Q E RR s H) m (x4) H
  exact cast e h
noncomputable def policy_allow.plan : Plan := .seq (.go) (.seq (.seq (.go) (.block (.use policy_allow.W1.t))) (.go))
theorem policy_allow.pok : PlanOk Try.prog policy_allow.plan policy_allow.body := by
  have e : PlanOk Try.prog policy_allow.plan policy_allow.body = ((True) ∧ (((True) ∧ (SoundCode Try.prog (sub [1, 0, 1, 0] policy_allow.body) policy_allow.W1.t)) ∧ (True))) := by kernel_rfl
  exact e.mpr ⟨trivial, ⟨⟨trivial, policy_allow.W1.ok⟩, trivial⟩⟩
theorem policy_allow.eq (l0 : Option Addr) (l1 : Nat) (l2 : Nat) (proto0 : Int) (dst0 : Int) (port0 : Int) (K : Value → Heap → Prop) (E : Value → Heap → Prop) (H : Heap) :
    fnT Try.prog Try.f56 (wC Try.prog policy_allow.Γ policy_allow.plan policy_allow.body) [(.slice l0 l1 l2), (.int .i64 proto0), (.int .u32 dst0), (.int .i64 port0)] K E H = policy_allow.vc l0 l1 l2 proto0 dst0 port0 (fun r0_0 H => K (.bool r0_0) H) E H := by
  kernel_rfl
theorem policy_allow.Fe {args : List Value} {K E : Value → Heap → Prop} {H : Heap} (h : policy_allow.F args K E H) : ∃ l0 l1 l2 proto0 dst0 port0, args = [(.slice l0 l1 l2), (.int .i64 proto0), (.int .u32 dst0), (.int .i64 port0)] ∧ policy_allow.c l0 l1 l2 proto0 dst0 port0 (fun r0_0 H => K (.bool r0_0) H) E H := by
  unfold policy_allow.F at h
  split at h
  · exact ⟨_, _, _, _, _, _, rfl, h⟩
  · exact h.elim
theorem policy_allow.ok : CalleeOk Try.prog 56 policy_allow.F :=
  callee_ok policy_allow.hΓ (fn := Try.f56) (c := policy_allow.body) (T := wC Try.prog policy_allow.Γ policy_allow.plan policy_allow.body) (by kernel_rfl) (by kernel_rfl) (by kernel_rfl) (wC_sound policy_allow.hΓ Try.hm policy_allow.plan _ policy_allow.pok) fun _ K E H h => by
    obtain ⟨z0, z1, z2, z3, z4, z5, e, h⟩ := policy_allow.Fe h
    subst e
    have h2 : policy_allow.vc z0 z1 z2 z3 z4 z5 (fun r0_0 H => ∃ H', Heap.Le H' H ∧ K (.bool r0_0) H') E H := h.h
    rw [policy_allow.eq z0 z1 z2 z3 z4 z5 (Fg K) E H]
    exact h2

/-! vizard/policy.Allow -/
noncomputable def policy_Allow.body : Code := Try.f26.body.getD .skip
def policy_Allow.vc (l0 : Option Addr) (l1 : Nat) (l2 : Nat) (proto0 : Int) (dst0 : Int) (port0 : Int) (K : Bool → Heap → Prop) (E : Value → Heap → Prop) (h0 : Heap) : Prop :=
  policy_Check.c l0 l1 l2 (fun x0 h1 =>
  (if (x0 == 0) = true then
  policy_allow.c l0 l1 l2 proto0 dst0 port0 K E h1
  else
  K false h1)) E h0
structure policy_Allow.c (l0 : Option Addr) (l1 : Nat) (l2 : Nat) (proto0 : Int) (dst0 : Int) (port0 : Int) (K : Bool → Heap → Prop) (E : Value → Heap → Prop) (H : Heap) : Prop where
  h : policy_Allow.vc l0 l1 l2 proto0 dst0 port0 (fun r0_0 H => ∃ H', Heap.Le H' H ∧ K r0_0 H') E H
def policy_Allow.F : FT := fun args K E H => match args with
  | [(.slice l0 l1 l2), (.int .i64 proto0), (.int .u32 dst0), (.int .i64 port0)] => policy_Allow.c l0 l1 l2 proto0 dst0 port0 (fun r0_0 H => K (.bool r0_0) H) E H
  | _ => False
noncomputable def policy_Allow.Γ : FuncId → Option FT := Γof [(23, policy_Check.F), (56, policy_allow.F)]
theorem policy_Allow.hΓ : ∀ f F, policy_Allow.Γ f = some F → CalleeOk Try.prog f F := Γof_ok (List.forall_mem_cons.2 ⟨policy_Check.ok, List.forall_mem_cons.2 ⟨policy_allow.ok, fun _ h => nomatch h⟩⟩)
noncomputable def policy_Allow.plan : Plan := .go
theorem policy_Allow.pok : PlanOk Try.prog policy_Allow.plan policy_Allow.body := by
  have e : PlanOk Try.prog policy_Allow.plan policy_Allow.body = (True) := by kernel_rfl
  exact e.mpr trivial
theorem policy_Allow.eq (l0 : Option Addr) (l1 : Nat) (l2 : Nat) (proto0 : Int) (dst0 : Int) (port0 : Int) (K : Value → Heap → Prop) (E : Value → Heap → Prop) (H : Heap) :
    fnT Try.prog Try.f26 (wC Try.prog policy_Allow.Γ policy_Allow.plan policy_Allow.body) [(.slice l0 l1 l2), (.int .i64 proto0), (.int .u32 dst0), (.int .i64 port0)] K E H = policy_Allow.vc l0 l1 l2 proto0 dst0 port0 (fun r0_0 H => K (.bool r0_0) H) E H := by
  kernel_rfl
theorem policy_Allow.Fe {args : List Value} {K E : Value → Heap → Prop} {H : Heap} (h : policy_Allow.F args K E H) : ∃ l0 l1 l2 proto0 dst0 port0, args = [(.slice l0 l1 l2), (.int .i64 proto0), (.int .u32 dst0), (.int .i64 port0)] ∧ policy_Allow.c l0 l1 l2 proto0 dst0 port0 (fun r0_0 H => K (.bool r0_0) H) E H := by
  unfold policy_Allow.F at h
  split at h
  · exact ⟨_, _, _, _, _, _, rfl, h⟩
  · exact h.elim
theorem policy_Allow.ok : CalleeOk Try.prog 26 policy_Allow.F :=
  callee_ok policy_Allow.hΓ (fn := Try.f26) (c := policy_Allow.body) (T := wC Try.prog policy_Allow.Γ policy_Allow.plan policy_Allow.body) (by kernel_rfl) (by kernel_rfl) (by kernel_rfl) (wC_sound policy_Allow.hΓ Try.hm policy_Allow.plan _ policy_Allow.pok) fun _ K E H h => by
    obtain ⟨z0, z1, z2, z3, z4, z5, e, h⟩ := policy_Allow.Fe h
    subst e
    have h2 : policy_Allow.vc z0 z1 z2 z3 z4 z5 (fun r0_0 H => ∃ H', Heap.Le H' H ∧ K (.bool r0_0) H') E H := h.h
    rw [policy_Allow.eq z0 z1 z2 z3 z4 z5 (Fg K) E H]
    exact h2

/-! vizard/vizardref18.Allow -/
noncomputable def vizardref18_Allow.body : Code := Try.f27.body.getD .skip
def vizardref18_Allow.J2.vc (l0 : Option Addr) (l1 : Nat) (l2 : Nat) (proto0 : Int) (dst0 : Int) (at0 : Int) (i0 : Int) (x0 : Addr) (x1 : Bool) (Kn : Heap → Prop) (Kr : Bool → Heap → Prop) (E : Value → Heap → Prop) (h0 : Heap) : Prop :=
  (if x1 = true then
  ldB h0 (x0.add 0) fun x2 =>
  Kr x2 h0
  else
  Kn h0)
structure vizardref18_Allow.J2 (l0 : Option Addr) (l1 : Nat) (l2 : Nat) (proto0 : Int) (dst0 : Int) (at0 : Int) (i0 : Int) (x0 : Addr) (x1 : Bool) (Kn : Heap → Prop) (Kr : Bool → Heap → Prop) (E : Value → Heap → Prop) (H : Heap) : Prop where
  h : vizardref18_Allow.J2.vc l0 l1 l2 proto0 dst0 at0 i0 x0 x1 Kn Kr E H
def vizardref18_Allow.J3.vc (l0 : Option Addr) (l1 : Nat) (l2 : Nat) (proto0 : Int) (dst0 : Int) (at0 : Int) (i0 : Int) (Kn : Int → Heap → Prop) (E : Value → Heap → Prop) (h0 : Heap) : Prop :=
  Kn (IntKind.i64.wrap (i0 + 1)) h0
structure vizardref18_Allow.J3 (l0 : Option Addr) (l1 : Nat) (l2 : Nat) (proto0 : Int) (dst0 : Int) (at0 : Int) (i0 : Int) (Kn : Int → Heap → Prop) (E : Value → Heap → Prop) (H : Heap) : Prop where
  h : vizardref18_Allow.J3.vc l0 l1 l2 proto0 dst0 at0 i0 Kn E H
def vizardref18_Allow.W1.vc (l0 : Option Addr) (l1 : Nat) (l2 : Nat) (proto0 : Int) (dst0 : Int) (at0 : Int) (i0 : Int) (Kx0 : Heap → Prop) (Kr : Bool → Heap → Prop) (RR : Int → Heap → Prop) (E : Value → Heap → Prop) (h0 : Heap) : Prop :=
  (if (decide (i0 < (l1 : Int))) = true then
  nilc l0 fun a0 => (0 : Int) ≤ i0 ∧ i0 < (l1 : Int) ∧
  ldB h0 ((a0.add (i0.toNat * 6)).add 0) fun x0 => ldI h0 .i64 ((a0.add (i0.toNat * 6)).add 1) fun x1 => ldI h0 .u32 ((a0.add (i0.toNat * 6)).add 2) fun x2 => ldI h0 .i64 ((a0.add (i0.toNat * 6)).add 3) fun x3 => ldI h0 .i64 ((a0.add (i0.toNat * 6)).add 4) fun x4 => ldI h0 .i64 ((a0.add (i0.toNat * 6)).add 5) fun x5 =>
  newB (.cells #[(.bool false), (.int .i64 0), (.int .u32 0), (.int .i64 0), (.int .i64 0), (.int .i64 0)] 91) (fun b0 h1 =>
  stc h1 ((⟨b0, 0, none⟩ : Addr).add 0) (.bool x0) fun h2 =>
  stc h2 ((⟨b0, 0, none⟩ : Addr).add 1) (.int .i64 x1) fun h3 =>
  stc h3 ((⟨b0, 0, none⟩ : Addr).add 2) (.int .u32 x2) fun h4 =>
  stc h4 ((⟨b0, 0, none⟩ : Addr).add 3) (.int .i64 x3) fun h5 =>
  stc h5 ((⟨b0, 0, none⟩ : Addr).add 4) (.int .i64 x4) fun h6 =>
  stc h6 ((⟨b0, 0, none⟩ : Addr).add 5) (.int .i64 x5) fun h7 =>
  ldI h7 .i64 ((⟨b0, 0, none⟩ : Addr).add 1) fun x6 =>
  (if (x6 == 0) = true then
  ldI h7 .u32 (((⟨b0, 0, none⟩ : Addr).add 2).add 0) fun x7 => ldI h7 .i64 (((⟨b0, 0, none⟩ : Addr).add 2).add 1) fun x8 =>
  vizardref04_Has.c x7 x8 dst0 (fun x9 h8 =>
  (if x9 = true then
  ldI h8 .i64 ((⟨b0, 0, none⟩ : Addr).add 4) fun x10 =>
  (if (decide (at0 ≥ x10)) = true then
  ldI h8 .i64 ((⟨b0, 0, none⟩ : Addr).add 5) fun x11 =>
  vizardref18_Allow.J2 l0 l1 l2 proto0 dst0 at0 i0 (⟨b0, 0, none⟩ : Addr) (decide (at0 ≤ x11)) (fun h9 =>
  vizardref18_Allow.J3 l0 l1 l2 proto0 dst0 at0 i0 RR E h9) Kr E h8
  else
  vizardref18_Allow.J2 l0 l1 l2 proto0 dst0 at0 i0 (⟨b0, 0, none⟩ : Addr) false (fun h12 =>
  vizardref18_Allow.J3 l0 l1 l2 proto0 dst0 at0 i0 RR E h12) Kr E h8)
  else
  vizardref18_Allow.J2 l0 l1 l2 proto0 dst0 at0 i0 (⟨b0, 0, none⟩ : Addr) false (fun h15 =>
  vizardref18_Allow.J3 l0 l1 l2 proto0 dst0 at0 i0 RR E h15) Kr E h8)) E h7
  else
  ldI h7 .i64 ((⟨b0, 0, none⟩ : Addr).add 1) fun x15 =>
  (if (x15 == proto0) = true then
  ldI h7 .u32 (((⟨b0, 0, none⟩ : Addr).add 2).add 0) fun x16 => ldI h7 .i64 (((⟨b0, 0, none⟩ : Addr).add 2).add 1) fun x17 =>
  vizardref04_Has.c x16 x17 dst0 (fun x18 h18 =>
  (if x18 = true then
  ldI h18 .i64 ((⟨b0, 0, none⟩ : Addr).add 4) fun x19 =>
  (if (decide (at0 ≥ x19)) = true then
  ldI h18 .i64 ((⟨b0, 0, none⟩ : Addr).add 5) fun x20 =>
  vizardref18_Allow.J2 l0 l1 l2 proto0 dst0 at0 i0 (⟨b0, 0, none⟩ : Addr) (decide (at0 ≤ x20)) (fun h19 =>
  vizardref18_Allow.J3 l0 l1 l2 proto0 dst0 at0 i0 RR E h19) Kr E h18
  else
  vizardref18_Allow.J2 l0 l1 l2 proto0 dst0 at0 i0 (⟨b0, 0, none⟩ : Addr) false (fun h22 =>
  vizardref18_Allow.J3 l0 l1 l2 proto0 dst0 at0 i0 RR E h22) Kr E h18)
  else
  vizardref18_Allow.J2 l0 l1 l2 proto0 dst0 at0 i0 (⟨b0, 0, none⟩ : Addr) false (fun h25 =>
  vizardref18_Allow.J3 l0 l1 l2 proto0 dst0 at0 i0 RR E h25) Kr E h18)) E h7
  else
  vizardref18_Allow.J2 l0 l1 l2 proto0 dst0 at0 i0 (⟨b0, 0, none⟩ : Addr) false (fun h28 =>
  vizardref18_Allow.J3 l0 l1 l2 proto0 dst0 at0 i0 RR E h28) Kr E h7))) h0
  else
  Kx0 h0)
structure vizardref18_Allow.W1 (l0 : Option Addr) (l1 : Nat) (l2 : Nat) (proto0 : Int) (dst0 : Int) (at0 : Int) (i0 : Int) (Kx0 : Heap → Prop) (Kr : Bool → Heap → Prop) (E : Value → Heap → Prop) (H : Heap) : Prop where
  h : Loop (fun (RR : Int → Heap → Prop) (s : Int) (H : Heap) => vizardref18_Allow.W1.vc l0 l1 l2 proto0 dst0 at0 s Kx0 Kr (fun i0 H => RR (i0) H) E H) (i0) H
def vizardref18_Allow.vc (l0 : Option Addr) (l1 : Nat) (l2 : Nat) (proto0 : Int) (dst0 : Int) (at0 : Int) (K : Bool → Heap → Prop) (E : Value → Heap → Prop) (h0 : Heap) : Prop :=
  vizardref18_Check.c l0 l1 l2 (fun x0 h1 =>
  (if (x0 != 0) = true then
  K false h1
  else
  vizardref18_Allow.W1 l0 l1 l2 proto0 dst0 at0 0 (fun h2 =>
  K false h2) K E h1)) E h0
structure vizardref18_Allow.c (l0 : Option Addr) (l1 : Nat) (l2 : Nat) (proto0 : Int) (dst0 : Int) (at0 : Int) (K : Bool → Heap → Prop) (E : Value → Heap → Prop) (H : Heap) : Prop where
  h : vizardref18_Allow.vc l0 l1 l2 proto0 dst0 at0 (fun r0_0 H => ∃ H', Heap.Le H' H ∧ K r0_0 H') E H
def vizardref18_Allow.F : FT := fun args K E H => match args with
  | [(.slice l0 l1 l2), (.int .i64 proto0), (.int .u32 dst0), (.int .i64 at0)] => vizardref18_Allow.c l0 l1 l2 proto0 dst0 at0 (fun r0_0 H => K (.bool r0_0) H) E H
  | _ => False
noncomputable def vizardref18_Allow.Γ : FuncId → Option FT := Γof [(18, vizardref04_Has.F), (25, vizardref18_Check.F)]
theorem vizardref18_Allow.hΓ : ∀ f F, vizardref18_Allow.Γ f = some F → CalleeOk Try.prog f F := Γof_ok (List.forall_mem_cons.2 ⟨vizardref04_Has.ok, List.forall_mem_cons.2 ⟨vizardref18_Check.ok, fun _ h => nomatch h⟩⟩)
def vizardref18_Allow.J2.t : CT := fun Q E fr H => lenIs 53 fr (slSl fr 0 fun l0 l1 l2 => slI fr 1 .i64 fun proto0 => slI fr 2 .u32 fun dst0 => slI fr 3 .i64 fun at0 => slI fr 9 .i64 fun i0 => slPA fr 10 fun x0 => slB fr 50 fun x1 => vizardref18_Allow.J2 l0 l1 l2 proto0 dst0 at0 i0 x0 x1 (fun  H => Q .normal (mkF 53 [(0, (.slice l0 l1 l2)), (1, (.int .i64 proto0)), (2, (.int .u32 dst0)), (3, (.int .i64 at0)), (9, (.int .i64 i0))]) H) (fun y8_0 H => Q .ret (mkF 53 [(8, (.bool y8_0))]) H) E H)
noncomputable def vizardref18_Allow.J2.plan : Plan := .go
theorem vizardref18_Allow.J2.pok : PlanOk Try.prog vizardref18_Allow.J2.plan (sub [1, 1, 0, 1, 0, 0, 1, 0, 0, 1, 1] vizardref18_Allow.body) := by
  have e : PlanOk Try.prog vizardref18_Allow.J2.plan (sub [1, 1, 0, 1, 0, 0, 1, 0, 0, 1, 1] vizardref18_Allow.body) = (True) := by kernel_rfl
  exact e.mpr trivial
theorem vizardref18_Allow.J2.eq (l0 : Option Addr) (l1 : Nat) (l2 : Nat) (proto0 : Int) (dst0 : Int) (at0 : Int) (i0 : Int) (x0 : Addr) (x1 : Bool) (Q : Ex → Fr → Heap → Prop) (E : Value → Heap → Prop) (H : Heap) :
    vizardref18_Allow.J2.vc l0 l1 l2 proto0 dst0 at0 i0 x0 x1 (fun  H => Q .normal (mkF 53 [(0, (.slice l0 l1 l2)), (1, (.int .i64 proto0)), (2, (.int .u32 dst0)), (3, (.int .i64 at0)), (9, (.int .i64 i0))]) H) (fun y8_0 H => Q .ret (mkF 53 [(8, (.bool y8_0))]) H) E H = keepT [0, 1, 2, 3, 9] [8] (fun i => []) (wC Try.prog vizardref18_Allow.Γ vizardref18_Allow.J2.plan (sub [1, 1, 0, 1, 0, 0, 1, 0, 0, 1, 1] vizardref18_Allow.body)) Q E (mkF 53 [(0, (.slice l0 l1 l2)), (1, (.int .i64 proto0)), (2, (.int .u32 dst0)), (3, (.int .i64 at0)), (9, (.int .i64 i0)), (10, (.pointer (some x0))), (50, (.bool x1))]) H := by
  kernel_rfl
theorem vizardref18_Allow.J2.ok : SoundCode Try.prog (sub [1, 1, 0, 1, 0, 0, 1, 0, 0, 1, 1] vizardref18_Allow.body) vizardref18_Allow.J2.t := by
  refine piece_sound (keepT_sound [0, 1, 2, 3, 9] [8] (fun i => []) (wC_sound vizardref18_Allow.hΓ Try.hm vizardref18_Allow.J2.plan _ vizardref18_Allow.J2.pok)) ?_
  intro Q E fr H h
  unfold vizardref18_Allow.J2.t at h
  obtain ⟨hl, h⟩ := lenIs_elim h
  obtain ⟨l0, l1, l2, q0, h⟩ := slSl_elim h
  obtain ⟨proto0, q1, h⟩ := slI_elim h
  obtain ⟨dst0, q2, h⟩ := slI_elim h
  obtain ⟨at0, q3, h⟩ := slI_elim h
  obtain ⟨i0, q9, h⟩ := slI_elim h
  obtain ⟨x0, q10, h⟩ := slPA_elim h
  obtain ⟨x1, q50, h⟩ := slB_elim h
  refine ⟨(mkF 53 [(0, (.slice l0 l1 l2)), (1, (.int .i64 proto0)), (2, (.int .u32 dst0)), (3, (.int .i64 at0)), (9, (.int .i64 i0)), (10, (.pointer (some x0))), (50, (.bool x1))]), fun a ha => ha.mk (Nat.le_of_eq hl.symm) (List.forall_mem_cons.2 ⟨q0, List.forall_mem_cons.2 ⟨q1, List.forall_mem_cons.2 ⟨q2, List.forall_mem_cons.2 ⟨q3, List.forall_mem_cons.2 ⟨q9, List.forall_mem_cons.2 ⟨q10, List.forall_mem_cons.2 ⟨q50, fun _ h => nomatch h⟩⟩⟩⟩⟩⟩⟩), ?_⟩
  have e := vizardref18_Allow.J2.eq l0 l1 l2 proto0 dst0 at0 i0 x0 x1 Q E H
  rw [← e]
  exact h.h
def vizardref18_Allow.J3.t : CT := fun Q E fr H => lenIs 53 fr (slSl fr 0 fun l0 l1 l2 => slI fr 1 .i64 fun proto0 => slI fr 2 .u32 fun dst0 => slI fr 3 .i64 fun at0 => slI fr 9 .i64 fun i0 => vizardref18_Allow.J3 l0 l1 l2 proto0 dst0 at0 i0 (fun y9_0 H => Q .normal (mkF 53 [(0, (.slice l0 l1 l2)), (1, (.int .i64 proto0)), (2, (.int .u32 dst0)), (3, (.int .i64 at0)), (9, (.int .i64 y9_0))]) H) E H)
noncomputable def vizardref18_Allow.J3.plan : Plan := .go
theorem vizardref18_Allow.J3.pok : PlanOk Try.prog vizardref18_Allow.J3.plan (sub [1, 1, 0, 1, 0, 0, 1, 1] vizardref18_Allow.body) := by
  have e : PlanOk Try.prog vizardref18_Allow.J3.plan (sub [1, 1, 0, 1, 0, 0, 1, 1] vizardref18_Allow.body) = (True) := by kernel_rfl
  exact e.mpr trivial
theorem vizardref18_Allow.J3.eq (l0 : Option Addr) (l1 : Nat) (l2 : Nat) (proto0 : Int) (dst0 : Int) (at0 : Int) (i0 : Int) (Q : Ex → Fr → Heap → Prop) (E : Value → Heap → Prop) (H : Heap) :
    vizardref18_Allow.J3.vc l0 l1 l2 proto0 dst0 at0 i0 (fun y9_0 H => Q .normal (mkF 53 [(0, (.slice l0 l1 l2)), (1, (.int .i64 proto0)), (2, (.int .u32 dst0)), (3, (.int .i64 at0)), (9, (.int .i64 y9_0))]) H) E H = keepT [0, 1, 2, 3, 9] [] (fun i => []) (wC Try.prog vizardref18_Allow.Γ vizardref18_Allow.J3.plan (sub [1, 1, 0, 1, 0, 0, 1, 1] vizardref18_Allow.body)) Q E (mkF 53 [(0, (.slice l0 l1 l2)), (1, (.int .i64 proto0)), (2, (.int .u32 dst0)), (3, (.int .i64 at0)), (9, (.int .i64 i0))]) H := by
  kernel_rfl
theorem vizardref18_Allow.J3.ok : SoundCode Try.prog (sub [1, 1, 0, 1, 0, 0, 1, 1] vizardref18_Allow.body) vizardref18_Allow.J3.t := by
  refine piece_sound (keepT_sound [0, 1, 2, 3, 9] [] (fun i => []) (wC_sound vizardref18_Allow.hΓ Try.hm vizardref18_Allow.J3.plan _ vizardref18_Allow.J3.pok)) ?_
  intro Q E fr H h
  unfold vizardref18_Allow.J3.t at h
  obtain ⟨hl, h⟩ := lenIs_elim h
  obtain ⟨l0, l1, l2, q0, h⟩ := slSl_elim h
  obtain ⟨proto0, q1, h⟩ := slI_elim h
  obtain ⟨dst0, q2, h⟩ := slI_elim h
  obtain ⟨at0, q3, h⟩ := slI_elim h
  obtain ⟨i0, q9, h⟩ := slI_elim h
  refine ⟨(mkF 53 [(0, (.slice l0 l1 l2)), (1, (.int .i64 proto0)), (2, (.int .u32 dst0)), (3, (.int .i64 at0)), (9, (.int .i64 i0))]), fun a ha => ha.mk (Nat.le_of_eq hl.symm) (List.forall_mem_cons.2 ⟨q0, List.forall_mem_cons.2 ⟨q1, List.forall_mem_cons.2 ⟨q2, List.forall_mem_cons.2 ⟨q3, List.forall_mem_cons.2 ⟨q9, fun _ h => nomatch h⟩⟩⟩⟩⟩), ?_⟩
  have e := vizardref18_Allow.J3.eq l0 l1 l2 proto0 dst0 at0 i0 Q E H
  rw [← e]
  exact h.h
def vizardref18_Allow.W1.t : CT := fun Q E fr H => lenIs 53 fr (slSl fr 0 fun l0 l1 l2 => slI fr 1 .i64 fun proto0 => slI fr 2 .u32 fun dst0 => slI fr 3 .i64 fun at0 => slI fr 9 .i64 fun i0 => vizardref18_Allow.W1 l0 l1 l2 proto0 dst0 at0 i0 (fun  H => Q (.exit 0) (mkF 53 []) H) (fun y8_0 H => Q .ret (mkF 53 [(8, (.bool y8_0))]) H) E H)
noncomputable def vizardref18_Allow.W1.plan : Plan := .seq (.go) (.seq (.block (.seq (.go) (.seq (.go) (.use vizardref18_Allow.J2.t)))) (.use vizardref18_Allow.J3.t))
theorem vizardref18_Allow.W1.pok : PlanOk Try.prog vizardref18_Allow.W1.plan (sub [1, 1, 0, 1, 0, 0] vizardref18_Allow.body) := by
  have e : PlanOk Try.prog vizardref18_Allow.W1.plan (sub [1, 1, 0, 1, 0, 0] vizardref18_Allow.body) = ((True) ∧ (((True) ∧ ((True) ∧ (SoundCode Try.prog (sub [1, 1, 0, 1, 0, 0, 1, 0, 0, 1, 1] vizardref18_Allow.body) vizardref18_Allow.J2.t))) ∧ (SoundCode Try.prog (sub [1, 1, 0, 1, 0, 0, 1, 1] vizardref18_Allow.body) vizardref18_Allow.J3.t))) := by kernel_rfl
  exact e.mpr ⟨trivial, ⟨⟨trivial, ⟨trivial, vizardref18_Allow.J2.ok⟩⟩, vizardref18_Allow.J3.ok⟩⟩
theorem vizardref18_Allow.W1.eq (l0 : Option Addr) (l1 : Nat) (l2 : Nat) (proto0 : Int) (dst0 : Int) (at0 : Int) (Q : Ex → Fr → Heap → Prop) (E : Value → Heap → Prop) (RR : Fr → Heap → Prop) (s : Int) (H : Heap) :
    (fun (RR : Int → Heap → Prop) (s : Int) (H : Heap) => vizardref18_Allow.W1.vc l0 l1 l2 proto0 dst0 at0 s (fun  H => Q (.exit 0) (mkF 53 []) H) (fun y8_0 H => Q .ret (mkF 53 [(8, (.bool y8_0))]) H) (fun i0 H => RR (i0) H) E H) (fun s' H' => RR ((fun (s : Int) => (mkF 53 [(0, (.slice l0 l1 l2)), (1, (.int .i64 proto0)), (2, (.int .u32 dst0)), (3, (.int .i64 at0)), (9, (.int .i64 s))])) s') H') s H = keepT [0, 1, 2, 3, 9] [8] (fun i => if i = 0 then [] else []) (wC Try.prog vizardref18_Allow.Γ vizardref18_Allow.W1.plan (sub [1, 1, 0, 1, 0, 0] vizardref18_Allow.body)) (fun e fr' H' => match e with | .normal => RR fr' H' | .exit id => Q (.exit id) fr' H' | .ret => Q .ret fr' H') E ((fun (s : Int) => (mkF 53 [(0, (.slice l0 l1 l2)), (1, (.int .i64 proto0)), (2, (.int .u32 dst0)), (3, (.int .i64 at0)), (9, (.int .i64 s))])) s) H := by
  kernel_rfl
theorem vizardref18_Allow.W1.ok : SoundCode Try.prog (sub [1, 1, 0, 1, 0] vizardref18_Allow.body) vizardref18_Allow.W1.t := by
  have e : (sub [1, 1, 0, 1, 0] vizardref18_Allow.body) = .loop (sub [1, 1, 0, 1, 0, 0] vizardref18_Allow.body) := by kernel_rfl
  rw [e]
  refine piece_sound (loopN_sound (keepT_sound [0, 1, 2, 3, 9] [8] (fun i => if i = 0 then [] else []) (wC_sound vizardref18_Allow.hΓ Try.hm vizardref18_Allow.W1.plan _ vizardref18_Allow.W1.pok))) ?_
  intro Q E fr H h
  unfold vizardref18_Allow.W1.t at h
  obtain ⟨hl, h⟩ := lenIs_elim h
  obtain ⟨l0, l1, l2, q0, h⟩ := slSl_elim h
  obtain ⟨proto0, q1, h⟩ := slI_elim h
  obtain ⟨dst0, q2, h⟩ := slI_elim h
  obtain ⟨at0, q3, h⟩ := slI_elim h
  obtain ⟨i0, q9, h⟩ := slI_elim h
  obtain ⟨m, h⟩ := h.h
  refine ⟨(mkF 53 [(0, (.slice l0 l1 l2)), (1, (.int .i64 proto0)), (2, (.int .u32 dst0)), (3, (.int .i64 at0)), (9, (.int .i64 i0))]), fun a ha => ha.mk (Nat.le_of_eq hl.symm) (List.forall_mem_cons.2 ⟨q0, List.forall_mem_cons.2 ⟨q1, List.forall_mem_cons.2 ⟨q2, List.forall_mem_cons.2 ⟨q3, List.forall_mem_cons.2 ⟨q9, fun _ h => nomatch h⟩⟩⟩⟩⟩), m, ?_⟩
  have e := loopS_eq (B := (fun (RR : Int → Heap → Prop) (s : Int) (H : Heap) => vizardref18_Allow.W1.vc l0 l1 l2 proto0 dst0 at0 s (fun  H => Q (.exit 0) (mkF 53 []) H) (fun y8_0 H => Q .ret (mkF 53 [(8, (.bool y8_0))]) H) (fun i0 H => RR (i0) H) E H)) (A := keepT [0, 1, 2, 3, 9] [8] (fun i => if i = 0 then [] else []) (wC Try.prog vizardref18_Allow.Γ vizardref18_Allow.W1.plan (sub [1, 1, 0, 1, 0, 0] vizardref18_Allow.body))) (m := (fun (s : Int) => (mkF 53 [(0, (.slice l0 l1 l2)), (1, (.int .i64 proto0)), (2, (.int .u32 dst0)), (3, (.int .i64 at0)), (9, (.int .i64 s))]))) (Q := Q) (E := E) (fun RR s H => vizardref18_Allow.W1.eq l0 l1 l2 proto0 dst0 at0 Q E RR s H) m (i0) H
  exact cast e h
noncomputable def vizardref18_Allow.plan : Plan := .seq (.go) (.seq (.go) (.seq (.seq (.go) (.block (.use vizardref18_Allow.W1.t))) (.go)))
theorem vizardref18_Allow.pok : PlanOk Try.prog vizardref18_Allow.plan vizardref18_Allow.body := by
  have e : PlanOk Try.prog vizardref18_Allow.plan vizardref18_Allow.body = ((True) ∧ ((True) ∧ (((True) ∧ (SoundCode Try.prog (sub [1, 1, 0, 1, 0] vizardref18_Allow.body) vizardref18_Allow.W1.t)) ∧ (True)))) := by kernel_rfl
  exact e.mpr ⟨trivial, ⟨trivial, ⟨⟨trivial, vizardref18_Allow.W1.ok⟩, trivial⟩⟩⟩
theorem vizardref18_Allow.eq (l0 : Option Addr) (l1 : Nat) (l2 : Nat) (proto0 : Int) (dst0 : Int) (at0 : Int) (K : Value → Heap → Prop) (E : Value → Heap → Prop) (H : Heap) :
    fnT Try.prog Try.f27 (wC Try.prog vizardref18_Allow.Γ vizardref18_Allow.plan vizardref18_Allow.body) [(.slice l0 l1 l2), (.int .i64 proto0), (.int .u32 dst0), (.int .i64 at0)] K E H = vizardref18_Allow.vc l0 l1 l2 proto0 dst0 at0 (fun r0_0 H => K (.bool r0_0) H) E H := by
  kernel_rfl
theorem vizardref18_Allow.Fe {args : List Value} {K E : Value → Heap → Prop} {H : Heap} (h : vizardref18_Allow.F args K E H) : ∃ l0 l1 l2 proto0 dst0 at0, args = [(.slice l0 l1 l2), (.int .i64 proto0), (.int .u32 dst0), (.int .i64 at0)] ∧ vizardref18_Allow.c l0 l1 l2 proto0 dst0 at0 (fun r0_0 H => K (.bool r0_0) H) E H := by
  unfold vizardref18_Allow.F at h
  split at h
  · exact ⟨_, _, _, _, _, _, rfl, h⟩
  · exact h.elim
theorem vizardref18_Allow.ok : CalleeOk Try.prog 27 vizardref18_Allow.F :=
  callee_ok vizardref18_Allow.hΓ (fn := Try.f27) (c := vizardref18_Allow.body) (T := wC Try.prog vizardref18_Allow.Γ vizardref18_Allow.plan vizardref18_Allow.body) (by kernel_rfl) (by kernel_rfl) (by kernel_rfl) (wC_sound vizardref18_Allow.hΓ Try.hm vizardref18_Allow.plan _ vizardref18_Allow.pok) fun _ K E H h => by
    obtain ⟨z0, z1, z2, z3, z4, z5, e, h⟩ := vizardref18_Allow.Fe h
    subst e
    have h2 : vizardref18_Allow.vc z0 z1 z2 z3 z4 z5 (fun r0_0 H => ∃ H', Heap.Le H' H ∧ K (.bool r0_0) H') E H := h.h
    rw [vizardref18_Allow.eq z0 z1 z2 z3 z4 z5 (Fg K) E H]
    exact h2

/-! vizard/vizardlaw18.PolicyAllows -/
noncomputable def vizardlaw18_PolicyAllows.body : Code := Try.f5.body.getD .skip
def vizardlaw18_PolicyAllows.vc (l0 : Option Addr) (l1 : Nat) (l2 : Nat) (proto0 : Int) (dst0 : Int) (port0 : Int) (K : Bool → Heap → Prop) (E : Value → Heap → Prop) (h0 : Heap) : Prop :=
  vizardlaw18_own.c l0 l1 l2 (fun x0 x1 x2 h1 =>
  policy_Check.c x0 x1 x2 (fun x3 h2 =>
  vizardref18_Check.c l0 l1 l2 (fun x4 h3 =>
  (if (x3 == x4) = true then
  vizardlaw18_own.c l0 l1 l2 (fun x5 x6 x7 h4 =>
  policy_Allow.c x5 x6 x7 proto0 dst0 port0 (fun x8 h5 =>
  vizardref18_Allow.c l0 l1 l2 proto0 dst0 port0 (fun x9 h6 =>
  K (x8 == x9) h6) E h5) E h4) E h3
  else
  K false h3)) E h2) E h1) E h0
structure vizardlaw18_PolicyAllows.c (l0 : Option Addr) (l1 : Nat) (l2 : Nat) (proto0 : Int) (dst0 : Int) (port0 : Int) (K : Bool → Heap → Prop) (E : Value → Heap → Prop) (H : Heap) : Prop where
  h : vizardlaw18_PolicyAllows.vc l0 l1 l2 proto0 dst0 port0 (fun r0_0 H => ∃ H', Heap.Le H' H ∧ K r0_0 H') E H
def vizardlaw18_PolicyAllows.F : FT := fun args K E H => match args with
  | [(.slice l0 l1 l2), (.int .i64 proto0), (.int .u32 dst0), (.int .i64 port0)] => vizardlaw18_PolicyAllows.c l0 l1 l2 proto0 dst0 port0 (fun r0_0 H => K (.bool r0_0) H) E H
  | _ => False
noncomputable def vizardlaw18_PolicyAllows.Γ : FuncId → Option FT := Γof [(23, policy_Check.F), (24, vizardlaw18_own.F), (25, vizardref18_Check.F), (26, policy_Allow.F), (27, vizardref18_Allow.F)]
theorem vizardlaw18_PolicyAllows.hΓ : ∀ f F, vizardlaw18_PolicyAllows.Γ f = some F → CalleeOk Try.prog f F := Γof_ok (List.forall_mem_cons.2 ⟨policy_Check.ok, List.forall_mem_cons.2 ⟨vizardlaw18_own.ok, List.forall_mem_cons.2 ⟨vizardref18_Check.ok, List.forall_mem_cons.2 ⟨policy_Allow.ok, List.forall_mem_cons.2 ⟨vizardref18_Allow.ok, fun _ h => nomatch h⟩⟩⟩⟩⟩)
noncomputable def vizardlaw18_PolicyAllows.plan : Plan := .go
theorem vizardlaw18_PolicyAllows.pok : PlanOk Try.prog vizardlaw18_PolicyAllows.plan vizardlaw18_PolicyAllows.body := by
  have e : PlanOk Try.prog vizardlaw18_PolicyAllows.plan vizardlaw18_PolicyAllows.body = (True) := by kernel_rfl
  exact e.mpr trivial
theorem vizardlaw18_PolicyAllows.eq (l0 : Option Addr) (l1 : Nat) (l2 : Nat) (proto0 : Int) (dst0 : Int) (port0 : Int) (K : Value → Heap → Prop) (E : Value → Heap → Prop) (H : Heap) :
    fnT Try.prog Try.f5 (wC Try.prog vizardlaw18_PolicyAllows.Γ vizardlaw18_PolicyAllows.plan vizardlaw18_PolicyAllows.body) [(.slice l0 l1 l2), (.int .i64 proto0), (.int .u32 dst0), (.int .i64 port0)] K E H = vizardlaw18_PolicyAllows.vc l0 l1 l2 proto0 dst0 port0 (fun r0_0 H => K (.bool r0_0) H) E H := by
  kernel_rfl
theorem vizardlaw18_PolicyAllows.Fe {args : List Value} {K E : Value → Heap → Prop} {H : Heap} (h : vizardlaw18_PolicyAllows.F args K E H) : ∃ l0 l1 l2 proto0 dst0 port0, args = [(.slice l0 l1 l2), (.int .i64 proto0), (.int .u32 dst0), (.int .i64 port0)] ∧ vizardlaw18_PolicyAllows.c l0 l1 l2 proto0 dst0 port0 (fun r0_0 H => K (.bool r0_0) H) E H := by
  unfold vizardlaw18_PolicyAllows.F at h
  split at h
  · exact ⟨_, _, _, _, _, _, rfl, h⟩
  · exact h.elim
theorem vizardlaw18_PolicyAllows.ok : CalleeOk Try.prog 5 vizardlaw18_PolicyAllows.F :=
  callee_ok vizardlaw18_PolicyAllows.hΓ (fn := Try.f5) (c := vizardlaw18_PolicyAllows.body) (T := wC Try.prog vizardlaw18_PolicyAllows.Γ vizardlaw18_PolicyAllows.plan vizardlaw18_PolicyAllows.body) (by kernel_rfl) (by kernel_rfl) (by kernel_rfl) (wC_sound vizardlaw18_PolicyAllows.hΓ Try.hm vizardlaw18_PolicyAllows.plan _ vizardlaw18_PolicyAllows.pok) fun _ K E H h => by
    obtain ⟨z0, z1, z2, z3, z4, z5, e, h⟩ := vizardlaw18_PolicyAllows.Fe h
    subst e
    have h2 : vizardlaw18_PolicyAllows.vc z0 z1 z2 z3 z4 z5 (fun r0_0 H => ∃ H', Heap.Le H' H ∧ K (.bool r0_0) H') E H := h.h
    rw [vizardlaw18_PolicyAllows.eq z0 z1 z2 z3 z4 z5 (Fg K) E H]
    exact h2
end Go.Sh
