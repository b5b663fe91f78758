/- PRINTED by a program (sh.py): what the walk over each function asks, and that it asks just that. -/
import Derived.Test.YtennpdminebahaaSrt
namespace Go.Sh
open Go.Proofs
set_option linter.unusedVariables false
set_option maxRecDepth 8000
/-! vizard/prefix.rest -/
noncomputable def prefix_rest.body : Code := Try.f45.body.getD .skip
def prefix_rest.vc (n0 : Int) (K : Int → Heap → Prop) (E : Value → Heap → Prop) (h0 : Heap) : Prop :=
  (0 : Int) ≤ (IntKind.i64.wrap (32 - n0)) ∧
  K (IntKind.u32.wrap (IntKind.u64.wrap ((shlI .u64 1 (IntKind.i64.wrap (32 - n0))) - 1))) h0
structure prefix_rest.c (n0 : Int) (K : Int → Heap → Prop) (E : Value → Heap → Prop) (H : Heap) : Prop where
  h : prefix_rest.vc n0 (fun r0_0 H => ∃ H', Heap.Le H' H ∧ K r0_0 H') E H
def prefix_rest.F : FT := fun args K E H => match args with
  | [(.int .i64 n0)] => prefix_rest.c n0 (fun r0_0 H => K (.int .u32 r0_0) H) E H
  | _ => False
noncomputable def prefix_rest.Γ : FuncId → Option FT := Γof []
theorem prefix_rest.hΓ : ∀ f F, prefix_rest.Γ f = some F → CalleeOk Try.prog f F := Γof_ok (fun _ h => nomatch h)
noncomputable def prefix_rest.plan : Plan := .go
theorem prefix_rest.pok : PlanOk Try.prog prefix_rest.plan prefix_rest.body := by
  have e : PlanOk Try.prog prefix_rest.plan prefix_rest.body = (True) := by kernel_rfl
  exact e.mpr trivial
theorem prefix_rest.eq (n0 : Int) (K : Value → Heap → Prop) (E : Value → Heap → Prop) (H : Heap) :
    fnT Try.prog Try.f45 (wC Try.prog prefix_rest.Γ prefix_rest.plan prefix_rest.body) [(.int .i64 n0)] K E H = prefix_rest.vc n0 (fun r0_0 H => K (.int .u32 r0_0) H) E H := by
  kernel_rfl
theorem prefix_rest.Fe {args : List Value} {K E : Value → Heap → Prop} {H : Heap} (h : prefix_rest.F args K E H) : ∃ n0, args = [(.int .i64 n0)] ∧ prefix_rest.c n0 (fun r0_0 H => K (.int .u32 r0_0) H) E H := by
  unfold prefix_rest.F at h
  split at h
  · exact ⟨_, rfl, h⟩
  · exact h.elim
theorem prefix_rest.ok : CalleeOk Try.prog 45 prefix_rest.F :=
  callee_ok prefix_rest.hΓ (fn := Try.f45) (c := prefix_rest.body) (T := wC Try.prog prefix_rest.Γ prefix_rest.plan prefix_rest.body) (by kernel_rfl) (by kernel_rfl) (by kernel_rfl) (wC_sound prefix_rest.hΓ Try.hm prefix_rest.plan _ prefix_rest.pok) fun _ K E H h => by
    obtain ⟨z0, e, h⟩ := prefix_rest.Fe h
    subst e
    have h2 : prefix_rest.vc z0 (fun r0_0 H => ∃ H', Heap.Le H' H ∧ K (.int .u32 r0_0) H') E H := h.h
    rw [prefix_rest.eq z0 (Fg K) E H]
    exact h2

/-! vizard/prefix.Check -/
noncomputable def prefix_Check.body : Code := Try.f44.body.getD .skip
def prefix_Check.vc (p0 : Int) (p1 : Int) (K : Bool → Heap → Prop) (E : Value → Heap → Prop) (h0 : Heap) : Prop :=
  newB (.cells #[(.int .u32 p0), (.int .i64 p1)] 38) (fun b0 h1 =>
  ldI h1 .i64 ((⟨b0, 0, none⟩ : Addr).add 1) fun x0 =>
  (if (decide (x0 ≥ 0)) = true then
  ldI h1 .i64 ((⟨b0, 0, none⟩ : Addr).add 1) fun x1 =>
  (if (decide (x1 ≤ 32)) = true then
  ldI h1 .u32 ((⟨b0, 0, none⟩ : Addr).add 0) fun x2 =>
  ldI h1 .i64 ((⟨b0, 0, none⟩ : Addr).add 1) fun x3 =>
  prefix_rest.c x3 (fun x4 h2 =>
  (ldI h2 .u32 ((⟨b0, 0, none⟩ : Addr).add 0) fun x5 =>
  eqv h2 h2 (some (.int .u32 x2)) (.int .u32 x5)) ∧
  K ((bits .and .u32 x2 x4) == 0) h2) E h1
  else
  True ∧
  K false h1)
  else
  True ∧
  K false h1)) h0
structure prefix_Check.c (p0 : Int) (p1 : Int) (K : Bool → Heap → Prop) (E : Value → Heap → Prop) (H : Heap) : Prop where
  h : prefix_Check.vc p0 p1 (fun r0_0 H => ∃ H', Heap.Le H' H ∧ K r0_0 H') E H
def prefix_Check.F : FT := fun args K E H => match args with
  | [(.agg ⟨[(.int .u32 p0), (.int .i64 p1)]⟩)] => prefix_Check.c p0 p1 (fun r0_0 H => K (.bool r0_0) H) E H
  | _ => False
noncomputable def prefix_Check.Γ : FuncId → Option FT := Γof [(45, prefix_rest.F)]
theorem prefix_Check.hΓ : ∀ f F, prefix_Check.Γ f = some F → CalleeOk Try.prog f F := Γof_ok (List.forall_mem_cons.2 ⟨prefix_rest.ok, fun _ h => nomatch h⟩)
noncomputable def prefix_Check.plan : Plan := .seq (.go) (.seq (.draw ⟨[0, 1, 2, 3, 4, 5, 6, 7, 8, 9, 10, 11, 12, 13, 14, 15, 16], (dl [(0, []), (1, []), (2, []), (3, []), (4, []), (5, []), (6, []), (7, []), (8, []), (9, []), (10, []), (11, []), (12, []), (13, [12, 8, 11, 7, 3, 6, 2, 5, 1, 4, 0]), (14, []), (15, []), (16, [])] .fin), [17]⟩) (.go))
theorem prefix_Check.pok : PlanOk Try.prog prefix_Check.plan prefix_Check.body := by
  have e : PlanOk Try.prog prefix_Check.plan prefix_Check.body = ((True) ∧ ((True) ∧ (True))) := by kernel_rfl
  exact e.mpr ⟨trivial, ⟨trivial, trivial⟩⟩
theorem prefix_Check.eq (p0 : Int) (p1 : Int) (K : Value → Heap → Prop) (E : Value → Heap → Prop) (H : Heap) :
    fnT Try.prog Try.f44 (wC Try.prog prefix_Check.Γ prefix_Check.plan prefix_Check.body) [(.agg #[(.int .u32 p0), (.int .i64 p1)])] K E H = prefix_Check.vc p0 p1 (fun r0_0 H => K (.bool r0_0) H) E H := by
  kernel_rfl
theorem prefix_Check.Fe {args : List Value} {K E : Value → Heap → Prop} {H : Heap} (h : prefix_Check.F args K E H) : ∃ p0 p1, args = [(.agg #[(.int .u32 p0), (.int .i64 p1)])] ∧ prefix_Check.c p0 p1 (fun r0_0 H => K (.bool r0_0) H) E H := by
  unfold prefix_Check.F at h
  split at h
  · exact ⟨_, _, rfl, h⟩
  · exact h.elim
theorem prefix_Check.ok : CalleeOk Try.prog 44 prefix_Check.F :=
  callee_ok prefix_Check.hΓ (fn := Try.f44) (c := prefix_Check.body) (T := wC Try.prog prefix_Check.Γ prefix_Check.plan prefix_Check.body) (by kernel_rfl) (by kernel_rfl) (by kernel_rfl) (wC_sound prefix_Check.hΓ Try.hm prefix_Check.plan _ prefix_Check.pok) fun _ K E H h => by
    obtain ⟨z0, z1, e, h⟩ := prefix_Check.Fe h
    subst e
    have h2 : prefix_Check.vc z0 z1 (fun r0_0 H => ∃ H', Heap.Le H' H ∧ K (.bool r0_0) H') E H := h.h
    rw [prefix_Check.eq z0 z1 (Fg K) E H]
    exact h2

/-! vizard/policy.right -/
noncomputable def policy_right.body : Code := Try.f35.body.getD .skip
def policy_right.vc (x0 : Bool) (x1 : Int) (x2 : Int) (x3 : Int) (x4 : Int) (x5 : Int) (K : Bool → Heap → Prop) (E : Value → Heap → Prop) (h0 : Heap) : Prop :=
  newB (.cells #[(.bool x0), (.int .i64 x1), (.int .u32 x2), (.int .i64 x3), (.int .i64 x4), (.int .i64 x5)] 40) (fun b0 h1 =>
  ldI h1 .i64 ((⟨b0, 0, none⟩ : Addr).add 1) fun x6 =>
  (if (decide (x6 ≥ 0)) = true then
  ldI h1 .i64 ((⟨b0, 0, none⟩ : Addr).add 1) fun x7 =>
  (if (decide (x7 ≤ 255)) = true then
  ldI h1 .u32 (((⟨b0, 0, none⟩ : Addr).add 2).add 0) fun x8 => ldI h1 .i64 (((⟨b0, 0, none⟩ : Addr).add 2).add 1) fun x9 =>
  prefix_Check.c x8 x9 (fun x10 h2 =>
  (if x10 = true then
  ldI h2 .i64 ((⟨b0, 0, none⟩ : Addr).add 4) fun x11 =>
  (if (decide (x11 ≥ 0)) = true then
  ldI h2 .i64 ((⟨b0, 0, none⟩ : Addr).add 4) fun x12 =>
  ldI h2 .i64 ((⟨b0, 0, none⟩ : Addr).add 5) fun x13 =>
  (if (decide (x12 ≤ x13)) = true then
  ldI h2 .i64 ((⟨b0, 0, none⟩ : Addr).add 5) fun x14 =>
  K (decide (x14 ≤ 65535)) h2
  else
  K false h2)
  else
  K false h2)
  else
  K false h2)) E h1
  else
  K false h1)
  else
  K false h1)) h0
structure policy_right.c (x0 : Bool) (x1 : Int) (x2 : Int) (x3 : Int) (x4 : Int) (x5 : Int) (K : Bool → Heap → Prop) (E : Value → Heap → Prop) (H : Heap) : Prop where
  h : policy_right.vc x0 x1 x2 x3 x4 x5 (fun r0_0 H => ∃ H', Heap.Le H' H ∧ K r0_0 H') E H
def policy_right.F : FT := fun args K E H => match args with
  | [(.agg ⟨[(.bool x0), (.int .i64 x1), (.int .u32 x2), (.int .i64 x3), (.int .i64 x4), (.int .i64 x5)]⟩)] => policy_right.c x0 x1 x2 x3 x4 x5 (fun r0_0 H => K (.bool r0_0) H) E H
  | _ => False
noncomputable def policy_right.Γ : FuncId → Option FT := Γof [(44, prefix_Check.F)]
theorem policy_right.hΓ : ∀ f F, policy_right.Γ f = some F → CalleeOk Try.prog f F := Γof_ok (List.forall_mem_cons.2 ⟨prefix_Check.ok, fun _ h => nomatch h⟩)
noncomputable def policy_right.plan : Plan := .go
theorem policy_right.pok : PlanOk Try.prog policy_right.plan policy_right.body := by
  have e : PlanOk Try.prog policy_right.plan policy_right.body = (True) := by kernel_rfl
  exact e.mpr trivial
theorem policy_right.eq (x0 : Bool) (x1 : Int) (x2 : Int) (x3 : Int) (x4 : Int) (x5 : Int) (K : Value → Heap → Prop) (E : Value → Heap → Prop) (H : Heap) :
    fnT Try.prog Try.f35 (wC Try.prog policy_right.Γ policy_right.plan policy_right.body) [(.agg #[(.bool x0), (.int .i64 x1), (.int .u32 x2), (.int .i64 x3), (.int .i64 x4), (.int .i64 x5)])] K E H = policy_right.vc x0 x1 x2 x3 x4 x5 (fun r0_0 H => K (.bool r0_0) H) E H := by
  kernel_rfl
theorem policy_right.Fe {args : List Value} {K E : Value → Heap → Prop} {H : Heap} (h : policy_right.F args K E H) : ∃ x0 x1 x2 x3 x4 x5, args = [(.agg #[(.bool x0), (.int .i64 x1), (.int .u32 x2), (.int .i64 x3), (.int .i64 x4), (.int .i64 x5)])] ∧ policy_right.c x0 x1 x2 x3 x4 x5 (fun r0_0 H => K (.bool r0_0) H) E H := by
  unfold policy_right.F at h
  split at h
  · exact ⟨_, _, _, _, _, _, rfl, h⟩
  · exact h.elim
theorem policy_right.ok : CalleeOk Try.prog 35 policy_right.F :=
  callee_ok policy_right.hΓ (fn := Try.f35) (c := policy_right.body) (T := wC Try.prog policy_right.Γ policy_right.plan policy_right.body) (by kernel_rfl) (by kernel_rfl) (by kernel_rfl) (wC_sound policy_right.hΓ Try.hm policy_right.plan _ policy_right.pok) fun _ K E H h => by
    obtain ⟨z0, z1, z2, z3, z4, z5, e, h⟩ := policy_right.Fe h
    subst e
    have h2 : policy_right.vc z0 z1 z2 z3 z4 z5 (fun r0_0 H => ∃ H', Heap.Le H' H ∧ K (.bool r0_0) H') E H := h.h
    rw [policy_right.eq z0 z1 z2 z3 z4 z5 (Fg K) E H]
    exact h2

/-! vizard/policy.Check -/
noncomputable def policy_Check.body : Code := Try.f15.body.getD .skip
def policy_Check.W1.vc (x0 : Option Addr) (x1 : Nat) (x2 : Nat) (x3 : Int) (x4 : Int) (Kx0 : Heap → Prop) (Kr : Int → Heap → Prop) (RR : Int → Heap → Prop) (E : Value → Heap → Prop) (h0 : Heap) : Prop :=
  (if (decide (x4 < x3)) = true then
  nilc x0 fun a0 => (0 : Int) ≤ x4 ∧ x4 < (x1 : Int) ∧
  ldB h0 ((a0.add (x4.toNat * 6)).add 0) fun x5 => ldI h0 .i64 ((a0.add (x4.toNat * 6)).add 1) fun x6 => ldI h0 .u32 ((a0.add (x4.toNat * 6)).add 2) fun x7 => ldI h0 .i64 ((a0.add (x4.toNat * 6)).add 3) fun x8 => ldI h0 .i64 ((a0.add (x4.toNat * 6)).add 4) fun x9 => ldI h0 .i64 ((a0.add (x4.toNat * 6)).add 5) fun x10 =>
  newB (.cells #[(.bool false), (.int .i64 0), (.int .u32 0), (.int .i64 0), (.int .i64 0), (.int .i64 0)] 40) (fun b0 h1 =>
  stc h1 ((⟨b0, 0, none⟩ : Addr).add 0) (.bool x5) fun h2 =>
  stc h2 ((⟨b0, 0, none⟩ : Addr).add 1) (.int .i64 x6) fun h3 =>
  stc h3 ((⟨b0, 0, none⟩ : Addr).add 2) (.int .u32 x7) fun h4 =>
  stc h4 ((⟨b0, 0, none⟩ : Addr).add 3) (.int .i64 x8) fun h5 =>
  stc h5 ((⟨b0, 0, none⟩ : Addr).add 4) (.int .i64 x9) fun h6 =>
  stc h6 ((⟨b0, 0, none⟩ : Addr).add 5) (.int .i64 x10) fun h7 =>
  ldB h7 ((⟨b0, 0, none⟩ : Addr).add 0) fun x11 => ldI h7 .i64 ((⟨b0, 0, none⟩ : Addr).add 1) fun x12 => ldI h7 .u32 ((⟨b0, 0, none⟩ : Addr).add 2) fun x13 => ldI h7 .i64 ((⟨b0, 0, none⟩ : Addr).add 3) fun x14 => ldI h7 .i64 ((⟨b0, 0, none⟩ : Addr).add 4) fun x15 => ldI h7 .i64 ((⟨b0, 0, none⟩ : Addr).add 5) fun x16 =>
  policy_right.c x11 x12 x13 x14 x15 x16 (fun x17 h8 =>
  (if (!x17) = true then
  Kr 2 h8
  else
  RR (IntKind.i64.wrap (x4 + 1)) h8)) E h7) h0
  else
  Kx0 h0)
structure policy_Check.W1 (x0 : Option Addr) (x1 : Nat) (x2 : Nat) (x3 : Int) (x4 : Int) (Kx0 : Heap → Prop) (Kr : Int → Heap → Prop) (E : Value → Heap → Prop) (H : Heap) : Prop where
  h : Loop (fun (RR : Int → Heap → Prop) (s : Int) (H : Heap) => policy_Check.W1.vc x0 x1 x2 x3 s Kx0 Kr (fun x4 H => RR (x4) H) E H) (x4) H
def policy_Check.vc (l0 : Option Addr) (l1 : Nat) (l2 : Nat) (K : Int → Heap → Prop) (E : Value → Heap → Prop) (h0 : Heap) : Prop :=
  (if (decide ((l1 : Int) > 32)) = true then
  K 8 h0
  else
  policy_Check.W1 l0 l1 l2 (l1 : Int) 0 (fun h1 =>
  K 0 h1) K E h0)
structure policy_Check.c (l0 : Option Addr) (l1 : Nat) (l2 : Nat) (K : Int → Heap → Prop) (E : Value → Heap → Prop) (H : Heap) : Prop where
  h : policy_Check.vc l0 l1 l2 (fun r0_0 H => ∃ H', Heap.Le H' H ∧ K r0_0 H') E H
def policy_Check.F : FT := fun args K E H => match args with
  | [(.slice l0 l1 l2)] => policy_Check.c l0 l1 l2 (fun r0_0 H => K (.int .i64 r0_0) H) E H
  | _ => False
noncomputable def policy_Check.Γ : FuncId → Option FT := Γof [(35, policy_right.F)]
theorem policy_Check.hΓ : ∀ f F, policy_Check.Γ f = some F → CalleeOk Try.prog f F := Γof_ok (List.forall_mem_cons.2 ⟨policy_right.ok, fun _ h => nomatch h⟩)
def policy_Check.W1.t : CT := fun Q E fr H => lenIs 18 fr (slSl fr 8 fun x0 x1 x2 => slI fr 9 .i64 fun x3 => slI fr 10 .i64 fun x4 => policy_Check.W1 x0 x1 x2 x3 x4 (fun  H => Q (.exit 0) (mkF 18 []) H) (fun y2_0 H => Q .ret (mkF 18 [(2, (.int .i64 y2_0))]) H) E H)
noncomputable def policy_Check.W1.plan : Plan := .go
theorem policy_Check.W1.pok : PlanOk Try.prog policy_Check.W1.plan (sub [1, 1, 0, 1, 0, 0] policy_Check.body) := by
  have e : PlanOk Try.prog policy_Check.W1.plan (sub [1, 1, 0, 1, 0, 0] policy_Check.body) = (True) := by kernel_rfl
  exact e.mpr trivial
theorem policy_Check.W1.eq (x0 : Option Addr) (x1 : Nat) (x2 : Nat) (x3 : Int) (Q : Ex → Fr → Heap → Prop) (E : Value → Heap → Prop) (RR : Fr → Heap → Prop) (s : Int) (H : Heap) :
    (fun (RR : Int → Heap → Prop) (s : Int) (H : Heap) => policy_Check.W1.vc x0 x1 x2 x3 s (fun  H => Q (.exit 0) (mkF 18 []) H) (fun y2_0 H => Q .ret (mkF 18 [(2, (.int .i64 y2_0))]) H) (fun x4 H => RR (x4) H) E H) (fun s' H' => RR ((fun (s : Int) => (mkF 18 [(8, (.slice x0 x1 x2)), (9, (.int .i64 x3)), (10, (.int .i64 s))])) s') H') s H = keepT [8, 9, 10] [2] (fun i => if i = 0 then [] else []) (wC Try.prog policy_Check.Γ policy_Check.W1.plan (sub [1, 1, 0, 1, 0, 0] policy_Check.body)) (fun e fr' H' => match e with | .normal => RR fr' H' | .exit id => Q (.exit id) fr' H' | .ret => Q .ret fr' H') E ((fun (s : Int) => (mkF 18 [(8, (.slice x0 x1 x2)), (9, (.int .i64 x3)), (10, (.int .i64 s))])) s) H := by
  kernel_rfl
theorem policy_Check.W1.ok : SoundCode Try.prog (sub [1, 1, 0, 1, 0] policy_Check.body) policy_Check.W1.t := by
  have e : (sub [1, 1, 0, 1, 0] policy_Check.body) = .loop (sub [1, 1, 0, 1, 0, 0] policy_Check.body) := by kernel_rfl
  rw [e]
  refine piece_sound (loopN_sound (keepT_sound [8, 9, 10] [2] (fun i => if i = 0 then [] else []) (wC_sound policy_Check.hΓ Try.hm policy_Check.W1.plan _ policy_Check.W1.pok))) ?_
  intro Q E fr H h
  unfold policy_Check.W1.t at h
  obtain ⟨hl, h⟩ := lenIs_elim h
  obtain ⟨x0, x1, x2, q8, h⟩ := slSl_elim h
  obtain ⟨x3, q9, h⟩ := slI_elim h
  obtain ⟨x4, q10, h⟩ := slI_elim h
  obtain ⟨m, h⟩ := h.h
  refine ⟨(mkF 18 [(8, (.slice x0 x1 x2)), (9, (.int .i64 x3)), (10, (.int .i64 x4))]), fun a ha => ha.mk (Nat.le_of_eq hl.symm) (List.forall_mem_cons.2 ⟨q8, List.forall_mem_cons.2 ⟨q9, List.forall_mem_cons.2 ⟨q10, fun _ h => nomatch h⟩⟩⟩), m, ?_⟩
  have e := loopS_eq (B := (fun (RR : Int → Heap → Prop) (s : Int) (H : Heap) => policy_Check.W1.vc x0 x1 x2 x3 s (fun  H => Q (.exit 0) (mkF 18 []) H) (fun y2_0 H => Q .ret (mkF 18 [(2, (.int .i64 y2_0))]) H) (fun x4 H => RR (x4) H) E H)) (A := keepT [8, 9, 10] [2] (fun i => if i = 0 then [] else []) (wC Try.prog policy_Check.Γ policy_Check.W1.plan (sub [1, 1, 0, 1, 0, 0] policy_Check.body))) (m := (fun (s : Int) => (mkF 18 [(8, (.slice x0 x1 x2)), (9, (.int .i64 x3)), (10, (.int .i64 s))]))) (Q := Q) (E := E) (fun RR s H => policy_Check.W1.eq x0 x1 x2 x3 Q E RR s H) m (x4) H
  exact cast e h
noncomputable def policy_Check.plan : Plan := .seq (.go) (.seq (.go) (.seq (.seq (.go) (.block (.use policy_Check.W1.t))) (.go)))
theorem policy_Check.pok : PlanOk Try.prog policy_Check.plan policy_Check.body := by
  have e : PlanOk Try.prog policy_Check.plan policy_Check.body = ((True) ∧ ((True) ∧ (((True) ∧ (SoundCode Try.prog (sub [1, 1, 0, 1, 0] policy_Check.body) policy_Check.W1.t)) ∧ (True)))) := by kernel_rfl
  exact e.mpr ⟨trivial, ⟨trivial, ⟨⟨trivial, policy_Check.W1.ok⟩, trivial⟩⟩⟩
theorem policy_Check.eq (l0 : Option Addr) (l1 : Nat) (l2 : Nat) (K : Value → Heap → Prop) (E : Value → Heap → Prop) (H : Heap) :
    fnT Try.prog Try.f15 (wC Try.prog policy_Check.Γ policy_Check.plan policy_Check.body) [(.slice l0 l1 l2)] K E H = policy_Check.vc l0 l1 l2 (fun r0_0 H => K (.int .i64 r0_0) H) E H := by
  kernel_rfl
theorem policy_Check.Fe {args : List Value} {K E : Value → Heap → Prop} {H : Heap} (h : policy_Check.F args K E H) : ∃ l0 l1 l2, args = [(.slice l0 l1 l2)] ∧ policy_Check.c l0 l1 l2 (fun r0_0 H => K (.int .i64 r0_0) H) E H := by
  unfold policy_Check.F at h
  split at h
  · exact ⟨_, _, _, rfl, h⟩
  · exact h.elim
theorem policy_Check.ok : CalleeOk Try.prog 15 policy_Check.F :=
  callee_ok policy_Check.hΓ (fn := Try.f15) (c := policy_Check.body) (T := wC Try.prog policy_Check.Γ policy_Check.plan policy_Check.body) (by kernel_rfl) (by kernel_rfl) (by kernel_rfl) (wC_sound policy_Check.hΓ Try.hm policy_Check.plan _ policy_Check.pok) fun _ K E H h => by
    obtain ⟨z0, z1, z2, e, h⟩ := policy_Check.Fe h
    subst e
    have h2 : policy_Check.vc z0 z1 z2 (fun r0_0 H => ∃ H', Heap.Le H' H ∧ K (.int .i64 r0_0) H') E H := h.h
    rw [policy_Check.eq z0 z1 z2 (Fg K) E H]
    exact h2

/-! vizard/prefix.Ends -/
noncomputable def prefix_Ends.body : Code := Try.f27.body.getD .skip
def prefix_Ends.vc (p0 : Int) (p1 : Int) (K : Int → Int → Heap → Prop) (E : Value → Heap → Prop) (h0 : Heap) : Prop :=
  newB (.cells #[(.int .u32 p0), (.int .i64 p1)] 38) (fun b0 h1 =>
  ldI h1 .u32 ((⟨b0, 0, none⟩ : Addr).add 0) fun x0 => ldI h1 .i64 ((⟨b0, 0, none⟩ : Addr).add 1) fun x1 =>
  prefix_Check.c x0 x1 (fun x2 h2 =>
  (if (!x2) = true then
  K 0 0 h2
  else
  ldI h2 .u32 ((⟨b0, 0, none⟩ : Addr).add 0) fun x3 =>
  ldI h2 .u32 ((⟨b0, 0, none⟩ : Addr).add 0) fun x4 =>
  ldI h2 .i64 ((⟨b0, 0, none⟩ : Addr).add 1) fun x5 =>
  prefix_rest.c x5 (fun x6 h3 =>
  (ldI h3 .u32 ((⟨b0, 0, none⟩ : Addr).add 0) fun x7 =>
  eqv h3 h3 (some (.int .u32 x4)) (.int .u32 x7)) ∧
  (ldI h3 .u32 ((⟨b0, 0, none⟩ : Addr).add 0) fun x8 =>
  eqv h3 h3 (some (.int .u32 x3)) (.int .u32 x8)) ∧
  K x3 (bits .or .u32 x4 x6) h3) E h2)) E h1) h0
structure prefix_Ends.c (p0 : Int) (p1 : Int) (K : Int → Int → Heap → Prop) (E : Value → Heap → Prop) (H : Heap) : Prop where
  h : prefix_Ends.vc p0 p1 (fun r0_0 r1_0 H => ∃ H', Heap.Le H' H ∧ K r0_0 r1_0 H') E H
def prefix_Ends.F : FT := fun args K E H => match args with
  | [(.agg ⟨[(.int .u32 p0), (.int .i64 p1)]⟩)] => prefix_Ends.c p0 p1 (fun r0_0 r1_0 H => K (.tuple #[(.int .u32 r0_0), (.int .u32 r1_0)]) H) E H
  | _ => False
noncomputable def prefix_Ends.Γ : FuncId → Option FT := Γof [(44, prefix_Check.F), (45, prefix_rest.F)]
theorem prefix_Ends.hΓ : ∀ f F, prefix_Ends.Γ f = some F → CalleeOk Try.prog f F := Γof_ok (List.forall_mem_cons.2 ⟨prefix_Check.ok, List.forall_mem_cons.2 ⟨prefix_rest.ok, fun _ h => nomatch h⟩⟩)
noncomputable def prefix_Ends.plan : Plan := .seq (.go) (.seq (.go) (.seq (.draw ⟨[0, 1, 2, 3, 4, 5, 6, 7, 8], (dl [(0, []), (1, []), (2, []), (3, []), (4, []), (5, []), (6, [5, 4]), (7, []), (8, [])] .fin), [9]⟩) (.go)))
theorem prefix_Ends.pok : PlanOk Try.prog prefix_Ends.plan prefix_Ends.body := by
  have e : PlanOk Try.prog prefix_Ends.plan prefix_Ends.body = ((True) ∧ ((True) ∧ ((True) ∧ (True)))) := by kernel_rfl
  exact e.mpr ⟨trivial, ⟨trivial, ⟨trivial, trivial⟩⟩⟩
theorem prefix_Ends.eq (p0 : Int) (p1 : Int) (K : Value → Heap → Prop) (E : Value → Heap → Prop) (H : Heap) :
    fnT Try.prog Try.f27 (wC Try.prog prefix_Ends.Γ prefix_Ends.plan prefix_Ends.body) [(.agg #[(.int .u32 p0), (.int .i64 p1)])] K E H = prefix_Ends.vc p0 p1 (fun r0_0 r1_0 H => K (.tuple #[(.int .u32 r0_0), (.int .u32 r1_0)]) H) E H := by
  kernel_rfl
theorem prefix_Ends.Fe {args : List Value} {K E : Value → Heap → Prop} {H : Heap} (h : prefix_Ends.F args K E H) : ∃ p0 p1, args = [(.agg #[(.int .u32 p0), (.int .i64 p1)])] ∧ prefix_Ends.c p0 p1 (fun r0_0 r1_0 H => K (.tuple #[(.int .u32 r0_0), (.int .u32 r1_0)]) H) E H := by
  unfold prefix_Ends.F at h
  split at h
  · exact ⟨_, _, rfl, h⟩
  · exact h.elim
theorem prefix_Ends.ok : CalleeOk Try.prog 27 prefix_Ends.F :=
  callee_ok prefix_Ends.hΓ (fn := Try.f27) (c := prefix_Ends.body) (T := wC Try.prog prefix_Ends.Γ prefix_Ends.plan prefix_Ends.body) (by kernel_rfl) (by kernel_rfl) (by kernel_rfl) (wC_sound prefix_Ends.hΓ Try.hm prefix_Ends.plan _ prefix_Ends.pok) fun _ K E H h => by
    obtain ⟨z0, z1, e, h⟩ := prefix_Ends.Fe h
    subst e
    have h2 : prefix_Ends.vc z0 z1 (fun r0_0 r1_0 H => ∃ H', Heap.Le H' H ∧ K (.tuple #[(.int .u32 r0_0), (.int .u32 r1_0)]) H') E H := h.h
    rw [prefix_Ends.eq z0 z1 (Fg K) E H]
    exact h2

/-! vizard/policy.protos -/
noncomputable def policy_protos.body : Code := Try.f48.body.getD .skip
def policy_protos.W1.vc (seen0 : Option Nat) (x0 : Option Addr) (x1 : Nat) (x2 : Nat) (x3 : Int) (x4 : Int) (Kx0 : Heap → Prop) (RR : Int → Heap → Prop) (E : Value → Heap → Prop) (h0 : Heap) : Prop :=
  (if (decide (x4 < x3)) = true then
  nilc x0 fun a0 => (0 : Int) ≤ x4 ∧ x4 < (x1 : Int) ∧
  ldB h0 ((a0.add (x4.toNat * 6)).add 0) fun x5 => ldI h0 .i64 ((a0.add (x4.toNat * 6)).add 1) fun x6 => ldI h0 .u32 ((a0.add (x4.toNat * 6)).add 2) fun x7 => ldI h0 .i64 ((a0.add (x4.toNat * 6)).add 3) fun x8 => ldI h0 .i64 ((a0.add (x4.toNat * 6)).add 4) fun x9 => ldI h0 .i64 ((a0.add (x4.toNat * 6)).add 5) fun x10 =>
  newB (.cells #[(.bool false), (.int .i64 0), (.int .u32 0), (.int .i64 0), (.int .i64 0), (.int .i64 0)] 40) (fun b0 h1 =>
  stc h1 ((⟨b0, 0, none⟩ : Addr).add 0) (.bool x5) fun h2 =>
  stc h2 ((⟨b0, 0, none⟩ : Addr).add 1) (.int .i64 x6) fun h3 =>
  stc h3 ((⟨b0, 0, none⟩ : Addr).add 2) (.int .u32 x7) fun h4 =>
  stc h4 ((⟨b0, 0, none⟩ : Addr).add 3) (.int .i64 x8) fun h5 =>
  stc h5 ((⟨b0, 0, none⟩ : Addr).add 4) (.int .i64 x9) fun h6 =>
  stc h6 ((⟨b0, 0, none⟩ : Addr).add 5) (.int .i64 x10) fun h7 =>
  ldI h7 .i64 ((⟨b0, 0, none⟩ : Addr).add 1) fun x11 =>
  putW (.int .i64) seen0 (.int .i64 x11) (.bool true) (fun h8 =>
  RR (IntKind.i64.wrap (x4 + 1)) h8) h7) h0
  else
  Kx0 h0)
structure policy_protos.W1 (seen0 : Option Nat) (x0 : Option Addr) (x1 : Nat) (x2 : Nat) (x3 : Int) (x4 : Int) (Kx0 : Heap → Prop) (E : Value → Heap → Prop) (H : Heap) : Prop where
  h : Loop (fun (RR : Int → Heap → Prop) (s : Int) (H : Heap) => policy_protos.W1.vc seen0 x0 x1 x2 x3 s Kx0 (fun x4 H => RR (x4) H) E H) (x4) H
def policy_protos.J3.vc (seen0 : Option Nat) (out0 : Option Addr) (out1 : Nat) (out2 : Nat) (p0 : Int) (x0 : Bool) (Kn : Option Addr → Nat → Nat → Heap → Prop) (E : Value → Heap → Prop) (h0 : Heap) : Prop :=
  (if x0 = true then
  newB (.cells #[(.int .i64 p0)] 3) (fun b0 h1 =>
  rdRow h1 (some (⟨b0, 0, none⟩ : Addr)) (1 * 1) fun cs0 =>
  appT 3 (.int .i64 0) out0 out1 1 out2 1 8 cs0 (fun p1 n0 c0 h2 =>
  Kn p1 n0 c0 h2) h1) h0
  else
  Kn out0 out1 out2 h0)
structure policy_protos.J3 (seen0 : Option Nat) (out0 : Option Addr) (out1 : Nat) (out2 : Nat) (p0 : Int) (x0 : Bool) (Kn : Option Addr → Nat → Nat → Heap → Prop) (E : Value → Heap → Prop) (H : Heap) : Prop where
  h : policy_protos.J3.vc seen0 out0 out1 out2 p0 x0 Kn E H
def policy_protos.J4.vc (seen0 : Option Nat) (out0 : Option Addr) (out1 : Nat) (out2 : Nat) (p0 : Int) (Kn : Int → Heap → Prop) (E : Value → Heap → Prop) (h0 : Heap) : Prop :=
  Kn (IntKind.i64.wrap (p0 + 1)) h0
structure policy_protos.J4 (seen0 : Option Nat) (out0 : Option Addr) (out1 : Nat) (out2 : Nat) (p0 : Int) (Kn : Int → Heap → Prop) (E : Value → Heap → Prop) (H : Heap) : Prop where
  h : policy_protos.J4.vc seen0 out0 out1 out2 p0 Kn E H
def policy_protos.W2.vc (seen0 : Option Nat) (out0 : Option Addr) (out1 : Nat) (out2 : Nat) (p0 : Int) (Kx2 : Option Addr → Nat → Nat → Heap → Prop) (RR : Option Addr → Nat → Nat → Int → Heap → Prop) (E : Value → Heap → Prop) (h0 : Heap) : Prop :=
  (if (decide (p0 ≤ 255)) = true then
  lookB (.int .i64) seen0 (.int .i64 p0) false (fun x0 ok0 =>
  policy_protos.J3 seen0 out0 out1 out2 p0 x0 (fun out3 out4 out5 h1 =>
  policy_protos.J4 seen0 out3 out4 out5 p0 (fun p1 h2 =>
  RR out3 out4 out5 p1 h2) E h1) E h0) h0
  else
  Kx2 out0 out1 out2 h0)
structure policy_protos.W2 (seen0 : Option Nat) (out0 : Option Addr) (out1 : Nat) (out2 : Nat) (p0 : Int) (Kx2 : Option Addr → Nat → Nat → Heap → Prop) (E : Value → Heap → Prop) (H : Heap) : Prop where
  h : Loop (fun (RR : Option Addr × Nat × Nat × Int → Heap → Prop) (s : Option Addr × Nat × Nat × Int) (H : Heap) => policy_protos.W2.vc seen0 s.1 s.2.1 s.2.2.1 s.2.2.2 Kx2 (fun out0 out1 out2 p0 H => RR (out0, out1, out2, p0) H) E H) (out0, out1, out2, p0) H
def policy_protos.J6.vc (seen0 : Option Nat) (out0 : Option Addr) (out1 : Nat) (out2 : Nat) (p0 : Int) (x0 : Bool) (Kn : Heap → Prop) (Kr : Option Addr → Nat → Nat → Heap → Prop) (E : Value → Heap → Prop) (h0 : Heap) : Prop :=
  (if x0 = true then
  newB (.cells #[(.int .i64 p0)] 3) (fun b0 h1 =>
  rdRow h1 (some (⟨b0, 0, none⟩ : Addr)) (1 * 1) fun cs0 =>
  appT 3 (.int .i64 0) out0 out1 1 out2 1 8 cs0 (fun p1 n0 c0 h2 =>
  Kr p1 n0 c0 h2) h1) h0
  else
  Kn h0)
structure policy_protos.J6 (seen0 : Option Nat) (out0 : Option Addr) (out1 : Nat) (out2 : Nat) (p0 : Int) (x0 : Bool) (Kn : Heap → Prop) (Kr : Option Addr → Nat → Nat → Heap → Prop) (E : Value → Heap → Prop) (H : Heap) : Prop where
  h : policy_protos.J6.vc seen0 out0 out1 out2 p0 x0 Kn Kr E H
def policy_protos.J7.vc (seen0 : Option Nat) (out0 : Option Addr) (out1 : Nat) (out2 : Nat) (p0 : Int) (Kn : Int → Heap → Prop) (E : Value → Heap → Prop) (h0 : Heap) : Prop :=
  Kn (IntKind.i64.wrap (p0 + 1)) h0
structure policy_protos.J7 (seen0 : Option Nat) (out0 : Option Addr) (out1 : Nat) (out2 : Nat) (p0 : Int) (Kn : Int → Heap → Prop) (E : Value → Heap → Prop) (H : Heap) : Prop where
  h : policy_protos.J7.vc seen0 out0 out1 out2 p0 Kn E H
def policy_protos.W5.vc (seen0 : Option Nat) (out0 : Option Addr) (out1 : Nat) (out2 : Nat) (p0 : Int) (Kx4 : Heap → Prop) (Kr : Option Addr → Nat → Nat → Heap → Prop) (RR : Int → Heap → Prop) (E : Value → Heap → Prop) (h0 : Heap) : Prop :=
  (if (decide (p0 ≤ 255)) = true then
  lookB (.int .i64) seen0 (.int .i64 p0) false (fun x0 ok0 =>
  policy_protos.J6 seen0 out0 out1 out2 p0 (!x0) (fun h1 =>
  policy_protos.J7 seen0 out0 out1 out2 p0 RR E h1) Kr E h0) h0
  else
  Kx4 h0)
structure policy_protos.W5 (seen0 : Option Nat) (out0 : Option Addr) (out1 : Nat) (out2 : Nat) (p0 : Int) (Kx4 : Heap → Prop) (Kr : Option Addr → Nat → Nat → Heap → Prop) (E : Value → Heap → Prop) (H : Heap) : Prop where
  h : Loop (fun (RR : Int → Heap → Prop) (s : Int) (H : Heap) => policy_protos.W5.vc seen0 out0 out1 out2 s Kx4 Kr (fun p0 H => RR (p0) H) E H) (p0) H
def policy_protos.vc (l0 : Option Addr) (l1 : Nat) (l2 : Nat) (K : Option Addr → Nat → Nat → Heap → Prop) (E : Value → Heap → Prop) (h0 : Heap) : Prop :=
  newB (.map #[] 0) (fun b0 h1 =>
  policy_protos.W1 (some b0) l0 l1 l2 (l1 : Int) 0 (fun h2 =>
  policy_protos.W2 (some b0) none 0 0 1 (fun out0 out1 out2 h3 =>
  policy_protos.W5 (some b0) out0 out1 out2 1 (fun h4 =>
  K out0 out1 out2 h4) K E h3) E h2) E h1) h0
structure policy_protos.c (l0 : Option Addr) (l1 : Nat) (l2 : Nat) (K : Option Addr → Nat → Nat → Heap → Prop) (E : Value → Heap → Prop) (H : Heap) : Prop where
  h : policy_protos.vc l0 l1 l2 (fun r0_0 r0_1 r0_2 H => ∃ H', Heap.Le H' H ∧ K r0_0 r0_1 r0_2 H') E H
def policy_protos.F : FT := fun args K E H => match args with
  | [(.slice l0 l1 l2)] => policy_protos.c l0 l1 l2 (fun r0_0 r0_1 r0_2 H => K (.slice r0_0 r0_1 r0_2) H) E H
  | _ => False
noncomputable def policy_protos.Γ : FuncId → Option FT := Γof []
theorem policy_protos.hΓ : ∀ f F, policy_protos.Γ f = some F → CalleeOk Try.prog f F := Γof_ok (fun _ h => nomatch h)
def policy_protos.W1.t : CT := fun Q E fr H => lenIs 44 fr (slM fr 3 fun seen0 => slSl fr 10 fun x0 x1 x2 => slI fr 11 .i64 fun x3 => slI fr 12 .i64 fun x4 => policy_protos.W1 seen0 x0 x1 x2 x3 x4 (fun  H => Q (.exit 0) (mkF 44 [(3, (.map seen0))]) H) E H)
noncomputable def policy_protos.W1.plan : Plan := .go
theorem policy_protos.W1.pok : PlanOk Try.prog policy_protos.W1.plan (sub [1, 1, 0, 1, 0, 0] policy_protos.body) := by
  have e : PlanOk Try.prog policy_protos.W1.plan (sub [1, 1, 0, 1, 0, 0] policy_protos.body) = (True) := by kernel_rfl
  exact e.mpr trivial
theorem policy_protos.W1.eq (seen0 : Option Nat) (x0 : Option Addr) (x1 : Nat) (x2 : Nat) (x3 : Int) (Q : Ex → Fr → Heap → Prop) (E : Value → Heap → Prop) (RR : Fr → Heap → Prop) (s : Int) (H : Heap) :
    (fun (RR : Int → Heap → Prop) (s : Int) (H : Heap) => policy_protos.W1.vc seen0 x0 x1 x2 x3 s (fun  H => Q (.exit 0) (mkF 44 [(3, (.map seen0))]) H) (fun x4 H => RR (x4) H) E H) (fun s' H' => RR ((fun (s : Int) => (mkF 44 [(3, (.map seen0)), (10, (.slice x0 x1 x2)), (11, (.int .i64 x3)), (12, (.int .i64 s))])) s') H') s H = keepT [3, 10, 11, 12] [] (fun i => if i = 0 then [3] else []) (wC Try.prog policy_protos.Γ policy_protos.W1.plan (sub [1, 1, 0, 1, 0, 0] policy_protos.body)) (fun e fr' H' => match e with | .normal => RR fr' H' | .exit id => Q (.exit id) fr' H' | .ret => Q .ret fr' H') E ((fun (s : Int) => (mkF 44 [(3, (.map seen0)), (10, (.slice x0 x1 x2)), (11, (.int .i64 x3)), (12, (.int .i64 s))])) s) H := by
  kernel_rfl
theorem policy_protos.W1.ok : SoundCode Try.prog (sub [1, 1, 0, 1, 0] policy_protos.body) policy_protos.W1.t := by
  have e : (sub [1, 1, 0, 1, 0] policy_protos.body) = .loop (sub [1, 1, 0, 1, 0, 0] policy_protos.body) := by kernel_rfl
  rw [e]
  refine piece_sound (loopN_sound (keepT_sound [3, 10, 11, 12] [] (fun i => if i = 0 then [3] else []) (wC_sound policy_protos.hΓ Try.hm policy_protos.W1.plan _ policy_protos.W1.pok))) ?_
  intro Q E fr H h
  unfold policy_protos.W1.t at h
  obtain ⟨hl, h⟩ := lenIs_elim h
  obtain ⟨seen0, q3, h⟩ := slM_elim h
  obtain ⟨x0, x1, x2, q10, h⟩ := slSl_elim h
  obtain ⟨x3, q11, h⟩ := slI_elim h
  obtain ⟨x4, q12, h⟩ := slI_elim h
  obtain ⟨m, h⟩ := h.h
  refine ⟨(mkF 44 [(3, (.map seen0)), (10, (.slice x0 x1 x2)), (11, (.int .i64 x3)), (12, (.int .i64 x4))]), fun a ha => ha.mk (Nat.le_of_eq hl.symm) (List.forall_mem_cons.2 ⟨q3, List.forall_mem_cons.2 ⟨q10, List.forall_mem_cons.2 ⟨q11, List.forall_mem_cons.2 ⟨q12, fun _ h => nomatch h⟩⟩⟩⟩), m, ?_⟩
  have e := loopS_eq (B := (fun (RR : Int → Heap → Prop) (s : Int) (H : Heap) => policy_protos.W1.vc seen0 x0 x1 x2 x3 s (fun  H => Q (.exit 0) (mkF 44 [(3, (.map seen0))]) H) (fun x4 H => RR (x4) H) E H)) (A := keepT [3, 10, 11, 12] [] (fun i => if i = 0 then [3] else []) (wC Try.prog policy_protos.Γ policy_protos.W1.plan (sub [1, 1, 0, 1, 0, 0] policy_protos.body))) (m := (fun (s : Int) => (mkF 44 [(3, (.map seen0)), (10, (.slice x0 x1 x2)), (11, (.int .i64 x3)), (12, (.int .i64 s))]))) (Q := Q) (E := E) (fun RR s H => policy_protos.W1.eq seen0 x0 x1 x2 x3 Q E RR s H) m (x4) H
  exact cast e h
def policy_protos.J3.t : CT := fun Q E fr H => lenIs 44 fr (slM fr 3 fun seen0 => slSl fr 6 fun out0 out1 out2 => slI fr 7 .i64 fun p0 => slB fr 26 fun x0 => policy_protos.J3 seen0 out0 out1 out2 p0 x0 (fun y6_0 y6_1 y6_2 H => Q .normal (mkF 44 [(3, (.map seen0)), (6, (.slice y6_0 y6_1 y6_2)), (7, (.int .i64 p0))]) H) E H)
noncomputable def policy_protos.J3.plan : Plan := .go
theorem policy_protos.J3.pok : PlanOk Try.prog policy_protos.J3.plan (sub [1, 1, 1, 1, 0, 1, 0, 0, 1, 0, 0, 1] policy_protos.body) := by
  have e : PlanOk Try.prog policy_protos.J3.plan (sub [1, 1, 1, 1, 0, 1, 0, 0, 1, 0, 0, 1] policy_protos.body) = (True) := by kernel_rfl
  exact e.mpr trivial
theorem policy_protos.J3.eq (seen0 : Option Nat) (out0 : Option Addr) (out1 : Nat) (out2 : Nat) (p0 : Int) (x0 : Bool) (Q : Ex → Fr → Heap → Prop) (E : Value → Heap → Prop) (H : Heap) :
    policy_protos.J3.vc seen0 out0 out1 out2 p0 x0 (fun y6_0 y6_1 y6_2 H => Q .normal (mkF 44 [(3, (.map seen0)), (6, (.slice y6_0 y6_1 y6_2)), (7, (.int .i64 p0))]) H) E H = keepT [3, 6, 7] [] (fun i => []) (wC Try.prog policy_protos.Γ policy_protos.J3.plan (sub [1, 1, 1, 1, 0, 1, 0, 0, 1, 0, 0, 1] policy_protos.body)) Q E (mkF 44 [(3, (.map seen0)), (6, (.slice out0 out1 out2)), (7, (.int .i64 p0)), (26, (.bool x0))]) H := by
  kernel_rfl
theorem policy_protos.J3.ok : SoundCode Try.prog (sub [1, 1, 1, 1, 0, 1, 0, 0, 1, 0, 0, 1] policy_protos.body) policy_protos.J3.t := by
  refine piece_sound (keepT_sound [3, 6, 7] [] (fun i => []) (wC_sound policy_protos.hΓ Try.hm policy_protos.J3.plan _ policy_protos.J3.pok)) ?_
  intro Q E fr H h
  unfold policy_protos.J3.t at h
  obtain ⟨hl, h⟩ := lenIs_elim h
  obtain ⟨seen0, q3, h⟩ := slM_elim h
  obtain ⟨out0, out1, out2, q6, h⟩ := slSl_elim h
  obtain ⟨p0, q7, h⟩ := slI_elim h
  obtain ⟨x0, q26, h⟩ := slB_elim h
  refine ⟨(mkF 44 [(3, (.map seen0)), (6, (.slice out0 out1 out2)), (7, (.int .i64 p0)), (26, (.bool x0))]), fun a ha => ha.mk (Nat.le_of_eq hl.symm) (List.forall_mem_cons.2 ⟨q3, List.forall_mem_cons.2 ⟨q6, List.forall_mem_cons.2 ⟨q7, List.forall_mem_cons.2 ⟨q26, fun _ h => nomatch h⟩⟩⟩⟩), ?_⟩
  have e := policy_protos.J3.eq seen0 out0 out1 out2 p0 x0 Q E H
  rw [← e]
  exact h.h
def policy_protos.J4.t : CT := fun Q E fr H => lenIs 44 fr (slM fr 3 fun seen0 => slSl fr 6 fun out0 out1 out2 => slI fr 7 .i64 fun p0 => policy_protos.J4 seen0 out0 out1 out2 p0 (fun y7_0 H => Q .normal (mkF 44 [(3, (.map seen0)), (6, (.slice out0 out1 out2)), (7, (.int .i64 y7_0))]) H) E H)
noncomputable def policy_protos.J4.plan : Plan := .go
theorem policy_protos.J4.pok : PlanOk Try.prog policy_protos.J4.plan (sub [1, 1, 1, 1, 0, 1, 0, 0, 1, 1] policy_protos.body) := by
  have e : PlanOk Try.prog policy_protos.J4.plan (sub [1, 1, 1, 1, 0, 1, 0, 0, 1, 1] policy_protos.body) = (True) := by kernel_rfl
  exact e.mpr trivial
theorem policy_protos.J4.eq (seen0 : Option Nat) (out0 : Option Addr) (out1 : Nat) (out2 : Nat) (p0 : Int) (Q : Ex → Fr → Heap → Prop) (E : Value → Heap → Prop) (H : Heap) :
    policy_protos.J4.vc seen0 out0 out1 out2 p0 (fun y7_0 H => Q .normal (mkF 44 [(3, (.map seen0)), (6, (.slice out0 out1 out2)), (7, (.int .i64 y7_0))]) H) E H = keepT [3, 6, 7] [] (fun i => []) (wC Try.prog policy_protos.Γ policy_protos.J4.plan (sub [1, 1, 1, 1, 0, 1, 0, 0, 1, 1] policy_protos.body)) Q E (mkF 44 [(3, (.map seen0)), (6, (.slice out0 out1 out2)), (7, (.int .i64 p0))]) H := by
  kernel_rfl
theorem policy_protos.J4.ok : SoundCode Try.prog (sub [1, 1, 1, 1, 0, 1, 0, 0, 1, 1] policy_protos.body) policy_protos.J4.t := by
  refine piece_sound (keepT_sound [3, 6, 7] [] (fun i => []) (wC_sound policy_protos.hΓ Try.hm policy_protos.J4.plan _ policy_protos.J4.pok)) ?_
  intro Q E fr H h
  unfold policy_protos.J4.t at h
  obtain ⟨hl, h⟩ := lenIs_elim h
  obtain ⟨seen0, q3, h⟩ := slM_elim h
  obtain ⟨out0, out1, out2, q6, h⟩ := slSl_elim h
  obtain ⟨p0, q7, h⟩ := slI_elim h
  refine ⟨(mkF 44 [(3, (.map seen0)), (6, (.slice out0 out1 out2)), (7, (.int .i64 p0))]), fun a ha => ha.mk (Nat.le_of_eq hl.symm) (List.forall_mem_cons.2 ⟨q3, List.forall_mem_cons.2 ⟨q6, List.forall_mem_cons.2 ⟨q7, fun _ h => nomatch h⟩⟩⟩), ?_⟩
  have e := policy_protos.J4.eq seen0 out0 out1 out2 p0 Q E H
  rw [← e]
  exact h.h
def policy_protos.W2.t : CT := fun Q E fr H => lenIs 44 fr (slM fr 3 fun seen0 => slSl fr 6 fun out0 out1 out2 => slI fr 7 .i64 fun p0 => policy_protos.W2 seen0 out0 out1 out2 p0 (fun y6_0 y6_1 y6_2 H => Q (.exit 2) (mkF 44 [(3, (.map seen0)), (6, (.slice y6_0 y6_1 y6_2))]) H) E H)
noncomputable def policy_protos.W2.plan : Plan := .seq (.go) (.seq (.block (.seq (.go) (.use policy_protos.J3.t))) (.use policy_protos.J4.t))
theorem policy_protos.W2.pok : PlanOk Try.prog policy_protos.W2.plan (sub [1, 1, 1, 1, 0, 1, 0, 0] policy_protos.body) := by
  have e : PlanOk Try.prog policy_protos.W2.plan (sub [1, 1, 1, 1, 0, 1, 0, 0] policy_protos.body) = ((True) ∧ (((True) ∧ (SoundCode Try.prog (sub [1, 1, 1, 1, 0, 1, 0, 0, 1, 0, 0, 1] policy_protos.body) policy_protos.J3.t)) ∧ (SoundCode Try.prog (sub [1, 1, 1, 1, 0, 1, 0, 0, 1, 1] policy_protos.body) policy_protos.J4.t))) := by kernel_rfl
  exact e.mpr ⟨trivial, ⟨⟨trivial, policy_protos.J3.ok⟩, policy_protos.J4.ok⟩⟩
theorem policy_protos.W2.eq (seen0 : Option Nat) (Q : Ex → Fr → Heap → Prop) (E : Value → Heap → Prop) (RR : Fr → Heap → Prop) (s : Option Addr × Nat × Nat × Int) (H : Heap) :
    (fun (RR : Option Addr × Nat × Nat × Int → Heap → Prop) (s : Option Addr × Nat × Nat × Int) (H : Heap) => policy_protos.W2.vc seen0 s.1 s.2.1 s.2.2.1 s.2.2.2 (fun y6_0 y6_1 y6_2 H => Q (.exit 2) (mkF 44 [(3, (.map seen0)), (6, (.slice y6_0 y6_1 y6_2))]) H) (fun out0 out1 out2 p0 H => RR (out0, out1, out2, p0) H) E H) (fun s' H' => RR ((fun (s : Option Addr × Nat × Nat × Int) => (mkF 44 [(3, (.map seen0)), (6, (.slice s.1 s.2.1 s.2.2.1)), (7, (.int .i64 s.2.2.2))])) s') H') s H = keepT [3, 6, 7] [] (fun i => if i = 2 then [3, 6] else []) (wC Try.prog policy_protos.Γ policy_protos.W2.plan (sub [1, 1, 1, 1, 0, 1, 0, 0] policy_protos.body)) (fun e fr' H' => match e with | .normal => RR fr' H' | .exit id => Q (.exit id) fr' H' | .ret => Q .ret fr' H') E ((fun (s : Option Addr × Nat × Nat × Int) => (mkF 44 [(3, (.map seen0)), (6, (.slice s.1 s.2.1 s.2.2.1)), (7, (.int .i64 s.2.2.2))])) s) H := by
  kernel_rfl
theorem policy_protos.W2.ok : SoundCode Try.prog (sub [1, 1, 1, 1, 0, 1, 0] policy_protos.body) policy_protos.W2.t := by
  have e : (sub [1, 1, 1, 1, 0, 1, 0] policy_protos.body) = .loop (sub [1, 1, 1, 1, 0, 1, 0, 0] policy_protos.body) := by kernel_rfl
  rw [e]
  refine piece_sound (loopN_sound (keepT_sound [3, 6, 7] [] (fun i => if i = 2 then [3, 6] else []) (wC_sound policy_protos.hΓ Try.hm policy_protos.W2.plan _ policy_protos.W2.pok))) ?_
  intro Q E fr H h
  unfold policy_protos.W2.t at h
  obtain ⟨hl, h⟩ := lenIs_elim h
  obtain ⟨seen0, q3, h⟩ := slM_elim h
  obtain ⟨out0, out1, out2, q6, h⟩ := slSl_elim h
  obtain ⟨p0, q7, h⟩ := slI_elim h
  obtain ⟨m, h⟩ := h.h
  refine ⟨(mkF 44 [(3, (.map seen0)), (6, (.slice out0 out1 out2)), (7, (.int .i64 p0))]), fun a ha => ha.mk (Nat.le_of_eq hl.symm) (List.forall_mem_cons.2 ⟨q3, List.forall_mem_cons.2 ⟨q6, List.forall_mem_cons.2 ⟨q7, fun _ h => nomatch h⟩⟩⟩), m, ?_⟩
  have e := loopS_eq (B := (fun (RR : Option Addr × Nat × Nat × Int → Heap → Prop) (s : Option Addr × Nat × Nat × Int) (H : Heap) => policy_protos.W2.vc seen0 s.1 s.2.1 s.2.2.1 s.2.2.2 (fun y6_0 y6_1 y6_2 H => Q (.exit 2) (mkF 44 [(3, (.map seen0)), (6, (.slice y6_0 y6_1 y6_2))]) H) (fun out0 out1 out2 p0 H => RR (out0, out1, out2, p0) H) E H)) (A := keepT [3, 6, 7] [] (fun i => if i = 2 then [3, 6] else []) (wC Try.prog policy_protos.Γ policy_protos.W2.plan (sub [1, 1, 1, 1, 0, 1, 0, 0] policy_protos.body))) (m := (fun (s : Option Addr × Nat × Nat × Int) => (mkF 44 [(3, (.map seen0)), (6, (.slice s.1 s.2.1 s.2.2.1)), (7, (.int .i64 s.2.2.2))]))) (Q := Q) (E := E) (fun RR s H => policy_protos.W2.eq seen0 Q E RR s H) m (out0, out1, out2, p0) H
  exact cast e h
def policy_protos.J6.t : CT := fun Q E fr H => lenIs 44 fr (slM fr 3 fun seen0 => slSl fr 6 fun out0 out1 out2 => slI fr 8 .i64 fun p0 => slB fr 38 fun x0 => policy_protos.J6 seen0 out0 out1 out2 p0 x0 (fun  H => Q .normal (mkF 44 [(3, (.map seen0)), (6, (.slice out0 out1 out2)), (8, (.int .i64 p0))]) H) (fun y2_0 y2_1 y2_2 H => Q .ret (mkF 44 [(2, (.slice y2_0 y2_1 y2_2))]) H) E H)
noncomputable def policy_protos.J6.plan : Plan := .go
theorem policy_protos.J6.pok : PlanOk Try.prog policy_protos.J6.plan (sub [1, 1, 1, 1, 1, 0, 1, 0, 0, 1, 0, 0, 1] policy_protos.body) := by
  have e : PlanOk Try.prog policy_protos.J6.plan (sub [1, 1, 1, 1, 1, 0, 1, 0, 0, 1, 0, 0, 1] policy_protos.body) = (True) := by kernel_rfl
  exact e.mpr trivial
theorem policy_protos.J6.eq (seen0 : Option Nat) (out0 : Option Addr) (out1 : Nat) (out2 : Nat) (p0 : Int) (x0 : Bool) (Q : Ex → Fr → Heap → Prop) (E : Value → Heap → Prop) (H : Heap) :
    policy_protos.J6.vc seen0 out0 out1 out2 p0 x0 (fun  H => Q .normal (mkF 44 [(3, (.map seen0)), (6, (.slice out0 out1 out2)), (8, (.int .i64 p0))]) H) (fun y2_0 y2_1 y2_2 H => Q .ret (mkF 44 [(2, (.slice y2_0 y2_1 y2_2))]) H) E H = keepT [3, 6, 8] [2] (fun i => []) (wC Try.prog policy_protos.Γ policy_protos.J6.plan (sub [1, 1, 1, 1, 1, 0, 1, 0, 0, 1, 0, 0, 1] policy_protos.body)) Q E (mkF 44 [(3, (.map seen0)), (6, (.slice out0 out1 out2)), (8, (.int .i64 p0)), (38, (.bool x0))]) H := by
  kernel_rfl
theorem policy_protos.J6.ok : SoundCode Try.prog (sub [1, 1, 1, 1, 1, 0, 1, 0, 0, 1, 0, 0, 1] policy_protos.body) policy_protos.J6.t := by
  refine piece_sound (keepT_sound [3, 6, 8] [2] (fun i => []) (wC_sound policy_protos.hΓ Try.hm policy_protos.J6.plan _ policy_protos.J6.pok)) ?_
  intro Q E fr H h
  unfold policy_protos.J6.t at h
  obtain ⟨hl, h⟩ := lenIs_elim h
  obtain ⟨seen0, q3, h⟩ := slM_elim h
  obtain ⟨out0, out1, out2, q6, h⟩ := slSl_elim h
  obtain ⟨p0, q8, h⟩ := slI_elim h
  obtain ⟨x0, q38, h⟩ := slB_elim h
  refine ⟨(mkF 44 [(3, (.map seen0)), (6, (.slice out0 out1 out2)), (8, (.int .i64 p0)), (38, (.bool x0))]), fun a ha => ha.mk (Nat.le_of_eq hl.symm) (List.forall_mem_cons.2 ⟨q3, List.forall_mem_cons.2 ⟨q6, List.forall_mem_cons.2 ⟨q8, List.forall_mem_cons.2 ⟨q38, fun _ h => nomatch h⟩⟩⟩⟩), ?_⟩
  have e := policy_protos.J6.eq seen0 out0 out1 out2 p0 x0 Q E H
  rw [← e]
  exact h.h
def policy_protos.J7.t : CT := fun Q E fr H => lenIs 44 fr (slM fr 3 fun seen0 => slSl fr 6 fun out0 out1 out2 => slI fr 8 .i64 fun p0 => policy_protos.J7 seen0 out0 out1 out2 p0 (fun y8_0 H => Q .normal (mkF 44 [(3, (.map seen0)), (6, (.slice out0 out1 out2)), (8, (.int .i64 y8_0))]) H) E H)
noncomputable def policy_protos.J7.plan : Plan := .go
theorem policy_protos.J7.pok : PlanOk Try.prog policy_protos.J7.plan (sub [1, 1, 1, 1, 1, 0, 1, 0, 0, 1, 1] policy_protos.body) := by
  have e : PlanOk Try.prog policy_protos.J7.plan (sub [1, 1, 1, 1, 1, 0, 1, 0, 0, 1, 1] policy_protos.body) = (True) := by kernel_rfl
  exact e.mpr trivial
theorem policy_protos.J7.eq (seen0 : Option Nat) (out0 : Option Addr) (out1 : Nat) (out2 : Nat) (p0 : Int) (Q : Ex → Fr → Heap → Prop) (E : Value → Heap → Prop) (H : Heap) :
    policy_protos.J7.vc seen0 out0 out1 out2 p0 (fun y8_0 H => Q .normal (mkF 44 [(3, (.map seen0)), (6, (.slice out0 out1 out2)), (8, (.int .i64 y8_0))]) H) E H = keepT [3, 6, 8] [] (fun i => []) (wC Try.prog policy_protos.Γ policy_protos.J7.plan (sub [1, 1, 1, 1, 1, 0, 1, 0, 0, 1, 1] policy_protos.body)) Q E (mkF 44 [(3, (.map seen0)), (6, (.slice out0 out1 out2)), (8, (.int .i64 p0))]) H := by
  kernel_rfl
theorem policy_protos.J7.ok : SoundCode Try.prog (sub [1, 1, 1, 1, 1, 0, 1, 0, 0, 1, 1] policy_protos.body) policy_protos.J7.t := by
  refine piece_sound (keepT_sound [3, 6, 8] [] (fun i => []) (wC_sound policy_protos.hΓ Try.hm policy_protos.J7.plan _ policy_protos.J7.pok)) ?_
  intro Q E fr H h
  unfold policy_protos.J7.t at h
  obtain ⟨hl, h⟩ := lenIs_elim h
  obtain ⟨seen0, q3, h⟩ := slM_elim h
  obtain ⟨out0, out1, out2, q6, h⟩ := slSl_elim h
  obtain ⟨p0, q8, h⟩ := slI_elim h
  refine ⟨(mkF 44 [(3, (.map seen0)), (6, (.slice out0 out1 out2)), (8, (.int .i64 p0))]), fun a ha => ha.mk (Nat.le_of_eq hl.symm) (List.forall_mem_cons.2 ⟨q3, List.forall_mem_cons.2 ⟨q6, List.forall_mem_cons.2 ⟨q8, fun _ h => nomatch h⟩⟩⟩), ?_⟩
  have e := policy_protos.J7.eq seen0 out0 out1 out2 p0 Q E H
  rw [← e]
  exact h.h
def policy_protos.W5.t : CT := fun Q E fr H => lenIs 44 fr (slM fr 3 fun seen0 => slSl fr 6 fun out0 out1 out2 => slI fr 8 .i64 fun p0 => policy_protos.W5 seen0 out0 out1 out2 p0 (fun  H => Q (.exit 4) (mkF 44 [(6, (.slice out0 out1 out2))]) H) (fun y2_0 y2_1 y2_2 H => Q .ret (mkF 44 [(2, (.slice y2_0 y2_1 y2_2))]) H) E H)
noncomputable def policy_protos.W5.plan : Plan := .seq (.go) (.seq (.block (.seq (.go) (.use policy_protos.J6.t))) (.use policy_protos.J7.t))
theorem policy_protos.W5.pok : PlanOk Try.prog policy_protos.W5.plan (sub [1, 1, 1, 1, 1, 0, 1, 0, 0] policy_protos.body) := by
  have e : PlanOk Try.prog policy_protos.W5.plan (sub [1, 1, 1, 1, 1, 0, 1, 0, 0] policy_protos.body) = ((True) ∧ (((True) ∧ (SoundCode Try.prog (sub [1, 1, 1, 1, 1, 0, 1, 0, 0, 1, 0, 0, 1] policy_protos.body) policy_protos.J6.t)) ∧ (SoundCode Try.prog (sub [1, 1, 1, 1, 1, 0, 1, 0, 0, 1, 1] policy_protos.body) policy_protos.J7.t))) := by kernel_rfl
  exact e.mpr ⟨trivial, ⟨⟨trivial, policy_protos.J6.ok⟩, policy_protos.J7.ok⟩⟩
theorem policy_protos.W5.eq (seen0 : Option Nat) (out0 : Option Addr) (out1 : Nat) (out2 : Nat) (Q : Ex → Fr → Heap → Prop) (E : Value → Heap → Prop) (RR : Fr → Heap → Prop) (s : Int) (H : Heap) :
    (fun (RR : Int → Heap → Prop) (s : Int) (H : Heap) => policy_protos.W5.vc seen0 out0 out1 out2 s (fun  H => Q (.exit 4) (mkF 44 [(6, (.slice out0 out1 out2))]) H) (fun y2_0 y2_1 y2_2 H => Q .ret (mkF 44 [(2, (.slice y2_0 y2_1 y2_2))]) H) (fun p0 H => RR (p0) H) E H) (fun s' H' => RR ((fun (s : Int) => (mkF 44 [(3, (.map seen0)), (6, (.slice out0 out1 out2)), (8, (.int .i64 s))])) s') H') s H = keepT [3, 6, 8] [2] (fun i => if i = 4 then [6] else []) (wC Try.prog policy_protos.Γ policy_protos.W5.plan (sub [1, 1, 1, 1, 1, 0, 1, 0, 0] policy_protos.body)) (fun e fr' H' => match e with | .normal => RR fr' H' | .exit id => Q (.exit id) fr' H' | .ret => Q .ret fr' H') E ((fun (s : Int) => (mkF 44 [(3, (.map seen0)), (6, (.slice out0 out1 out2)), (8, (.int .i64 s))])) s) H := by
  kernel_rfl
theorem policy_protos.W5.ok : SoundCode Try.prog (sub [1, 1, 1, 1, 1, 0, 1, 0] policy_protos.body) policy_protos.W5.t := by
  have e : (sub [1, 1, 1, 1, 1, 0, 1, 0] policy_protos.body) = .loop (sub [1, 1, 1, 1, 1, 0, 1, 0, 0] policy_protos.body) := by kernel_rfl
  rw [e]
  refine piece_sound (loopN_sound (keepT_sound [3, 6, 8] [2] (fun i => if i = 4 then [6] else []) (wC_sound policy_protos.hΓ Try.hm policy_protos.W5.plan _ policy_protos.W5.pok))) ?_
  intro Q E fr H h
  unfold policy_protos.W5.t at h
  obtain ⟨hl, h⟩ := lenIs_elim h
  obtain ⟨seen0, q3, h⟩ := slM_elim h
  obtain ⟨out0, out1, out2, q6, h⟩ := slSl_elim h
  obtain ⟨p0, q8, h⟩ := slI_elim h
  obtain ⟨m, h⟩ := h.h
  refine ⟨(mkF 44 [(3, (.map seen0)), (6, (.slice out0 out1 out2)), (8, (.int .i64 p0))]), fun a ha => ha.mk (Nat.le_of_eq hl.symm) (List.forall_mem_cons.2 ⟨q3, List.forall_mem_cons.2 ⟨q6, List.forall_mem_cons.2 ⟨q8, fun _ h => nomatch h⟩⟩⟩), m, ?_⟩
  have e := loopS_eq (B := (fun (RR : Int → Heap → Prop) (s : Int) (H : Heap) => policy_protos.W5.vc seen0 out0 out1 out2 s (fun  H => Q (.exit 4) (mkF 44 [(6, (.slice out0 out1 out2))]) H) (fun y2_0 y2_1 y2_2 H => Q .ret (mkF 44 [(2, (.slice y2_0 y2_1 y2_2))]) H) (fun p0 H => RR (p0) H) E H)) (A := keepT [3, 6, 8] [2] (fun i => if i = 4 then [6] else []) (wC Try.prog policy_protos.Γ policy_protos.W5.plan (sub [1, 1, 1, 1, 1, 0, 1, 0, 0] policy_protos.body))) (m := (fun (s : Int) => (mkF 44 [(3, (.map seen0)), (6, (.slice out0 out1 out2)), (8, (.int .i64 s))]))) (Q := Q) (E := E) (fun RR s H => policy_protos.W5.eq seen0 out0 out1 out2 Q E RR s H) m (p0) H
  exact cast e h
noncomputable def policy_protos.plan : Plan := .seq (.go) (.seq (.go) (.seq (.seq (.go) (.block (.use policy_protos.W1.t))) (.seq (.go) (.seq (.seq (.go) (.block (.use policy_protos.W2.t))) (.seq (.seq (.go) (.block (.use policy_protos.W5.t))) (.go))))))
theorem policy_protos.pok : PlanOk Try.prog policy_protos.plan policy_protos.body := by
  have e : PlanOk Try.prog policy_protos.plan policy_protos.body = ((True) ∧ ((True) ∧ (((True) ∧ (SoundCode Try.prog (sub [1, 1, 0, 1, 0] policy_protos.body) policy_protos.W1.t)) ∧ ((True) ∧ (((True) ∧ (SoundCode Try.prog (sub [1, 1, 1, 1, 0, 1, 0] policy_protos.body) policy_protos.W2.t)) ∧ (((True) ∧ (SoundCode Try.prog (sub [1, 1, 1, 1, 1, 0, 1, 0] policy_protos.body) policy_protos.W5.t)) ∧ (True))))))) := by kernel_rfl
  exact e.mpr ⟨trivial, ⟨trivial, ⟨⟨trivial, policy_protos.W1.ok⟩, ⟨trivial, ⟨⟨trivial, policy_protos.W2.ok⟩, ⟨⟨trivial, policy_protos.W5.ok⟩, trivial⟩⟩⟩⟩⟩⟩
theorem policy_protos.eq (l0 : Option Addr) (l1 : Nat) (l2 : Nat) (K : Value → Heap → Prop) (E : Value → Heap → Prop) (H : Heap) :
    fnT Try.prog Try.f48 (wC Try.prog policy_protos.Γ policy_protos.plan policy_protos.body) [(.slice l0 l1 l2)] K E H = policy_protos.vc l0 l1 l2 (fun r0_0 r0_1 r0_2 H => K (.slice r0_0 r0_1 r0_2) H) E H := by
  kernel_rfl
theorem policy_protos.Fe {args : List Value} {K E : Value → Heap → Prop} {H : Heap} (h : policy_protos.F args K E H) : ∃ l0 l1 l2, args = [(.slice l0 l1 l2)] ∧ policy_protos.c l0 l1 l2 (fun r0_0 r0_1 r0_2 H => K (.slice r0_0 r0_1 r0_2) H) E H := by
  unfold policy_protos.F at h
  split at h
  · exact ⟨_, _, _, rfl, h⟩
  · exact h.elim
theorem policy_protos.ok : CalleeOk Try.prog 48 policy_protos.F :=
  callee_ok policy_protos.hΓ (fn := Try.f48) (c := policy_protos.body) (T := wC Try.prog policy_protos.Γ policy_protos.plan policy_protos.body) (by kernel_rfl) (by kernel_rfl) (by kernel_rfl) (wC_sound policy_protos.hΓ Try.hm policy_protos.plan _ policy_protos.pok) fun _ K E H h => by
    obtain ⟨z0, z1, z2, e, h⟩ := policy_protos.Fe h
    subst e
    have h2 : policy_protos.vc z0 z1 z2 (fun r0_0 r0_1 r0_2 H => ∃ H', Heap.Le H' H ∧ K (.slice r0_0 r0_1 r0_2) H') E H := h.h
    rw [policy_protos.eq z0 z1 z2 (Fg K) E H]
    exact h2

/-! vizard/policy.ports -/
noncomputable def policy_ports.body : Code := Try.f49.body.getD .skip
def policy_ports.J2.vc (seen0 : Option Nat) (proto0 : Int) (x0 : Addr) (x1 : Option Addr) (x2 : Nat) (x3 : Nat) (x4 : Int) (x5 : Int) (x6 : Bool) (Kn : Heap → Prop) (E : Value → Heap → Prop) (h0 : Heap) : Prop :=
  (if x6 = true then
  ldI h0 .i64 (x0.add 4) fun x7 =>
  putW (.int .i64) seen0 (.int .i64 x7) (.bool true) (fun h1 =>
  ldI h1 .i64 (x0.add 5) fun x8 =>
  (if (decide (x8 < 65535)) = true then
  ldI h1 .i64 (x0.add 5) fun x9 =>
  putW (.int .i64) seen0 (.int .i64 (IntKind.i64.wrap (x9 + 1))) (.bool true) (fun h2 =>
  Kn h2) h1
  else
  Kn h1)) h0
  else
  Kn h0)
structure policy_ports.J2 (seen0 : Option Nat) (proto0 : Int) (x0 : Addr) (x1 : Option Addr) (x2 : Nat) (x3 : Nat) (x4 : Int) (x5 : Int) (x6 : Bool) (Kn : Heap → Prop) (E : Value → Heap → Prop) (H : Heap) : Prop where
  h : policy_ports.J2.vc seen0 proto0 x0 x1 x2 x3 x4 x5 x6 Kn E H
def policy_ports.J3.vc (seen0 : Option Nat) (proto0 : Int) (x0 : Option Addr) (x1 : Nat) (x2 : Nat) (x3 : Int) (x4 : Int) (Kn : Int → Heap → Prop) (E : Value → Heap → Prop) (h0 : Heap) : Prop :=
  Kn (IntKind.i64.wrap (x4 + 1)) h0
structure policy_ports.J3 (seen0 : Option Nat) (proto0 : Int) (x0 : Option Addr) (x1 : Nat) (x2 : Nat) (x3 : Int) (x4 : Int) (Kn : Int → Heap → Prop) (E : Value → Heap → Prop) (H : Heap) : Prop where
  h : policy_ports.J3.vc seen0 proto0 x0 x1 x2 x3 x4 Kn E H
def policy_ports.W1.vc (seen0 : Option Nat) (proto0 : Int) (x0 : Option Addr) (x1 : Nat) (x2 : Nat) (x3 : Int) (x4 : Int) (Kx0 : Heap → Prop) (RR : Int → Heap → Prop) (E : Value → Heap → Prop) (h0 : Heap) : Prop :=
  (if (decide (x4 < x3)) = true then
  nilc x0 fun a0 => (0 : Int) ≤ x4 ∧ x4 < (x1 : Int) ∧
  ldB h0 ((a0.add (x4.toNat * 6)).add 0) fun x5 => ldI h0 .i64 ((a0.add (x4.toNat * 6)).add 1) fun x6 => ldI h0 .u32 ((a0.add (x4.toNat * 6)).add 2) fun x7 => ldI h0 .i64 ((a0.add (x4.toNat * 6)).add 3) fun x8 => ldI h0 .i64 ((a0.add (x4.toNat * 6)).add 4) fun x9 => ldI h0 .i64 ((a0.add (x4.toNat * 6)).add 5) fun x10 =>
  newB (.cells #[(.bool false), (.int .i64 0), (.int .u32 0), (.int .i64 0), (.int .i64 0), (.int .i64 0)] 40) (fun b0 h1 =>
  stc h1 ((⟨b0, 0, none⟩ : Addr).add 0) (.bool x5) fun h2 =>
  stc h2 ((⟨b0, 0, none⟩ : Addr).add 1) (.int .i64 x6) fun h3 =>
  stc h3 ((⟨b0, 0, none⟩ : Addr).add 2) (.int .u32 x7) fun h4 =>
  stc h4 ((⟨b0, 0, none⟩ : Addr).add 3) (.int .i64 x8) fun h5 =>
  stc h5 ((⟨b0, 0, none⟩ : Addr).add 4) (.int .i64 x9) fun h6 =>
  stc h6 ((⟨b0, 0, none⟩ : Addr).add 5) (.int .i64 x10) fun h7 =>
  ldI h7 .i64 ((⟨b0, 0, none⟩ : Addr).add 1) fun x11 =>
  (if (x11 == 0) = true then
  policy_ports.J2 seen0 proto0 (⟨b0, 0, none⟩ : Addr) x0 x1 x2 x3 x4 true (fun h8 =>
  policy_ports.J3 seen0 proto0 x0 x1 x2 x3 x4 RR E h8) E h7
  else
  ldI h7 .i64 ((⟨b0, 0, none⟩ : Addr).add 1) fun x13 =>
  policy_ports.J2 seen0 proto0 (⟨b0, 0, none⟩ : Addr) x0 x1 x2 x3 x4 (x13 == proto0) (fun h10 =>
  policy_ports.J3 seen0 proto0 x0 x1 x2 x3 x4 RR E h10) E h7)) h0
  else
  Kx0 h0)
structure policy_ports.W1 (seen0 : Option Nat) (proto0 : Int) (x0 : Option Addr) (x1 : Nat) (x2 : Nat) (x3 : Int) (x4 : Int) (Kx0 : Heap → Prop) (E : Value → Heap → Prop) (H : Heap) : Prop where
  h : Loop (fun (RR : Int → Heap → Prop) (s : Int) (H : Heap) => policy_ports.W1.vc seen0 proto0 x0 x1 x2 x3 s Kx0 (fun x4 H => RR (x4) H) E H) (x4) H
def policy_ports.vc (seen0 : Option Nat) (l0 : Option Addr) (l1 : Nat) (l2 : Nat) (proto0 : Int) (K : Heap → Prop) (E : Value → Heap → Prop) (h0 : Heap) : Prop :=
  clrW seen0 (fun h1 =>
  putW (.int .i64) seen0 (.int .i64 0) (.bool true) (fun h2 =>
  policy_ports.W1 seen0 proto0 l0 l1 l2 (l1 : Int) 0 K E h2) h1) h0
structure policy_ports.c (seen0 : Option Nat) (l0 : Option Addr) (l1 : Nat) (l2 : Nat) (proto0 : Int) (K : Heap → Prop) (E : Value → Heap → Prop) (H : Heap) : Prop where
  h : policy_ports.vc seen0 l0 l1 l2 proto0 (fun  H => ∃ H', Heap.Le H' H ∧ K  H') E H
def policy_ports.F : FT := fun args K E H => match args with
  | [(.map seen0), (.slice l0 l1 l2), (.int .i64 proto0)] => policy_ports.c seen0 l0 l1 l2 proto0 (fun  H => K (.tuple #[]) H) E H
  | _ => False
noncomputable def policy_ports.Γ : FuncId → Option FT := Γof []
theorem policy_ports.hΓ : ∀ f F, policy_ports.Γ f = some F → CalleeOk Try.prog f F := Γof_ok (fun _ h => nomatch h)
def policy_ports.J2.t : CT := fun Q E fr H => lenIs 36 fr (slM fr 0 fun seen0 => slI fr 2 .i64 fun proto0 => slPA fr 7 fun x0 => slSl fr 10 fun x1 x2 x3 => slI fr 11 .i64 fun x4 => slI fr 12 .i64 fun x5 => slB fr 24 fun x6 => policy_ports.J2 seen0 proto0 x0 x1 x2 x3 x4 x5 x6 (fun  H => Q .normal (mkF 36 [(0, (.map seen0)), (2, (.int .i64 proto0)), (10, (.slice x1 x2 x3)), (11, (.int .i64 x4)), (12, (.int .i64 x5))]) H) E H)
noncomputable def policy_ports.J2.plan : Plan := .go
theorem policy_ports.J2.pok : PlanOk Try.prog policy_ports.J2.plan (sub [1, 1, 1, 0, 0, 1, 1, 0, 0, 1, 1] policy_ports.body) := by
  have e : PlanOk Try.prog policy_ports.J2.plan (sub [1, 1, 1, 0, 0, 1, 1, 0, 0, 1, 1] policy_ports.body) = (True) := by kernel_rfl
  exact e.mpr trivial
theorem policy_ports.J2.eq (seen0 : Option Nat) (proto0 : Int) (x0 : Addr) (x1 : Option Addr) (x2 : Nat) (x3 : Nat) (x4 : Int) (x5 : Int) (x6 : Bool) (Q : Ex → Fr → Heap → Prop) (E : Value → Heap → Prop) (H : Heap) :
    policy_ports.J2.vc seen0 proto0 x0 x1 x2 x3 x4 x5 x6 (fun  H => Q .normal (mkF 36 [(0, (.map seen0)), (2, (.int .i64 proto0)), (10, (.slice x1 x2 x3)), (11, (.int .i64 x4)), (12, (.int .i64 x5))]) H) E H = keepT [0, 2, 10, 11, 12] [] (fun i => []) (wC Try.prog policy_ports.Γ policy_ports.J2.plan (sub [1, 1, 1, 0, 0, 1, 1, 0, 0, 1, 1] policy_ports.body)) Q E (mkF 36 [(0, (.map seen0)), (2, (.int .i64 proto0)), (7, (.pointer (some x0))), (10, (.slice x1 x2 x3)), (11, (.int .i64 x4)), (12, (.int .i64 x5)), (24, (.bool x6))]) H := by
  kernel_rfl
theorem policy_ports.J2.ok : SoundCode Try.prog (sub [1, 1, 1, 0, 0, 1, 1, 0, 0, 1, 1] policy_ports.body) policy_ports.J2.t := by
  refine piece_sound (keepT_sound [0, 2, 10, 11, 12] [] (fun i => []) (wC_sound policy_ports.hΓ Try.hm policy_ports.J2.plan _ policy_ports.J2.pok)) ?_
  intro Q E fr H h
  unfold policy_ports.J2.t at h
  obtain ⟨hl, h⟩ := lenIs_elim h
  obtain ⟨seen0, q0, h⟩ := slM_elim h
  obtain ⟨proto0, q2, h⟩ := slI_elim h
  obtain ⟨x0, q7, h⟩ := slPA_elim h
  obtain ⟨x1, x2, x3, q10, h⟩ := slSl_elim h
  obtain ⟨x4, q11, h⟩ := slI_elim h
  obtain ⟨x5, q12, h⟩ := slI_elim h
  obtain ⟨x6, q24, h⟩ := slB_elim h
  refine ⟨(mkF 36 [(0, (.map seen0)), (2, (.int .i64 proto0)), (7, (.pointer (some x0))), (10, (.slice x1 x2 x3)), (11, (.int .i64 x4)), (12, (.int .i64 x5)), (24, (.bool x6))]), fun a ha => ha.mk (Nat.le_of_eq hl.symm) (List.forall_mem_cons.2 ⟨q0, List.forall_mem_cons.2 ⟨q2, List.forall_mem_cons.2 ⟨q7, List.forall_mem_cons.2 ⟨q10, List.forall_mem_cons.2 ⟨q11, List.forall_mem_cons.2 ⟨q12, List.forall_mem_cons.2 ⟨q24, fun _ h => nomatch h⟩⟩⟩⟩⟩⟩⟩), ?_⟩
  have e := policy_ports.J2.eq seen0 proto0 x0 x1 x2 x3 x4 x5 x6 Q E H
  rw [← e]
  exact h.h
def policy_ports.J3.t : CT := fun Q E fr H => lenIs 36 fr (slM fr 0 fun seen0 => slI fr 2 .i64 fun proto0 => slSl fr 10 fun x0 x1 x2 => slI fr 11 .i64 fun x3 => slI fr 12 .i64 fun x4 => policy_ports.J3 seen0 proto0 x0 x1 x2 x3 x4 (fun y12_0 H => Q .normal (mkF 36 [(0, (.map seen0)), (2, (.int .i64 proto0)), (10, (.slice x0 x1 x2)), (11, (.int .i64 x3)), (12, (.int .i64 y12_0))]) H) E H)
noncomputable def policy_ports.J3.plan : Plan := .go
theorem policy_ports.J3.pok : PlanOk Try.prog policy_ports.J3.plan (sub [1, 1, 1, 0, 0, 1, 1, 1] policy_ports.body) := by
  have e : PlanOk Try.prog policy_ports.J3.plan (sub [1, 1, 1, 0, 0, 1, 1, 1] policy_ports.body) = (True) := by kernel_rfl
  exact e.mpr trivial
theorem policy_ports.J3.eq (seen0 : Option Nat) (proto0 : Int) (x0 : Option Addr) (x1 : Nat) (x2 : Nat) (x3 : Int) (x4 : Int) (Q : Ex → Fr → Heap → Prop) (E : Value → Heap → Prop) (H : Heap) :
    policy_ports.J3.vc seen0 proto0 x0 x1 x2 x3 x4 (fun y12_0 H => Q .normal (mkF 36 [(0, (.map seen0)), (2, (.int .i64 proto0)), (10, (.slice x0 x1 x2)), (11, (.int .i64 x3)), (12, (.int .i64 y12_0))]) H) E H = keepT [0, 2, 10, 11, 12] [] (fun i => []) (wC Try.prog policy_ports.Γ policy_ports.J3.plan (sub [1, 1, 1, 0, 0, 1, 1, 1] policy_ports.body)) Q E (mkF 36 [(0, (.map seen0)), (2, (.int .i64 proto0)), (10, (.slice x0 x1 x2)), (11, (.int .i64 x3)), (12, (.int .i64 x4))]) H := by
  kernel_rfl
theorem policy_ports.J3.ok : SoundCode Try.prog (sub [1, 1, 1, 0, 0, 1, 1, 1] policy_ports.body) policy_ports.J3.t := by
  refine piece_sound (keepT_sound [0, 2, 10, 11, 12] [] (fun i => []) (wC_sound policy_ports.hΓ Try.hm policy_ports.J3.plan _ policy_ports.J3.pok)) ?_
  intro Q E fr H h
  unfold policy_ports.J3.t at h
  obtain ⟨hl, h⟩ := lenIs_elim h
  obtain ⟨seen0, q0, h⟩ := slM_elim h
  obtain ⟨proto0, q2, h⟩ := slI_elim h
  obtain ⟨x0, x1, x2, q10, h⟩ := slSl_elim h
  obtain ⟨x3, q11, h⟩ := slI_elim h
  obtain ⟨x4, q12, h⟩ := slI_elim h
  refine ⟨(mkF 36 [(0, (.map seen0)), (2, (.int .i64 proto0)), (10, (.slice x0 x1 x2)), (11, (.int .i64 x3)), (12, (.int .i64 x4))]), fun a ha => ha.mk (Nat.le_of_eq hl.symm) (List.forall_mem_cons.2 ⟨q0, List.forall_mem_cons.2 ⟨q2, List.forall_mem_cons.2 ⟨q10, List.forall_mem_cons.2 ⟨q11, List.forall_mem_cons.2 ⟨q12, fun _ h => nomatch h⟩⟩⟩⟩⟩), ?_⟩
  have e := policy_ports.J3.eq seen0 proto0 x0 x1 x2 x3 x4 Q E H
  rw [← e]
  exact h.h
def policy_ports.W1.t : CT := fun Q E fr H => lenIs 36 fr (slM fr 0 fun seen0 => slI fr 2 .i64 fun proto0 => slSl fr 10 fun x0 x1 x2 => slI fr 11 .i64 fun x3 => slI fr 12 .i64 fun x4 => policy_ports.W1 seen0 proto0 x0 x1 x2 x3 x4 (fun  H => Q (.exit 0) (mkF 36 []) H) E H)
noncomputable def policy_ports.W1.plan : Plan := .seq (.go) (.seq (.go) (.seq (.block (.seq (.go) (.seq (.go) (.use policy_ports.J2.t)))) (.use policy_ports.J3.t)))
theorem policy_ports.W1.pok : PlanOk Try.prog policy_ports.W1.plan (sub [1, 1, 1, 0, 0] policy_ports.body) := by
  have e : PlanOk Try.prog policy_ports.W1.plan (sub [1, 1, 1, 0, 0] policy_ports.body) = ((True) ∧ ((True) ∧ (((True) ∧ ((True) ∧ (SoundCode Try.prog (sub [1, 1, 1, 0, 0, 1, 1, 0, 0, 1, 1] policy_ports.body) policy_ports.J2.t))) ∧ (SoundCode Try.prog (sub [1, 1, 1, 0, 0, 1, 1, 1] policy_ports.body) policy_ports.J3.t)))) := by kernel_rfl
  exact e.mpr ⟨trivial, ⟨trivial, ⟨⟨trivial, ⟨trivial, policy_ports.J2.ok⟩⟩, policy_ports.J3.ok⟩⟩⟩
theorem policy_ports.W1.eq (seen0 : Option Nat) (proto0 : Int) (x0 : Option Addr) (x1 : Nat) (x2 : Nat) (x3 : Int) (Q : Ex → Fr → Heap → Prop) (E : Value → Heap → Prop) (RR : Fr → Heap → Prop) (s : Int) (H : Heap) :
    (fun (RR : Int → Heap → Prop) (s : Int) (H : Heap) => policy_ports.W1.vc seen0 proto0 x0 x1 x2 x3 s (fun  H => Q (.exit 0) (mkF 36 []) H) (fun x4 H => RR (x4) H) E H) (fun s' H' => RR ((fun (s : Int) => (mkF 36 [(0, (.map seen0)), (2, (.int .i64 proto0)), (10, (.slice x0 x1 x2)), (11, (.int .i64 x3)), (12, (.int .i64 s))])) s') H') s H = keepT [0, 2, 10, 11, 12] [] (fun i => if i = 0 then [] else []) (wC Try.prog policy_ports.Γ policy_ports.W1.plan (sub [1, 1, 1, 0, 0] policy_ports.body)) (fun e fr' H' => match e with | .normal => RR fr' H' | .exit id => Q (.exit id) fr' H' | .ret => Q .ret fr' H') E ((fun (s : Int) => (mkF 36 [(0, (.map seen0)), (2, (.int .i64 proto0)), (10, (.slice x0 x1 x2)), (11, (.int .i64 x3)), (12, (.int .i64 s))])) s) H := by
  kernel_rfl
theorem policy_ports.W1.ok : SoundCode Try.prog (sub [1, 1, 1, 0] policy_ports.body) policy_ports.W1.t := by
  have e : (sub [1, 1, 1, 0] policy_ports.body) = .loop (sub [1, 1, 1, 0, 0] policy_ports.body) := by kernel_rfl
  rw [e]
  refine piece_sound (loopN_sound (keepT_sound [0, 2, 10, 11, 12] [] (fun i => if i = 0 then [] else []) (wC_sound policy_ports.hΓ Try.hm policy_ports.W1.plan _ policy_ports.W1.pok))) ?_
  intro Q E fr H h
  unfold policy_ports.W1.t at h
  obtain ⟨hl, h⟩ := lenIs_elim h
  obtain ⟨seen0, q0, h⟩ := slM_elim h
  obtain ⟨proto0, q2, h⟩ := slI_elim h
  obtain ⟨x0, x1, x2, q10, h⟩ := slSl_elim h
  obtain ⟨x3, q11, h⟩ := slI_elim h
  obtain ⟨x4, q12, h⟩ := slI_elim h
  obtain ⟨m, h⟩ := h.h
  refine ⟨(mkF 36 [(0, (.map seen0)), (2, (.int .i64 proto0)), (10, (.slice x0 x1 x2)), (11, (.int .i64 x3)), (12, (.int .i64 x4))]), fun a ha => ha.mk (Nat.le_of_eq hl.symm) (List.forall_mem_cons.2 ⟨q0, List.forall_mem_cons.2 ⟨q2, List.forall_mem_cons.2 ⟨q10, List.forall_mem_cons.2 ⟨q11, List.forall_mem_cons.2 ⟨q12, fun _ h => nomatch h⟩⟩⟩⟩⟩), m, ?_⟩
  have e := loopS_eq (B := (fun (RR : Int → Heap → Prop) (s : Int) (H : Heap) => policy_ports.W1.vc seen0 proto0 x0 x1 x2 x3 s (fun  H => Q (.exit 0) (mkF 36 []) H) (fun x4 H => RR (x4) H) E H)) (A := keepT [0, 2, 10, 11, 12] [] (fun i => if i = 0 then [] else []) (wC Try.prog policy_ports.Γ policy_ports.W1.plan (sub [1, 1, 1, 0, 0] policy_ports.body))) (m := (fun (s : Int) => (mkF 36 [(0, (.map seen0)), (2, (.int .i64 proto0)), (10, (.slice x0 x1 x2)), (11, (.int .i64 x3)), (12, (.int .i64 s))]))) (Q := Q) (E := E) (fun RR s H => policy_ports.W1.eq seen0 proto0 x0 x1 x2 x3 Q E RR s H) m (x4) H
  exact cast e h
noncomputable def policy_ports.plan : Plan := .seq (.go) (.seq (.go) (.seq (.go) (.block (.use policy_ports.W1.t))))
theorem policy_ports.pok : PlanOk Try.prog policy_ports.plan policy_ports.body := by
  have e : PlanOk Try.prog policy_ports.plan policy_ports.body = ((True) ∧ ((True) ∧ ((True) ∧ (SoundCode Try.prog (sub [1, 1, 1, 0] policy_ports.body) policy_ports.W1.t)))) := by kernel_rfl
  exact e.mpr ⟨trivial, ⟨trivial, ⟨trivial, policy_ports.W1.ok⟩⟩⟩
theorem policy_ports.eq (seen0 : Option Nat) (l0 : Option Addr) (l1 : Nat) (l2 : Nat) (proto0 : Int) (K : Value → Heap → Prop) (E : Value → Heap → Prop) (H : Heap) :
    fnT Try.prog Try.f49 (wC Try.prog policy_ports.Γ policy_ports.plan policy_ports.body) [(.map seen0), (.slice l0 l1 l2), (.int .i64 proto0)] K E H = policy_ports.vc seen0 l0 l1 l2 proto0 (fun  H => K (.tuple #[]) H) E H := by
  kernel_rfl
theorem policy_ports.Fe {args : List Value} {K E : Value → Heap → Prop} {H : Heap} (h : policy_ports.F args K E H) : ∃ seen0 l0 l1 l2 proto0, args = [(.map seen0), (.slice l0 l1 l2), (.int .i64 proto0)] ∧ policy_ports.c seen0 l0 l1 l2 proto0 (fun  H => K (.tuple #[]) H) E H := by
  unfold policy_ports.F at h
  split at h
  · exact ⟨_, _, _, _, _, rfl, h⟩
  · exact h.elim
theorem policy_ports.ok : CalleeOk Try.prog 49 policy_ports.F :=
  callee_ok policy_ports.hΓ (fn := Try.f49) (c := policy_ports.body) (T := wC Try.prog policy_ports.Γ policy_ports.plan policy_ports.body) (by kernel_rfl) (by kernel_rfl) (by kernel_rfl) (wC_sound policy_ports.hΓ Try.hm policy_ports.plan _ policy_ports.pok) fun _ K E H h => by
    obtain ⟨z0, z1, z2, z3, z4, e, h⟩ := policy_ports.Fe h
    subst e
    have h2 : policy_ports.vc z0 z1 z2 z3 z4 (fun  H => ∃ H', Heap.Le H' H ∧ K (.tuple #[]) H') E H := h.h
    rw [policy_ports.eq z0 z1 z2 z3 z4 (Fg K) E H]
    exact h2

/-! vizard/prefix.Has -/
noncomputable def prefix_Has.body : Code := Try.f54.body.getD .skip
def prefix_Has.vc (p0 : Int) (p1 : Int) (a0 : Int) (K : Bool → Heap → Prop) (E : Value → Heap → Prop) (h0 : Heap) : Prop :=
  newB (.cells #[(.int .u32 p0), (.int .i64 p1)] 38) (fun b0 h1 =>
  ldI h1 .u32 ((⟨b0, 0, none⟩ : Addr).add 0) fun x0 => ldI h1 .i64 ((⟨b0, 0, none⟩ : Addr).add 1) fun x1 =>
  prefix_Check.c x0 x1 (fun x2 h2 =>
  (if x2 = true then
  ldI h2 .i64 ((⟨b0, 0, none⟩ : Addr).add 1) fun x3 =>
  ldI h2 .u32 ((⟨b0, 0, none⟩ : Addr).add 0) fun x4 =>
  prefix_rest.c x3 (fun x5 h3 =>
  (ldI h3 .u32 ((⟨b0, 0, none⟩ : Addr).add 0) fun x6 =>
  eqv h3 h3 (some (.int .u32 x4)) (.int .u32 x6)) ∧
  K ((bits .andNot .u32 a0 x5) == x4) h3) E h2
  else
  True ∧
  K false h2)) E h1) h0
structure prefix_Has.c (p0 : Int) (p1 : Int) (a0 : Int) (K : Bool → Heap → Prop) (E : Value → Heap → Prop) (H : Heap) : Prop where
  h : prefix_Has.vc p0 p1 a0 (fun r0_0 H => ∃ H', Heap.Le H' H ∧ K r0_0 H') E H
def prefix_Has.F : FT := fun args K E H => match args with
  | [(.agg ⟨[(.int .u32 p0), (.int .i64 p1)]⟩), (.int .u32 a0)] => prefix_Has.c p0 p1 a0 (fun r0_0 H => K (.bool r0_0) H) E H
  | _ => False
noncomputable def prefix_Has.Γ : FuncId → Option FT := Γof [(44, prefix_Check.F), (45, prefix_rest.F)]
theorem prefix_Has.hΓ : ∀ f F, prefix_Has.Γ f = some F → CalleeOk Try.prog f F := Γof_ok (List.forall_mem_cons.2 ⟨prefix_Check.ok, List.forall_mem_cons.2 ⟨prefix_rest.ok, fun _ h => nomatch h⟩⟩)
noncomputable def prefix_Has.plan : Plan := .seq (.go) (.seq (.draw ⟨[0, 1, 2, 3, 4, 5, 6, 7, 8, 9, 10, 11], (dl [(0, []), (1, [0]), (2, []), (3, []), (4, []), (5, []), (8, []), (9, []), (6, [5, 2, 4, 1, 0]), (7, []), (10, []), (11, [])] .fin), [12]⟩) (.go))
theorem prefix_Has.pok : PlanOk Try.prog prefix_Has.plan prefix_Has.body := by
  have e : PlanOk Try.prog prefix_Has.plan prefix_Has.body = ((True) ∧ ((True) ∧ (True))) := by kernel_rfl
  exact e.mpr ⟨trivial, ⟨trivial, trivial⟩⟩
theorem prefix_Has.eq (p0 : Int) (p1 : Int) (a0 : Int) (K : Value → Heap → Prop) (E : Value → Heap → Prop) (H : Heap) :
    fnT Try.prog Try.f54 (wC Try.prog prefix_Has.Γ prefix_Has.plan prefix_Has.body) [(.agg #[(.int .u32 p0), (.int .i64 p1)]), (.int .u32 a0)] K E H = prefix_Has.vc p0 p1 a0 (fun r0_0 H => K (.bool r0_0) H) E H := by
  kernel_rfl
theorem prefix_Has.Fe {args : List Value} {K E : Value → Heap → Prop} {H : Heap} (h : prefix_Has.F args K E H) : ∃ p0 p1 a0, args = [(.agg #[(.int .u32 p0), (.int .i64 p1)]), (.int .u32 a0)] ∧ prefix_Has.c p0 p1 a0 (fun r0_0 H => K (.bool r0_0) H) E H := by
  unfold prefix_Has.F at h
  split at h
  · exact ⟨_, _, _, rfl, h⟩
  · exact h.elim
theorem prefix_Has.ok : CalleeOk Try.prog 54 prefix_Has.F :=
  callee_ok prefix_Has.hΓ (fn := Try.f54) (c := prefix_Has.body) (T := wC Try.prog prefix_Has.Γ prefix_Has.plan prefix_Has.body) (by kernel_rfl) (by kernel_rfl) (by kernel_rfl) (wC_sound prefix_Has.hΓ Try.hm prefix_Has.plan _ prefix_Has.pok) fun _ K E H h => by
    obtain ⟨z0, z1, z2, e, h⟩ := prefix_Has.Fe h
    subst e
    have h2 : prefix_Has.vc z0 z1 z2 (fun r0_0 H => ∃ H', Heap.Le H' H ∧ K (.bool r0_0) H') E H := h.h
    rw [prefix_Has.eq z0 z1 z2 (Fg K) E H]
    exact h2

/-! vizard/policy.allow -/
noncomputable def policy_allow.body : Code := Try.f34.body.getD .skip
def policy_allow.J2.vc (proto0 : Int) (dst0 : Int) (port0 : Int) (x0 : Addr) (x1 : Option Addr) (x2 : Nat) (x3 : Nat) (x4 : Int) (x5 : Int) (x6 : Bool) (Kn : Heap → Prop) (Kr : Bool → Heap → Prop) (E : Value → Heap → Prop) (h0 : Heap) : Prop :=
  (if x6 = true then
  ldB h0 (x0.add 0) fun x7 =>
  Kr x7 h0
  else
  Kn h0)
structure policy_allow.J2 (proto0 : Int) (dst0 : Int) (port0 : Int) (x0 : Addr) (x1 : Option Addr) (x2 : Nat) (x3 : Nat) (x4 : Int) (x5 : Int) (x6 : Bool) (Kn : Heap → Prop) (Kr : Bool → Heap → Prop) (E : Value → Heap → Prop) (H : Heap) : Prop where
  h : policy_allow.J2.vc proto0 dst0 port0 x0 x1 x2 x3 x4 x5 x6 Kn Kr E H
def policy_allow.J3.vc (proto0 : Int) (dst0 : Int) (port0 : Int) (x0 : Option Addr) (x1 : Nat) (x2 : Nat) (x3 : Int) (x4 : Int) (Kn : Int → Heap → Prop) (E : Value → Heap → Prop) (h0 : Heap) : Prop :=
  Kn (IntKind.i64.wrap (x4 + 1)) h0
structure policy_allow.J3 (proto0 : Int) (dst0 : Int) (port0 : Int) (x0 : Option Addr) (x1 : Nat) (x2 : Nat) (x3 : Int) (x4 : Int) (Kn : Int → Heap → Prop) (E : Value → Heap → Prop) (H : Heap) : Prop where
  h : policy_allow.J3.vc proto0 dst0 port0 x0 x1 x2 x3 x4 Kn E H
def policy_allow.W1.vc (proto0 : Int) (dst0 : Int) (port0 : Int) (x0 : Option Addr) (x1 : Nat) (x2 : Nat) (x3 : Int) (x4 : Int) (Kx0 : Heap → Prop) (Kr : Bool → Heap → Prop) (RR : Int → Heap → Prop) (E : Value → Heap → Prop) (h0 : Heap) : Prop :=
  (if (decide (x4 < x3)) = true then
  nilc x0 fun a0 => (0 : Int) ≤ x4 ∧ x4 < (x1 : Int) ∧
  ldB h0 ((a0.add (x4.toNat * 6)).add 0) fun x5 => ldI h0 .i64 ((a0.add (x4.toNat * 6)).add 1) fun x6 => ldI h0 .u32 ((a0.add (x4.toNat * 6)).add 2) fun x7 => ldI h0 .i64 ((a0.add (x4.toNat * 6)).add 3) fun x8 => ldI h0 .i64 ((a0.add (x4.toNat * 6)).add 4) fun x9 => ldI h0 .i64 ((a0.add (x4.toNat * 6)).add 5) fun x10 =>
  newB (.cells #[(.bool false), (.int .i64 0), (.int .u32 0), (.int .i64 0), (.int .i64 0), (.int .i64 0)] 40) (fun b0 h1 =>
  stc h1 ((⟨b0, 0, none⟩ : Addr).add 0) (.bool x5) fun h2 =>
  stc h2 ((⟨b0, 0, none⟩ : Addr).add 1) (.int .i64 x6) fun h3 =>
  stc h3 ((⟨b0, 0, none⟩ : Addr).add 2) (.int .u32 x7) fun h4 =>
  stc h4 ((⟨b0, 0, none⟩ : Addr).add 3) (.int .i64 x8) fun h5 =>
  stc h5 ((⟨b0, 0, none⟩ : Addr).add 4) (.int .i64 x9) fun h6 =>
  stc h6 ((⟨b0, 0, none⟩ : Addr).add 5) (.int .i64 x10) fun h7 =>
  ldI h7 .i64 ((⟨b0, 0, none⟩ : Addr).add 1) fun x11 =>
  (if (x11 == 0) = true then
  ldI h7 .u32 (((⟨b0, 0, none⟩ : Addr).add 2).add 0) fun x12 => ldI h7 .i64 (((⟨b0, 0, none⟩ : Addr).add 2).add 1) fun x13 =>
  prefix_Has.c x12 x13 dst0 (fun x14 h8 =>
  (if x14 = true then
  ldI h8 .i64 ((⟨b0, 0, none⟩ : Addr).add 4) fun x15 =>
  (if (decide (port0 ≥ x15)) = true then
  ldI h8 .i64 ((⟨b0, 0, none⟩ : Addr).add 5) fun x16 =>
  policy_allow.J2 proto0 dst0 port0 (⟨b0, 0, none⟩ : Addr) x0 x1 x2 x3 x4 (decide (port0 ≤ x16)) (fun h9 =>
  policy_allow.J3 proto0 dst0 port0 x0 x1 x2 x3 x4 RR E h9) Kr E h8
  else
  policy_allow.J2 proto0 dst0 port0 (⟨b0, 0, none⟩ : Addr) x0 x1 x2 x3 x4 false (fun h12 =>
  policy_allow.J3 proto0 dst0 port0 x0 x1 x2 x3 x4 RR E h12) Kr E h8)
  else
  policy_allow.J2 proto0 dst0 port0 (⟨b0, 0, none⟩ : Addr) x0 x1 x2 x3 x4 false (fun h15 =>
  policy_allow.J3 proto0 dst0 port0 x0 x1 x2 x3 x4 RR E h15) Kr E h8)) E h7
  else
  ldI h7 .i64 ((⟨b0, 0, none⟩ : Addr).add 1) fun x23 =>
  (if (x23 == proto0) = true then
  ldI h7 .u32 (((⟨b0, 0, none⟩ : Addr).add 2).add 0) fun x24 => ldI h7 .i64 (((⟨b0, 0, none⟩ : Addr).add 2).add 1) fun x25 =>
  prefix_Has.c x24 x25 dst0 (fun x26 h18 =>
  (if x26 = true then
  ldI h18 .i64 ((⟨b0, 0, none⟩ : Addr).add 4) fun x27 =>
  (if (decide (port0 ≥ x27)) = true then
  ldI h18 .i64 ((⟨b0, 0, none⟩ : Addr).add 5) fun x28 =>
  policy_allow.J2 proto0 dst0 port0 (⟨b0, 0, none⟩ : Addr) x0 x1 x2 x3 x4 (decide (port0 ≤ x28)) (fun h19 =>
  policy_allow.J3 proto0 dst0 port0 x0 x1 x2 x3 x4 RR E h19) Kr E h18
  else
  policy_allow.J2 proto0 dst0 port0 (⟨b0, 0, none⟩ : Addr) x0 x1 x2 x3 x4 false (fun h22 =>
  policy_allow.J3 proto0 dst0 port0 x0 x1 x2 x3 x4 RR E h22) Kr E h18)
  else
  policy_allow.J2 proto0 dst0 port0 (⟨b0, 0, none⟩ : Addr) x0 x1 x2 x3 x4 false (fun h25 =>
  policy_allow.J3 proto0 dst0 port0 x0 x1 x2 x3 x4 RR E h25) Kr E h18)) E h7
  else
  policy_allow.J2 proto0 dst0 port0 (⟨b0, 0, none⟩ : Addr) x0 x1 x2 x3 x4 false (fun h28 =>
  policy_allow.J3 proto0 dst0 port0 x0 x1 x2 x3 x4 RR E h28) Kr E h7))) h0
  else
  Kx0 h0)
structure policy_allow.W1 (proto0 : Int) (dst0 : Int) (port0 : Int) (x0 : Option Addr) (x1 : Nat) (x2 : Nat) (x3 : Int) (x4 : Int) (Kx0 : Heap → Prop) (Kr : Bool → Heap → Prop) (E : Value → Heap → Prop) (H : Heap) : Prop where
  h : Loop (fun (RR : Int → Heap → Prop) (s : Int) (H : Heap) => policy_allow.W1.vc proto0 dst0 port0 x0 x1 x2 x3 s Kx0 Kr (fun x4 H => RR (x4) H) E H) (x4) H
def policy_allow.vc (l0 : Option Addr) (l1 : Nat) (l2 : Nat) (proto0 : Int) (dst0 : Int) (port0 : Int) (K : Bool → Heap → Prop) (E : Value → Heap → Prop) (h0 : Heap) : Prop :=
  policy_allow.W1 proto0 dst0 port0 l0 l1 l2 (l1 : Int) 0 (fun h1 =>
  K false h1) K E h0
structure policy_allow.c (l0 : Option Addr) (l1 : Nat) (l2 : Nat) (proto0 : Int) (dst0 : Int) (port0 : Int) (K : Bool → Heap → Prop) (E : Value → Heap → Prop) (H : Heap) : Prop where
  h : policy_allow.vc l0 l1 l2 proto0 dst0 port0 (fun r0_0 H => ∃ H', Heap.Le H' H ∧ K r0_0 H') E H
def policy_allow.F : FT := fun args K E H => match args with
  | [(.slice l0 l1 l2), (.int .i64 proto0), (.int .u32 dst0), (.int .i64 port0)] => policy_allow.c l0 l1 l2 proto0 dst0 port0 (fun r0_0 H => K (.bool r0_0) H) E H
  | _ => False
noncomputable def policy_allow.Γ : FuncId → Option FT := Γof [(54, prefix_Has.F)]
theorem policy_allow.hΓ : ∀ f F, policy_allow.Γ f = some F → CalleeOk Try.prog f F := Γof_ok (List.forall_mem_cons.2 ⟨prefix_Has.ok, fun _ h => nomatch h⟩)
def policy_allow.J2.t : CT := fun Q E fr H => lenIs 47 fr (slI fr 1 .i64 fun proto0 => slI fr 2 .u32 fun dst0 => slI fr 3 .i64 fun port0 => slPA fr 10 fun x0 => slSl fr 11 fun x1 x2 x3 => slI fr 12 .i64 fun x4 => slI fr 13 .i64 fun x5 => slB fr 43 fun x6 => policy_allow.J2 proto0 dst0 port0 x0 x1 x2 x3 x4 x5 x6 (fun  H => Q .normal (mkF 47 [(1, (.int .i64 proto0)), (2, (.int .u32 dst0)), (3, (.int .i64 port0)), (11, (.slice x1 x2 x3)), (12, (.int .i64 x4)), (13, (.int .i64 x5))]) H) (fun y8_0 H => Q .ret (mkF 47 [(8, (.bool y8_0))]) H) E H)
noncomputable def policy_allow.J2.plan : Plan := .go
theorem policy_allow.J2.pok : PlanOk Try.prog policy_allow.J2.plan (sub [1, 0, 1, 0, 0, 1, 1, 0, 0, 1, 1] policy_allow.body) := by
  have e : PlanOk Try.prog policy_allow.J2.plan (sub [1, 0, 1, 0, 0, 1, 1, 0, 0, 1, 1] policy_allow.body) = (True) := by kernel_rfl
  exact e.mpr trivial
theorem policy_allow.J2.eq (proto0 : Int) (dst0 : Int) (port0 : Int) (x0 : Addr) (x1 : Option Addr) (x2 : Nat) (x3 : Nat) (x4 : Int) (x5 : Int) (x6 : Bool) (Q : Ex → Fr → Heap → Prop) (E : Value → Heap → Prop) (H : Heap) :
    policy_allow.J2.vc proto0 dst0 port0 x0 x1 x2 x3 x4 x5 x6 (fun  H => Q .normal (mkF 47 [(1, (.int .i64 proto0)), (2, (.int .u32 dst0)), (3, (.int .i64 port0)), (11, (.slice x1 x2 x3)), (12, (.int .i64 x4)), (13, (.int .i64 x5))]) H) (fun y8_0 H => Q .ret (mkF 47 [(8, (.bool y8_0))]) H) E H = keepT [1, 2, 3, 11, 12, 13] [8] (fun i => []) (wC Try.prog policy_allow.Γ policy_allow.J2.plan (sub [1, 0, 1, 0, 0, 1, 1, 0, 0, 1, 1] policy_allow.body)) Q E (mkF 47 [(1, (.int .i64 proto0)), (2, (.int .u32 dst0)), (3, (.int .i64 port0)), (10, (.pointer (some x0))), (11, (.slice x1 x2 x3)), (12, (.int .i64 x4)), (13, (.int .i64 x5)), (43, (.bool x6))]) H := by
  kernel_rfl
theorem policy_allow.J2.ok : SoundCode Try.prog (sub [1, 0, 1, 0, 0, 1, 1, 0, 0, 1, 1] policy_allow.body) policy_allow.J2.t := by
  refine piece_sound (keepT_sound [1, 2, 3, 11, 12, 13] [8] (fun i => []) (wC_sound policy_allow.hΓ Try.hm policy_allow.J2.plan _ policy_allow.J2.pok)) ?_
  intro Q E fr H h
  unfold policy_allow.J2.t at h
  obtain ⟨hl, h⟩ := lenIs_elim h
  obtain ⟨proto0, q1, h⟩ := slI_elim h
  obtain ⟨dst0, q2, h⟩ := slI_elim h
  obtain ⟨port0, q3, h⟩ := slI_elim h
  obtain ⟨x0, q10, h⟩ := slPA_elim h
  obtain ⟨x1, x2, x3, q11, h⟩ := slSl_elim h
  obtain ⟨x4, q12, h⟩ := slI_elim h
  obtain ⟨x5, q13, h⟩ := slI_elim h
  obtain ⟨x6, q43, h⟩ := slB_elim h
  refine ⟨(mkF 47 [(1, (.int .i64 proto0)), (2, (.int .u32 dst0)), (3, (.int .i64 port0)), (10, (.pointer (some x0))), (11, (.slice x1 x2 x3)), (12, (.int .i64 x4)), (13, (.int .i64 x5)), (43, (.bool x6))]), fun a ha => ha.mk (Nat.le_of_eq hl.symm) (List.forall_mem_cons.2 ⟨q1, List.forall_mem_cons.2 ⟨q2, List.forall_mem_cons.2 ⟨q3, List.forall_mem_cons.2 ⟨q10, List.forall_mem_cons.2 ⟨q11, List.forall_mem_cons.2 ⟨q12, List.forall_mem_cons.2 ⟨q13, List.forall_mem_cons.2 ⟨q43, fun _ h => nomatch h⟩⟩⟩⟩⟩⟩⟩⟩), ?_⟩
  have e := policy_allow.J2.eq proto0 dst0 port0 x0 x1 x2 x3 x4 x5 x6 Q E H
  rw [← e]
  exact h.h
def policy_allow.J3.t : CT := fun Q E fr H => lenIs 47 fr (slI fr 1 .i64 fun proto0 => slI fr 2 .u32 fun dst0 => slI fr 3 .i64 fun port0 => slSl fr 11 fun x0 x1 x2 => slI fr 12 .i64 fun x3 => slI fr 13 .i64 fun x4 => policy_allow.J3 proto0 dst0 port0 x0 x1 x2 x3 x4 (fun y13_0 H => Q .normal (mkF 47 [(1, (.int .i64 proto0)), (2, (.int .u32 dst0)), (3, (.int .i64 port0)), (11, (.slice x0 x1 x2)), (12, (.int .i64 x3)), (13, (.int .i64 y13_0))]) H) E H)
noncomputable def policy_allow.J3.plan : Plan := .go
theorem policy_allow.J3.pok : PlanOk Try.prog policy_allow.J3.plan (sub [1, 0, 1, 0, 0, 1, 1, 1] policy_allow.body) := by
  have e : PlanOk Try.prog policy_allow.J3.plan (sub [1, 0, 1, 0, 0, 1, 1, 1] policy_allow.body) = (True) := by kernel_rfl
  exact e.mpr trivial
theorem policy_allow.J3.eq (proto0 : Int) (dst0 : Int) (port0 : Int) (x0 : Option Addr) (x1 : Nat) (x2 : Nat) (x3 : Int) (x4 : Int) (Q : Ex → Fr → Heap → Prop) (E : Value → Heap → Prop) (H : Heap) :
    policy_allow.J3.vc proto0 dst0 port0 x0 x1 x2 x3 x4 (fun y13_0 H => Q .normal (mkF 47 [(1, (.int .i64 proto0)), (2, (.int .u32 dst0)), (3, (.int .i64 port0)), (11, (.slice x0 x1 x2)), (12, (.int .i64 x3)), (13, (.int .i64 y13_0))]) H) E H = keepT [1, 2, 3, 11, 12, 13] [] (fun i => []) (wC Try.prog policy_allow.Γ policy_allow.J3.plan (sub [1, 0, 1, 0, 0, 1, 1, 1] policy_allow.body)) Q E (mkF 47 [(1, (.int .i64 proto0)), (2, (.int .u32 dst0)), (3, (.int .i64 port0)), (11, (.slice x0 x1 x2)), (12, (.int .i64 x3)), (13, (.int .i64 x4))]) H := by
  kernel_rfl
theorem policy_allow.J3.ok : SoundCode Try.prog (sub [1, 0, 1, 0, 0, 1, 1, 1] policy_allow.body) policy_allow.J3.t := by
  refine piece_sound (keepT_sound [1, 2, 3, 11, 12, 13] [] (fun i => []) (wC_sound policy_allow.hΓ Try.hm policy_allow.J3.plan _ policy_allow.J3.pok)) ?_
  intro Q E fr H h
  unfold policy_allow.J3.t at h
  obtain ⟨hl, h⟩ := lenIs_elim h
  obtain ⟨proto0, q1, h⟩ := slI_elim h
  obtain ⟨dst0, q2, h⟩ := slI_elim h
  obtain ⟨port0, q3, h⟩ := slI_elim h
  obtain ⟨x0, x1, x2, q11, h⟩ := slSl_elim h
  obtain ⟨x3, q12, h⟩ := slI_elim h
  obtain ⟨x4, q13, h⟩ := slI_elim h
  refine ⟨(mkF 47 [(1, (.int .i64 proto0)), (2, (.int .u32 dst0)), (3, (.int .i64 port0)), (11, (.slice x0 x1 x2)), (12, (.int .i64 x3)), (13, (.int .i64 x4))]), fun a ha => ha.mk (Nat.le_of_eq hl.symm) (List.forall_mem_cons.2 ⟨q1, List.forall_mem_cons.2 ⟨q2, List.forall_mem_cons.2 ⟨q3, List.forall_mem_cons.2 ⟨q11, List.forall_mem_cons.2 ⟨q12, List.forall_mem_cons.2 ⟨q13, fun _ h => nomatch h⟩⟩⟩⟩⟩⟩), ?_⟩
  have e := policy_allow.J3.eq proto0 dst0 port0 x0 x1 x2 x3 x4 Q E H
  rw [← e]
  exact h.h
def policy_allow.W1.t : CT := fun Q E fr H => lenIs 47 fr (slI fr 1 .i64 fun proto0 => slI fr 2 .u32 fun dst0 => slI fr 3 .i64 fun port0 => slSl fr 11 fun x0 x1 x2 => slI fr 12 .i64 fun x3 => slI fr 13 .i64 fun x4 => policy_allow.W1 proto0 dst0 port0 x0 x1 x2 x3 x4 (fun  H => Q (.exit 0) (mkF 47 []) H) (fun y8_0 H => Q .ret (mkF 47 [(8, (.bool y8_0))]) H) E H)
noncomputable def policy_allow.W1.plan : Plan := .seq (.go) (.seq (.go) (.seq (.block (.seq (.go) (.seq (.go) (.use policy_allow.J2.t)))) (.use policy_allow.J3.t)))
theorem policy_allow.W1.pok : PlanOk Try.prog policy_allow.W1.plan (sub [1, 0, 1, 0, 0] policy_allow.body) := by
  have e : PlanOk Try.prog policy_allow.W1.plan (sub [1, 0, 1, 0, 0] policy_allow.body) = ((True) ∧ ((True) ∧ (((True) ∧ ((True) ∧ (SoundCode Try.prog (sub [1, 0, 1, 0, 0, 1, 1, 0, 0, 1, 1] policy_allow.body) policy_allow.J2.t))) ∧ (SoundCode Try.prog (sub [1, 0, 1, 0, 0, 1, 1, 1] policy_allow.body) policy_allow.J3.t)))) := by kernel_rfl
  exact e.mpr ⟨trivial, ⟨trivial, ⟨⟨trivial, ⟨trivial, policy_allow.J2.ok⟩⟩, policy_allow.J3.ok⟩⟩⟩
theorem policy_allow.W1.eq (proto0 : Int) (dst0 : Int) (port0 : Int) (x0 : Option Addr) (x1 : Nat) (x2 : Nat) (x3 : Int) (Q : Ex → Fr → Heap → Prop) (E : Value → Heap → Prop) (RR : Fr → Heap → Prop) (s : Int) (H : Heap) :
    (fun (RR : Int → Heap → Prop) (s : Int) (H : Heap) => policy_allow.W1.vc proto0 dst0 port0 x0 x1 x2 x3 s (fun  H => Q (.exit 0) (mkF 47 []) H) (fun y8_0 H => Q .ret (mkF 47 [(8, (.bool y8_0))]) H) (fun x4 H => RR (x4) H) E H) (fun s' H' => RR ((fun (s : Int) => (mkF 47 [(1, (.int .i64 proto0)), (2, (.int .u32 dst0)), (3, (.int .i64 port0)), (11, (.slice x0 x1 x2)), (12, (.int .i64 x3)), (13, (.int .i64 s))])) s') H') s H = keepT [1, 2, 3, 11, 12, 13] [8] (fun i => if i = 0 then [] else []) (wC Try.prog policy_allow.Γ policy_allow.W1.plan (sub [1, 0, 1, 0, 0] policy_allow.body)) (fun e fr' H' => match e with | .normal => RR fr' H' | .exit id => Q (.exit id) fr' H' | .ret => Q .ret fr' H') E ((fun (s : Int) => (mkF 47 [(1, (.int .i64 proto0)), (2, (.int .u32 dst0)), (3, (.int .i64 port0)), (11, (.slice x0 x1 x2)), (12, (.int .i64 x3)), (13, (.int .i64 s))])) s) H := by
  kernel_rfl
theorem policy_allow.W1.ok : SoundCode Try.prog (sub [1, 0, 1, 0] policy_allow.body) policy_allow.W1.t := by
  have e : (sub [1, 0, 1, 0] policy_allow.body) = .loop (sub [1, 0, 1, 0, 0] policy_allow.body) := by kernel_rfl
  rw [e]
  refine piece_sound (loopN_sound (keepT_sound [1, 2, 3, 11, 12, 13] [8] (fun i => if i = 0 then [] else []) (wC_sound policy_allow.hΓ Try.hm policy_allow.W1.plan _ policy_allow.W1.pok))) ?_
  intro Q E fr H h
  unfold policy_allow.W1.t at h
  obtain ⟨hl, h⟩ := lenIs_elim h
  obtain ⟨proto0, q1, h⟩ := slI_elim h
  obtain ⟨dst0, q2, h⟩ := slI_elim h
  obtain ⟨port0, q3, h⟩ := slI_elim h
  obtain ⟨x0, x1, x2, q11, h⟩ := slSl_elim h
  obtain ⟨x3, q12, h⟩ := slI_elim h
  obtain ⟨x4, q13, h⟩ := slI_elim h
  obtain ⟨m, h⟩ := h.h
  refine ⟨(mkF 47 [(1, (.int .i64 proto0)), (2, (.int .u32 dst0)), (3, (.int .i64 port0)), (11, (.slice x0 x1 x2)), (12, (.int .i64 x3)), (13, (.int .i64 x4))]), fun a ha => ha.mk (Nat.le_of_eq hl.symm) (List.forall_mem_cons.2 ⟨q1, List.forall_mem_cons.2 ⟨q2, List.forall_mem_cons.2 ⟨q3, List.forall_mem_cons.2 ⟨q11, List.forall_mem_cons.2 ⟨q12, List.forall_mem_cons.2 ⟨q13, fun _ h => nomatch h⟩⟩⟩⟩⟩⟩), m, ?_⟩
  have e := loopS_eq (B := (fun (RR : Int → Heap → Prop) (s : Int) (H : Heap) => policy_allow.W1.vc proto0 dst0 port0 x0 x1 x2 x3 s (fun  H => Q (.exit 0) (mkF 47 []) H) (fun y8_0 H => Q .ret (mkF 47 [(8, (.bool y8_0))]) H) (fun x4 H => RR (x4) H) E H)) (A := keepT [1, 2, 3, 11, 12, 13] [8] (fun i => if i = 0 then [] else []) (wC Try.prog policy_allow.Γ policy_allow.W1.plan (sub [1, 0, 1, 0, 0] policy_allow.body))) (m := (fun (s : Int) => (mkF 47 [(1, (.int .i64 proto0)), (2, (.int .u32 dst0)), (3, (.int .i64 port0)), (11, (.slice x0 x1 x2)), (12, (.int .i64 x3)), (13, (.int .i64 s))]))) (Q := Q) (E := E) (fun RR s H => policy_allow.W1.eq proto0 dst0 port0 x0 x1 x2 x3 Q E RR s H) m (x4) H
  exact cast e h
noncomputable def policy_allow.plan : Plan := .seq (.go) (.seq (.seq (.go) (.block (.use policy_allow.W1.t))) (.go))
theorem policy_allow.pok : PlanOk Try.prog policy_allow.plan policy_allow.body := by
  have e : PlanOk Try.prog policy_allow.plan policy_allow.body = ((True) ∧ (((True) ∧ (SoundCode Try.prog (sub [1, 0, 1, 0] policy_allow.body) policy_allow.W1.t)) ∧ (True))) := by kernel_rfl
  exact e.mpr ⟨trivial, ⟨⟨trivial, policy_allow.W1.ok⟩, trivial⟩⟩
theorem policy_allow.eq (l0 : Option Addr) (l1 : Nat) (l2 : Nat) (proto0 : Int) (dst0 : Int) (port0 : Int) (K : Value → Heap → Prop) (E : Value → Heap → Prop) (H : Heap) :
    fnT Try.prog Try.f34 (wC Try.prog policy_allow.Γ policy_allow.plan policy_allow.body) [(.slice l0 l1 l2), (.int .i64 proto0), (.int .u32 dst0), (.int .i64 port0)] K E H = policy_allow.vc l0 l1 l2 proto0 dst0 port0 (fun r0_0 H => K (.bool r0_0) H) E H := by
  kernel_rfl
theorem policy_allow.Fe {args : List Value} {K E : Value → Heap → Prop} {H : Heap} (h : policy_allow.F args K E H) : ∃ l0 l1 l2 proto0 dst0 port0, args = [(.slice l0 l1 l2), (.int .i64 proto0), (.int .u32 dst0), (.int .i64 port0)] ∧ policy_allow.c l0 l1 l2 proto0 dst0 port0 (fun r0_0 H => K (.bool r0_0) H) E H := by
  unfold policy_allow.F at h
  split at h
  · exact ⟨_, _, _, _, _, _, rfl, h⟩
  · exact h.elim
theorem policy_allow.ok : CalleeOk Try.prog 34 policy_allow.F :=
  callee_ok policy_allow.hΓ (fn := Try.f34) (c := policy_allow.body) (T := wC Try.prog policy_allow.Γ policy_allow.plan policy_allow.body) (by kernel_rfl) (by kernel_rfl) (by kernel_rfl) (wC_sound policy_allow.hΓ Try.hm policy_allow.plan _ policy_allow.pok) fun _ K E H h => by
    obtain ⟨z0, z1, z2, z3, z4, z5, e, h⟩ := policy_allow.Fe h
    subst e
    have h2 : policy_allow.vc z0 z1 z2 z3 z4 z5 (fun r0_0 H => ∃ H', Heap.Le H' H ∧ K (.bool r0_0) H') E H := h.h
    rw [policy_allow.eq z0 z1 z2 z3 z4 z5 (Fg K) E H]
    exact h2

/-! vizard/policy.reached -/
noncomputable def policy_reached.body : Code := Try.f30.body.getD .skip
def policy_reached.W2.vc (l0 : Option Addr) (l1 : Nat) (l2 : Nat) (a0 : Int) (seen0 : Option Nat) (p0 : Int) (x0 : Option Addr) (x1 : Nat) (x2 : Nat) (x3 : Int) (x4 : Int) (x5 : Addr) (Kx2 : Heap → Prop) (Kr : Bool → Heap → Prop) (RR : Heap → Prop) (E : Value → Heap → Prop) (h0 : Heap) : Prop :=
  nextW x5 (fun h1 =>
  Kx2 h1) (fun ky0 vl0 h2 =>
  entryW x5 (fun ky1 vl1 h3 =>
  policy_allow.c l0 l1 l2 p0 a0 ky1 (fun x6 h4 =>
  (if x6 = true then
  Kr true h4
  else
  RR h4)) E h3) h2) h0
structure policy_reached.W2 (l0 : Option Addr) (l1 : Nat) (l2 : Nat) (a0 : Int) (seen0 : Option Nat) (p0 : Int) (x0 : Option Addr) (x1 : Nat) (x2 : Nat) (x3 : Int) (x4 : Int) (x5 : Addr) (Kx2 : Heap → Prop) (Kr : Bool → Heap → Prop) (E : Value → Heap → Prop) (H : Heap) : Prop where
  h : Loop (fun (RR : Unit → Heap → Prop) (s : Unit) (H : Heap) => policy_reached.W2.vc l0 l1 l2 a0 seen0 p0 x0 x1 x2 x3 x4 x5 Kx2 Kr (fun  H => RR () H) E H) () H
def policy_reached.W1.vc (l0 : Option Addr) (l1 : Nat) (l2 : Nat) (a0 : Int) (seen0 : Option Nat) (x0 : Option Addr) (x1 : Nat) (x2 : Nat) (x3 : Int) (x4 : Int) (Kx0 : Heap → Prop) (Kr : Bool → Heap → Prop) (RR : Int → Heap → Prop) (E : Value → Heap → Prop) (h0 : Heap) : Prop :=
  (if (decide (x4 < x3)) = true then
  nilc x0 fun a1 => (0 : Int) ≤ x4 ∧ x4 < (x1 : Int) ∧
  ldI h0 .i64 (a1.add (x4.toNat * 1)) fun x5 =>
  policy_ports.c seen0 l0 l1 l2 x5 (fun h1 =>
  rangeW seen0 (fun b0 h2 =>
  policy_reached.W2 l0 l1 l2 a0 seen0 x5 x0 x1 x2 x3 x4 (⟨b0, 0, none⟩ : Addr) (fun h3 =>
  RR (IntKind.i64.wrap (x4 + 1)) h3) Kr E h2) h1) E h0
  else
  Kx0 h0)
structure policy_reached.W1 (l0 : Option Addr) (l1 : Nat) (l2 : Nat) (a0 : Int) (seen0 : Option Nat) (x0 : Option Addr) (x1 : Nat) (x2 : Nat) (x3 : Int) (x4 : Int) (Kx0 : Heap → Prop) (Kr : Bool → Heap → Prop) (E : Value → Heap → Prop) (H : Heap) : Prop where
  h : Loop (fun (RR : Int → Heap → Prop) (s : Int) (H : Heap) => policy_reached.W1.vc l0 l1 l2 a0 seen0 x0 x1 x2 x3 s Kx0 Kr (fun x4 H => RR (x4) H) E H) (x4) H
def policy_reached.vc (l0 : Option Addr) (l1 : Nat) (l2 : Nat) (a0 : Int) (K : Bool → Heap → Prop) (E : Value → Heap → Prop) (h0 : Heap) : Prop :=
  newB (.map #[] 0) (fun b0 h1 =>
  policy_protos.c l0 l1 l2 (fun x0 x1 x2 h2 =>
  policy_reached.W1 l0 l1 l2 a0 (some b0) x0 x1 x2 (x1 : Int) 0 (fun h3 =>
  K false h3) K E h2) E h1) h0
structure policy_reached.c (l0 : Option Addr) (l1 : Nat) (l2 : Nat) (a0 : Int) (K : Bool → Heap → Prop) (E : Value → Heap → Prop) (H : Heap) : Prop where
  h : policy_reached.vc l0 l1 l2 a0 (fun r0_0 H => ∃ H', Heap.Le H' H ∧ K r0_0 H') E H
def policy_reached.F : FT := fun args K E H => match args with
  | [(.slice l0 l1 l2), (.int .u32 a0)] => policy_reached.c l0 l1 l2 a0 (fun r0_0 H => K (.bool r0_0) H) E H
  | _ => False
noncomputable def policy_reached.Γ : FuncId → Option FT := Γof [(34, policy_allow.F), (48, policy_protos.F), (49, policy_ports.F)]
theorem policy_reached.hΓ : ∀ f F, policy_reached.Γ f = some F → CalleeOk Try.prog f F := Γof_ok (List.forall_mem_cons.2 ⟨policy_allow.ok, List.forall_mem_cons.2 ⟨policy_protos.ok, List.forall_mem_cons.2 ⟨policy_ports.ok, fun _ h => nomatch h⟩⟩⟩)
def policy_reached.W2.t : CT := fun Q E fr H => lenIs 33 fr (slSl fr 0 fun l0 l1 l2 => slI fr 1 .u32 fun a0 => slM fr 5 fun seen0 => slI fr 7 .i64 fun p0 => slSl fr 11 fun x0 x1 x2 => slI fr 12 .i64 fun x3 => slI fr 13 .i64 fun x4 => slPA fr 22 fun x5 => policy_reached.W2 l0 l1 l2 a0 seen0 p0 x0 x1 x2 x3 x4 x5 (fun  H => Q (.exit 2) (mkF 33 [(0, (.slice l0 l1 l2)), (1, (.int .u32 a0)), (5, (.map seen0)), (11, (.slice x0 x1 x2)), (12, (.int .i64 x3)), (13, (.int .i64 x4))]) H) (fun y4_0 H => Q .ret (mkF 33 [(4, (.bool y4_0))]) H) E H)
noncomputable def policy_reached.W2.plan : Plan := .go
theorem policy_reached.W2.pok : PlanOk Try.prog policy_reached.W2.plan (sub [1, 1, 0, 1, 0, 0, 1, 1, 0, 0, 1, 1, 1, 0, 0] policy_reached.body) := by
  have e : PlanOk Try.prog policy_reached.W2.plan (sub [1, 1, 0, 1, 0, 0, 1, 1, 0, 0, 1, 1, 1, 0, 0] policy_reached.body) = (True) := by kernel_rfl
  exact e.mpr trivial
theorem policy_reached.W2.eq (l0 : Option Addr) (l1 : Nat) (l2 : Nat) (a0 : Int) (seen0 : Option Nat) (p0 : Int) (x0 : Option Addr) (x1 : Nat) (x2 : Nat) (x3 : Int) (x4 : Int) (x5 : Addr) (Q : Ex → Fr → Heap → Prop) (E : Value → Heap → Prop) (RR : Fr → Heap → Prop) (s : Unit) (H : Heap) :
    (fun (RR : Unit → Heap → Prop) (s : Unit) (H : Heap) => policy_reached.W2.vc l0 l1 l2 a0 seen0 p0 x0 x1 x2 x3 x4 x5 (fun  H => Q (.exit 2) (mkF 33 [(0, (.slice l0 l1 l2)), (1, (.int .u32 a0)), (5, (.map seen0)), (11, (.slice x0 x1 x2)), (12, (.int .i64 x3)), (13, (.int .i64 x4))]) H) (fun y4_0 H => Q .ret (mkF 33 [(4, (.bool y4_0))]) H) (fun  H => RR () H) E H) (fun s' H' => RR ((fun (s : Unit) => (mkF 33 [(0, (.slice l0 l1 l2)), (1, (.int .u32 a0)), (5, (.map seen0)), (7, (.int .i64 p0)), (11, (.slice x0 x1 x2)), (12, (.int .i64 x3)), (13, (.int .i64 x4)), (22, (.pointer (some x5)))])) s') H') s H = keepT [0, 1, 5, 7, 11, 12, 13, 22] [4] (fun i => if i = 2 then [0, 1, 5, 11, 12, 13] else []) (wC Try.prog policy_reached.Γ policy_reached.W2.plan (sub [1, 1, 0, 1, 0, 0, 1, 1, 0, 0, 1, 1, 1, 0, 0] policy_reached.body)) (fun e fr' H' => match e with | .normal => RR fr' H' | .exit id => Q (.exit id) fr' H' | .ret => Q .ret fr' H') E ((fun (s : Unit) => (mkF 33 [(0, (.slice l0 l1 l2)), (1, (.int .u32 a0)), (5, (.map seen0)), (7, (.int .i64 p0)), (11, (.slice x0 x1 x2)), (12, (.int .i64 x3)), (13, (.int .i64 x4)), (22, (.pointer (some x5)))])) s) H := by
  kernel_rfl
theorem policy_reached.W2.ok : SoundCode Try.prog (sub [1, 1, 0, 1, 0, 0, 1, 1, 0, 0, 1, 1, 1, 0] policy_reached.body) policy_reached.W2.t := by
  have e : (sub [1, 1, 0, 1, 0, 0, 1, 1, 0, 0, 1, 1, 1, 0] policy_reached.body) = .loop (sub [1, 1, 0, 1, 0, 0, 1, 1, 0, 0, 1, 1, 1, 0, 0] policy_reached.body) := by kernel_rfl
  rw [e]
  refine piece_sound (loopN_sound (keepT_sound [0, 1, 5, 7, 11, 12, 13, 22] [4] (fun i => if i = 2 then [0, 1, 5, 11, 12, 13] else []) (wC_sound policy_reached.hΓ Try.hm policy_reached.W2.plan _ policy_reached.W2.pok))) ?_
  intro Q E fr H h
  unfold policy_reached.W2.t at h
  obtain ⟨hl, h⟩ := lenIs_elim h
  obtain ⟨l0, l1, l2, q0, h⟩ := slSl_elim h
  obtain ⟨a0, q1, h⟩ := slI_elim h
  obtain ⟨seen0, q5, h⟩ := slM_elim h
  obtain ⟨p0, q7, h⟩ := slI_elim h
  obtain ⟨x0, x1, x2, q11, h⟩ := slSl_elim h
  obtain ⟨x3, q12, h⟩ := slI_elim h
  obtain ⟨x4, q13, h⟩ := slI_elim h
  obtain ⟨x5, q22, h⟩ := slPA_elim h
  obtain ⟨m, h⟩ := h.h
  refine ⟨(mkF 33 [(0, (.slice l0 l1 l2)), (1, (.int .u32 a0)), (5, (.map seen0)), (7, (.int .i64 p0)), (11, (.slice x0 x1 x2)), (12, (.int .i64 x3)), (13, (.int .i64 x4)), (22, (.pointer (some x5)))]), fun a ha => ha.mk (Nat.le_of_eq hl.symm) (List.forall_mem_cons.2 ⟨q0, List.forall_mem_cons.2 ⟨q1, List.forall_mem_cons.2 ⟨q5, List.forall_mem_cons.2 ⟨q7, List.forall_mem_cons.2 ⟨q11, List.forall_mem_cons.2 ⟨q12, List.forall_mem_cons.2 ⟨q13, List.forall_mem_cons.2 ⟨q22, fun _ h => nomatch h⟩⟩⟩⟩⟩⟩⟩⟩), m, ?_⟩
  have e := loopS_eq (B := (fun (RR : Unit → Heap → Prop) (s : Unit) (H : Heap) => policy_reached.W2.vc l0 l1 l2 a0 seen0 p0 x0 x1 x2 x3 x4 x5 (fun  H => Q (.exit 2) (mkF 33 [(0, (.slice l0 l1 l2)), (1, (.int .u32 a0)), (5, (.map seen0)), (11, (.slice x0 x1 x2)), (12, (.int .i64 x3)), (13, (.int .i64 x4))]) H) (fun y4_0 H => Q .ret (mkF 33 [(4, (.bool y4_0))]) H) (fun  H => RR () H) E H)) (A := keepT [0, 1, 5, 7, 11, 12, 13, 22] [4] (fun i => if i = 2 then [0, 1, 5, 11, 12, 13] else []) (wC Try.prog policy_reached.Γ policy_reached.W2.plan (sub [1, 1, 0, 1, 0, 0, 1, 1, 0, 0, 1, 1, 1, 0, 0] policy_reached.body))) (m := (fun (s : Unit) => (mkF 33 [(0, (.slice l0 l1 l2)), (1, (.int .u32 a0)), (5, (.map seen0)), (7, (.int .i64 p0)), (11, (.slice x0 x1 x2)), (12, (.int .i64 x3)), (13, (.int .i64 x4)), (22, (.pointer (some x5)))]))) (Q := Q) (E := E) (fun RR s H => policy_reached.W2.eq l0 l1 l2 a0 seen0 p0 x0 x1 x2 x3 x4 x5 Q E RR s H) m () H
  exact cast e h
def policy_reached.W1.t : CT := fun Q E fr H => lenIs 33 fr (slSl fr 0 fun l0 l1 l2 => slI fr 1 .u32 fun a0 => slM fr 5 fun seen0 => slSl fr 11 fun x0 x1 x2 => slI fr 12 .i64 fun x3 => slI fr 13 .i64 fun x4 => policy_reached.W1 l0 l1 l2 a0 seen0 x0 x1 x2 x3 x4 (fun  H => Q (.exit 0) (mkF 33 []) H) (fun y4_0 H => Q .ret (mkF 33 [(4, (.bool y4_0))]) H) E H)
noncomputable def policy_reached.W1.plan : Plan := .seq (.go) (.seq (.go) (.seq (.block (.seq (.go) (.seq (.go) (.seq (.go) (.block (.use policy_reached.W2.t)))))) (.go)))
theorem policy_reached.W1.pok : PlanOk Try.prog policy_reached.W1.plan (sub [1, 1, 0, 1, 0, 0] policy_reached.body) := by
  have e : PlanOk Try.prog policy_reached.W1.plan (sub [1, 1, 0, 1, 0, 0] policy_reached.body) = ((True) ∧ ((True) ∧ (((True) ∧ ((True) ∧ ((True) ∧ (SoundCode Try.prog (sub [1, 1, 0, 1, 0, 0, 1, 1, 0, 0, 1, 1, 1, 0] policy_reached.body) policy_reached.W2.t)))) ∧ (True)))) := by kernel_rfl
  exact e.mpr ⟨trivial, ⟨trivial, ⟨⟨trivial, ⟨trivial, ⟨trivial, policy_reached.W2.ok⟩⟩⟩, trivial⟩⟩⟩
theorem policy_reached.W1.eq (l0 : Option Addr) (l1 : Nat) (l2 : Nat) (a0 : Int) (seen0 : Option Nat) (x0 : Option Addr) (x1 : Nat) (x2 : Nat) (x3 : Int) (Q : Ex → Fr → Heap → Prop) (E : Value → Heap → Prop) (RR : Fr → Heap → Prop) (s : Int) (H : Heap) :
    (fun (RR : Int → Heap → Prop) (s : Int) (H : Heap) => policy_reached.W1.vc l0 l1 l2 a0 seen0 x0 x1 x2 x3 s (fun  H => Q (.exit 0) (mkF 33 []) H) (fun y4_0 H => Q .ret (mkF 33 [(4, (.bool y4_0))]) H) (fun x4 H => RR (x4) H) E H) (fun s' H' => RR ((fun (s : Int) => (mkF 33 [(0, (.slice l0 l1 l2)), (1, (.int .u32 a0)), (5, (.map seen0)), (11, (.slice x0 x1 x2)), (12, (.int .i64 x3)), (13, (.int .i64 s))])) s') H') s H = keepT [0, 1, 5, 11, 12, 13] [4] (fun i => if i = 0 then [] else []) (wC Try.prog policy_reached.Γ policy_reached.W1.plan (sub [1, 1, 0, 1, 0, 0] policy_reached.body)) (fun e fr' H' => match e with | .normal => RR fr' H' | .exit id => Q (.exit id) fr' H' | .ret => Q .ret fr' H') E ((fun (s : Int) => (mkF 33 [(0, (.slice l0 l1 l2)), (1, (.int .u32 a0)), (5, (.map seen0)), (11, (.slice x0 x1 x2)), (12, (.int .i64 x3)), (13, (.int .i64 s))])) s) H := by
  kernel_rfl
theorem policy_reached.W1.ok : SoundCode Try.prog (sub [1, 1, 0, 1, 0] policy_reached.body) policy_reached.W1.t := by
  have e : (sub [1, 1, 0, 1, 0] policy_reached.body) = .loop (sub [1, 1, 0, 1, 0, 0] policy_reached.body) := by kernel_rfl
  rw [e]
  refine piece_sound (loopN_sound (keepT_sound [0, 1, 5, 11, 12, 13] [4] (fun i => if i = 0 then [] else []) (wC_sound policy_reached.hΓ Try.hm policy_reached.W1.plan _ policy_reached.W1.pok))) ?_
  intro Q E fr H h
  unfold policy_reached.W1.t at h
  obtain ⟨hl, h⟩ := lenIs_elim h
  obtain ⟨l0, l1, l2, q0, h⟩ := slSl_elim h
  obtain ⟨a0, q1, h⟩ := slI_elim h
  obtain ⟨seen0, q5, h⟩ := slM_elim h
  obtain ⟨x0, x1, x2, q11, h⟩ := slSl_elim h
  obtain ⟨x3, q12, h⟩ := slI_elim h
  obtain ⟨x4, q13, h⟩ := slI_elim h
  obtain ⟨m, h⟩ := h.h
  refine ⟨(mkF 33 [(0, (.slice l0 l1 l2)), (1, (.int .u32 a0)), (5, (.map seen0)), (11, (.slice x0 x1 x2)), (12, (.int .i64 x3)), (13, (.int .i64 x4))]), fun a ha => ha.mk (Nat.le_of_eq hl.symm) (List.forall_mem_cons.2 ⟨q0, List.forall_mem_cons.2 ⟨q1, List.forall_mem_cons.2 ⟨q5, List.forall_mem_cons.2 ⟨q11, List.forall_mem_cons.2 ⟨q12, List.forall_mem_cons.2 ⟨q13, fun _ h => nomatch h⟩⟩⟩⟩⟩⟩), m, ?_⟩
  have e := loopS_eq (B := (fun (RR : Int → Heap → Prop) (s : Int) (H : Heap) => policy_reached.W1.vc l0 l1 l2 a0 seen0 x0 x1 x2 x3 s (fun  H => Q (.exit 0) (mkF 33 []) H) (fun y4_0 H => Q .ret (mkF 33 [(4, (.bool y4_0))]) H) (fun x4 H => RR (x4) H) E H)) (A := keepT [0, 1, 5, 11, 12, 13] [4] (fun i => if i = 0 then [] else []) (wC Try.prog policy_reached.Γ policy_reached.W1.plan (sub [1, 1, 0, 1, 0, 0] policy_reached.body))) (m := (fun (s : Int) => (mkF 33 [(0, (.slice l0 l1 l2)), (1, (.int .u32 a0)), (5, (.map seen0)), (11, (.slice x0 x1 x2)), (12, (.int .i64 x3)), (13, (.int .i64 s))]))) (Q := Q) (E := E) (fun RR s H => policy_reached.W1.eq l0 l1 l2 a0 seen0 x0 x1 x2 x3 Q E RR s H) m (x4) H
  exact cast e h
noncomputable def policy_reached.plan : Plan := .seq (.go) (.seq (.go) (.seq (.seq (.go) (.block (.use policy_reached.W1.t))) (.go)))
theorem policy_reached.pok : PlanOk Try.prog policy_reached.plan policy_reached.body := by
  have e : PlanOk Try.prog policy_reached.plan policy_reached.body = ((True) ∧ ((True) ∧ (((True) ∧ (SoundCode Try.prog (sub [1, 1, 0, 1, 0] policy_reached.body) policy_reached.W1.t)) ∧ (True)))) := by kernel_rfl
  exact e.mpr ⟨trivial, ⟨trivial, ⟨⟨trivial, policy_reached.W1.ok⟩, trivial⟩⟩⟩
theorem policy_reached.eq (l0 : Option Addr) (l1 : Nat) (l2 : Nat) (a0 : Int) (K : Value → Heap → Prop) (E : Value → Heap → Prop) (H : Heap) :
    fnT Try.prog Try.f30 (wC Try.prog policy_reached.Γ policy_reached.plan policy_reached.body) [(.slice l0 l1 l2), (.int .u32 a0)] K E H = policy_reached.vc l0 l1 l2 a0 (fun r0_0 H => K (.bool r0_0) H) E H := by
  kernel_rfl
theorem policy_reached.Fe {args : List Value} {K E : Value → Heap → Prop} {H : Heap} (h : policy_reached.F args K E H) : ∃ l0 l1 l2 a0, args = [(.slice l0 l1 l2), (.int .u32 a0)] ∧ policy_reached.c l0 l1 l2 a0 (fun r0_0 H => K (.bool r0_0) H) E H := by
  unfold policy_reached.F at h
  split at h
  · exact ⟨_, _, _, _, rfl, h⟩
  · exact h.elim
theorem policy_reached.ok : CalleeOk Try.prog 30 policy_reached.F :=
  callee_ok policy_reached.hΓ (fn := Try.f30) (c := policy_reached.body) (T := wC Try.prog policy_reached.Γ policy_reached.plan policy_reached.body) (by kernel_rfl) (by kernel_rfl) (by kernel_rfl) (wC_sound policy_reached.hΓ Try.hm policy_reached.plan _ policy_reached.pok) fun _ K E H h => by
    obtain ⟨z0, z1, z2, z3, e, h⟩ := policy_reached.Fe h
    subst e
    have h2 : policy_reached.vc z0 z1 z2 z3 (fun r0_0 H => ∃ H', Heap.Le H' H ∧ K (.bool r0_0) H') E H := h.h
    rw [policy_reached.eq z0 z1 z2 z3 (Fg K) E H]
    exact h2

/-! vizard/policy.Routes -/
noncomputable def policy_Routes.body : Code := Try.f10.body.getD .skip
def policy_Routes.J2.vc (l0 : Option Addr) (l1 : Nat) (l2 : Nat) (bounds0 : Option Addr) (bounds1 : Nat) (bounds2 : Nat) (x0 : Option Addr) (x1 : Nat) (x2 : Nat) (x3 : Int) (x4 : Int) (Kn : Int → Heap → Prop) (E : Value → Heap → Prop) (h0 : Heap) : Prop :=
  Kn (IntKind.i64.wrap (x4 + 1)) h0
structure policy_Routes.J2 (l0 : Option Addr) (l1 : Nat) (l2 : Nat) (bounds0 : Option Addr) (bounds1 : Nat) (bounds2 : Nat) (x0 : Option Addr) (x1 : Nat) (x2 : Nat) (x3 : Int) (x4 : Int) (Kn : Int → Heap → Prop) (E : Value → Heap → Prop) (H : Heap) : Prop where
  h : policy_Routes.J2.vc l0 l1 l2 bounds0 bounds1 bounds2 x0 x1 x2 x3 x4 Kn E H
def policy_Routes.W1.vc (l0 : Option Addr) (l1 : Nat) (l2 : Nat) (bounds0 : Option Addr) (bounds1 : Nat) (bounds2 : Nat) (x0 : Option Addr) (x1 : Nat) (x2 : Nat) (x3 : Int) (x4 : Int) (Kx0 : Option Addr → Nat → Nat → Heap → Prop) (RR : Option Addr → Nat → Nat → Int → Heap → Prop) (E : Value → Heap → Prop) (h0 : Heap) : Prop :=
  (if (decide (x4 < x3)) = true then
  nilc x0 fun a0 => (0 : Int) ≤ x4 ∧ x4 < (x1 : Int) ∧
  ldB h0 ((a0.add (x4.toNat * 6)).add 0) fun x5 => ldI h0 .i64 ((a0.add (x4.toNat * 6)).add 1) fun x6 => ldI h0 .u32 ((a0.add (x4.toNat * 6)).add 2) fun x7 => ldI h0 .i64 ((a0.add (x4.toNat * 6)).add 3) fun x8 => ldI h0 .i64 ((a0.add (x4.toNat * 6)).add 4) fun x9 => ldI h0 .i64 ((a0.add (x4.toNat * 6)).add 5) fun x10 =>
  newB (.cells #[(.bool false), (.int .i64 0), (.int .u32 0), (.int .i64 0), (.int .i64 0), (.int .i64 0)] 40) (fun b0 h1 =>
  stc h1 ((⟨b0, 0, none⟩ : Addr).add 0) (.bool x5) fun h2 =>
  stc h2 ((⟨b0, 0, none⟩ : Addr).add 1) (.int .i64 x6) fun h3 =>
  stc h3 ((⟨b0, 0, none⟩ : Addr).add 2) (.int .u32 x7) fun h4 =>
  stc h4 ((⟨b0, 0, none⟩ : Addr).add 3) (.int .i64 x8) fun h5 =>
  stc h5 ((⟨b0, 0, none⟩ : Addr).add 4) (.int .i64 x9) fun h6 =>
  stc h6 ((⟨b0, 0, none⟩ : Addr).add 5) (.int .i64 x10) fun h7 =>
  ldI h7 .u32 (((⟨b0, 0, none⟩ : Addr).add 2).add 0) fun x11 => ldI h7 .i64 (((⟨b0, 0, none⟩ : Addr).add 2).add 1) fun x12 =>
  prefix_Ends.c x11 x12 (fun x13 x14 h8 =>
  newB (.cells #[(.int .i64 (IntKind.i64.wrap x13)), (.int .i64 (IntKind.i64.wrap ((IntKind.i64.wrap x14) + 1)))] 2) (fun b1 h9 =>
  rdRow h9 (some (⟨b1, 0, none⟩ : Addr)) (2 * 1) fun cs0 =>
  appT 2 (.int .i64 0) bounds0 bounds1 2 bounds2 1 8 cs0 (fun p0 n0 c0 h10 =>
  policy_Routes.J2 l0 l1 l2 p0 n0 c0 x0 x1 x2 x3 x4 (fun x15 h11 =>
  RR p0 n0 c0 x15 h11) E h10) h9) h8) E h7) h0
  else
  Kx0 bounds0 bounds1 bounds2 h0)
structure policy_Routes.W1 (l0 : Option Addr) (l1 : Nat) (l2 : Nat) (bounds0 : Option Addr) (bounds1 : Nat) (bounds2 : Nat) (x0 : Option Addr) (x1 : Nat) (x2 : Nat) (x3 : Int) (x4 : Int) (Kx0 : Option Addr → Nat → Nat → Heap → Prop) (E : Value → Heap → Prop) (H : Heap) : Prop where
  h : Loop (fun (RR : Option Addr × Nat × Nat × Int → Heap → Prop) (s : Option Addr × Nat × Nat × Int) (H : Heap) => policy_Routes.W1.vc l0 l1 l2 s.1 s.2.1 s.2.2.1 x0 x1 x2 x3 s.2.2.2 Kx0 (fun bounds0 bounds1 bounds2 x4 H => RR (bounds0, bounds1, bounds2, x4) H) E H) (bounds0, bounds1, bounds2, x4) H
def policy_Routes.J4.vc (l0 : Option Addr) (l1 : Nat) (l2 : Nat) (bounds0 : Option Addr) (bounds1 : Nat) (bounds2 : Nat) (out0 : Option Addr) (out1 : Nat) (out2 : Nat) (x0 : Option Addr) (x1 : Nat) (x2 : Nat) (x3 : Int) (x4 : Int) (Kn : Int → Heap → Prop) (E : Value → Heap → Prop) (h0 : Heap) : Prop :=
  Kn (IntKind.i64.wrap (x4 + 1)) h0
structure policy_Routes.J4 (l0 : Option Addr) (l1 : Nat) (l2 : Nat) (bounds0 : Option Addr) (bounds1 : Nat) (bounds2 : Nat) (out0 : Option Addr) (out1 : Nat) (out2 : Nat) (x0 : Option Addr) (x1 : Nat) (x2 : Nat) (x3 : Int) (x4 : Int) (Kn : Int → Heap → Prop) (E : Value → Heap → Prop) (H : Heap) : Prop where
  h : policy_Routes.J4.vc l0 l1 l2 bounds0 bounds1 bounds2 out0 out1 out2 x0 x1 x2 x3 x4 Kn E H
def policy_Routes.J5.vc (l0 : Option Addr) (l1 : Nat) (l2 : Nat) (bounds0 : Option Addr) (bounds1 : Nat) (bounds2 : Nat) (out0 : Option Addr) (out1 : Nat) (out2 : Nat) (low0 : Int) (high0 : Int) (n0 : Int) (x0 : Option Addr) (x1 : Nat) (x2 : Nat) (x3 : Int) (x4 : Int) (x5 : Bool) (Kn : Option Addr → Nat → Nat → Heap → Prop) (E : Value → Heap → Prop) (h0 : Heap) : Prop :=
  (if x5 = true then
  nilc out0 fun a0 => (0 : Int) ≤ (IntKind.i64.wrap (n0 - 1)) ∧ (IntKind.i64.wrap (n0 - 1)) < (out1 : Int) ∧
  stc h0 ((a0.add ((IntKind.i64.wrap (n0 - 1)).toNat * 3)).add 1) (.int .u32 high0) fun h1 =>
  Kn out0 out1 out2 h1
  else
  newB (.cells #[(.int .u32 (IntKind.u32.wrap low0)), (.int .u32 high0), (.int .i64 0)] 30) (fun b0 h2 =>
  rdRow h2 (some (⟨b0, 0, none⟩ : Addr)) (1 * 3) fun cs0 =>
  appT 30 (.agg #[(.int .u32 0), (.int .u32 0), (.int .i64 0)]) out0 out1 1 out2 3 16 cs0 (fun p0 n1 c0 h3 =>
  Kn p0 n1 c0 h3) h2) h0)
structure policy_Routes.J5 (l0 : Option Addr) (l1 : Nat) (l2 : Nat) (bounds0 : Option Addr) (bounds1 : Nat) (bounds2 : Nat) (out0 : Option Addr) (out1 : Nat) (out2 : Nat) (low0 : Int) (high0 : Int) (n0 : Int) (x0 : Option Addr) (x1 : Nat) (x2 : Nat) (x3 : Int) (x4 : Int) (x5 : Bool) (Kn : Option Addr → Nat → Nat → Heap → Prop) (E : Value → Heap → Prop) (H : Heap) : Prop where
  h : policy_Routes.J5.vc l0 l1 l2 bounds0 bounds1 bounds2 out0 out1 out2 low0 high0 n0 x0 x1 x2 x3 x4 x5 Kn E H
def policy_Routes.W3.vc (l0 : Option Addr) (l1 : Nat) (l2 : Nat) (bounds0 : Option Addr) (bounds1 : Nat) (bounds2 : Nat) (out0 : Option Addr) (out1 : Nat) (out2 : Nat) (x0 : Option Addr) (x1 : Nat) (x2 : Nat) (x3 : Int) (x4 : Int) (Kx2 : Option Addr → Nat → Nat → Heap → Prop) (RR : Option Addr → Nat → Nat → Int → Heap → Prop) (E : Value → Heap → Prop) (h0 : Heap) : Prop :=
  (if (decide (x4 < x3)) = true then
  nilc x0 fun a0 => (0 : Int) ≤ x4 ∧ x4 < (x1 : Int) ∧
  ldI h0 .i64 (a0.add (x4.toNat * 1)) fun x5 =>
  policy_reached.c l0 l1 l2 (IntKind.u32.wrap x5) (fun x6 h1 =>
  (if (!x6) = true then
  policy_Routes.J4 l0 l1 l2 bounds0 bounds1 bounds2 out0 out1 out2 x0 x1 x2 x3 x4 (fun x7 h2 =>
  RR out0 out1 out2 x7 h2) E h1
  else
  nilc bounds0 fun a1 => (0 : Int) ≤ (IntKind.i64.wrap (x4 + 1)) ∧ (IntKind.i64.wrap (x4 + 1)) < (bounds1 : Int) ∧
  ldI h1 .i64 (a1.add ((IntKind.i64.wrap (x4 + 1)).toNat * 1)) fun x8 =>
  (if (decide ((out1 : Int) > 0)) = true then
  nilc out0 fun a2 => (0 : Int) ≤ (IntKind.i64.wrap ((out1 : Int) - 1)) ∧ (IntKind.i64.wrap ((out1 : Int) - 1)) < (out1 : Int) ∧
  ldI h1 .u32 ((a2.add ((IntKind.i64.wrap ((out1 : Int) - 1)).toNat * 3)).add 1) fun x9 =>
  policy_Routes.J5 l0 l1 l2 bounds0 bounds1 bounds2 out0 out1 out2 x5 (IntKind.u32.wrap (IntKind.i64.wrap (x8 - 1))) (out1 : Int) x0 x1 x2 x3 x4 ((IntKind.i64.wrap ((IntKind.i64.wrap x9) + 1)) == x5) (fun out3 out4 out5 h3 =>
  policy_Routes.J4 l0 l1 l2 bounds0 bounds1 bounds2 out3 out4 out5 x0 x1 x2 x3 x4 (fun x10 h4 =>
  RR out3 out4 out5 x10 h4) E h3) E h1
  else
  policy_Routes.J5 l0 l1 l2 bounds0 bounds1 bounds2 out0 out1 out2 x5 (IntKind.u32.wrap (IntKind.i64.wrap (x8 - 1))) (out1 : Int) x0 x1 x2 x3 x4 false (fun out6 out7 out8 h5 =>
  policy_Routes.J4 l0 l1 l2 bounds0 bounds1 bounds2 out6 out7 out8 x0 x1 x2 x3 x4 (fun x11 h6 =>
  RR out6 out7 out8 x11 h6) E h5) E h1))) E h0
  else
  Kx2 out0 out1 out2 h0)
structure policy_Routes.W3 (l0 : Option Addr) (l1 : Nat) (l2 : Nat) (bounds0 : Option Addr) (bounds1 : Nat) (bounds2 : Nat) (out0 : Option Addr) (out1 : Nat) (out2 : Nat) (x0 : Option Addr) (x1 : Nat) (x2 : Nat) (x3 : Int) (x4 : Int) (Kx2 : Option Addr → Nat → Nat → Heap → Prop) (E : Value → Heap → Prop) (H : Heap) : Prop where
  h : Loop (fun (RR : Option Addr × Nat × Nat × Int → Heap → Prop) (s : Option Addr × Nat × Nat × Int) (H : Heap) => policy_Routes.W3.vc l0 l1 l2 bounds0 bounds1 bounds2 s.1 s.2.1 s.2.2.1 x0 x1 x2 x3 s.2.2.2 Kx2 (fun out0 out1 out2 x4 H => RR (out0, out1, out2, x4) H) E H) (out0, out1, out2, x4) H
def policy_Routes.vc (l0 : Option Addr) (l1 : Nat) (l2 : Nat) (K : Option Addr → Nat → Nat → Heap → Prop) (E : Value → Heap → Prop) (h0 : Heap) : Prop :=
  policy_Check.c l0 l1 l2 (fun x0 h1 =>
  (if (x0 != 0) = true then
  K none 0 0 h1
  else
  newB (.cells #[(.int .i64 0), (.int .i64 4294967296)] 2) (fun b0 h2 =>
  policy_Routes.W1 l0 l1 l2 (some (⟨b0, 0, none⟩ : Addr)) 2 2 l0 l1 l2 (l1 : Int) 0 (fun bounds0 bounds1 bounds2 h3 =>
  slices_Sort___int64_int64_.c bounds0 bounds1 bounds2 (fun h4 =>
  slices_Compact___int64_int64_.c bounds0 bounds1 bounds2 (fun x1 x2 x3 h5 =>
  (0 : Int) ≤ (IntKind.i64.wrap ((x2 : Int) - 1)) ∧ (IntKind.i64.wrap ((x2 : Int) - 1)) ≤ (x3 : Int) ∧
  policy_Routes.W3 l0 l1 l2 x1 x2 x3 none 0 0 (slA x1 x3 0 1) (IntKind.i64.wrap ((x2 : Int) - 1)).toNat x3 ((IntKind.i64.wrap ((x2 : Int) - 1)).toNat : Int) 0 (fun out0 out1 out2 h6 =>
  (0 : Int) ≤ (if (16 : Int) < (out1 : Int) then 16 else (out1 : Int)) ∧ (if (16 : Int) < (out1 : Int) then 16 else (out1 : Int)) ≤ (out2 : Int) ∧
  K (slA out0 out2 0 3) (if (16 : Int) < (out1 : Int) then 16 else (out1 : Int)).toNat out2 h6) E h5) E h4) E h3) E h2) h1)) E h0
structure policy_Routes.c (l0 : Option Addr) (l1 : Nat) (l2 : Nat) (K : Option Addr → Nat → Nat → Heap → Prop) (E : Value → Heap → Prop) (H : Heap) : Prop where
  h : policy_Routes.vc l0 l1 l2 (fun r0_0 r0_1 r0_2 H => ∃ H', Heap.Le H' H ∧ K r0_0 r0_1 r0_2 H') E H
def policy_Routes.F : FT := fun args K E H => match args with
  | [(.slice l0 l1 l2)] => policy_Routes.c l0 l1 l2 (fun r0_0 r0_1 r0_2 H => K (.slice r0_0 r0_1 r0_2) H) E H
  | _ => False
noncomputable def policy_Routes.Γ : FuncId → Option FT := Γof [(15, policy_Check.F), (27, prefix_Ends.F), (28, slices_Sort___int64_int64_.F), (29, slices_Compact___int64_int64_.F), (30, policy_reached.F)]
theorem policy_Routes.hΓ : ∀ f F, policy_Routes.Γ f = some F → CalleeOk Try.prog f F := Γof_ok (List.forall_mem_cons.2 ⟨policy_Check.ok, List.forall_mem_cons.2 ⟨prefix_Ends.ok, List.forall_mem_cons.2 ⟨slices_Sort___int64_int64_.ok, List.forall_mem_cons.2 ⟨slices_Compact___int64_int64_.ok, List.forall_mem_cons.2 ⟨policy_reached.ok, fun _ h => nomatch h⟩⟩⟩⟩⟩)
def policy_Routes.J2.t : CT := fun Q E fr H => lenIs 100 fr (slSl fr 0 fun l0 l1 l2 => slSl fr 3 fun bounds0 bounds1 bounds2 => slSl fr 17 fun x0 x1 x2 => slI fr 18 .i64 fun x3 => slI fr 19 .i64 fun x4 => policy_Routes.J2 l0 l1 l2 bounds0 bounds1 bounds2 x0 x1 x2 x3 x4 (fun y19_0 H => Q .normal (mkF 100 [(0, (.slice l0 l1 l2)), (3, (.slice bounds0 bounds1 bounds2)), (17, (.slice x0 x1 x2)), (18, (.int .i64 x3)), (19, (.int .i64 y19_0))]) H) E H)
noncomputable def policy_Routes.J2.plan : Plan := .go
theorem policy_Routes.J2.pok : PlanOk Try.prog policy_Routes.J2.plan (sub [1, 1, 1, 0, 1, 0, 0, 1, 1, 1] policy_Routes.body) := by
  have e : PlanOk Try.prog policy_Routes.J2.plan (sub [1, 1, 1, 0, 1, 0, 0, 1, 1, 1] policy_Routes.body) = (True) := by kernel_rfl
  exact e.mpr trivial
theorem policy_Routes.J2.eq (l0 : Option Addr) (l1 : Nat) (l2 : Nat) (bounds0 : Option Addr) (bounds1 : Nat) (bounds2 : Nat) (x0 : Option Addr) (x1 : Nat) (x2 : Nat) (x3 : Int) (x4 : Int) (Q : Ex → Fr → Heap → Prop) (E : Value → Heap → Prop) (H : Heap) :
    policy_Routes.J2.vc l0 l1 l2 bounds0 bounds1 bounds2 x0 x1 x2 x3 x4 (fun y19_0 H => Q .normal (mkF 100 [(0, (.slice l0 l1 l2)), (3, (.slice bounds0 bounds1 bounds2)), (17, (.slice x0 x1 x2)), (18, (.int .i64 x3)), (19, (.int .i64 y19_0))]) H) E H = keepT [0, 3, 17, 18, 19] [] (fun i => []) (wC Try.prog policy_Routes.Γ policy_Routes.J2.plan (sub [1, 1, 1, 0, 1, 0, 0, 1, 1, 1] policy_Routes.body)) Q E (mkF 100 [(0, (.slice l0 l1 l2)), (3, (.slice bounds0 bounds1 bounds2)), (17, (.slice x0 x1 x2)), (18, (.int .i64 x3)), (19, (.int .i64 x4))]) H := by
  kernel_rfl
theorem policy_Routes.J2.ok : SoundCode Try.prog (sub [1, 1, 1, 0, 1, 0, 0, 1, 1, 1] policy_Routes.body) policy_Routes.J2.t := by
  refine piece_sound (keepT_sound [0, 3, 17, 18, 19] [] (fun i => []) (wC_sound policy_Routes.hΓ Try.hm policy_Routes.J2.plan _ policy_Routes.J2.pok)) ?_
  intro Q E fr H h
  unfold policy_Routes.J2.t at h
  obtain ⟨hl, h⟩ := lenIs_elim h
  obtain ⟨l0, l1, l2, q0, h⟩ := slSl_elim h
  obtain ⟨bounds0, bounds1, bounds2, q3, h⟩ := slSl_elim h
  obtain ⟨x0, x1, x2, q17, h⟩ := slSl_elim h
  obtain ⟨x3, q18, h⟩ := slI_elim h
  obtain ⟨x4, q19, h⟩ := slI_elim h
  refine ⟨(mkF 100 [(0, (.slice l0 l1 l2)), (3, (.slice bounds0 bounds1 bounds2)), (17, (.slice x0 x1 x2)), (18, (.int .i64 x3)), (19, (.int .i64 x4))]), fun a ha => ha.mk (Nat.le_of_eq hl.symm) (List.forall_mem_cons.2 ⟨q0, List.forall_mem_cons.2 ⟨q3, List.forall_mem_cons.2 ⟨q17, List.forall_mem_cons.2 ⟨q18, List.forall_mem_cons.2 ⟨q19, fun _ h => nomatch h⟩⟩⟩⟩⟩), ?_⟩
  have e := policy_Routes.J2.eq l0 l1 l2 bounds0 bounds1 bounds2 x0 x1 x2 x3 x4 Q E H
  rw [← e]
  exact h.h
def policy_Routes.W1.t : CT := fun Q E fr H => lenIs 100 fr (slSl fr 0 fun l0 l1 l2 => slSl fr 3 fun bounds0 bounds1 bounds2 => slSl fr 17 fun x0 x1 x2 => slI fr 18 .i64 fun x3 => slI fr 19 .i64 fun x4 => policy_Routes.W1 l0 l1 l2 bounds0 bounds1 bounds2 x0 x1 x2 x3 x4 (fun y3_0 y3_1 y3_2 H => Q (.exit 0) (mkF 100 [(0, (.slice l0 l1 l2)), (3, (.slice y3_0 y3_1 y3_2))]) H) E H)
noncomputable def policy_Routes.W1.plan : Plan := .seq (.go) (.seq (.go) (.seq (.go) (.use policy_Routes.J2.t)))
theorem policy_Routes.W1.pok : PlanOk Try.prog policy_Routes.W1.plan (sub [1, 1, 1, 0, 1, 0, 0] policy_Routes.body) := by
  have e : PlanOk Try.prog policy_Routes.W1.plan (sub [1, 1, 1, 0, 1, 0, 0] policy_Routes.body) = ((True) ∧ ((True) ∧ ((True) ∧ (SoundCode Try.prog (sub [1, 1, 1, 0, 1, 0, 0, 1, 1, 1] policy_Routes.body) policy_Routes.J2.t)))) := by kernel_rfl
  exact e.mpr ⟨trivial, ⟨trivial, ⟨trivial, policy_Routes.J2.ok⟩⟩⟩
theorem policy_Routes.W1.eq (l0 : Option Addr) (l1 : Nat) (l2 : Nat) (x0 : Option Addr) (x1 : Nat) (x2 : Nat) (x3 : Int) (Q : Ex → Fr → Heap → Prop) (E : Value → Heap → Prop) (RR : Fr → Heap → Prop) (s : Option Addr × Nat × Nat × Int) (H : Heap) :
    (fun (RR : Option Addr × Nat × Nat × Int → Heap → Prop) (s : Option Addr × Nat × Nat × Int) (H : Heap) => policy_Routes.W1.vc l0 l1 l2 s.1 s.2.1 s.2.2.1 x0 x1 x2 x3 s.2.2.2 (fun y3_0 y3_1 y3_2 H => Q (.exit 0) (mkF 100 [(0, (.slice l0 l1 l2)), (3, (.slice y3_0 y3_1 y3_2))]) H) (fun bounds0 bounds1 bounds2 x4 H => RR (bounds0, bounds1, bounds2, x4) H) E H) (fun s' H' => RR ((fun (s : Option Addr × Nat × Nat × Int) => (mkF 100 [(0, (.slice l0 l1 l2)), (3, (.slice s.1 s.2.1 s.2.2.1)), (17, (.slice x0 x1 x2)), (18, (.int .i64 x3)), (19, (.int .i64 s.2.2.2))])) s') H') s H = keepT [0, 3, 17, 18, 19] [] (fun i => if i = 0 then [0, 3] else []) (wC Try.prog policy_Routes.Γ policy_Routes.W1.plan (sub [1, 1, 1, 0, 1, 0, 0] policy_Routes.body)) (fun e fr' H' => match e with | .normal => RR fr' H' | .exit id => Q (.exit id) fr' H' | .ret => Q .ret fr' H') E ((fun (s : Option Addr × Nat × Nat × Int) => (mkF 100 [(0, (.slice l0 l1 l2)), (3, (.slice s.1 s.2.1 s.2.2.1)), (17, (.slice x0 x1 x2)), (18, (.int .i64 x3)), (19, (.int .i64 s.2.2.2))])) s) H := by
  kernel_rfl
theorem policy_Routes.W1.ok : SoundCode Try.prog (sub [1, 1, 1, 0, 1, 0] policy_Routes.body) policy_Routes.W1.t := by
  have e : (sub [1, 1, 1, 0, 1, 0] policy_Routes.body) = .loop (sub [1, 1, 1, 0, 1, 0, 0] policy_Routes.body) := by kernel_rfl
  rw [e]
  refine piece_sound (loopN_sound (keepT_sound [0, 3, 17, 18, 19] [] (fun i => if i = 0 then [0, 3] else []) (wC_sound policy_Routes.hΓ Try.hm policy_Routes.W1.plan _ policy_Routes.W1.pok))) ?_
  intro Q E fr H h
  unfold policy_Routes.W1.t at h
  obtain ⟨hl, h⟩ := lenIs_elim h
  obtain ⟨l0, l1, l2, q0, h⟩ := slSl_elim h
  obtain ⟨bounds0, bounds1, bounds2, q3, h⟩ := slSl_elim h
  obtain ⟨x0, x1, x2, q17, h⟩ := slSl_elim h
  obtain ⟨x3, q18, h⟩ := slI_elim h
  obtain ⟨x4, q19, h⟩ := slI_elim h
  obtain ⟨m, h⟩ := h.h
  refine ⟨(mkF 100 [(0, (.slice l0 l1 l2)), (3, (.slice bounds0 bounds1 bounds2)), (17, (.slice x0 x1 x2)), (18, (.int .i64 x3)), (19, (.int .i64 x4))]), fun a ha => ha.mk (Nat.le_of_eq hl.symm) (List.forall_mem_cons.2 ⟨q0, List.forall_mem_cons.2 ⟨q3, List.forall_mem_cons.2 ⟨q17, List.forall_mem_cons.2 ⟨q18, List.forall_mem_cons.2 ⟨q19, fun _ h => nomatch h⟩⟩⟩⟩⟩), m, ?_⟩
  have e := loopS_eq (B := (fun (RR : Option Addr × Nat × Nat × Int → Heap → Prop) (s : Option Addr × Nat × Nat × Int) (H : Heap) => policy_Routes.W1.vc l0 l1 l2 s.1 s.2.1 s.2.2.1 x0 x1 x2 x3 s.2.2.2 (fun y3_0 y3_1 y3_2 H => Q (.exit 0) (mkF 100 [(0, (.slice l0 l1 l2)), (3, (.slice y3_0 y3_1 y3_2))]) H) (fun bounds0 bounds1 bounds2 x4 H => RR (bounds0, bounds1, bounds2, x4) H) E H)) (A := keepT [0, 3, 17, 18, 19] [] (fun i => if i = 0 then [0, 3] else []) (wC Try.prog policy_Routes.Γ policy_Routes.W1.plan (sub [1, 1, 1, 0, 1, 0, 0] policy_Routes.body))) (m := (fun (s : Option Addr × Nat × Nat × Int) => (mkF 100 [(0, (.slice l0 l1 l2)), (3, (.slice s.1 s.2.1 s.2.2.1)), (17, (.slice x0 x1 x2)), (18, (.int .i64 x3)), (19, (.int .i64 s.2.2.2))]))) (Q := Q) (E := E) (fun RR s H => policy_Routes.W1.eq l0 l1 l2 x0 x1 x2 x3 Q E RR s H) m (bounds0, bounds1, bounds2, x4) H
  exact cast e h
def policy_Routes.J4.t : CT := fun Q E fr H => lenIs 100 fr (slSl fr 0 fun l0 l1 l2 => slSl fr 3 fun bounds0 bounds1 bounds2 => slSl fr 8 fun out0 out1 out2 => slSl fr 46 fun x0 x1 x2 => slI fr 47 .i64 fun x3 => slI fr 48 .i64 fun x4 => policy_Routes.J4 l0 l1 l2 bounds0 bounds1 bounds2 out0 out1 out2 x0 x1 x2 x3 x4 (fun y48_0 H => Q .normal (mkF 100 [(0, (.slice l0 l1 l2)), (3, (.slice bounds0 bounds1 bounds2)), (8, (.slice out0 out1 out2)), (46, (.slice x0 x1 x2)), (47, (.int .i64 x3)), (48, (.int .i64 y48_0))]) H) E H)
noncomputable def policy_Routes.J4.plan : Plan := .go
theorem policy_Routes.J4.pok : PlanOk Try.prog policy_Routes.J4.plan (sub [1, 1, 1, 1, 1, 1, 1, 0, 1, 0, 0, 1, 1, 1] policy_Routes.body) := by
  have e : PlanOk Try.prog policy_Routes.J4.plan (sub [1, 1, 1, 1, 1, 1, 1, 0, 1, 0, 0, 1, 1, 1] policy_Routes.body) = (True) := by kernel_rfl
  exact e.mpr trivial
theorem policy_Routes.J4.eq (l0 : Option Addr) (l1 : Nat) (l2 : Nat) (bounds0 : Option Addr) (bounds1 : Nat) (bounds2 : Nat) (out0 : Option Addr) (out1 : Nat) (out2 : Nat) (x0 : Option Addr) (x1 : Nat) (x2 : Nat) (x3 : Int) (x4 : Int) (Q : Ex → Fr → Heap → Prop) (E : Value → Heap → Prop) (H : Heap) :
    policy_Routes.J4.vc l0 l1 l2 bounds0 bounds1 bounds2 out0 out1 out2 x0 x1 x2 x3 x4 (fun y48_0 H => Q .normal (mkF 100 [(0, (.slice l0 l1 l2)), (3, (.slice bounds0 bounds1 bounds2)), (8, (.slice out0 out1 out2)), (46, (.slice x0 x1 x2)), (47, (.int .i64 x3)), (48, (.int .i64 y48_0))]) H) E H = keepT [0, 3, 8, 46, 47, 48] [] (fun i => []) (wC Try.prog policy_Routes.Γ policy_Routes.J4.plan (sub [1, 1, 1, 1, 1, 1, 1, 0, 1, 0, 0, 1, 1, 1] policy_Routes.body)) Q E (mkF 100 [(0, (.slice l0 l1 l2)), (3, (.slice bounds0 bounds1 bounds2)), (8, (.slice out0 out1 out2)), (46, (.slice x0 x1 x2)), (47, (.int .i64 x3)), (48, (.int .i64 x4))]) H := by
  kernel_rfl
theorem policy_Routes.J4.ok : SoundCode Try.prog (sub [1, 1, 1, 1, 1, 1, 1, 0, 1, 0, 0, 1, 1, 1] policy_Routes.body) policy_Routes.J4.t := by
  refine piece_sound (keepT_sound [0, 3, 8, 46, 47, 48] [] (fun i => []) (wC_sound policy_Routes.hΓ Try.hm policy_Routes.J4.plan _ policy_Routes.J4.pok)) ?_
  intro Q E fr H h
  unfold policy_Routes.J4.t at h
  obtain ⟨hl, h⟩ := lenIs_elim h
  obtain ⟨l0, l1, l2, q0, h⟩ := slSl_elim h
  obtain ⟨bounds0, bounds1, bounds2, q3, h⟩ := slSl_elim h
  obtain ⟨out0, out1, out2, q8, h⟩ := slSl_elim h
  obtain ⟨x0, x1, x2, q46, h⟩ := slSl_elim h
  obtain ⟨x3, q47, h⟩ := slI_elim h
  obtain ⟨x4, q48, h⟩ := slI_elim h
  refine ⟨(mkF 100 [(0, (.slice l0 l1 l2)), (3, (.slice bounds0 bounds1 bounds2)), (8, (.slice out0 out1 out2)), (46, (.slice x0 x1 x2)), (47, (.int .i64 x3)), (48, (.int .i64 x4))]), fun a ha => ha.mk (Nat.le_of_eq hl.symm) (List.forall_mem_cons.2 ⟨q0, List.forall_mem_cons.2 ⟨q3, List.forall_mem_cons.2 ⟨q8, List.forall_mem_cons.2 ⟨q46, List.forall_mem_cons.2 ⟨q47, List.forall_mem_cons.2 ⟨q48, fun _ h => nomatch h⟩⟩⟩⟩⟩⟩), ?_⟩
  have e := policy_Routes.J4.eq l0 l1 l2 bounds0 bounds1 bounds2 out0 out1 out2 x0 x1 x2 x3 x4 Q E H
  rw [← e]
  exact h.h
def policy_Routes.J5.t : CT := fun Q E fr H => lenIs 100 fr (slSl fr 0 fun l0 l1 l2 => slSl fr 3 fun bounds0 bounds1 bounds2 => slSl fr 8 fun out0 out1 out2 => slI fr 10 .i64 fun low0 => slI fr 11 .u32 fun high0 => slI fr 12 .i64 fun n0 => slSl fr 46 fun x0 x1 x2 => slI fr 47 .i64 fun x3 => slI fr 48 .i64 fun x4 => slB fr 80 fun x5 => policy_Routes.J5 l0 l1 l2 bounds0 bounds1 bounds2 out0 out1 out2 low0 high0 n0 x0 x1 x2 x3 x4 x5 (fun y8_0 y8_1 y8_2 H => Q .normal (mkF 100 [(0, (.slice l0 l1 l2)), (3, (.slice bounds0 bounds1 bounds2)), (8, (.slice y8_0 y8_1 y8_2)), (46, (.slice x0 x1 x2)), (47, (.int .i64 x3)), (48, (.int .i64 x4))]) H) E H)
noncomputable def policy_Routes.J5.plan : Plan := .go
theorem policy_Routes.J5.pok : PlanOk Try.prog policy_Routes.J5.plan (sub [1, 1, 1, 1, 1, 1, 1, 0, 1, 0, 0, 1, 1, 0, 0, 1, 1, 1, 1, 1] policy_Routes.body) := by
  have e : PlanOk Try.prog policy_Routes.J5.plan (sub [1, 1, 1, 1, 1, 1, 1, 0, 1, 0, 0, 1, 1, 0, 0, 1, 1, 1, 1, 1] policy_Routes.body) = (True) := by kernel_rfl
  exact e.mpr trivial
theorem policy_Routes.J5.eq (l0 : Option Addr) (l1 : Nat) (l2 : Nat) (bounds0 : Option Addr) (bounds1 : Nat) (bounds2 : Nat) (out0 : Option Addr) (out1 : Nat) (out2 : Nat) (low0 : Int) (high0 : Int) (n0 : Int) (x0 : Option Addr) (x1 : Nat) (x2 : Nat) (x3 : Int) (x4 : Int) (x5 : Bool) (Q : Ex → Fr → Heap → Prop) (E : Value → Heap → Prop) (H : Heap) :
    policy_Routes.J5.vc l0 l1 l2 bounds0 bounds1 bounds2 out0 out1 out2 low0 high0 n0 x0 x1 x2 x3 x4 x5 (fun y8_0 y8_1 y8_2 H => Q .normal (mkF 100 [(0, (.slice l0 l1 l2)), (3, (.slice bounds0 bounds1 bounds2)), (8, (.slice y8_0 y8_1 y8_2)), (46, (.slice x0 x1 x2)), (47, (.int .i64 x3)), (48, (.int .i64 x4))]) H) E H = keepT [0, 3, 8, 46, 47, 48] [] (fun i => []) (wC Try.prog policy_Routes.Γ policy_Routes.J5.plan (sub [1, 1, 1, 1, 1, 1, 1, 0, 1, 0, 0, 1, 1, 0, 0, 1, 1, 1, 1, 1] policy_Routes.body)) Q E (mkF 100 [(0, (.slice l0 l1 l2)), (3, (.slice bounds0 bounds1 bounds2)), (8, (.slice out0 out1 out2)), (10, (.int .i64 low0)), (11, (.int .u32 high0)), (12, (.int .i64 n0)), (46, (.slice x0 x1 x2)), (47, (.int .i64 x3)), (48, (.int .i64 x4)), (80, (.bool x5))]) H := by
  kernel_rfl
theorem policy_Routes.J5.ok : SoundCode Try.prog (sub [1, 1, 1, 1, 1, 1, 1, 0, 1, 0, 0, 1, 1, 0, 0, 1, 1, 1, 1, 1] policy_Routes.body) policy_Routes.J5.t := by
  refine piece_sound (keepT_sound [0, 3, 8, 46, 47, 48] [] (fun i => []) (wC_sound policy_Routes.hΓ Try.hm policy_Routes.J5.plan _ policy_Routes.J5.pok)) ?_
  intro Q E fr H h
  unfold policy_Routes.J5.t at h
  obtain ⟨hl, h⟩ := lenIs_elim h
  obtain ⟨l0, l1, l2, q0, h⟩ := slSl_elim h
  obtain ⟨bounds0, bounds1, bounds2, q3, h⟩ := slSl_elim h
  obtain ⟨out0, out1, out2, q8, h⟩ := slSl_elim h
  obtain ⟨low0, q10, h⟩ := slI_elim h
  obtain ⟨high0, q11, h⟩ := slI_elim h
  obtain ⟨n0, q12, h⟩ := slI_elim h
  obtain ⟨x0, x1, x2, q46, h⟩ := slSl_elim h
  obtain ⟨x3, q47, h⟩ := slI_elim h
  obtain ⟨x4, q48, h⟩ := slI_elim h
  obtain ⟨x5, q80, h⟩ := slB_elim h
  refine ⟨(mkF 100 [(0, (.slice l0 l1 l2)), (3, (.slice bounds0 bounds1 bounds2)), (8, (.slice out0 out1 out2)), (10, (.int .i64 low0)), (11, (.int .u32 high0)), (12, (.int .i64 n0)), (46, (.slice x0 x1 x2)), (47, (.int .i64 x3)), (48, (.int .i64 x4)), (80, (.bool x5))]), fun a ha => ha.mk (Nat.le_of_eq hl.symm) (List.forall_mem_cons.2 ⟨q0, List.forall_mem_cons.2 ⟨q3, List.forall_mem_cons.2 ⟨q8, List.forall_mem_cons.2 ⟨q10, List.forall_mem_cons.2 ⟨q11, List.forall_mem_cons.2 ⟨q12, List.forall_mem_cons.2 ⟨q46, List.forall_mem_cons.2 ⟨q47, List.forall_mem_cons.2 ⟨q48, List.forall_mem_cons.2 ⟨q80, fun _ h => nomatch h⟩⟩⟩⟩⟩⟩⟩⟩⟩⟩), ?_⟩
  have e := policy_Routes.J5.eq l0 l1 l2 bounds0 bounds1 bounds2 out0 out1 out2 low0 high0 n0 x0 x1 x2 x3 x4 x5 Q E H
  rw [← e]
  exact h.h
def policy_Routes.W3.t : CT := fun Q E fr H => lenIs 100 fr (slSl fr 0 fun l0 l1 l2 => slSl fr 3 fun bounds0 bounds1 bounds2 => slSl fr 8 fun out0 out1 out2 => slSl fr 46 fun x0 x1 x2 => slI fr 47 .i64 fun x3 => slI fr 48 .i64 fun x4 => policy_Routes.W3 l0 l1 l2 bounds0 bounds1 bounds2 out0 out1 out2 x0 x1 x2 x3 x4 (fun y8_0 y8_1 y8_2 H => Q (.exit 2) (mkF 100 [(8, (.slice y8_0 y8_1 y8_2))]) H) E H)
noncomputable def policy_Routes.W3.plan : Plan := .seq (.go) (.seq (.go) (.seq (.block (.seq (.go) (.seq (.go) (.seq (.go) (.seq (.go) (.seq (.go) (.use policy_Routes.J5.t))))))) (.use policy_Routes.J4.t)))
theorem policy_Routes.W3.pok : PlanOk Try.prog policy_Routes.W3.plan (sub [1, 1, 1, 1, 1, 1, 1, 0, 1, 0, 0] policy_Routes.body) := by
  have e : PlanOk Try.prog policy_Routes.W3.plan (sub [1, 1, 1, 1, 1, 1, 1, 0, 1, 0, 0] policy_Routes.body) = ((True) ∧ ((True) ∧ (((True) ∧ ((True) ∧ ((True) ∧ ((True) ∧ ((True) ∧ (SoundCode Try.prog (sub [1, 1, 1, 1, 1, 1, 1, 0, 1, 0, 0, 1, 1, 0, 0, 1, 1, 1, 1, 1] policy_Routes.body) policy_Routes.J5.t)))))) ∧ (SoundCode Try.prog (sub [1, 1, 1, 1, 1, 1, 1, 0, 1, 0, 0, 1, 1, 1] policy_Routes.body) policy_Routes.J4.t)))) := by kernel_rfl
  exact e.mpr ⟨trivial, ⟨trivial, ⟨⟨trivial, ⟨trivial, ⟨trivial, ⟨trivial, ⟨trivial, policy_Routes.J5.ok⟩⟩⟩⟩⟩, policy_Routes.J4.ok⟩⟩⟩
theorem policy_Routes.W3.eq (l0 : Option Addr) (l1 : Nat) (l2 : Nat) (bounds0 : Option Addr) (bounds1 : Nat) (bounds2 : Nat) (x0 : Option Addr) (x1 : Nat) (x2 : Nat) (x3 : Int) (Q : Ex → Fr → Heap → Prop) (E : Value → Heap → Prop) (RR : Fr → Heap → Prop) (s : Option Addr × Nat × Nat × Int) (H : Heap) :
    (fun (RR : Option Addr × Nat × Nat × Int → Heap → Prop) (s : Option Addr × Nat × Nat × Int) (H : Heap) => policy_Routes.W3.vc l0 l1 l2 bounds0 bounds1 bounds2 s.1 s.2.1 s.2.2.1 x0 x1 x2 x3 s.2.2.2 (fun y8_0 y8_1 y8_2 H => Q (.exit 2) (mkF 100 [(8, (.slice y8_0 y8_1 y8_2))]) H) (fun out0 out1 out2 x4 H => RR (out0, out1, out2, x4) H) E H) (fun s' H' => RR ((fun (s : Option Addr × Nat × Nat × Int) => (mkF 100 [(0, (.slice l0 l1 l2)), (3, (.slice bounds0 bounds1 bounds2)), (8, (.slice s.1 s.2.1 s.2.2.1)), (46, (.slice x0 x1 x2)), (47, (.int .i64 x3)), (48, (.int .i64 s.2.2.2))])) s') H') s H = keepT [0, 3, 8, 46, 47, 48] [] (fun i => if i = 2 then [8] else []) (wC Try.prog policy_Routes.Γ policy_Routes.W3.plan (sub [1, 1, 1, 1, 1, 1, 1, 0, 1, 0, 0] policy_Routes.body)) (fun e fr' H' => match e with | .normal => RR fr' H' | .exit id => Q (.exit id) fr' H' | .ret => Q .ret fr' H') E ((fun (s : Option Addr × Nat × Nat × Int) => (mkF 100 [(0, (.slice l0 l1 l2)), (3, (.slice bounds0 bounds1 bounds2)), (8, (.slice s.1 s.2.1 s.2.2.1)), (46, (.slice x0 x1 x2)), (47, (.int .i64 x3)), (48, (.int .i64 s.2.2.2))])) s) H := by
  kernel_rfl
theorem policy_Routes.W3.ok : SoundCode Try.prog (sub [1, 1, 1, 1, 1, 1, 1, 0, 1, 0] policy_Routes.body) policy_Routes.W3.t := by
  have e : (sub [1, 1, 1, 1, 1, 1, 1, 0, 1, 0] policy_Routes.body) = .loop (sub [1, 1, 1, 1, 1, 1, 1, 0, 1, 0, 0] policy_Routes.body) := by kernel_rfl
  rw [e]
  refine piece_sound (loopN_sound (keepT_sound [0, 3, 8, 46, 47, 48] [] (fun i => if i = 2 then [8] else []) (wC_sound policy_Routes.hΓ Try.hm policy_Routes.W3.plan _ policy_Routes.W3.pok))) ?_
  intro Q E fr H h
  unfold policy_Routes.W3.t at h
  obtain ⟨hl, h⟩ := lenIs_elim h
  obtain ⟨l0, l1, l2, q0, h⟩ := slSl_elim h
  obtain ⟨bounds0, bounds1, bounds2, q3, h⟩ := slSl_elim h
  obtain ⟨out0, out1, out2, q8, h⟩ := slSl_elim h
  obtain ⟨x0, x1, x2, q46, h⟩ := slSl_elim h
  obtain ⟨x3, q47, h⟩ := slI_elim h
  obtain ⟨x4, q48, h⟩ := slI_elim h
  obtain ⟨m, h⟩ := h.h
  refine ⟨(mkF 100 [(0, (.slice l0 l1 l2)), (3, (.slice bounds0 bounds1 bounds2)), (8, (.slice out0 out1 out2)), (46, (.slice x0 x1 x2)), (47, (.int .i64 x3)), (48, (.int .i64 x4))]), fun a ha => ha.mk (Nat.le_of_eq hl.symm) (List.forall_mem_cons.2 ⟨q0, List.forall_mem_cons.2 ⟨q3, List.forall_mem_cons.2 ⟨q8, List.forall_mem_cons.2 ⟨q46, List.forall_mem_cons.2 ⟨q47, List.forall_mem_cons.2 ⟨q48, fun _ h => nomatch h⟩⟩⟩⟩⟩⟩), m, ?_⟩
  have e := loopS_eq (B := (fun (RR : Option Addr × Nat × Nat × Int → Heap → Prop) (s : Option Addr × Nat × Nat × Int) (H : Heap) => policy_Routes.W3.vc l0 l1 l2 bounds0 bounds1 bounds2 s.1 s.2.1 s.2.2.1 x0 x1 x2 x3 s.2.2.2 (fun y8_0 y8_1 y8_2 H => Q (.exit 2) (mkF 100 [(8, (.slice y8_0 y8_1 y8_2))]) H) (fun out0 out1 out2 x4 H => RR (out0, out1, out2, x4) H) E H)) (A := keepT [0, 3, 8, 46, 47, 48] [] (fun i => if i = 2 then [8] else []) (wC Try.prog policy_Routes.Γ policy_Routes.W3.plan (sub [1, 1, 1, 1, 1, 1, 1, 0, 1, 0, 0] policy_Routes.body))) (m := (fun (s : Option Addr × Nat × Nat × Int) => (mkF 100 [(0, (.slice l0 l1 l2)), (3, (.slice bounds0 bounds1 bounds2)), (8, (.slice s.1 s.2.1 s.2.2.1)), (46, (.slice x0 x1 x2)), (47, (.int .i64 x3)), (48, (.int .i64 s.2.2.2))]))) (Q := Q) (E := E) (fun RR s H => policy_Routes.W3.eq l0 l1 l2 bounds0 bounds1 bounds2 x0 x1 x2 x3 Q E RR s H) m (out0, out1, out2, x4) H
  exact cast e h
noncomputable def policy_Routes.plan : Plan := .seq (.go) (.seq (.go) (.seq (.go) (.seq (.seq (.go) (.block (.use policy_Routes.W1.t))) (.seq (.go) (.seq (.go) (.seq (.go) (.seq (.seq (.go) (.block (.use policy_Routes.W3.t))) (.go))))))))
theorem policy_Routes.pok : PlanOk Try.prog policy_Routes.plan policy_Routes.body := by
  have e : PlanOk Try.prog policy_Routes.plan policy_Routes.body = ((True) ∧ ((True) ∧ ((True) ∧ (((True) ∧ (SoundCode Try.prog (sub [1, 1, 1, 0, 1, 0] policy_Routes.body) policy_Routes.W1.t)) ∧ ((True) ∧ ((True) ∧ ((True) ∧ (((True) ∧ (SoundCode Try.prog (sub [1, 1, 1, 1, 1, 1, 1, 0, 1, 0] policy_Routes.body) policy_Routes.W3.t)) ∧ (True))))))))) := by kernel_rfl
  exact e.mpr ⟨trivial, ⟨trivial, ⟨trivial, ⟨⟨trivial, policy_Routes.W1.ok⟩, ⟨trivial, ⟨trivial, ⟨trivial, ⟨⟨trivial, policy_Routes.W3.ok⟩, trivial⟩⟩⟩⟩⟩⟩⟩⟩
theorem policy_Routes.eq (l0 : Option Addr) (l1 : Nat) (l2 : Nat) (K : Value → Heap → Prop) (E : Value → Heap → Prop) (H : Heap) :
    fnT Try.prog Try.f10 (wC Try.prog policy_Routes.Γ policy_Routes.plan policy_Routes.body) [(.slice l0 l1 l2)] K E H = policy_Routes.vc l0 l1 l2 (fun r0_0 r0_1 r0_2 H => K (.slice r0_0 r0_1 r0_2) H) E H := by
  kernel_rfl
theorem policy_Routes.Fe {args : List Value} {K E : Value → Heap → Prop} {H : Heap} (h : policy_Routes.F args K E H) : ∃ l0 l1 l2, args = [(.slice l0 l1 l2)] ∧ policy_Routes.c l0 l1 l2 (fun r0_0 r0_1 r0_2 H => K (.slice r0_0 r0_1 r0_2) H) E H := by
  unfold policy_Routes.F at h
  split at h
  · exact ⟨_, _, _, rfl, h⟩
  · exact h.elim
theorem policy_Routes.ok : CalleeOk Try.prog 10 policy_Routes.F :=
  callee_ok policy_Routes.hΓ (fn := Try.f10) (c := policy_Routes.body) (T := wC Try.prog policy_Routes.Γ policy_Routes.plan policy_Routes.body) (by kernel_rfl) (by kernel_rfl) (by kernel_rfl) (wC_sound policy_Routes.hΓ Try.hm policy_Routes.plan _ policy_Routes.pok) fun _ K E H h => by
    obtain ⟨z0, z1, z2, e, h⟩ := policy_Routes.Fe h
    subst e
    have h2 : policy_Routes.vc z0 z1 z2 (fun r0_0 r0_1 r0_2 H => ∃ H', Heap.Le H' H ∧ K (.slice r0_0 r0_1 r0_2) H') E H := h.h
    rw [policy_Routes.eq z0 z1 z2 (Fg K) E H]
    exact h2
end Go.Sh
