/- PRINTED by a program (sh.py): what the walk over each function asks, and that it asks just that. -/
import Derived.Test.YtennpdminebahaaGpb
namespace Go.Sh
open Go.Proofs
set_option linter.unusedVariables false
set_option maxRecDepth 8000
/-! vizard/policy.Allow -/
noncomputable def policy_Allow.body : Code := Try.f14.body.getD .skip
def policy_Allow.vc (l0 : Option Addr) (l1 : Nat) (l2 : Nat) (proto0 : Int) (dst0 : Int) (port0 : Int) (K : Bool → Heap → Prop) (E : Value → Heap → Prop) (h0 : Heap) : Prop :=
  policy_Check.c l0 l1 l2 (fun x0 h1 =>
  (if (x0 == 0) = true then
  policy_allow.c l0 l1 l2 proto0 dst0 port0 K E h1
  else
  K false h1)) E h0
structure policy_Allow.c (l0 : Option Addr) (l1 : Nat) (l2 : Nat) (proto0 : Int) (dst0 : Int) (port0 : Int) (K : Bool → Heap → Prop) (E : Value → Heap → Prop) (H : Heap) : Prop where
  h : policy_Allow.vc l0 l1 l2 proto0 dst0 port0 (fun r0_0 H => ∃ H', Heap.Le H' H ∧ K r0_0 H') E H
def policy_Allow.F : FT := fun args K E H => match args with
  | [(.slice l0 l1 l2), (.int .i64 proto0), (.int .u32 dst0), (.int .i64 port0)] => policy_Allow.c l0 l1 l2 proto0 dst0 port0 (fun r0_0 H => K (.bool r0_0) H) E H
  | _ => False
noncomputable def policy_Allow.Γ : FuncId → Option FT := Γof [(15, policy_Check.F), (34, policy_allow.F)]
theorem policy_Allow.hΓ : ∀ f F, policy_Allow.Γ f = some F → CalleeOk Try.prog f F := Γof_ok (List.forall_mem_cons.2 ⟨policy_Check.ok, List.forall_mem_cons.2 ⟨policy_allow.ok, fun _ h => nomatch h⟩⟩)
noncomputable def policy_Allow.plan : Plan := .go
theorem policy_Allow.pok : PlanOk Try.prog policy_Allow.plan policy_Allow.body := by
  have e : PlanOk Try.prog policy_Allow.plan policy_Allow.body = (True) := by kernel_rfl
  exact e.mpr trivial
theorem policy_Allow.eq (l0 : Option Addr) (l1 : Nat) (l2 : Nat) (proto0 : Int) (dst0 : Int) (port0 : Int) (K : Value → Heap → Prop) (E : Value → Heap → Prop) (H : Heap) :
    fnT Try.prog Try.f14 (wC Try.prog policy_Allow.Γ policy_Allow.plan policy_Allow.body) [(.slice l0 l1 l2), (.int .i64 proto0), (.int .u32 dst0), (.int .i64 port0)] K E H = policy_Allow.vc l0 l1 l2 proto0 dst0 port0 (fun r0_0 H => K (.bool r0_0) H) E H := by
  kernel_rfl
theorem policy_Allow.Fe {args : List Value} {K E : Value → Heap → Prop} {H : Heap} (h : policy_Allow.F args K E H) : ∃ l0 l1 l2 proto0 dst0 port0, args = [(.slice l0 l1 l2), (.int .i64 proto0), (.int .u32 dst0), (.int .i64 port0)] ∧ policy_Allow.c l0 l1 l2 proto0 dst0 port0 (fun r0_0 H => K (.bool r0_0) H) E H := by
  unfold policy_Allow.F at h
  split at h
  · exact ⟨_, _, _, _, _, _, rfl, h⟩
  · exact h.elim
theorem policy_Allow.ok : CalleeOk Try.prog 14 policy_Allow.F :=
  callee_ok policy_Allow.hΓ (fn := Try.f14) (c := policy_Allow.body) (T := wC Try.prog policy_Allow.Γ policy_Allow.plan policy_Allow.body) (by kernel_rfl) (by kernel_rfl) (by kernel_rfl) (wC_sound policy_Allow.hΓ Try.hm policy_Allow.plan _ policy_Allow.pok) fun _ K E H h => by
    obtain ⟨z0, z1, z2, z3, z4, z5, e, h⟩ := policy_Allow.Fe h
    subst e
    have h2 : policy_Allow.vc z0 z1 z2 z3 z4 z5 (fun r0_0 H => ∃ H', Heap.Le H' H ∧ K (.bool r0_0) H') E H := h.h
    rw [policy_Allow.eq z0 z1 z2 z3 z4 z5 (Fg K) E H]
    exact h2

/-! vizard/vizardlaw18.works -/
noncomputable def vizardlaw18_works.body : Code := Try.f13.body.getD .skip
def vizardlaw18_works.vc (K : Bool → Heap → Prop) (E : Value → Heap → Prop) (h0 : Heap) : Prop :=
  newB (.cells #[(.bool false), (.int .i64 0), (.int .u32 167772161), (.int .i64 32), (.int .i64 0), (.int .i64 65535), (.bool true), (.int .i64 17), (.int .u32 167772160), (.int .i64 30), (.int .i64 53), (.int .i64 53)] 40) (fun b0 h1 =>
  policy_Allow.c (some (⟨b0, 0, none⟩ : Addr)) 2 2 17 167772162 53 (fun x0 h2 =>
  (if x0 = true then
  policy_Allow.c (some (⟨b0, 0, none⟩ : Addr)) 2 2 17 167772161 53 (fun x1 h3 =>
  (if (!x1) = true then
  policy_Allow.c (some (⟨b0, 0, none⟩ : Addr)) 2 2 6 167772162 53 (fun x2 h4 =>
  (if (!x2) = true then
  policy_Routes.c (some (⟨b0, 0, none⟩ : Addr)) 2 2 (fun x3 x4 x5 h5 =>
  K ((x4 : Int) == 2) h5) E h4
  else
  K false h4)) E h3
  else
  K false h3)) E h2
  else
  K false h2)) E h1) h0
structure vizardlaw18_works.c (K : Bool → Heap → Prop) (E : Value → Heap → Prop) (H : Heap) : Prop where
  h : vizardlaw18_works.vc  (fun r0_0 H => ∃ H', Heap.Le H' H ∧ K r0_0 H') E H
def vizardlaw18_works.F : FT := fun args K E H => match args with
  | [] => vizardlaw18_works.c  (fun r0_0 H => K (.bool r0_0) H) E H
  | _ => False
noncomputable def vizardlaw18_works.Γ : FuncId → Option FT := Γof [(10, policy_Routes.F), (14, policy_Allow.F)]
theorem vizardlaw18_works.hΓ : ∀ f F, vizardlaw18_works.Γ f = some F → CalleeOk Try.prog f F := Γof_ok (List.forall_mem_cons.2 ⟨policy_Routes.ok, List.forall_mem_cons.2 ⟨policy_Allow.ok, fun _ h => nomatch h⟩⟩)
noncomputable def vizardlaw18_works.plan : Plan := .go
theorem vizardlaw18_works.pok : PlanOk Try.prog vizardlaw18_works.plan vizardlaw18_works.body := by
  have e : PlanOk Try.prog vizardlaw18_works.plan vizardlaw18_works.body = (True) := by kernel_rfl
  exact e.mpr trivial
theorem vizardlaw18_works.eq (K : Value → Heap → Prop) (E : Value → Heap → Prop) (H : Heap) :
    fnT Try.prog Try.f13 (wC Try.prog vizardlaw18_works.Γ vizardlaw18_works.plan vizardlaw18_works.body) [] K E H = vizardlaw18_works.vc  (fun r0_0 H => K (.bool r0_0) H) E H := by
  kernel_rfl
theorem vizardlaw18_works.Fe {args : List Value} {K E : Value → Heap → Prop} {H : Heap} (h : vizardlaw18_works.F args K E H) : args = [] ∧ vizardlaw18_works.c  (fun r0_0 H => K (.bool r0_0) H) E H := by
  unfold vizardlaw18_works.F at h
  split at h
  · exact ⟨rfl, h⟩
  · exact h.elim
theorem vizardlaw18_works.ok : CalleeOk Try.prog 13 vizardlaw18_works.F :=
  callee_ok vizardlaw18_works.hΓ (fn := Try.f13) (c := vizardlaw18_works.body) (T := wC Try.prog vizardlaw18_works.Γ vizardlaw18_works.plan vizardlaw18_works.body) (by kernel_rfl) (by kernel_rfl) (by kernel_rfl) (wC_sound vizardlaw18_works.hΓ Try.hm vizardlaw18_works.plan _ vizardlaw18_works.pok) fun _ K E H h => by
    obtain ⟨e, h⟩ := vizardlaw18_works.Fe h
    subst e
    have h2 : vizardlaw18_works.vc (fun r0_0 H => ∃ H', Heap.Le H' H ∧ K (.bool r0_0) H') E H := h.h
    rw [vizardlaw18_works.eq (Fg K) E H]
    exact h2

/-! vizard/vizardlaw18.PolicyCovers -/
noncomputable def vizardlaw18_PolicyCovers.body : Code := Try.f4.body.getD .skip
def vizardlaw18_PolicyCovers.J2.vc (l0 : Option Addr) (l1 : Nat) (l2 : Nat) (proto0 : Int) (dst0 : Int) (port0 : Int) (r0 : Option Addr) (r1 : Nat) (r2 : Nat) (in0 : Bool) (i0 : Int) (x0 : Bool) (Kn : Heap → Prop) (Kr : Bool → Heap → Prop) (E : Value → Heap → Prop) (h0 : Heap) : Prop :=
  (if x0 = true then
  Kr false h0
  else
  Kn h0)
structure vizardlaw18_PolicyCovers.J2 (l0 : Option Addr) (l1 : Nat) (l2 : Nat) (proto0 : Int) (dst0 : Int) (port0 : Int) (r0 : Option Addr) (r1 : Nat) (r2 : Nat) (in0 : Bool) (i0 : Int) (x0 : Bool) (Kn : Heap → Prop) (Kr : Bool → Heap → Prop) (E : Value → Heap → Prop) (H : Heap) : Prop where
  h : vizardlaw18_PolicyCovers.J2.vc l0 l1 l2 proto0 dst0 port0 r0 r1 r2 in0 i0 x0 Kn Kr E H
def vizardlaw18_PolicyCovers.J3.vc (l0 : Option Addr) (l1 : Nat) (l2 : Nat) (proto0 : Int) (dst0 : Int) (port0 : Int) (r0 : Option Addr) (r1 : Nat) (r2 : Nat) (in0 : Bool) (i0 : Int) (Kn : Bool → Heap → Prop) (E : Value → Heap → Prop) (h0 : Heap) : Prop :=
  (if in0 = true then
  Kn true h0
  else
  nilc r0 fun a0 => (0 : Int) ≤ i0 ∧ i0 < (r1 : Int) ∧
  ldI h0 .u32 ((a0.add (i0.toNat * 3)).add 0) fun x0 =>
  (if (decide (dst0 ≥ x0)) = true then
  nilc r0 fun a1 => (0 : Int) ≤ i0 ∧ i0 < (r1 : Int) ∧
  ldI h0 .u32 ((a1.add (i0.toNat * 3)).add 1) fun x1 =>
  Kn (decide (dst0 ≤ x1)) h0
  else
  Kn false h0))
structure vizardlaw18_PolicyCovers.J3 (l0 : Option Addr) (l1 : Nat) (l2 : Nat) (proto0 : Int) (dst0 : Int) (port0 : Int) (r0 : Option Addr) (r1 : Nat) (r2 : Nat) (in0 : Bool) (i0 : Int) (Kn : Bool → Heap → Prop) (E : Value → Heap → Prop) (H : Heap) : Prop where
  h : vizardlaw18_PolicyCovers.J3.vc l0 l1 l2 proto0 dst0 port0 r0 r1 r2 in0 i0 Kn E H
def vizardlaw18_PolicyCovers.J4.vc (l0 : Option Addr) (l1 : Nat) (l2 : Nat) (proto0 : Int) (dst0 : Int) (port0 : Int) (r0 : Option Addr) (r1 : Nat) (r2 : Nat) (in0 : Bool) (i0 : Int) (Kn : Int → Heap → Prop) (E : Value → Heap → Prop) (h0 : Heap) : Prop :=
  Kn (IntKind.i64.wrap (i0 + 1)) h0
structure vizardlaw18_PolicyCovers.J4 (l0 : Option Addr) (l1 : Nat) (l2 : Nat) (proto0 : Int) (dst0 : Int) (port0 : Int) (r0 : Option Addr) (r1 : Nat) (r2 : Nat) (in0 : Bool) (i0 : Int) (Kn : Int → Heap → Prop) (E : Value → Heap → Prop) (H : Heap) : Prop where
  h : vizardlaw18_PolicyCovers.J4.vc l0 l1 l2 proto0 dst0 port0 r0 r1 r2 in0 i0 Kn E H
def vizardlaw18_PolicyCovers.W1.vc (l0 : Option Addr) (l1 : Nat) (l2 : Nat) (proto0 : Int) (dst0 : Int) (port0 : Int) (r0 : Option Addr) (r1 : Nat) (r2 : Nat) (in0 : Bool) (i0 : Int) (Kx0 : Bool → Heap → Prop) (Kr : Bool → Heap → Prop) (RR : Bool → Int → Heap → Prop) (E : Value → Heap → Prop) (h0 : Heap) : Prop :=
  (if (decide (i0 < (r1 : Int))) = true then
  nilc r0 fun a0 => (0 : Int) ≤ i0 ∧ i0 < (r1 : Int) ∧
  ldI h0 .u32 ((a0.add (i0.toNat * 3)).add 0) fun x0 =>
  nilc r0 fun a1 => (0 : Int) ≤ i0 ∧ i0 < (r1 : Int) ∧
  ldI h0 .u32 ((a1.add (i0.toNat * 3)).add 1) fun x1 =>
  (if (decide (x0 > x1)) = true then
  vizardlaw18_PolicyCovers.J2 l0 l1 l2 proto0 dst0 port0 r0 r1 r2 in0 i0 true (fun h1 =>
  vizardlaw18_PolicyCovers.J3 l0 l1 l2 proto0 dst0 port0 r0 r1 r2 in0 i0 (fun in1 h2 =>
  vizardlaw18_PolicyCovers.J4 l0 l1 l2 proto0 dst0 port0 r0 r1 r2 in1 i0 (fun i1 h3 =>
  RR in1 i1 h3) E h2) E h1) Kr E h0
  else
  (if (decide (i0 > 0)) = true then
  nilc r0 fun a2 => (0 : Int) ≤ i0 ∧ i0 < (r1 : Int) ∧
  ldI h0 .u32 ((a2.add (i0.toNat * 3)).add 0) fun x3 =>
  nilc r0 fun a3 => (0 : Int) ≤ (IntKind.i64.wrap (i0 - 1)) ∧ (IntKind.i64.wrap (i0 - 1)) < (r1 : Int) ∧
  ldI h0 .u32 ((a3.add ((IntKind.i64.wrap (i0 - 1)).toNat * 3)).add 1) fun x4 =>
  (if (decide ((IntKind.i64.wrap x3) ≤ (IntKind.i64.wrap ((IntKind.i64.wrap x4) + 1)))) = true then
  vizardlaw18_PolicyCovers.J2 l0 l1 l2 proto0 dst0 port0 r0 r1 r2 in0 i0 true (fun h5 =>
  vizardlaw18_PolicyCovers.J3 l0 l1 l2 proto0 dst0 port0 r0 r1 r2 in0 i0 (fun in2 h6 =>
  vizardlaw18_PolicyCovers.J4 l0 l1 l2 proto0 dst0 port0 r0 r1 r2 in2 i0 (fun i2 h7 =>
  RR in2 i2 h7) E h6) E h5) Kr E h0
  else
  nilc r0 fun a4 => (0 : Int) ≤ i0 ∧ i0 < (r1 : Int) ∧
  ldI h0 .i64 ((a4.add (i0.toNat * 3)).add 2) fun x6 =>
  vizardlaw18_PolicyCovers.J2 l0 l1 l2 proto0 dst0 port0 r0 r1 r2 in0 i0 (x6 != 0) (fun h9 =>
  vizardlaw18_PolicyCovers.J3 l0 l1 l2 proto0 dst0 port0 r0 r1 r2 in0 i0 (fun in3 h10 =>
  vizardlaw18_PolicyCovers.J4 l0 l1 l2 proto0 dst0 port0 r0 r1 r2 in3 i0 (fun i3 h11 =>
  RR in3 i3 h11) E h10) E h9) Kr E h0)
  else
  nilc r0 fun a5 => (0 : Int) ≤ i0 ∧ i0 < (r1 : Int) ∧
  ldI h0 .i64 ((a5.add (i0.toNat * 3)).add 2) fun x8 =>
  vizardlaw18_PolicyCovers.J2 l0 l1 l2 proto0 dst0 port0 r0 r1 r2 in0 i0 (x8 != 0) (fun h13 =>
  vizardlaw18_PolicyCovers.J3 l0 l1 l2 proto0 dst0 port0 r0 r1 r2 in0 i0 (fun in4 h14 =>
  vizardlaw18_PolicyCovers.J4 l0 l1 l2 proto0 dst0 port0 r0 r1 r2 in4 i0 (fun i4 h15 =>
  RR in4 i4 h15) E h14) E h13) Kr E h0))
  else
  Kx0 in0 h0)
structure vizardlaw18_PolicyCovers.W1 (l0 : Option Addr) (l1 : Nat) (l2 : Nat) (proto0 : Int) (dst0 : Int) (port0 : Int) (r0 : Option Addr) (r1 : Nat) (r2 : Nat) (in0 : Bool) (i0 : Int) (Kx0 : Bool → Heap → Prop) (Kr : Bool → Heap → Prop) (E : Value → Heap → Prop) (H : Heap) : Prop where
  h : Loop (fun (RR : Bool × Int → Heap → Prop) (s : Bool × Int) (H : Heap) => vizardlaw18_PolicyCovers.W1.vc l0 l1 l2 proto0 dst0 port0 r0 r1 r2 s.1 s.2 Kx0 Kr (fun in0 i0 H => RR (in0, i0) H) E H) (in0, i0) H
def vizardlaw18_PolicyCovers.J5.vc (l0 : Option Addr) (l1 : Nat) (l2 : Nat) (proto0 : Int) (dst0 : Int) (port0 : Int) (r0 : Option Addr) (r1 : Nat) (r2 : Nat) (in0 : Bool) (x0 : Bool) (Kn : Heap → Prop) (Kr : Bool → Heap → Prop) (E : Value → Heap → Prop) (h0 : Heap) : Prop :=
  (if x0 = true then
  Kr (decide ((r1 : Int) ≤ 16)) h0
  else
  Kn h0)
structure vizardlaw18_PolicyCovers.J5 (l0 : Option Addr) (l1 : Nat) (l2 : Nat) (proto0 : Int) (dst0 : Int) (port0 : Int) (r0 : Option Addr) (r1 : Nat) (r2 : Nat) (in0 : Bool) (x0 : Bool) (Kn : Heap → Prop) (Kr : Bool → Heap → Prop) (E : Value → Heap → Prop) (H : Heap) : Prop where
  h : vizardlaw18_PolicyCovers.J5.vc l0 l1 l2 proto0 dst0 port0 r0 r1 r2 in0 x0 Kn Kr E H
def vizardlaw18_PolicyCovers.J6.vc (l0 : Option Addr) (l1 : Nat) (l2 : Nat) (proto0 : Int) (dst0 : Int) (port0 : Int) (in0 : Bool) (Kr : Bool → Heap → Prop) (E : Value → Heap → Prop) (h0 : Heap) : Prop :=
  (if in0 = true then
  Kr true h0
  else
  vizardlaw18_own.c l0 l1 l2 (fun x0 x1 x2 h1 =>
  policy_Allow.c x0 x1 x2 proto0 dst0 port0 (fun x3 h2 =>
  Kr (!x3) h2) E h1) E h0)
structure vizardlaw18_PolicyCovers.J6 (l0 : Option Addr) (l1 : Nat) (l2 : Nat) (proto0 : Int) (dst0 : Int) (port0 : Int) (in0 : Bool) (Kr : Bool → Heap → Prop) (E : Value → Heap → Prop) (H : Heap) : Prop where
  h : vizardlaw18_PolicyCovers.J6.vc l0 l1 l2 proto0 dst0 port0 in0 Kr E H
def vizardlaw18_PolicyCovers.vc (l0 : Option Addr) (l1 : Nat) (l2 : Nat) (proto0 : Int) (dst0 : Int) (port0 : Int) (K : Bool → Heap → Prop) (E : Value → Heap → Prop) (h0 : Heap) : Prop :=
  vizardlaw18_works.c (fun x0 h1 =>
  (if (!x0) = true then
  K false h1
  else
  vizardlaw18_own.c l0 l1 l2 (fun x1 x2 x3 h2 =>
  policy_Routes.c x1 x2 x3 (fun x4 x5 x6 h3 =>
  vizardlaw18_PolicyCovers.W1 l0 l1 l2 proto0 dst0 port0 x4 x5 x6 false 0 (fun in0 h4 =>
  (if (decide ((x5 : Int) ≥ 16)) = true then
  vizardlaw18_PolicyCovers.J5 l0 l1 l2 proto0 dst0 port0 x4 x5 x6 in0 true (fun h5 =>
  vizardlaw18_PolicyCovers.J6 l0 l1 l2 proto0 dst0 port0 in0 K E h5) K E h4
  else
  (if (decide (proto0 < 1)) = true then
  vizardlaw18_PolicyCovers.J5 l0 l1 l2 proto0 dst0 port0 x4 x5 x6 in0 true (fun h8 =>
  vizardlaw18_PolicyCovers.J6 l0 l1 l2 proto0 dst0 port0 in0 K E h8) K E h4
  else
  (if (decide (proto0 > 255)) = true then
  vizardlaw18_PolicyCovers.J5 l0 l1 l2 proto0 dst0 port0 x4 x5 x6 in0 true (fun h11 =>
  vizardlaw18_PolicyCovers.J6 l0 l1 l2 proto0 dst0 port0 in0 K E h11) K E h4
  else
  (if (decide (port0 < 0)) = true then
  vizardlaw18_PolicyCovers.J5 l0 l1 l2 proto0 dst0 port0 x4 x5 x6 in0 true (fun h14 =>
  vizardlaw18_PolicyCovers.J6 l0 l1 l2 proto0 dst0 port0 in0 K E h14) K E h4
  else
  vizardlaw18_PolicyCovers.J5 l0 l1 l2 proto0 dst0 port0 x4 x5 x6 in0 (decide (port0 > 65535)) (fun h17 =>
  vizardlaw18_PolicyCovers.J6 l0 l1 l2 proto0 dst0 port0 in0 K E h17) K E h4))))) K E h3) E h2) E h1)) E h0
structure vizardlaw18_PolicyCovers.c (l0 : Option Addr) (l1 : Nat) (l2 : Nat) (proto0 : Int) (dst0 : Int) (port0 : Int) (K : Bool → Heap → Prop) (E : Value → Heap → Prop) (H : Heap) : Prop where
  h : vizardlaw18_PolicyCovers.vc l0 l1 l2 proto0 dst0 port0 (fun r0_0 H => ∃ H', Heap.Le H' H ∧ K r0_0 H') E H
def vizardlaw18_PolicyCovers.F : FT := fun args K E H => match args with
  | [(.slice l0 l1 l2), (.int .i64 proto0), (.int .u32 dst0), (.int .i64 port0)] => vizardlaw18_PolicyCovers.c l0 l1 l2 proto0 dst0 port0 (fun r0_0 H => K (.bool r0_0) H) E H
  | _ => False
noncomputable def vizardlaw18_PolicyCovers.Γ : FuncId → Option FT := Γof [(10, policy_Routes.F), (11, vizardlaw18_own.F), (13, vizardlaw18_works.F), (14, policy_Allow.F)]
theorem vizardlaw18_PolicyCovers.hΓ : ∀ f F, vizardlaw18_PolicyCovers.Γ f = some F → CalleeOk Try.prog f F := Γof_ok (List.forall_mem_cons.2 ⟨policy_Routes.ok, List.forall_mem_cons.2 ⟨vizardlaw18_own.ok, List.forall_mem_cons.2 ⟨vizardlaw18_works.ok, List.forall_mem_cons.2 ⟨policy_Allow.ok, fun _ h => nomatch h⟩⟩⟩⟩)
def vizardlaw18_PolicyCovers.J2.t : CT := fun Q E fr H => lenIs 114 fr (slSl fr 0 fun l0 l1 l2 => slI fr 1 .i64 fun proto0 => slI fr 2 .u32 fun dst0 => slI fr 3 .i64 fun port0 => slSl fr 9 fun r0 r1 r2 => slB fr 10 fun in0 => slI fr 11 .i64 fun i0 => slB fr 62 fun x0 => vizardlaw18_PolicyCovers.J2 l0 l1 l2 proto0 dst0 port0 r0 r1 r2 in0 i0 x0 (fun  H => Q .normal (mkF 114 [(0, (.slice l0 l1 l2)), (1, (.int .i64 proto0)), (2, (.int .u32 dst0)), (3, (.int .i64 port0)), (9, (.slice r0 r1 r2)), (10, (.bool in0)), (11, (.int .i64 i0))]) H) (fun y8_0 H => Q .ret (mkF 114 [(8, (.bool y8_0))]) H) E H)
noncomputable def vizardlaw18_PolicyCovers.J2.plan : Plan := .go
theorem vizardlaw18_PolicyCovers.J2.pok : PlanOk Try.prog vizardlaw18_PolicyCovers.J2.plan (sub [1, 1, 1, 1, 0, 1, 0, 0, 1, 0, 0, 0, 1] vizardlaw18_PolicyCovers.body) := by
  have e : PlanOk Try.prog vizardlaw18_PolicyCovers.J2.plan (sub [1, 1, 1, 1, 0, 1, 0, 0, 1, 0, 0, 0, 1] vizardlaw18_PolicyCovers.body) = (True) := by kernel_rfl
  exact e.mpr trivial
theorem vizardlaw18_PolicyCovers.J2.eq (l0 : Option Addr) (l1 : Nat) (l2 : Nat) (proto0 : Int) (dst0 : Int) (port0 : Int) (r0 : Option Addr) (r1 : Nat) (r2 : Nat) (in0 : Bool) (i0 : Int) (x0 : Bool) (Q : Ex → Fr → Heap → Prop) (E : Value → Heap → Prop) (H : Heap) :
    vizardlaw18_PolicyCovers.J2.vc l0 l1 l2 proto0 dst0 port0 r0 r1 r2 in0 i0 x0 (fun  H => Q .normal (mkF 114 [(0, (.slice l0 l1 l2)), (1, (.int .i64 proto0)), (2, (.int .u32 dst0)), (3, (.int .i64 port0)), (9, (.slice r0 r1 r2)), (10, (.bool in0)), (11, (.int .i64 i0))]) H) (fun y8_0 H => Q .ret (mkF 114 [(8, (.bool y8_0))]) H) E H = keepT [0, 1, 2, 3, 9, 10, 11] [8] (fun i => []) (wC Try.prog vizardlaw18_PolicyCovers.Γ vizardlaw18_PolicyCovers.J2.plan (sub [1, 1, 1, 1, 0, 1, 0, 0, 1, 0, 0, 0, 1] vizardlaw18_PolicyCovers.body)) Q E (mkF 114 [(0, (.slice l0 l1 l2)), (1, (.int .i64 proto0)), (2, (.int .u32 dst0)), (3, (.int .i64 port0)), (9, (.slice r0 r1 r2)), (10, (.bool in0)), (11, (.int .i64 i0)), (62, (.bool x0))]) H := by
  kernel_rfl
theorem vizardlaw18_PolicyCovers.J2.ok : SoundCode Try.prog (sub [1, 1, 1, 1, 0, 1, 0, 0, 1, 0, 0, 0, 1] vizardlaw18_PolicyCovers.body) vizardlaw18_PolicyCovers.J2.t := by
  refine piece_sound (keepT_sound [0, 1, 2, 3, 9, 10, 11] [8] (fun i => []) (wC_sound vizardlaw18_PolicyCovers.hΓ Try.hm vizardlaw18_PolicyCovers.J2.plan _ vizardlaw18_PolicyCovers.J2.pok)) ?_
  intro Q E fr H h
  unfold vizardlaw18_PolicyCovers.J2.t at h
  obtain ⟨hl, h⟩ := lenIs_elim h
  obtain ⟨l0, l1, l2, q0, h⟩ := slSl_elim h
  obtain ⟨proto0, q1, h⟩ := slI_elim h
  obtain ⟨dst0, q2, h⟩ := slI_elim h
  obtain ⟨port0, q3, h⟩ := slI_elim h
  obtain ⟨r0, r1, r2, q9, h⟩ := slSl_elim h
  obtain ⟨in0, q10, h⟩ := slB_elim h
  obtain ⟨i0, q11, h⟩ := slI_elim h
  obtain ⟨x0, q62, h⟩ := slB_elim h
  refine ⟨(mkF 114 [(0, (.slice l0 l1 l2)), (1, (.int .i64 proto0)), (2, (.int .u32 dst0)), (3, (.int .i64 port0)), (9, (.slice r0 r1 r2)), (10, (.bool in0)), (11, (.int .i64 i0)), (62, (.bool x0))]), fun a ha => ha.mk (Nat.le_of_eq hl.symm) (List.forall_mem_cons.2 ⟨q0, List.forall_mem_cons.2 ⟨q1, List.forall_mem_cons.2 ⟨q2, List.forall_mem_cons.2 ⟨q3, List.forall_mem_cons.2 ⟨q9, List.forall_mem_cons.2 ⟨q10, List.forall_mem_cons.2 ⟨q11, List.forall_mem_cons.2 ⟨q62, fun _ h => nomatch h⟩⟩⟩⟩⟩⟩⟩⟩), ?_⟩
  have e := vizardlaw18_PolicyCovers.J2.eq l0 l1 l2 proto0 dst0 port0 r0 r1 r2 in0 i0 x0 Q E H
  rw [← e]
  exact h.h
def vizardlaw18_PolicyCovers.J3.t : CT := fun Q E fr H => lenIs 114 fr (slSl fr 0 fun l0 l1 l2 => slI fr 1 .i64 fun proto0 => slI fr 2 .u32 fun dst0 => slI fr 3 .i64 fun port0 => slSl fr 9 fun r0 r1 r2 => slB fr 10 fun in0 => slI fr 11 .i64 fun i0 => vizardlaw18_PolicyCovers.J3 l0 l1 l2 proto0 dst0 port0 r0 r1 r2 in0 i0 (fun y10_0 H => Q .normal (mkF 114 [(0, (.slice l0 l1 l2)), (1, (.int .i64 proto0)), (2, (.int .u32 dst0)), (3, (.int .i64 port0)), (9, (.slice r0 r1 r2)), (10, (.bool y10_0)), (11, (.int .i64 i0))]) H) E H)
noncomputable def vizardlaw18_PolicyCovers.J3.plan : Plan := .go
theorem vizardlaw18_PolicyCovers.J3.pok : PlanOk Try.prog vizardlaw18_PolicyCovers.J3.plan (sub [1, 1, 1, 1, 0, 1, 0, 0, 1, 0, 0, 1] vizardlaw18_PolicyCovers.body) := by
  have e : PlanOk Try.prog vizardlaw18_PolicyCovers.J3.plan (sub [1, 1, 1, 1, 0, 1, 0, 0, 1, 0, 0, 1] vizardlaw18_PolicyCovers.body) = (True) := by kernel_rfl
  exact e.mpr trivial
theorem vizardlaw18_PolicyCovers.J3.eq (l0 : Option Addr) (l1 : Nat) (l2 : Nat) (proto0 : Int) (dst0 : Int) (port0 : Int) (r0 : Option Addr) (r1 : Nat) (r2 : Nat) (in0 : Bool) (i0 : Int) (Q : Ex → Fr → Heap → Prop) (E : Value → Heap → Prop) (H : Heap) :
    vizardlaw18_PolicyCovers.J3.vc l0 l1 l2 proto0 dst0 port0 r0 r1 r2 in0 i0 (fun y10_0 H => Q .normal (mkF 114 [(0, (.slice l0 l1 l2)), (1, (.int .i64 proto0)), (2, (.int .u32 dst0)), (3, (.int .i64 port0)), (9, (.slice r0 r1 r2)), (10, (.bool y10_0)), (11, (.int .i64 i0))]) H) E H = keepT [0, 1, 2, 3, 9, 10, 11] [] (fun i => []) (wC Try.prog vizardlaw18_PolicyCovers.Γ vizardlaw18_PolicyCovers.J3.plan (sub [1, 1, 1, 1, 0, 1, 0, 0, 1, 0, 0, 1] vizardlaw18_PolicyCovers.body)) Q E (mkF 114 [(0, (.slice l0 l1 l2)), (1, (.int .i64 proto0)), (2, (.int .u32 dst0)), (3, (.int .i64 port0)), (9, (.slice r0 r1 r2)), (10, (.bool in0)), (11, (.int .i64 i0))]) H := by
  kernel_rfl
theorem vizardlaw18_PolicyCovers.J3.ok : SoundCode Try.prog (sub [1, 1, 1, 1, 0, 1, 0, 0, 1, 0, 0, 1] vizardlaw18_PolicyCovers.body) vizardlaw18_PolicyCovers.J3.t := by
  refine piece_sound (keepT_sound [0, 1, 2, 3, 9, 10, 11] [] (fun i => []) (wC_sound vizardlaw18_PolicyCovers.hΓ Try.hm vizardlaw18_PolicyCovers.J3.plan _ vizardlaw18_PolicyCovers.J3.pok)) ?_
  intro Q E fr H h
  unfold vizardlaw18_PolicyCovers.J3.t at h
  obtain ⟨hl, h⟩ := lenIs_elim h
  obtain ⟨l0, l1, l2, q0, h⟩ := slSl_elim h
  obtain ⟨proto0, q1, h⟩ := slI_elim h
  obtain ⟨dst0, q2, h⟩ := slI_elim h
  obtain ⟨port0, q3, h⟩ := slI_elim h
  obtain ⟨r0, r1, r2, q9, h⟩ := slSl_elim h
  obtain ⟨in0, q10, h⟩ := slB_elim h
  obtain ⟨i0, q11, h⟩ := slI_elim h
  refine ⟨(mkF 114 [(0, (.slice l0 l1 l2)), (1, (.int .i64 proto0)), (2, (.int .u32 dst0)), (3, (.int .i64 port0)), (9, (.slice r0 r1 r2)), (10, (.bool in0)), (11, (.int .i64 i0))]), fun a ha => ha.mk (Nat.le_of_eq hl.symm) (List.forall_mem_cons.2 ⟨q0, List.forall_mem_cons.2 ⟨q1, List.forall_mem_cons.2 ⟨q2, List.forall_mem_cons.2 ⟨q3, List.forall_mem_cons.2 ⟨q9, List.forall_mem_cons.2 ⟨q10, List.forall_mem_cons.2 ⟨q11, fun _ h => nomatch h⟩⟩⟩⟩⟩⟩⟩), ?_⟩
  have e := vizardlaw18_PolicyCovers.J3.eq l0 l1 l2 proto0 dst0 port0 r0 r1 r2 in0 i0 Q E H
  rw [← e]
  exact h.h
def vizardlaw18_PolicyCovers.J4.t : CT := fun Q E fr H => lenIs 114 fr (slSl fr 0 fun l0 l1 l2 => slI fr 1 .i64 fun proto0 => slI fr 2 .u32 fun dst0 => slI fr 3 .i64 fun port0 => slSl fr 9 fun r0 r1 r2 => slB fr 10 fun in0 => slI fr 11 .i64 fun i0 => vizardlaw18_PolicyCovers.J4 l0 l1 l2 proto0 dst0 port0 r0 r1 r2 in0 i0 (fun y11_0 H => Q .normal (mkF 114 [(0, (.slice l0 l1 l2)), (1, (.int .i64 proto0)), (2, (.int .u32 dst0)), (3, (.int .i64 port0)), (9, (.slice r0 r1 r2)), (10, (.bool in0)), (11, (.int .i64 y11_0))]) H) E H)
noncomputable def vizardlaw18_PolicyCovers.J4.plan : Plan := .go
theorem vizardlaw18_PolicyCovers.J4.pok : PlanOk Try.prog vizardlaw18_PolicyCovers.J4.plan (sub [1, 1, 1, 1, 0, 1, 0, 0, 1, 1] vizardlaw18_PolicyCovers.body) := by
  have e : PlanOk Try.prog vizardlaw18_PolicyCovers.J4.plan (sub [1, 1, 1, 1, 0, 1, 0, 0, 1, 1] vizardlaw18_PolicyCovers.body) = (True) := by kernel_rfl
  exact e.mpr trivial
theorem vizardlaw18_PolicyCovers.J4.eq (l0 : Option Addr) (l1 : Nat) (l2 : Nat) (proto0 : Int) (dst0 : Int) (port0 : Int) (r0 : Option Addr) (r1 : Nat) (r2 : Nat) (in0 : Bool) (i0 : Int) (Q : Ex → Fr → Heap → Prop) (E : Value → Heap → Prop) (H : Heap) :
    vizardlaw18_PolicyCovers.J4.vc l0 l1 l2 proto0 dst0 port0 r0 r1 r2 in0 i0 (fun y11_0 H => Q .normal (mkF 114 [(0, (.slice l0 l1 l2)), (1, (.int .i64 proto0)), (2, (.int .u32 dst0)), (3, (.int .i64 port0)), (9, (.slice r0 r1 r2)), (10, (.bool in0)), (11, (.int .i64 y11_0))]) H) E H = keepT [0, 1, 2, 3, 9, 10, 11] [] (fun i => []) (wC Try.prog vizardlaw18_PolicyCovers.Γ vizardlaw18_PolicyCovers.J4.plan (sub [1, 1, 1, 1, 0, 1, 0, 0, 1, 1] vizardlaw18_PolicyCovers.body)) Q E (mkF 114 [(0, (.slice l0 l1 l2)), (1, (.int .i64 proto0)), (2, (.int .u32 dst0)), (3, (.int .i64 port0)), (9, (.slice r0 r1 r2)), (10, (.bool in0)), (11, (.int .i64 i0))]) H := by
  kernel_rfl
theorem vizardlaw18_PolicyCovers.J4.ok : SoundCode Try.prog (sub [1, 1, 1, 1, 0, 1, 0, 0, 1, 1] vizardlaw18_PolicyCovers.body) vizardlaw18_PolicyCovers.J4.t := by
  refine piece_sound (keepT_sound [0, 1, 2, 3, 9, 10, 11] [] (fun i => []) (wC_sound vizardlaw18_PolicyCovers.hΓ Try.hm vizardlaw18_PolicyCovers.J4.plan _ vizardlaw18_PolicyCovers.J4.pok)) ?_
  intro Q E fr H h
  unfold vizardlaw18_PolicyCovers.J4.t at h
  obtain ⟨hl, h⟩ := lenIs_elim h
  obtain ⟨l0, l1, l2, q0, h⟩ := slSl_elim h
  obtain ⟨proto0, q1, h⟩ := slI_elim h
  obtain ⟨dst0, q2, h⟩ := slI_elim h
  obtain ⟨port0, q3, h⟩ := slI_elim h
  obtain ⟨r0, r1, r2, q9, h⟩ := slSl_elim h
  obtain ⟨in0, q10, h⟩ := slB_elim h
  obtain ⟨i0, q11, h⟩ := slI_elim h
  refine ⟨(mkF 114 [(0, (.slice l0 l1 l2)), (1, (.int .i64 proto0)), (2, (.int .u32 dst0)), (3, (.int .i64 port0)), (9, (.slice r0 r1 r2)), (10, (.bool in0)), (11, (.int .i64 i0))]), fun a ha => ha.mk (Nat.le_of_eq hl.symm) (List.forall_mem_cons.2 ⟨q0, List.forall_mem_cons.2 ⟨q1, List.forall_mem_cons.2 ⟨q2, List.forall_mem_cons.2 ⟨q3, List.forall_mem_cons.2 ⟨q9, List.forall_mem_cons.2 ⟨q10, List.forall_mem_cons.2 ⟨q11, fun _ h => nomatch h⟩⟩⟩⟩⟩⟩⟩), ?_⟩
  have e := vizardlaw18_PolicyCovers.J4.eq l0 l1 l2 proto0 dst0 port0 r0 r1 r2 in0 i0 Q E H
  rw [← e]
  exact h.h
def vizardlaw18_PolicyCovers.W1.t : CT := fun Q E fr H => lenIs 114 fr (slSl fr 0 fun l0 l1 l2 => slI fr 1 .i64 fun proto0 => slI fr 2 .u32 fun dst0 => slI fr 3 .i64 fun port0 => slSl fr 9 fun r0 r1 r2 => slB fr 10 fun in0 => slI fr 11 .i64 fun i0 => vizardlaw18_PolicyCovers.W1 l0 l1 l2 proto0 dst0 port0 r0 r1 r2 in0 i0 (fun y10_0 H => Q (.exit 0) (mkF 114 [(0, (.slice l0 l1 l2)), (1, (.int .i64 proto0)), (2, (.int .u32 dst0)), (3, (.int .i64 port0)), (9, (.slice r0 r1 r2)), (10, (.bool y10_0))]) H) (fun y8_0 H => Q .ret (mkF 114 [(8, (.bool y8_0))]) H) E H)
noncomputable def vizardlaw18_PolicyCovers.W1.plan : Plan := .seq (.go) (.seq (.block (.seq (.seq (.draw ⟨[0, 1, 2, 3, 4, 5, 6, 7, 8, 9, 10, 11, 12, 13, 14, 15, 16, 17, 18, 19, 20, 21, 22, 23, 24, 25, 26, 27, 28, 29, 30, 31, 32, 33, 34, 35, 36, 37, 38, 39], (dl [(0, []), (1, []), (2, []), (3, []), (4, []), (5, []), (6, []), (7, []), (8, []), (9, []), (10, []), (11, []), (12, []), (13, []), (14, []), (15, []), (16, []), (17, []), (18, []), (19, []), (20, []), (21, []), (22, []), (23, []), (24, []), (25, []), (26, []), (27, []), (28, []), (29, []), (30, []), (31, []), (32, []), (33, []), (34, []), (35, []), (36, []), (37, []), (38, []), (39, [])] .fin), []⟩) (.use vizardlaw18_PolicyCovers.J2.t)) (.use vizardlaw18_PolicyCovers.J3.t))) (.use vizardlaw18_PolicyCovers.J4.t))
theorem vizardlaw18_PolicyCovers.W1.pok : PlanOk Try.prog vizardlaw18_PolicyCovers.W1.plan (sub [1, 1, 1, 1, 0, 1, 0, 0] vizardlaw18_PolicyCovers.body) := by
  have e : PlanOk Try.prog vizardlaw18_PolicyCovers.W1.plan (sub [1, 1, 1, 1, 0, 1, 0, 0] vizardlaw18_PolicyCovers.body) = ((True) ∧ ((((True) ∧ (SoundCode Try.prog (sub [1, 1, 1, 1, 0, 1, 0, 0, 1, 0, 0, 0, 1] vizardlaw18_PolicyCovers.body) vizardlaw18_PolicyCovers.J2.t)) ∧ (SoundCode Try.prog (sub [1, 1, 1, 1, 0, 1, 0, 0, 1, 0, 0, 1] vizardlaw18_PolicyCovers.body) vizardlaw18_PolicyCovers.J3.t)) ∧ (SoundCode Try.prog (sub [1, 1, 1, 1, 0, 1, 0, 0, 1, 1] vizardlaw18_PolicyCovers.body) vizardlaw18_PolicyCovers.J4.t))) := by kernel_rfl
  exact e.mpr ⟨trivial, ⟨⟨⟨trivial, vizardlaw18_PolicyCovers.J2.ok⟩, vizardlaw18_PolicyCovers.J3.ok⟩, vizardlaw18_PolicyCovers.J4.ok⟩⟩
theorem vizardlaw18_PolicyCovers.W1.eq (l0 : Option Addr) (l1 : Nat) (l2 : Nat) (proto0 : Int) (dst0 : Int) (port0 : Int) (r0 : Option Addr) (r1 : Nat) (r2 : Nat) (Q : Ex → Fr → Heap → Prop) (E : Value → Heap → Prop) (RR : Fr → Heap → Prop) (s : Bool × Int) (H : Heap) :
    (fun (RR : Bool × Int → Heap → Prop) (s : Bool × Int) (H : Heap) => vizardlaw18_PolicyCovers.W1.vc l0 l1 l2 proto0 dst0 port0 r0 r1 r2 s.1 s.2 (fun y10_0 H => Q (.exit 0) (mkF 114 [(0, (.slice l0 l1 l2)), (1, (.int .i64 proto0)), (2, (.int .u32 dst0)), (3, (.int .i64 port0)), (9, (.slice r0 r1 r2)), (10, (.bool y10_0))]) H) (fun y8_0 H => Q .ret (mkF 114 [(8, (.bool y8_0))]) H) (fun in0 i0 H => RR (in0, i0) H) E H) (fun s' H' => RR ((fun (s : Bool × Int) => (mkF 114 [(0, (.slice l0 l1 l2)), (1, (.int .i64 proto0)), (2, (.int .u32 dst0)), (3, (.int .i64 port0)), (9, (.slice r0 r1 r2)), (10, (.bool s.1)), (11, (.int .i64 s.2))])) s') H') s H = keepT [0, 1, 2, 3, 9, 10, 11] [8] (fun i => if i = 0 then [0, 1, 2, 3, 9, 10] else []) (wC Try.prog vizardlaw18_PolicyCovers.Γ vizardlaw18_PolicyCovers.W1.plan (sub [1, 1, 1, 1, 0, 1, 0, 0] vizardlaw18_PolicyCovers.body)) (fun e fr' H' => match e with | .normal => RR fr' H' | .exit id => Q (.exit id) fr' H' | .ret => Q .ret fr' H') E ((fun (s : Bool × Int) => (mkF 114 [(0, (.slice l0 l1 l2)), (1, (.int .i64 proto0)), (2, (.int .u32 dst0)), (3, (.int .i64 port0)), (9, (.slice r0 r1 r2)), (10, (.bool s.1)), (11, (.int .i64 s.2))])) s) H := by
  kernel_rfl
theorem vizardlaw18_PolicyCovers.W1.ok : SoundCode Try.prog (sub [1, 1, 1, 1, 0, 1, 0] vizardlaw18_PolicyCovers.body) vizardlaw18_PolicyCovers.W1.t := by
  have e : (sub [1, 1, 1, 1, 0, 1, 0] vizardlaw18_PolicyCovers.body) = .loop (sub [1, 1, 1, 1, 0, 1, 0, 0] vizardlaw18_PolicyCovers.body) := by kernel_rfl
  rw [e]
  refine piece_sound (loopN_sound (keepT_sound [0, 1, 2, 3, 9, 10, 11] [8] (fun i => if i = 0 then [0, 1, 2, 3, 9, 10] else []) (wC_sound vizardlaw18_PolicyCovers.hΓ Try.hm vizardlaw18_PolicyCovers.W1.plan _ vizardlaw18_PolicyCovers.W1.pok))) ?_
  intro Q E fr H h
  unfold vizardlaw18_PolicyCovers.W1.t at h
  obtain ⟨hl, h⟩ := lenIs_elim h
  obtain ⟨l0, l1, l2, q0, h⟩ := slSl_elim h
  obtain ⟨proto0, q1, h⟩ := slI_elim h
  obtain ⟨dst0, q2, h⟩ := slI_elim h
  obtain ⟨port0, q3, h⟩ := slI_elim h
  obtain ⟨r0, r1, r2, q9, h⟩ := slSl_elim h
  obtain ⟨in0, q10, h⟩ := slB_elim h
  obtain ⟨i0, q11, h⟩ := slI_elim h
  obtain ⟨m, h⟩ := h.h
  refine ⟨(mkF 114 [(0, (.slice l0 l1 l2)), (1, (.int .i64 proto0)), (2, (.int .u32 dst0)), (3, (.int .i64 port0)), (9, (.slice r0 r1 r2)), (10, (.bool in0)), (11, (.int .i64 i0))]), fun a ha => ha.mk (Nat.le_of_eq hl.symm) (List.forall_mem_cons.2 ⟨q0, List.forall_mem_cons.2 ⟨q1, List.forall_mem_cons.2 ⟨q2, List.forall_mem_cons.2 ⟨q3, List.forall_mem_cons.2 ⟨q9, List.forall_mem_cons.2 ⟨q10, List.forall_mem_cons.2 ⟨q11, fun _ h => nomatch h⟩⟩⟩⟩⟩⟩⟩), m, ?_⟩
  have e := loopS_eq (B := (fun (RR : Bool × Int → Heap → Prop) (s : Bool × Int) (H : Heap) => vizardlaw18_PolicyCovers.W1.vc l0 l1 l2 proto0 dst0 port0 r0 r1 r2 s.1 s.2 (fun y10_0 H => Q (.exit 0) (mkF 114 [(0, (.slice l0 l1 l2)), (1, (.int .i64 proto0)), (2, (.int .u32 dst0)), (3, (.int .i64 port0)), (9, (.slice r0 r1 r2)), (10, (.bool y10_0))]) H) (fun y8_0 H => Q .ret (mkF 114 [(8, (.bool y8_0))]) H) (fun in0 i0 H => RR (in0, i0) H) E H)) (A := keepT [0, 1, 2, 3, 9, 10, 11] [8] (fun i => if i = 0 then [0, 1, 2, 3, 9, 10] else []) (wC Try.prog vizardlaw18_PolicyCovers.Γ vizardlaw18_PolicyCovers.W1.plan (sub [1, 1, 1, 1, 0, 1, 0, 0] vizardlaw18_PolicyCovers.body))) (m := (fun (s : Bool × Int) => (mkF 114 [(0, (.slice l0 l1 l2)), (1, (.int .i64 proto0)), (2, (.int .u32 dst0)), (3, (.int .i64 port0)), (9, (.slice r0 r1 r2)), (10, (.bool s.1)), (11, (.int .i64 s.2))]))) (Q := Q) (E := E) (fun RR s H => vizardlaw18_PolicyCovers.W1.eq l0 l1 l2 proto0 dst0 port0 r0 r1 r2 Q E RR s H) m (in0, i0) H
  exact cast e h
def vizardlaw18_PolicyCovers.J5.t : CT := fun Q E fr H => lenIs 114 fr (slSl fr 0 fun l0 l1 l2 => slI fr 1 .i64 fun proto0 => slI fr 2 .u32 fun dst0 => slI fr 3 .i64 fun port0 => slSl fr 9 fun r0 r1 r2 => slB fr 10 fun in0 => slB fr 100 fun x0 => vizardlaw18_PolicyCovers.J5 l0 l1 l2 proto0 dst0 port0 r0 r1 r2 in0 x0 (fun  H => Q .normal (mkF 114 [(0, (.slice l0 l1 l2)), (1, (.int .i64 proto0)), (2, (.int .u32 dst0)), (3, (.int .i64 port0)), (10, (.bool in0))]) H) (fun y8_0 H => Q .ret (mkF 114 [(8, (.bool y8_0))]) H) E H)
noncomputable def vizardlaw18_PolicyCovers.J5.plan : Plan := .go
theorem vizardlaw18_PolicyCovers.J5.pok : PlanOk Try.prog vizardlaw18_PolicyCovers.J5.plan (sub [1, 1, 1, 1, 1, 0, 1] vizardlaw18_PolicyCovers.body) := by
  have e : PlanOk Try.prog vizardlaw18_PolicyCovers.J5.plan (sub [1, 1, 1, 1, 1, 0, 1] vizardlaw18_PolicyCovers.body) = (True) := by kernel_rfl
  exact e.mpr trivial
theorem vizardlaw18_PolicyCovers.J5.eq (l0 : Option Addr) (l1 : Nat) (l2 : Nat) (proto0 : Int) (dst0 : Int) (port0 : Int) (r0 : Option Addr) (r1 : Nat) (r2 : Nat) (in0 : Bool) (x0 : Bool) (Q : Ex → Fr → Heap → Prop) (E : Value → Heap → Prop) (H : Heap) :
    vizardlaw18_PolicyCovers.J5.vc l0 l1 l2 proto0 dst0 port0 r0 r1 r2 in0 x0 (fun  H => Q .normal (mkF 114 [(0, (.slice l0 l1 l2)), (1, (.int .i64 proto0)), (2, (.int .u32 dst0)), (3, (.int .i64 port0)), (10, (.bool in0))]) H) (fun y8_0 H => Q .ret (mkF 114 [(8, (.bool y8_0))]) H) E H = keepT [0, 1, 2, 3, 10] [8] (fun i => []) (wC Try.prog vizardlaw18_PolicyCovers.Γ vizardlaw18_PolicyCovers.J5.plan (sub [1, 1, 1, 1, 1, 0, 1] vizardlaw18_PolicyCovers.body)) Q E (mkF 114 [(0, (.slice l0 l1 l2)), (1, (.int .i64 proto0)), (2, (.int .u32 dst0)), (3, (.int .i64 port0)), (9, (.slice r0 r1 r2)), (10, (.bool in0)), (100, (.bool x0))]) H := by
  kernel_rfl
theorem vizardlaw18_PolicyCovers.J5.ok : SoundCode Try.prog (sub [1, 1, 1, 1, 1, 0, 1] vizardlaw18_PolicyCovers.body) vizardlaw18_PolicyCovers.J5.t := by
  refine piece_sound (keepT_sound [0, 1, 2, 3, 10] [8] (fun i => []) (wC_sound vizardlaw18_PolicyCovers.hΓ Try.hm vizardlaw18_PolicyCovers.J5.plan _ vizardlaw18_PolicyCovers.J5.pok)) ?_
  intro Q E fr H h
  unfold vizardlaw18_PolicyCovers.J5.t at h
  obtain ⟨hl, h⟩ := lenIs_elim h
  obtain ⟨l0, l1, l2, q0, h⟩ := slSl_elim h
  obtain ⟨proto0, q1, h⟩ := slI_elim h
  obtain ⟨dst0, q2, h⟩ := slI_elim h
  obtain ⟨port0, q3, h⟩ := slI_elim h
  obtain ⟨r0, r1, r2, q9, h⟩ := slSl_elim h
  obtain ⟨in0, q10, h⟩ := slB_elim h
  obtain ⟨x0, q100, h⟩ := slB_elim h
  refine ⟨(mkF 114 [(0, (.slice l0 l1 l2)), (1, (.int .i64 proto0)), (2, (.int .u32 dst0)), (3, (.int .i64 port0)), (9, (.slice r0 r1 r2)), (10, (.bool in0)), (100, (.bool x0))]), fun a ha => ha.mk (Nat.le_of_eq hl.symm) (List.forall_mem_cons.2 ⟨q0, List.forall_mem_cons.2 ⟨q1, List.forall_mem_cons.2 ⟨q2, List.forall_mem_cons.2 ⟨q3, List.forall_mem_cons.2 ⟨q9, List.forall_mem_cons.2 ⟨q10, List.forall_mem_cons.2 ⟨q100, fun _ h => nomatch h⟩⟩⟩⟩⟩⟩⟩), ?_⟩
  have e := vizardlaw18_PolicyCovers.J5.eq l0 l1 l2 proto0 dst0 port0 r0 r1 r2 in0 x0 Q E H
  rw [← e]
  exact h.h
def vizardlaw18_PolicyCovers.J6.t : CT := fun Q E fr H => lenIs 114 fr (slSl fr 0 fun l0 l1 l2 => slI fr 1 .i64 fun proto0 => slI fr 2 .u32 fun dst0 => slI fr 3 .i64 fun port0 => slB fr 10 fun in0 => vizardlaw18_PolicyCovers.J6 l0 l1 l2 proto0 dst0 port0 in0 (fun y8_0 H => Q .ret (mkF 114 [(8, (.bool y8_0))]) H) E H)
noncomputable def vizardlaw18_PolicyCovers.J6.plan : Plan := .go
theorem vizardlaw18_PolicyCovers.J6.pok : PlanOk Try.prog vizardlaw18_PolicyCovers.J6.plan (sub [1, 1, 1, 1, 1, 1] vizardlaw18_PolicyCovers.body) := by
  have e : PlanOk Try.prog vizardlaw18_PolicyCovers.J6.plan (sub [1, 1, 1, 1, 1, 1] vizardlaw18_PolicyCovers.body) = (True) := by kernel_rfl
  exact e.mpr trivial
theorem vizardlaw18_PolicyCovers.J6.eq (l0 : Option Addr) (l1 : Nat) (l2 : Nat) (proto0 : Int) (dst0 : Int) (port0 : Int) (in0 : Bool) (Q : Ex → Fr → Heap → Prop) (E : Value → Heap → Prop) (H : Heap) :
    vizardlaw18_PolicyCovers.J6.vc l0 l1 l2 proto0 dst0 port0 in0 (fun y8_0 H => Q .ret (mkF 114 [(8, (.bool y8_0))]) H) E H = keepT [] [8] (fun i => []) (wC Try.prog vizardlaw18_PolicyCovers.Γ vizardlaw18_PolicyCovers.J6.plan (sub [1, 1, 1, 1, 1, 1] vizardlaw18_PolicyCovers.body)) Q E (mkF 114 [(0, (.slice l0 l1 l2)), (1, (.int .i64 proto0)), (2, (.int .u32 dst0)), (3, (.int .i64 port0)), (10, (.bool in0))]) H := by
  kernel_rfl
theorem vizardlaw18_PolicyCovers.J6.ok : SoundCode Try.prog (sub [1, 1, 1, 1, 1, 1] vizardlaw18_PolicyCovers.body) vizardlaw18_PolicyCovers.J6.t := by
  refine piece_sound (keepT_sound [] [8] (fun i => []) (wC_sound vizardlaw18_PolicyCovers.hΓ Try.hm vizardlaw18_PolicyCovers.J6.plan _ vizardlaw18_PolicyCovers.J6.pok)) ?_
  intro Q E fr H h
  unfold vizardlaw18_PolicyCovers.J6.t at h
  obtain ⟨hl, h⟩ := lenIs_elim h
  obtain ⟨l0, l1, l2, q0, h⟩ := slSl_elim h
  obtain ⟨proto0, q1, h⟩ := slI_elim h
  obtain ⟨dst0, q2, h⟩ := slI_elim h
  obtain ⟨port0, q3, h⟩ := slI_elim h
  obtain ⟨in0, q10, h⟩ := slB_elim h
  refine ⟨(mkF 114 [(0, (.slice l0 l1 l2)), (1, (.int .i64 proto0)), (2, (.int .u32 dst0)), (3, (.int .i64 port0)), (10, (.bool in0))]), fun a ha => ha.mk (Nat.le_of_eq hl.symm) (List.forall_mem_cons.2 ⟨q0, List.forall_mem_cons.2 ⟨q1, List.forall_mem_cons.2 ⟨q2, List.forall_mem_cons.2 ⟨q3, List.forall_mem_cons.2 ⟨q10, fun _ h => nomatch h⟩⟩⟩⟩⟩), ?_⟩
  have e := vizardlaw18_PolicyCovers.J6.eq l0 l1 l2 proto0 dst0 port0 in0 Q E H
  rw [← e]
  exact h.h
noncomputable def vizardlaw18_PolicyCovers.plan : Plan := .seq (.go) (.seq (.go) (.seq (.go) (.seq (.go) (.seq (.seq (.go) (.block (.use vizardlaw18_PolicyCovers.W1.t))) (.seq (.seq (.go) (.use vizardlaw18_PolicyCovers.J5.t)) (.use vizardlaw18_PolicyCovers.J6.t))))))
theorem vizardlaw18_PolicyCovers.pok : PlanOk Try.prog vizardlaw18_PolicyCovers.plan vizardlaw18_PolicyCovers.body := by
  have e : PlanOk Try.prog vizardlaw18_PolicyCovers.plan vizardlaw18_PolicyCovers.body = ((True) ∧ ((True) ∧ ((True) ∧ ((True) ∧ (((True) ∧ (SoundCode Try.prog (sub [1, 1, 1, 1, 0, 1, 0] vizardlaw18_PolicyCovers.body) vizardlaw18_PolicyCovers.W1.t)) ∧ (((True) ∧ (SoundCode Try.prog (sub [1, 1, 1, 1, 1, 0, 1] vizardlaw18_PolicyCovers.body) vizardlaw18_PolicyCovers.J5.t)) ∧ (SoundCode Try.prog (sub [1, 1, 1, 1, 1, 1] vizardlaw18_PolicyCovers.body) vizardlaw18_PolicyCovers.J6.t))))))) := by kernel_rfl
  exact e.mpr ⟨trivial, ⟨trivial, ⟨trivial, ⟨trivial, ⟨⟨trivial, vizardlaw18_PolicyCovers.W1.ok⟩, ⟨⟨trivial, vizardlaw18_PolicyCovers.J5.ok⟩, vizardlaw18_PolicyCovers.J6.ok⟩⟩⟩⟩⟩⟩
theorem vizardlaw18_PolicyCovers.eq (l0 : Option Addr) (l1 : Nat) (l2 : Nat) (proto0 : Int) (dst0 : Int) (port0 : Int) (K : Value → Heap → Prop) (E : Value → Heap → Prop) (H : Heap) :
    fnT Try.prog Try.f4 (wC Try.prog vizardlaw18_PolicyCovers.Γ vizardlaw18_PolicyCovers.plan vizardlaw18_PolicyCovers.body) [(.slice l0 l1 l2), (.int .i64 proto0), (.int .u32 dst0), (.int .i64 port0)] K E H = vizardlaw18_PolicyCovers.vc l0 l1 l2 proto0 dst0 port0 (fun r0_0 H => K (.bool r0_0) H) E H := by
  kernel_rfl
theorem vizardlaw18_PolicyCovers.Fe {args : List Value} {K E : Value → Heap → Prop} {H : Heap} (h : vizardlaw18_PolicyCovers.F args K E H) : ∃ l0 l1 l2 proto0 dst0 port0, args = [(.slice l0 l1 l2), (.int .i64 proto0), (.int .u32 dst0), (.int .i64 port0)] ∧ vizardlaw18_PolicyCovers.c l0 l1 l2 proto0 dst0 port0 (fun r0_0 H => K (.bool r0_0) H) E H := by
  unfold vizardlaw18_PolicyCovers.F at h
  split at h
  · exact ⟨_, _, _, _, _, _, rfl, h⟩
  · exact h.elim
theorem vizardlaw18_PolicyCovers.ok : CalleeOk Try.prog 4 vizardlaw18_PolicyCovers.F :=
  callee_ok vizardlaw18_PolicyCovers.hΓ (fn := Try.f4) (c := vizardlaw18_PolicyCovers.body) (T := wC Try.prog vizardlaw18_PolicyCovers.Γ vizardlaw18_PolicyCovers.plan vizardlaw18_PolicyCovers.body) (by kernel_rfl) (by kernel_rfl) (by kernel_rfl) (wC_sound vizardlaw18_PolicyCovers.hΓ Try.hm vizardlaw18_PolicyCovers.plan _ vizardlaw18_PolicyCovers.pok) fun _ K E H h => by
    obtain ⟨z0, z1, z2, z3, z4, z5, e, h⟩ := vizardlaw18_PolicyCovers.Fe h
    subst e
    have h2 : vizardlaw18_PolicyCovers.vc z0 z1 z2 z3 z4 z5 (fun r0_0 H => ∃ H', Heap.Le H' H ∧ K (.bool r0_0) H') E H := h.h
    rw [vizardlaw18_PolicyCovers.eq z0 z1 z2 z3 z4 z5 (Fg K) E H]
    exact h2

/-! vizard/vizardlaw18.PolicyFirst -/
noncomputable def vizardlaw18_PolicyFirst.body : Code := Try.f5.body.getD .skip
def vizardlaw18_PolicyFirst.J1.vc (l0 : Option Addr) (l1 : Nat) (l2 : Nat) (more0 : Option Addr) (more1 : Nat) (more2 : Nat) (proto0 : Int) (dst0 : Int) (port0 : Int) (x0 : Bool) (Kn : Heap → Prop) (Kr : Bool → Heap → Prop) (E : Value → Heap → Prop) (h0 : Heap) : Prop :=
  (if x0 = true then
  Kr true h0
  else
  Kn h0)
structure vizardlaw18_PolicyFirst.J1 (l0 : Option Addr) (l1 : Nat) (l2 : Nat) (more0 : Option Addr) (more1 : Nat) (more2 : Nat) (proto0 : Int) (dst0 : Int) (port0 : Int) (x0 : Bool) (Kn : Heap → Prop) (Kr : Bool → Heap → Prop) (E : Value → Heap → Prop) (H : Heap) : Prop where
  h : vizardlaw18_PolicyFirst.J1.vc l0 l1 l2 more0 more1 more2 proto0 dst0 port0 x0 Kn Kr E H
def vizardlaw18_PolicyFirst.J5.vc (a0 : Bool) (b0 : Bool) (c0 : Bool) (x0 : Bool) (Kn : Heap → Prop) (Kr : Bool → Heap → Prop) (E : Value → Heap → Prop) (h0 : Heap) : Prop :=
  (if x0 = true then
  Kr false h0
  else
  Kn h0)
structure vizardlaw18_PolicyFirst.J5 (a0 : Bool) (b0 : Bool) (c0 : Bool) (x0 : Bool) (Kn : Heap → Prop) (Kr : Bool → Heap → Prop) (E : Value → Heap → Prop) (H : Heap) : Prop where
  h : vizardlaw18_PolicyFirst.J5.vc a0 b0 c0 x0 Kn Kr E H
def vizardlaw18_PolicyFirst.J6.vc (a0 : Bool) (b0 : Bool) (c0 : Bool) (Kr : Bool → Heap → Prop) (E : Value → Heap → Prop) (h0 : Heap) : Prop :=
  (if (b0 == a0) = true then
  Kr true h0
  else
  (if (!a0) = true then
  Kr (b0 == c0) h0
  else
  Kr false h0))
structure vizardlaw18_PolicyFirst.J6 (a0 : Bool) (b0 : Bool) (c0 : Bool) (Kr : Bool → Heap → Prop) (E : Value → Heap → Prop) (H : Heap) : Prop where
  h : vizardlaw18_PolicyFirst.J6.vc a0 b0 c0 Kr E H
def vizardlaw18_PolicyFirst.J4.vc (l0 : Option Addr) (l1 : Nat) (l2 : Nat) (more0 : Option Addr) (more1 : Nat) (more2 : Nat) (proto0 : Int) (dst0 : Int) (port0 : Int) (all0 : Option Addr) (all1 : Nat) (all2 : Nat) (no0 : Option Addr) (no1 : Nat) (no2 : Nat) (Kr : Bool → Heap → Prop) (E : Value → Heap → Prop) (h0 : Heap) : Prop :=
  vizardlaw18_own.c l0 l1 l2 (fun x0 x1 x2 h1 =>
  policy_Allow.c x0 x1 x2 proto0 dst0 port0 (fun x3 h2 =>
  policy_Allow.c all0 all1 all2 proto0 dst0 port0 (fun x4 h3 =>
  vizardlaw18_own.c more0 more1 more2 (fun x5 x6 x7 h4 =>
  policy_Allow.c x5 x6 x7 proto0 dst0 port0 (fun x8 h5 =>
  policy_Allow.c no0 no1 no2 proto0 dst0 port0 (fun x9 h6 =>
  (if x9 = true then
  (if (decide (port0 ≥ 0)) = true then
  vizardlaw18_PolicyFirst.J5 x3 x4 x8 (decide (port0 ≤ 65535)) (fun h7 =>
  vizardlaw18_PolicyFirst.J6 x3 x4 x8 Kr E h7) Kr E h6
  else
  vizardlaw18_PolicyFirst.J5 x3 x4 x8 false (fun h10 =>
  vizardlaw18_PolicyFirst.J6 x3 x4 x8 Kr E h10) Kr E h6)
  else
  vizardlaw18_PolicyFirst.J5 x3 x4 x8 false (fun h13 =>
  vizardlaw18_PolicyFirst.J6 x3 x4 x8 Kr E h13) Kr E h6)) E h5) E h4) E h3) E h2) E h1) E h0
structure vizardlaw18_PolicyFirst.J4 (l0 : Option Addr) (l1 : Nat) (l2 : Nat) (more0 : Option Addr) (more1 : Nat) (more2 : Nat) (proto0 : Int) (dst0 : Int) (port0 : Int) (all0 : Option Addr) (all1 : Nat) (all2 : Nat) (no0 : Option Addr) (no1 : Nat) (no2 : Nat) (Kr : Bool → Heap → Prop) (E : Value → Heap → Prop) (H : Heap) : Prop where
  h : vizardlaw18_PolicyFirst.J4.vc l0 l1 l2 more0 more1 more2 proto0 dst0 port0 all0 all1 all2 no0 no1 no2 Kr E H
def vizardlaw18_PolicyFirst.J3.vc (l0 : Option Addr) (l1 : Nat) (l2 : Nat) (more0 : Option Addr) (more1 : Nat) (more2 : Nat) (proto0 : Int) (dst0 : Int) (port0 : Int) (all0 : Option Addr) (all1 : Nat) (all2 : Nat) (Kr : Bool → Heap → Prop) (E : Value → Heap → Prop) (h0 : Heap) : Prop :=
  newB (.cells #[(.bool false), (.int .i64 0), (.int .u32 0), (.int .i64 0), (.int .i64 0), (.int .i64 65535)] 40) (fun b0 h1 =>
  rdRow h1 l0 (l1 * 6) fun cs0 =>
  appT 40 (.agg #[(.bool false), (.int .i64 0), (.int .u32 0), (.int .i64 0), (.int .i64 0), (.int .i64 0)]) (some (⟨b0, 0, none⟩ : Addr)) 1 l1 1 6 48 cs0 (fun p0 n0 c0 h2 =>
  vizardlaw18_PolicyFirst.J4 l0 l1 l2 more0 more1 more2 proto0 dst0 port0 all0 all1 all2 p0 n0 c0 Kr E h2) h1) h0
structure vizardlaw18_PolicyFirst.J3 (l0 : Option Addr) (l1 : Nat) (l2 : Nat) (more0 : Option Addr) (more1 : Nat) (more2 : Nat) (proto0 : Int) (dst0 : Int) (port0 : Int) (all0 : Option Addr) (all1 : Nat) (all2 : Nat) (Kr : Bool → Heap → Prop) (E : Value → Heap → Prop) (H : Heap) : Prop where
  h : vizardlaw18_PolicyFirst.J3.vc l0 l1 l2 more0 more1 more2 proto0 dst0 port0 all0 all1 all2 Kr E H
def vizardlaw18_PolicyFirst.J2.vc (l0 : Option Addr) (l1 : Nat) (l2 : Nat) (more0 : Option Addr) (more1 : Nat) (more2 : Nat) (proto0 : Int) (dst0 : Int) (port0 : Int) (Kr : Bool → Heap → Prop) (E : Value → Heap → Prop) (h0 : Heap) : Prop :=
  vizardlaw18_own.c l0 l1 l2 (fun x0 x1 x2 h1 =>
  rdRow h1 more0 (more1 * 6) fun cs0 =>
  appT 40 (.agg #[(.bool false), (.int .i64 0), (.int .u32 0), (.int .i64 0), (.int .i64 0), (.int .i64 0)]) x0 x1 more1 x2 6 48 cs0 (fun p0 n0 c0 h2 =>
  vizardlaw18_PolicyFirst.J3 l0 l1 l2 more0 more1 more2 proto0 dst0 port0 p0 n0 c0 Kr E h2) h1) E h0
structure vizardlaw18_PolicyFirst.J2 (l0 : Option Addr) (l1 : Nat) (l2 : Nat) (more0 : Option Addr) (more1 : Nat) (more2 : Nat) (proto0 : Int) (dst0 : Int) (port0 : Int) (Kr : Bool → Heap → Prop) (E : Value → Heap → Prop) (H : Heap) : Prop where
  h : vizardlaw18_PolicyFirst.J2.vc l0 l1 l2 more0 more1 more2 proto0 dst0 port0 Kr E H
def vizardlaw18_PolicyFirst.vc (l0 : Option Addr) (l1 : Nat) (l2 : Nat) (more0 : Option Addr) (more1 : Nat) (more2 : Nat) (proto0 : Int) (dst0 : Int) (port0 : Int) (K : Bool → Heap → Prop) (E : Value → Heap → Prop) (h0 : Heap) : Prop :=
  vizardlaw18_works.c (fun x0 h1 =>
  (if (!x0) = true then
  K false h1
  else
  (if (decide ((l1 : Int) > 30)) = true then
  vizardlaw18_PolicyFirst.J1 l0 l1 l2 more0 more1 more2 proto0 dst0 port0 true (fun h2 =>
  vizardlaw18_PolicyFirst.J2 l0 l1 l2 more0 more1 more2 proto0 dst0 port0 K E h2) K E h1
  else
  (if (decide ((IntKind.i64.wrap ((l1 : Int) + (more1 : Int))) > 31)) = true then
  vizardlaw18_PolicyFirst.J1 l0 l1 l2 more0 more1 more2 proto0 dst0 port0 true (fun h5 =>
  vizardlaw18_PolicyFirst.J2 l0 l1 l2 more0 more1 more2 proto0 dst0 port0 K E h5) K E h1
  else
  vizardlaw18_own.c l0 l1 l2 (fun x5 x6 x7 h8 =>
  policy_Check.c x5 x6 x7 (fun x8 h9 =>
  (if (x8 != 0) = true then
  vizardlaw18_PolicyFirst.J1 l0 l1 l2 more0 more1 more2 proto0 dst0 port0 true (fun h10 =>
  vizardlaw18_PolicyFirst.J2 l0 l1 l2 more0 more1 more2 proto0 dst0 port0 K E h10) K E h9
  else
  vizardlaw18_own.c more0 more1 more2 (fun x11 x12 x13 h13 =>
  policy_Check.c x11 x12 x13 (fun x14 h14 =>
  vizardlaw18_PolicyFirst.J1 l0 l1 l2 more0 more1 more2 proto0 dst0 port0 (x14 != 0) (fun h15 =>
  vizardlaw18_PolicyFirst.J2 l0 l1 l2 more0 more1 more2 proto0 dst0 port0 K E h15) K E h14) E h13) E h9)) E h8) E h1)))) E h0
structure vizardlaw18_PolicyFirst.c (l0 : Option Addr) (l1 : Nat) (l2 : Nat) (more0 : Option Addr) (more1 : Nat) (more2 : Nat) (proto0 : Int) (dst0 : Int) (port0 : Int) (K : Bool → Heap → Prop) (E : Value → Heap → Prop) (H : Heap) : Prop where
  h : vizardlaw18_PolicyFirst.vc l0 l1 l2 more0 more1 more2 proto0 dst0 port0 (fun r0_0 H => ∃ H', Heap.Le H' H ∧ K r0_0 H') E H
def vizardlaw18_PolicyFirst.F : FT := fun args K E H => match args with
  | [(.slice l0 l1 l2), (.slice more0 more1 more2), (.int .i64 proto0), (.int .u32 dst0), (.int .i64 port0)] => vizardlaw18_PolicyFirst.c l0 l1 l2 more0 more1 more2 proto0 dst0 port0 (fun r0_0 H => K (.bool r0_0) H) E H
  | _ => False
noncomputable def vizardlaw18_PolicyFirst.Γ : FuncId → Option FT := Γof [(11, vizardlaw18_own.F), (13, vizardlaw18_works.F), (14, policy_Allow.F), (15, policy_Check.F)]
theorem vizardlaw18_PolicyFirst.hΓ : ∀ f F, vizardlaw18_PolicyFirst.Γ f = some F → CalleeOk Try.prog f F := Γof_ok (List.forall_mem_cons.2 ⟨vizardlaw18_own.ok, List.forall_mem_cons.2 ⟨vizardlaw18_works.ok, List.forall_mem_cons.2 ⟨policy_Allow.ok, List.forall_mem_cons.2 ⟨policy_Check.ok, fun _ h => nomatch h⟩⟩⟩⟩)
def vizardlaw18_PolicyFirst.J1.t : CT := fun Q E fr H => lenIs 91 fr (slSl fr 0 fun l0 l1 l2 => slSl fr 1 fun more0 more1 more2 => slI fr 2 .i64 fun proto0 => slI fr 3 .u32 fun dst0 => slI fr 4 .i64 fun port0 => slB fr 40 fun x0 => vizardlaw18_PolicyFirst.J1 l0 l1 l2 more0 more1 more2 proto0 dst0 port0 x0 (fun  H => Q .normal (mkF 91 [(0, (.slice l0 l1 l2)), (1, (.slice more0 more1 more2)), (2, (.int .i64 proto0)), (3, (.int .u32 dst0)), (4, (.int .i64 port0))]) H) (fun y10_0 H => Q .ret (mkF 91 [(10, (.bool y10_0))]) H) E H)
noncomputable def vizardlaw18_PolicyFirst.J1.plan : Plan := .go
theorem vizardlaw18_PolicyFirst.J1.pok : PlanOk Try.prog vizardlaw18_PolicyFirst.J1.plan (sub [1, 1, 0, 1] vizardlaw18_PolicyFirst.body) := by
  have e : PlanOk Try.prog vizardlaw18_PolicyFirst.J1.plan (sub [1, 1, 0, 1] vizardlaw18_PolicyFirst.body) = (True) := by kernel_rfl
  exact e.mpr trivial
theorem vizardlaw18_PolicyFirst.J1.eq (l0 : Option Addr) (l1 : Nat) (l2 : Nat) (more0 : Option Addr) (more1 : Nat) (more2 : Nat) (proto0 : Int) (dst0 : Int) (port0 : Int) (x0 : Bool) (Q : Ex → Fr → Heap → Prop) (E : Value → Heap → Prop) (H : Heap) :
    vizardlaw18_PolicyFirst.J1.vc l0 l1 l2 more0 more1 more2 proto0 dst0 port0 x0 (fun  H => Q .normal (mkF 91 [(0, (.slice l0 l1 l2)), (1, (.slice more0 more1 more2)), (2, (.int .i64 proto0)), (3, (.int .u32 dst0)), (4, (.int .i64 port0))]) H) (fun y10_0 H => Q .ret (mkF 91 [(10, (.bool y10_0))]) H) E H = keepT [0, 1, 2, 3, 4] [10] (fun i => []) (wC Try.prog vizardlaw18_PolicyFirst.Γ vizardlaw18_PolicyFirst.J1.plan (sub [1, 1, 0, 1] vizardlaw18_PolicyFirst.body)) Q E (mkF 91 [(0, (.slice l0 l1 l2)), (1, (.slice more0 more1 more2)), (2, (.int .i64 proto0)), (3, (.int .u32 dst0)), (4, (.int .i64 port0)), (40, (.bool x0))]) H := by
  kernel_rfl
theorem vizardlaw18_PolicyFirst.J1.ok : SoundCode Try.prog (sub [1, 1, 0, 1] vizardlaw18_PolicyFirst.body) vizardlaw18_PolicyFirst.J1.t := by
  refine piece_sound (keepT_sound [0, 1, 2, 3, 4] [10] (fun i => []) (wC_sound vizardlaw18_PolicyFirst.hΓ Try.hm vizardlaw18_PolicyFirst.J1.plan _ vizardlaw18_PolicyFirst.J1.pok)) ?_
  intro Q E fr H h
  unfold vizardlaw18_PolicyFirst.J1.t at h
  obtain ⟨hl, h⟩ := lenIs_elim h
  obtain ⟨l0, l1, l2, q0, h⟩ := slSl_elim h
  obtain ⟨more0, more1, more2, q1, h⟩ := slSl_elim h
  obtain ⟨proto0, q2, h⟩ := slI_elim h
  obtain ⟨dst0, q3, h⟩ := slI_elim h
  obtain ⟨port0, q4, h⟩ := slI_elim h
  obtain ⟨x0, q40, h⟩ := slB_elim h
  refine ⟨(mkF 91 [(0, (.slice l0 l1 l2)), (1, (.slice more0 more1 more2)), (2, (.int .i64 proto0)), (3, (.int .u32 dst0)), (4, (.int .i64 port0)), (40, (.bool x0))]), fun a ha => ha.mk (Nat.le_of_eq hl.symm) (List.forall_mem_cons.2 ⟨q0, List.forall_mem_cons.2 ⟨q1, List.forall_mem_cons.2 ⟨q2, List.forall_mem_cons.2 ⟨q3, List.forall_mem_cons.2 ⟨q4, List.forall_mem_cons.2 ⟨q40, fun _ h => nomatch h⟩⟩⟩⟩⟩⟩), ?_⟩
  have e := vizardlaw18_PolicyFirst.J1.eq l0 l1 l2 more0 more1 more2 proto0 dst0 port0 x0 Q E H
  rw [← e]
  exact h.h
def vizardlaw18_PolicyFirst.J5.t : CT := fun Q E fr H => lenIs 91 fr (slB fr 13 fun a0 => slB fr 14 fun b0 => slB fr 15 fun c0 => slB fr 78 fun x0 => vizardlaw18_PolicyFirst.J5 a0 b0 c0 x0 (fun  H => Q .normal (mkF 91 [(13, (.bool a0)), (14, (.bool b0)), (15, (.bool c0))]) H) (fun y10_0 H => Q .ret (mkF 91 [(10, (.bool y10_0))]) H) E H)
noncomputable def vizardlaw18_PolicyFirst.J5.plan : Plan := .go
theorem vizardlaw18_PolicyFirst.J5.pok : PlanOk Try.prog vizardlaw18_PolicyFirst.J5.plan (sub [1, 1, 1, 1, 1, 1, 1, 1, 0, 1] vizardlaw18_PolicyFirst.body) := by
  have e : PlanOk Try.prog vizardlaw18_PolicyFirst.J5.plan (sub [1, 1, 1, 1, 1, 1, 1, 1, 0, 1] vizardlaw18_PolicyFirst.body) = (True) := by kernel_rfl
  exact e.mpr trivial
theorem vizardlaw18_PolicyFirst.J5.eq (a0 : Bool) (b0 : Bool) (c0 : Bool) (x0 : Bool) (Q : Ex → Fr → Heap → Prop) (E : Value → Heap → Prop) (H : Heap) :
    vizardlaw18_PolicyFirst.J5.vc a0 b0 c0 x0 (fun  H => Q .normal (mkF 91 [(13, (.bool a0)), (14, (.bool b0)), (15, (.bool c0))]) H) (fun y10_0 H => Q .ret (mkF 91 [(10, (.bool y10_0))]) H) E H = keepT [13, 14, 15] [10] (fun i => []) (wC Try.prog vizardlaw18_PolicyFirst.Γ vizardlaw18_PolicyFirst.J5.plan (sub [1, 1, 1, 1, 1, 1, 1, 1, 0, 1] vizardlaw18_PolicyFirst.body)) Q E (mkF 91 [(13, (.bool a0)), (14, (.bool b0)), (15, (.bool c0)), (78, (.bool x0))]) H := by
  kernel_rfl
theorem vizardlaw18_PolicyFirst.J5.ok : SoundCode Try.prog (sub [1, 1, 1, 1, 1, 1, 1, 1, 0, 1] vizardlaw18_PolicyFirst.body) vizardlaw18_PolicyFirst.J5.t := by
  refine piece_sound (keepT_sound [13, 14, 15] [10] (fun i => []) (wC_sound vizardlaw18_PolicyFirst.hΓ Try.hm vizardlaw18_PolicyFirst.J5.plan _ vizardlaw18_PolicyFirst.J5.pok)) ?_
  intro Q E fr H h
  unfold vizardlaw18_PolicyFirst.J5.t at h
  obtain ⟨hl, h⟩ := lenIs_elim h
  obtain ⟨a0, q13, h⟩ := slB_elim h
  obtain ⟨b0, q14, h⟩ := slB_elim h
  obtain ⟨c0, q15, h⟩ := slB_elim h
  obtain ⟨x0, q78, h⟩ := slB_elim h
  refine ⟨(mkF 91 [(13, (.bool a0)), (14, (.bool b0)), (15, (.bool c0)), (78, (.bool x0))]), fun a ha => ha.mk (Nat.le_of_eq hl.symm) (List.forall_mem_cons.2 ⟨q13, List.forall_mem_cons.2 ⟨q14, List.forall_mem_cons.2 ⟨q15, List.forall_mem_cons.2 ⟨q78, fun _ h => nomatch h⟩⟩⟩⟩), ?_⟩
  have e := vizardlaw18_PolicyFirst.J5.eq a0 b0 c0 x0 Q E H
  rw [← e]
  exact h.h
def vizardlaw18_PolicyFirst.J6.t : CT := fun Q E fr H => lenIs 91 fr (slB fr 13 fun a0 => slB fr 14 fun b0 => slB fr 15 fun c0 => vizardlaw18_PolicyFirst.J6 a0 b0 c0 (fun y10_0 H => Q .ret (mkF 91 [(10, (.bool y10_0))]) H) E H)
noncomputable def vizardlaw18_PolicyFirst.J6.plan : Plan := .go
theorem vizardlaw18_PolicyFirst.J6.pok : PlanOk Try.prog vizardlaw18_PolicyFirst.J6.plan (sub [1, 1, 1, 1, 1, 1, 1, 1, 1] vizardlaw18_PolicyFirst.body) := by
  have e : PlanOk Try.prog vizardlaw18_PolicyFirst.J6.plan (sub [1, 1, 1, 1, 1, 1, 1, 1, 1] vizardlaw18_PolicyFirst.body) = (True) := by kernel_rfl
  exact e.mpr trivial
theorem vizardlaw18_PolicyFirst.J6.eq (a0 : Bool) (b0 : Bool) (c0 : Bool) (Q : Ex → Fr → Heap → Prop) (E : Value → Heap → Prop) (H : Heap) :
    vizardlaw18_PolicyFirst.J6.vc a0 b0 c0 (fun y10_0 H => Q .ret (mkF 91 [(10, (.bool y10_0))]) H) E H = keepT [] [10] (fun i => []) (wC Try.prog vizardlaw18_PolicyFirst.Γ vizardlaw18_PolicyFirst.J6.plan (sub [1, 1, 1, 1, 1, 1, 1, 1, 1] vizardlaw18_PolicyFirst.body)) Q E (mkF 91 [(13, (.bool a0)), (14, (.bool b0)), (15, (.bool c0))]) H := by
  kernel_rfl
theorem vizardlaw18_PolicyFirst.J6.ok : SoundCode Try.prog (sub [1, 1, 1, 1, 1, 1, 1, 1, 1] vizardlaw18_PolicyFirst.body) vizardlaw18_PolicyFirst.J6.t := by
  refine piece_sound (keepT_sound [] [10] (fun i => []) (wC_sound vizardlaw18_PolicyFirst.hΓ Try.hm vizardlaw18_PolicyFirst.J6.plan _ vizardlaw18_PolicyFirst.J6.pok)) ?_
  intro Q E fr H h
  unfold vizardlaw18_PolicyFirst.J6.t at h
  obtain ⟨hl, h⟩ := lenIs_elim h
  obtain ⟨a0, q13, h⟩ := slB_elim h
  obtain ⟨b0, q14, h⟩ := slB_elim h
  obtain ⟨c0, q15, h⟩ := slB_elim h
  refine ⟨(mkF 91 [(13, (.bool a0)), (14, (.bool b0)), (15, (.bool c0))]), fun a ha => ha.mk (Nat.le_of_eq hl.symm) (List.forall_mem_cons.2 ⟨q13, List.forall_mem_cons.2 ⟨q14, List.forall_mem_cons.2 ⟨q15, fun _ h => nomatch h⟩⟩⟩), ?_⟩
  have e := vizardlaw18_PolicyFirst.J6.eq a0 b0 c0 Q E H
  rw [← e]
  exact h.h
def vizardlaw18_PolicyFirst.J4.t : CT := fun Q E fr H => lenIs 91 fr (slSl fr 0 fun l0 l1 l2 => slSl fr 1 fun more0 more1 more2 => slI fr 2 .i64 fun proto0 => slI fr 3 .u32 fun dst0 => slI fr 4 .i64 fun port0 => slSl fr 11 fun all0 all1 all2 => slSl fr 12 fun no0 no1 no2 => vizardlaw18_PolicyFirst.J4 l0 l1 l2 more0 more1 more2 proto0 dst0 port0 all0 all1 all2 no0 no1 no2 (fun y10_0 H => Q .ret (mkF 91 [(10, (.bool y10_0))]) H) E H)
noncomputable def vizardlaw18_PolicyFirst.J4.plan : Plan := .seq (.go) (.seq (.go) (.seq (.go) (.seq (.seq (.go) (.use vizardlaw18_PolicyFirst.J5.t)) (.use vizardlaw18_PolicyFirst.J6.t))))
theorem vizardlaw18_PolicyFirst.J4.pok : PlanOk Try.prog vizardlaw18_PolicyFirst.J4.plan (sub [1, 1, 1, 1, 1] vizardlaw18_PolicyFirst.body) := by
  have e : PlanOk Try.prog vizardlaw18_PolicyFirst.J4.plan (sub [1, 1, 1, 1, 1] vizardlaw18_PolicyFirst.body) = ((True) ∧ ((True) ∧ ((True) ∧ (((True) ∧ (SoundCode Try.prog (sub [1, 1, 1, 1, 1, 1, 1, 1, 0, 1] vizardlaw18_PolicyFirst.body) vizardlaw18_PolicyFirst.J5.t)) ∧ (SoundCode Try.prog (sub [1, 1, 1, 1, 1, 1, 1, 1, 1] vizardlaw18_PolicyFirst.body) vizardlaw18_PolicyFirst.J6.t))))) := by kernel_rfl
  exact e.mpr ⟨trivial, ⟨trivial, ⟨trivial, ⟨⟨trivial, vizardlaw18_PolicyFirst.J5.ok⟩, vizardlaw18_PolicyFirst.J6.ok⟩⟩⟩⟩
theorem vizardlaw18_PolicyFirst.J4.eq (l0 : Option Addr) (l1 : Nat) (l2 : Nat) (more0 : Option Addr) (more1 : Nat) (more2 : Nat) (proto0 : Int) (dst0 : Int) (port0 : Int) (all0 : Option Addr) (all1 : Nat) (all2 : Nat) (no0 : Option Addr) (no1 : Nat) (no2 : Nat) (Q : Ex → Fr → Heap → Prop) (E : Value → Heap → Prop) (H : Heap) :
    vizardlaw18_PolicyFirst.J4.vc l0 l1 l2 more0 more1 more2 proto0 dst0 port0 all0 all1 all2 no0 no1 no2 (fun y10_0 H => Q .ret (mkF 91 [(10, (.bool y10_0))]) H) E H = keepT [] [10] (fun i => []) (wC Try.prog vizardlaw18_PolicyFirst.Γ vizardlaw18_PolicyFirst.J4.plan (sub [1, 1, 1, 1, 1] vizardlaw18_PolicyFirst.body)) Q E (mkF 91 [(0, (.slice l0 l1 l2)), (1, (.slice more0 more1 more2)), (2, (.int .i64 proto0)), (3, (.int .u32 dst0)), (4, (.int .i64 port0)), (11, (.slice all0 all1 all2)), (12, (.slice no0 no1 no2))]) H := by
  kernel_rfl
theorem vizardlaw18_PolicyFirst.J4.ok : SoundCode Try.prog (sub [1, 1, 1, 1, 1] vizardlaw18_PolicyFirst.body) vizardlaw18_PolicyFirst.J4.t := by
  refine piece_sound (keepT_sound [] [10] (fun i => []) (wC_sound vizardlaw18_PolicyFirst.hΓ Try.hm vizardlaw18_PolicyFirst.J4.plan _ vizardlaw18_PolicyFirst.J4.pok)) ?_
  intro Q E fr H h
  unfold vizardlaw18_PolicyFirst.J4.t at h
  obtain ⟨hl, h⟩ := lenIs_elim h
  obtain ⟨l0, l1, l2, q0, h⟩ := slSl_elim h
  obtain ⟨more0, more1, more2, q1, h⟩ := slSl_elim h
  obtain ⟨proto0, q2, h⟩ := slI_elim h
  obtain ⟨dst0, q3, h⟩ := slI_elim h
  obtain ⟨port0, q4, h⟩ := slI_elim h
  obtain ⟨all0, all1, all2, q11, h⟩ := slSl_elim h
  obtain ⟨no0, no1, no2, q12, h⟩ := slSl_elim h
  refine ⟨(mkF 91 [(0, (.slice l0 l1 l2)), (1, (.slice more0 more1 more2)), (2, (.int .i64 proto0)), (3, (.int .u32 dst0)), (4, (.int .i64 port0)), (11, (.slice all0 all1 all2)), (12, (.slice no0 no1 no2))]), fun a ha => ha.mk (Nat.le_of_eq hl.symm) (List.forall_mem_cons.2 ⟨q0, List.forall_mem_cons.2 ⟨q1, List.forall_mem_cons.2 ⟨q2, List.forall_mem_cons.2 ⟨q3, List.forall_mem_cons.2 ⟨q4, List.forall_mem_cons.2 ⟨q11, List.forall_mem_cons.2 ⟨q12, fun _ h => nomatch h⟩⟩⟩⟩⟩⟩⟩), ?_⟩
  have e := vizardlaw18_PolicyFirst.J4.eq l0 l1 l2 more0 more1 more2 proto0 dst0 port0 all0 all1 all2 no0 no1 no2 Q E H
  rw [← e]
  exact h.h
def vizardlaw18_PolicyFirst.J3.t : CT := fun Q E fr H => lenIs 91 fr (slSl fr 0 fun l0 l1 l2 => slSl fr 1 fun more0 more1 more2 => slI fr 2 .i64 fun proto0 => slI fr 3 .u32 fun dst0 => slI fr 4 .i64 fun port0 => slSl fr 11 fun all0 all1 all2 => vizardlaw18_PolicyFirst.J3 l0 l1 l2 more0 more1 more2 proto0 dst0 port0 all0 all1 all2 (fun y10_0 H => Q .ret (mkF 91 [(10, (.bool y10_0))]) H) E H)
noncomputable def vizardlaw18_PolicyFirst.J3.plan : Plan := .seq (.go) (.use vizardlaw18_PolicyFirst.J4.t)
theorem vizardlaw18_PolicyFirst.J3.pok : PlanOk Try.prog vizardlaw18_PolicyFirst.J3.plan (sub [1, 1, 1, 1] vizardlaw18_PolicyFirst.body) := by
  have e : PlanOk Try.prog vizardlaw18_PolicyFirst.J3.plan (sub [1, 1, 1, 1] vizardlaw18_PolicyFirst.body) = ((True) ∧ (SoundCode Try.prog (sub [1, 1, 1, 1, 1] vizardlaw18_PolicyFirst.body) vizardlaw18_PolicyFirst.J4.t)) := by kernel_rfl
  exact e.mpr ⟨trivial, vizardlaw18_PolicyFirst.J4.ok⟩
theorem vizardlaw18_PolicyFirst.J3.eq (l0 : Option Addr) (l1 : Nat) (l2 : Nat) (more0 : Option Addr) (more1 : Nat) (more2 : Nat) (proto0 : Int) (dst0 : Int) (port0 : Int) (all0 : Option Addr) (all1 : Nat) (all2 : Nat) (Q : Ex → Fr → Heap → Prop) (E : Value → Heap → Prop) (H : Heap) :
    vizardlaw18_PolicyFirst.J3.vc l0 l1 l2 more0 more1 more2 proto0 dst0 port0 all0 all1 all2 (fun y10_0 H => Q .ret (mkF 91 [(10, (.bool y10_0))]) H) E H = keepT [] [10] (fun i => []) (wC Try.prog vizardlaw18_PolicyFirst.Γ vizardlaw18_PolicyFirst.J3.plan (sub [1, 1, 1, 1] vizardlaw18_PolicyFirst.body)) Q E (mkF 91 [(0, (.slice l0 l1 l2)), (1, (.slice more0 more1 more2)), (2, (.int .i64 proto0)), (3, (.int .u32 dst0)), (4, (.int .i64 port0)), (11, (.slice all0 all1 all2))]) H := by
  kernel_rfl
theorem vizardlaw18_PolicyFirst.J3.ok : SoundCode Try.prog (sub [1, 1, 1, 1] vizardlaw18_PolicyFirst.body) vizardlaw18_PolicyFirst.J3.t := by
  refine piece_sound (keepT_sound [] [10] (fun i => []) (wC_sound vizardlaw18_PolicyFirst.hΓ Try.hm vizardlaw18_PolicyFirst.J3.plan _ vizardlaw18_PolicyFirst.J3.pok)) ?_
  intro Q E fr H h
  unfold vizardlaw18_PolicyFirst.J3.t at h
  obtain ⟨hl, h⟩ := lenIs_elim h
  obtain ⟨l0, l1, l2, q0, h⟩ := slSl_elim h
  obtain ⟨more0, more1, more2, q1, h⟩ := slSl_elim h
  obtain ⟨proto0, q2, h⟩ := slI_elim h
  obtain ⟨dst0, q3, h⟩ := slI_elim h
  obtain ⟨port0, q4, h⟩ := slI_elim h
  obtain ⟨all0, all1, all2, q11, h⟩ := slSl_elim h
  refine ⟨(mkF 91 [(0, (.slice l0 l1 l2)), (1, (.slice more0 more1 more2)), (2, (.int .i64 proto0)), (3, (.int .u32 dst0)), (4, (.int .i64 port0)), (11, (.slice all0 all1 all2))]), fun a ha => ha.mk (Nat.le_of_eq hl.symm) (List.forall_mem_cons.2 ⟨q0, List.forall_mem_cons.2 ⟨q1, List.forall_mem_cons.2 ⟨q2, List.forall_mem_cons.2 ⟨q3, List.forall_mem_cons.2 ⟨q4, List.forall_mem_cons.2 ⟨q11, fun _ h => nomatch h⟩⟩⟩⟩⟩⟩), ?_⟩
  have e := vizardlaw18_PolicyFirst.J3.eq l0 l1 l2 more0 more1 more2 proto0 dst0 port0 all0 all1 all2 Q E H
  rw [← e]
  exact h.h
def vizardlaw18_PolicyFirst.J2.t : CT := fun Q E fr H => lenIs 91 fr (slSl fr 0 fun l0 l1 l2 => slSl fr 1 fun more0 more1 more2 => slI fr 2 .i64 fun proto0 => slI fr 3 .u32 fun dst0 => slI fr 4 .i64 fun port0 => vizardlaw18_PolicyFirst.J2 l0 l1 l2 more0 more1 more2 proto0 dst0 port0 (fun y10_0 H => Q .ret (mkF 91 [(10, (.bool y10_0))]) H) E H)
noncomputable def vizardlaw18_PolicyFirst.J2.plan : Plan := .seq (.go) (.use vizardlaw18_PolicyFirst.J3.t)
theorem vizardlaw18_PolicyFirst.J2.pok : PlanOk Try.prog vizardlaw18_PolicyFirst.J2.plan (sub [1, 1, 1] vizardlaw18_PolicyFirst.body) := by
  have e : PlanOk Try.prog vizardlaw18_PolicyFirst.J2.plan (sub [1, 1, 1] vizardlaw18_PolicyFirst.body) = ((True) ∧ (SoundCode Try.prog (sub [1, 1, 1, 1] vizardlaw18_PolicyFirst.body) vizardlaw18_PolicyFirst.J3.t)) := by kernel_rfl
  exact e.mpr ⟨trivial, vizardlaw18_PolicyFirst.J3.ok⟩
theorem vizardlaw18_PolicyFirst.J2.eq (l0 : Option Addr) (l1 : Nat) (l2 : Nat) (more0 : Option Addr) (more1 : Nat) (more2 : Nat) (proto0 : Int) (dst0 : Int) (port0 : Int) (Q : Ex → Fr → Heap → Prop) (E : Value → Heap → Prop) (H : Heap) :
    vizardlaw18_PolicyFirst.J2.vc l0 l1 l2 more0 more1 more2 proto0 dst0 port0 (fun y10_0 H => Q .ret (mkF 91 [(10, (.bool y10_0))]) H) E H = keepT [] [10] (fun i => []) (wC Try.prog vizardlaw18_PolicyFirst.Γ vizardlaw18_PolicyFirst.J2.plan (sub [1, 1, 1] vizardlaw18_PolicyFirst.body)) Q E (mkF 91 [(0, (.slice l0 l1 l2)), (1, (.slice more0 more1 more2)), (2, (.int .i64 proto0)), (3, (.int .u32 dst0)), (4, (.int .i64 port0))]) H := by
  kernel_rfl
theorem vizardlaw18_PolicyFirst.J2.ok : SoundCode Try.prog (sub [1, 1, 1] vizardlaw18_PolicyFirst.body) vizardlaw18_PolicyFirst.J2.t := by
  refine piece_sound (keepT_sound [] [10] (fun i => []) (wC_sound vizardlaw18_PolicyFirst.hΓ Try.hm vizardlaw18_PolicyFirst.J2.plan _ vizardlaw18_PolicyFirst.J2.pok)) ?_
  intro Q E fr H h
  unfold vizardlaw18_PolicyFirst.J2.t at h
  obtain ⟨hl, h⟩ := lenIs_elim h
  obtain ⟨l0, l1, l2, q0, h⟩ := slSl_elim h
  obtain ⟨more0, more1, more2, q1, h⟩ := slSl_elim h
  obtain ⟨proto0, q2, h⟩ := slI_elim h
  obtain ⟨dst0, q3, h⟩ := slI_elim h
  obtain ⟨port0, q4, h⟩ := slI_elim h
  refine ⟨(mkF 91 [(0, (.slice l0 l1 l2)), (1, (.slice more0 more1 more2)), (2, (.int .i64 proto0)), (3, (.int .u32 dst0)), (4, (.int .i64 port0))]), fun a ha => ha.mk (Nat.le_of_eq hl.symm) (List.forall_mem_cons.2 ⟨q0, List.forall_mem_cons.2 ⟨q1, List.forall_mem_cons.2 ⟨q2, List.forall_mem_cons.2 ⟨q3, List.forall_mem_cons.2 ⟨q4, fun _ h => nomatch h⟩⟩⟩⟩⟩), ?_⟩
  have e := vizardlaw18_PolicyFirst.J2.eq l0 l1 l2 more0 more1 more2 proto0 dst0 port0 Q E H
  rw [← e]
  exact h.h
noncomputable def vizardlaw18_PolicyFirst.plan : Plan := .seq (.go) (.seq (.go) (.seq (.seq (.go) (.use vizardlaw18_PolicyFirst.J1.t)) (.use vizardlaw18_PolicyFirst.J2.t)))
theorem vizardlaw18_PolicyFirst.pok : PlanOk Try.prog vizardlaw18_PolicyFirst.plan vizardlaw18_PolicyFirst.body := by
  have e : PlanOk Try.prog vizardlaw18_PolicyFirst.plan vizardlaw18_PolicyFirst.body = ((True) ∧ ((True) ∧ (((True) ∧ (SoundCode Try.prog (sub [1, 1, 0, 1] vizardlaw18_PolicyFirst.body) vizardlaw18_PolicyFirst.J1.t)) ∧ (SoundCode Try.prog (sub [1, 1, 1] vizardlaw18_PolicyFirst.body) vizardlaw18_PolicyFirst.J2.t)))) := by kernel_rfl
  exact e.mpr ⟨trivial, ⟨trivial, ⟨⟨trivial, vizardlaw18_PolicyFirst.J1.ok⟩, vizardlaw18_PolicyFirst.J2.ok⟩⟩⟩
theorem vizardlaw18_PolicyFirst.eq (l0 : Option Addr) (l1 : Nat) (l2 : Nat) (more0 : Option Addr) (more1 : Nat) (more2 : Nat) (proto0 : Int) (dst0 : Int) (port0 : Int) (K : Value → Heap → Prop) (E : Value → Heap → Prop) (H : Heap) :
    fnT Try.prog Try.f5 (wC Try.prog vizardlaw18_PolicyFirst.Γ vizardlaw18_PolicyFirst.plan vizardlaw18_PolicyFirst.body) [(.slice l0 l1 l2), (.slice more0 more1 more2), (.int .i64 proto0), (.int .u32 dst0), (.int .i64 port0)] K E H = vizardlaw18_PolicyFirst.vc l0 l1 l2 more0 more1 more2 proto0 dst0 port0 (fun r0_0 H => K (.bool r0_0) H) E H := by
  kernel_rfl
theorem vizardlaw18_PolicyFirst.Fe {args : List Value} {K E : Value → Heap → Prop} {H : Heap} (h : vizardlaw18_PolicyFirst.F args K E H) : ∃ l0 l1 l2 more0 more1 more2 proto0 dst0 port0, args = [(.slice l0 l1 l2), (.slice more0 more1 more2), (.int .i64 proto0), (.int .u32 dst0), (.int .i64 port0)] ∧ vizardlaw18_PolicyFirst.c l0 l1 l2 more0 more1 more2 proto0 dst0 port0 (fun r0_0 H => K (.bool r0_0) H) E H := by
  unfold vizardlaw18_PolicyFirst.F at h
  split at h
  · exact ⟨_, _, _, _, _, _, _, _, _, rfl, h⟩
  · exact h.elim
theorem vizardlaw18_PolicyFirst.ok : CalleeOk Try.prog 5 vizardlaw18_PolicyFirst.F :=
  callee_ok vizardlaw18_PolicyFirst.hΓ (fn := Try.f5) (c := vizardlaw18_PolicyFirst.body) (T := wC Try.prog vizardlaw18_PolicyFirst.Γ vizardlaw18_PolicyFirst.plan vizardlaw18_PolicyFirst.body) (by kernel_rfl) (by kernel_rfl) (by kernel_rfl) (wC_sound vizardlaw18_PolicyFirst.hΓ Try.hm vizardlaw18_PolicyFirst.plan _ vizardlaw18_PolicyFirst.pok) fun _ K E H h => by
    obtain ⟨z0, z1, z2, z3, z4, z5, z6, z7, z8, e, h⟩ := vizardlaw18_PolicyFirst.Fe h
    subst e
    have h2 : vizardlaw18_PolicyFirst.vc z0 z1 z2 z3 z4 z5 z6 z7 z8 (fun r0_0 H => ∃ H', Heap.Le H' H ∧ K (.bool r0_0) H') E H := h.h
    rw [vizardlaw18_PolicyFirst.eq z0 z1 z2 z3 z4 z5 z6 z7 z8 (Fg K) E H]
    exact h2

/-! vizard/vizardlaw18.PolicyMore -/
noncomputable def vizardlaw18_PolicyMore.body : Code := Try.f6.body.getD .skip
def vizardlaw18_PolicyMore.J1.vc (l0 : Option Addr) (l1 : Nat) (l2 : Nat) (proto0 : Int) (dst0 : Int) (port0 : Int) (x0 : Addr) (x1 : Bool) (Kn : Heap → Prop) (Kr : Bool → Heap → Prop) (E : Value → Heap → Prop) (h0 : Heap) : Prop :=
  (if x1 = true then
  Kr true h0
  else
  Kn h0)
structure vizardlaw18_PolicyMore.J1 (l0 : Option Addr) (l1 : Nat) (l2 : Nat) (proto0 : Int) (dst0 : Int) (port0 : Int) (x0 : Addr) (x1 : Bool) (Kn : Heap → Prop) (Kr : Bool → Heap → Prop) (E : Value → Heap → Prop) (H : Heap) : Prop where
  h : vizardlaw18_PolicyMore.J1.vc l0 l1 l2 proto0 dst0 port0 x0 x1 Kn Kr E H
def vizardlaw18_PolicyMore.J3.vc (x0 : Addr) (a0 : Bool) (b0 : Bool) (Kr : Bool → Heap → Prop) (E : Value → Heap → Prop) (h0 : Heap) : Prop :=
  (if (a0 == b0) = true then
  Kr true h0
  else
  (if (!a0) = true then
  (if b0 = true then
  ldB h0 (x0.add 0) fun x1 =>
  Kr x1 h0
  else
  Kr false h0)
  else
  Kr false h0))
structure vizardlaw18_PolicyMore.J3 (x0 : Addr) (a0 : Bool) (b0 : Bool) (Kr : Bool → Heap → Prop) (E : Value → Heap → Prop) (H : Heap) : Prop where
  h : vizardlaw18_PolicyMore.J3.vc x0 a0 b0 Kr E H
def vizardlaw18_PolicyMore.J2.vc (l0 : Option Addr) (l1 : Nat) (l2 : Nat) (proto0 : Int) (dst0 : Int) (port0 : Int) (x0 : Addr) (Kr : Bool → Heap → Prop) (E : Value → Heap → Prop) (h0 : Heap) : Prop :=
  vizardlaw18_own.c l0 l1 l2 (fun x1 x2 x3 h1 =>
  policy_Allow.c x1 x2 x3 proto0 dst0 port0 (fun x4 h2 =>
  ldB h2 (x0.add 0) fun x5 => ldI h2 .i64 (x0.add 1) fun x6 => ldI h2 .u32 (x0.add 2) fun x7 => ldI h2 .i64 (x0.add 3) fun x8 => ldI h2 .i64 (x0.add 4) fun x9 => ldI h2 .i64 (x0.add 5) fun x10 =>
  (vizardlaw18_own.c l0 l1 l2 (fun x11 x12 x13 h3 =>
  (ldB h3 (x0.add 0) fun x14 => ldI h3 .i64 (x0.add 1) fun x15 => ldI h3 .u32 (x0.add 2) fun x16 => ldI h3 .i64 (x0.add 3) fun x17 => ldI h3 .i64 (x0.add 4) fun x18 => ldI h3 .i64 (x0.add 5) fun x19 =>
  eqv h3 h3 (some (.agg #[(.bool x5), (.int .i64 x6), (.int .u32 x7), (.int .i64 x8), (.int .i64 x9), (.int .i64 x10)])) (.agg #[(.bool x14), (.int .i64 x15), (.int .u32 x16), (.int .i64 x17), (.int .i64 x18), (.int .i64 x19)])) ∧
  newB (.cells #[(.bool x5), (.int .i64 x6), (.int .u32 x7), (.int .i64 x8), (.int .i64 x9), (.int .i64 x10)] 40) (fun b0 h4 =>
  rdRow h4 (some (⟨b0, 0, none⟩ : Addr)) (1 * 6) fun cs0 =>
  appT 40 (.agg #[(.bool false), (.int .i64 0), (.int .u32 0), (.int .i64 0), (.int .i64 0), (.int .i64 0)]) x11 x12 1 x13 6 48 cs0 (fun p0 n0 c0 h5 =>
  policy_Allow.c p0 n0 c0 proto0 dst0 port0 (fun x20 h6 =>
  vizardlaw18_PolicyMore.J3 x0 x4 x20 Kr E h6) E h5) h4) h3) E h2) ∧
  newB (.cells #[(.bool x5), (.int .i64 x6), (.int .u32 x7), (.int .i64 x8), (.int .i64 x9), (.int .i64 x10)] 40) (fun b1 h8 =>
  vizardlaw18_own.c l0 l1 l2 (fun x22 x23 x24 h9 =>
  (ldB h9 (x0.add 0) fun x25 => ldI h9 .i64 (x0.add 1) fun x26 => ldI h9 .u32 (x0.add 2) fun x27 => ldI h9 .i64 (x0.add 3) fun x28 => ldI h9 .i64 (x0.add 4) fun x29 => ldI h9 .i64 (x0.add 5) fun x30 =>
  eqv h9 h9 (some (.agg #[(.bool x5), (.int .i64 x6), (.int .u32 x7), (.int .i64 x8), (.int .i64 x9), (.int .i64 x10)])) (.agg #[(.bool x25), (.int .i64 x26), (.int .u32 x27), (.int .i64 x28), (.int .i64 x29), (.int .i64 x30)])) ∧
  rdRow h9 (some (⟨b1, 0, none⟩ : Addr)) (1 * 6) fun cs1 =>
  appT 40 (.agg #[(.bool false), (.int .i64 0), (.int .u32 0), (.int .i64 0), (.int .i64 0), (.int .i64 0)]) x22 x23 1 x24 6 48 cs1 (fun p1 n1 c1 h10 =>
  policy_Allow.c p1 n1 c1 proto0 dst0 port0 (fun x31 h11 =>
  vizardlaw18_PolicyMore.J3 x0 x4 x31 Kr E h11) E h10) h9) E h8) h2) E h1) E h0
structure vizardlaw18_PolicyMore.J2 (l0 : Option Addr) (l1 : Nat) (l2 : Nat) (proto0 : Int) (dst0 : Int) (port0 : Int) (x0 : Addr) (Kr : Bool → Heap → Prop) (E : Value → Heap → Prop) (H : Heap) : Prop where
  h : vizardlaw18_PolicyMore.J2.vc l0 l1 l2 proto0 dst0 port0 x0 Kr E H
def vizardlaw18_PolicyMore.vc (l0 : Option Addr) (l1 : Nat) (l2 : Nat) (x0 : Bool) (x1 : Int) (x2 : Int) (x3 : Int) (x4 : Int) (x5 : Int) (proto0 : Int) (dst0 : Int) (port0 : Int) (K : Bool → Heap → Prop) (E : Value → Heap → Prop) (h0 : Heap) : Prop :=
  newB (.cells #[(.bool x0), (.int .i64 x1), (.int .u32 x2), (.int .i64 x3), (.int .i64 x4), (.int .i64 x5)] 40) (fun b0 h1 =>
  vizardlaw18_works.c (fun x6 h2 =>
  (if (!x6) = true then
  K false h2
  else
  (if (decide ((l1 : Int) > 31)) = true then
  vizardlaw18_PolicyMore.J1 l0 l1 l2 proto0 dst0 port0 (⟨b0, 0, none⟩ : Addr) true (fun h3 =>
  vizardlaw18_PolicyMore.J2 l0 l1 l2 proto0 dst0 port0 (⟨b0, 0, none⟩ : Addr) K E h3) K E h2
  else
  vizardlaw18_own.c l0 l1 l2 (fun x9 x10 x11 h6 =>
  policy_Check.c x9 x10 x11 (fun x12 h7 =>
  (if (x12 != 0) = true then
  vizardlaw18_PolicyMore.J1 l0 l1 l2 proto0 dst0 port0 (⟨b0, 0, none⟩ : Addr) true (fun h8 =>
  vizardlaw18_PolicyMore.J2 l0 l1 l2 proto0 dst0 port0 (⟨b0, 0, none⟩ : Addr) K E h8) K E h7
  else
  ldB h7 ((⟨b0, 0, none⟩ : Addr).add 0) fun x15 => ldI h7 .i64 ((⟨b0, 0, none⟩ : Addr).add 1) fun x16 => ldI h7 .u32 ((⟨b0, 0, none⟩ : Addr).add 2) fun x17 => ldI h7 .i64 ((⟨b0, 0, none⟩ : Addr).add 3) fun x18 => ldI h7 .i64 ((⟨b0, 0, none⟩ : Addr).add 4) fun x19 => ldI h7 .i64 ((⟨b0, 0, none⟩ : Addr).add 5) fun x20 =>
  newB (.cells #[(.bool x15), (.int .i64 x16), (.int .u32 x17), (.int .i64 x18), (.int .i64 x19), (.int .i64 x20)] 40) (fun b1 h11 =>
  policy_Check.c (some (⟨b1, 0, none⟩ : Addr)) 1 1 (fun x21 h12 =>
  vizardlaw18_PolicyMore.J1 l0 l1 l2 proto0 dst0 port0 (⟨b0, 0, none⟩ : Addr) (x21 != 0) (fun h13 =>
  vizardlaw18_PolicyMore.J2 l0 l1 l2 proto0 dst0 port0 (⟨b0, 0, none⟩ : Addr) K E h13) K E h12) E h11) h7)) E h6) E h2))) E h1) h0
structure vizardlaw18_PolicyMore.c (l0 : Option Addr) (l1 : Nat) (l2 : Nat) (x0 : Bool) (x1 : Int) (x2 : Int) (x3 : Int) (x4 : Int) (x5 : Int) (proto0 : Int) (dst0 : Int) (port0 : Int) (K : Bool → Heap → Prop) (E : Value → Heap → Prop) (H : Heap) : Prop where
  h : vizardlaw18_PolicyMore.vc l0 l1 l2 x0 x1 x2 x3 x4 x5 proto0 dst0 port0 (fun r0_0 H => ∃ H', Heap.Le H' H ∧ K r0_0 H') E H
def vizardlaw18_PolicyMore.F : FT := fun args K E H => match args with
  | [(.slice l0 l1 l2), (.agg ⟨[(.bool x0), (.int .i64 x1), (.int .u32 x2), (.int .i64 x3), (.int .i64 x4), (.int .i64 x5)]⟩), (.int .i64 proto0), (.int .u32 dst0), (.int .i64 port0)] => vizardlaw18_PolicyMore.c l0 l1 l2 x0 x1 x2 x3 x4 x5 proto0 dst0 port0 (fun r0_0 H => K (.bool r0_0) H) E H
  | _ => False
noncomputable def vizardlaw18_PolicyMore.Γ : FuncId → Option FT := Γof [(11, vizardlaw18_own.F), (13, vizardlaw18_works.F), (14, policy_Allow.F), (15, policy_Check.F)]
theorem vizardlaw18_PolicyMore.hΓ : ∀ f F, vizardlaw18_PolicyMore.Γ f = some F → CalleeOk Try.prog f F := Γof_ok (List.forall_mem_cons.2 ⟨vizardlaw18_own.ok, List.forall_mem_cons.2 ⟨vizardlaw18_works.ok, List.forall_mem_cons.2 ⟨policy_Allow.ok, List.forall_mem_cons.2 ⟨policy_Check.ok, fun _ h => nomatch h⟩⟩⟩⟩)
def vizardlaw18_PolicyMore.J1.t : CT := fun Q E fr H => lenIs 59 fr (slSl fr 0 fun l0 l1 l2 => slI fr 2 .i64 fun proto0 => slI fr 3 .u32 fun dst0 => slI fr 4 .i64 fun port0 => slPA fr 6 fun x0 => slB fr 29 fun x1 => vizardlaw18_PolicyMore.J1 l0 l1 l2 proto0 dst0 port0 x0 x1 (fun  H => Q .normal (mkF 59 [(0, (.slice l0 l1 l2)), (2, (.int .i64 proto0)), (3, (.int .u32 dst0)), (4, (.int .i64 port0)), (6, (.pointer (some x0)))]) H) (fun y10_0 H => Q .ret (mkF 59 [(10, (.bool y10_0))]) H) E H)
noncomputable def vizardlaw18_PolicyMore.J1.plan : Plan := .go
theorem vizardlaw18_PolicyMore.J1.pok : PlanOk Try.prog vizardlaw18_PolicyMore.J1.plan (sub [1, 1, 0, 1] vizardlaw18_PolicyMore.body) := by
  have e : PlanOk Try.prog vizardlaw18_PolicyMore.J1.plan (sub [1, 1, 0, 1] vizardlaw18_PolicyMore.body) = (True) := by kernel_rfl
  exact e.mpr trivial
theorem vizardlaw18_PolicyMore.J1.eq (l0 : Option Addr) (l1 : Nat) (l2 : Nat) (proto0 : Int) (dst0 : Int) (port0 : Int) (x0 : Addr) (x1 : Bool) (Q : Ex → Fr → Heap → Prop) (E : Value → Heap → Prop) (H : Heap) :
    vizardlaw18_PolicyMore.J1.vc l0 l1 l2 proto0 dst0 port0 x0 x1 (fun  H => Q .normal (mkF 59 [(0, (.slice l0 l1 l2)), (2, (.int .i64 proto0)), (3, (.int .u32 dst0)), (4, (.int .i64 port0)), (6, (.pointer (some x0)))]) H) (fun y10_0 H => Q .ret (mkF 59 [(10, (.bool y10_0))]) H) E H = keepT [0, 2, 3, 4, 6] [10] (fun i => []) (wC Try.prog vizardlaw18_PolicyMore.Γ vizardlaw18_PolicyMore.J1.plan (sub [1, 1, 0, 1] vizardlaw18_PolicyMore.body)) Q E (mkF 59 [(0, (.slice l0 l1 l2)), (2, (.int .i64 proto0)), (3, (.int .u32 dst0)), (4, (.int .i64 port0)), (6, (.pointer (some x0))), (29, (.bool x1))]) H := by
  kernel_rfl
theorem vizardlaw18_PolicyMore.J1.ok : SoundCode Try.prog (sub [1, 1, 0, 1] vizardlaw18_PolicyMore.body) vizardlaw18_PolicyMore.J1.t := by
  refine piece_sound (keepT_sound [0, 2, 3, 4, 6] [10] (fun i => []) (wC_sound vizardlaw18_PolicyMore.hΓ Try.hm vizardlaw18_PolicyMore.J1.plan _ vizardlaw18_PolicyMore.J1.pok)) ?_
  intro Q E fr H h
  unfold vizardlaw18_PolicyMore.J1.t at h
  obtain ⟨hl, h⟩ := lenIs_elim h
  obtain ⟨l0, l1, l2, q0, h⟩ := slSl_elim h
  obtain ⟨proto0, q2, h⟩ := slI_elim h
  obtain ⟨dst0, q3, h⟩ := slI_elim h
  obtain ⟨port0, q4, h⟩ := slI_elim h
  obtain ⟨x0, q6, h⟩ := slPA_elim h
  obtain ⟨x1, q29, h⟩ := slB_elim h
  refine ⟨(mkF 59 [(0, (.slice l0 l1 l2)), (2, (.int .i64 proto0)), (3, (.int .u32 dst0)), (4, (.int .i64 port0)), (6, (.pointer (some x0))), (29, (.bool x1))]), fun a ha => ha.mk (Nat.le_of_eq hl.symm) (List.forall_mem_cons.2 ⟨q0, List.forall_mem_cons.2 ⟨q2, List.forall_mem_cons.2 ⟨q3, List.forall_mem_cons.2 ⟨q4, List.forall_mem_cons.2 ⟨q6, List.forall_mem_cons.2 ⟨q29, fun _ h => nomatch h⟩⟩⟩⟩⟩⟩), ?_⟩
  have e := vizardlaw18_PolicyMore.J1.eq l0 l1 l2 proto0 dst0 port0 x0 x1 Q E H
  rw [← e]
  exact h.h
def vizardlaw18_PolicyMore.J3.t : CT := fun Q E fr H => lenIs 59 fr (slPA fr 6 fun x0 => slB fr 11 fun a0 => slB fr 12 fun b0 => vizardlaw18_PolicyMore.J3 x0 a0 b0 (fun y10_0 H => Q .ret (mkF 59 [(10, (.bool y10_0))]) H) E H)
noncomputable def vizardlaw18_PolicyMore.J3.plan : Plan := .go
theorem vizardlaw18_PolicyMore.J3.pok : PlanOk Try.prog vizardlaw18_PolicyMore.J3.plan (sub [1, 1, 1, 1, 1] vizardlaw18_PolicyMore.body) := by
  have e : PlanOk Try.prog vizardlaw18_PolicyMore.J3.plan (sub [1, 1, 1, 1, 1] vizardlaw18_PolicyMore.body) = (True) := by kernel_rfl
  exact e.mpr trivial
theorem vizardlaw18_PolicyMore.J3.eq (x0 : Addr) (a0 : Bool) (b0 : Bool) (Q : Ex → Fr → Heap → Prop) (E : Value → Heap → Prop) (H : Heap) :
    vizardlaw18_PolicyMore.J3.vc x0 a0 b0 (fun y10_0 H => Q .ret (mkF 59 [(10, (.bool y10_0))]) H) E H = keepT [] [10] (fun i => []) (wC Try.prog vizardlaw18_PolicyMore.Γ vizardlaw18_PolicyMore.J3.plan (sub [1, 1, 1, 1, 1] vizardlaw18_PolicyMore.body)) Q E (mkF 59 [(6, (.pointer (some x0))), (11, (.bool a0)), (12, (.bool b0))]) H := by
  kernel_rfl
theorem vizardlaw18_PolicyMore.J3.ok : SoundCode Try.prog (sub [1, 1, 1, 1, 1] vizardlaw18_PolicyMore.body) vizardlaw18_PolicyMore.J3.t := by
  refine piece_sound (keepT_sound [] [10] (fun i => []) (wC_sound vizardlaw18_PolicyMore.hΓ Try.hm vizardlaw18_PolicyMore.J3.plan _ vizardlaw18_PolicyMore.J3.pok)) ?_
  intro Q E fr H h
  unfold vizardlaw18_PolicyMore.J3.t at h
  obtain ⟨hl, h⟩ := lenIs_elim h
  obtain ⟨x0, q6, h⟩ := slPA_elim h
  obtain ⟨a0, q11, h⟩ := slB_elim h
  obtain ⟨b0, q12, h⟩ := slB_elim h
  refine ⟨(mkF 59 [(6, (.pointer (some x0))), (11, (.bool a0)), (12, (.bool b0))]), fun a ha => ha.mk (Nat.le_of_eq hl.symm) (List.forall_mem_cons.2 ⟨q6, List.forall_mem_cons.2 ⟨q11, List.forall_mem_cons.2 ⟨q12, fun _ h => nomatch h⟩⟩⟩), ?_⟩
  have e := vizardlaw18_PolicyMore.J3.eq x0 a0 b0 Q E H
  rw [← e]
  exact h.h
def vizardlaw18_PolicyMore.J2.t : CT := fun Q E fr H => lenIs 59 fr (slSl fr 0 fun l0 l1 l2 => slI fr 2 .i64 fun proto0 => slI fr 3 .u32 fun dst0 => slI fr 4 .i64 fun port0 => slPA fr 6 fun x0 => vizardlaw18_PolicyMore.J2 l0 l1 l2 proto0 dst0 port0 x0 (fun y10_0 H => Q .ret (mkF 59 [(10, (.bool y10_0))]) H) E H)
noncomputable def vizardlaw18_PolicyMore.J2.plan : Plan := .seq (.go) (.seq (.draw ⟨[0, 1, 2, 3, 4, 5, 6, 7, 8], (dl [(0, []), (2, []), (5, []), (6, []), (7, [])] (.alt (dl [(1, [0]), (3, [2]), (4, [1, 3, 0, 2]), (8, [4, 5, 6, 7, 1, 3, 0, 2])] .fin) (dl [(3, [2]), (1, [0]), (4, [1, 3, 0, 2]), (8, [4, 5, 6, 7, 1, 3, 0, 2])] .fin))), [9]⟩) (.use vizardlaw18_PolicyMore.J3.t))
theorem vizardlaw18_PolicyMore.J2.pok : PlanOk Try.prog vizardlaw18_PolicyMore.J2.plan (sub [1, 1, 1] vizardlaw18_PolicyMore.body) := by
  have e : PlanOk Try.prog vizardlaw18_PolicyMore.J2.plan (sub [1, 1, 1] vizardlaw18_PolicyMore.body) = ((True) ∧ ((True) ∧ (SoundCode Try.prog (sub [1, 1, 1, 1, 1] vizardlaw18_PolicyMore.body) vizardlaw18_PolicyMore.J3.t))) := by kernel_rfl
  exact e.mpr ⟨trivial, ⟨trivial, vizardlaw18_PolicyMore.J3.ok⟩⟩
theorem vizardlaw18_PolicyMore.J2.eq (l0 : Option Addr) (l1 : Nat) (l2 : Nat) (proto0 : Int) (dst0 : Int) (port0 : Int) (x0 : Addr) (Q : Ex → Fr → Heap → Prop) (E : Value → Heap → Prop) (H : Heap) :
    vizardlaw18_PolicyMore.J2.vc l0 l1 l2 proto0 dst0 port0 x0 (fun y10_0 H => Q .ret (mkF 59 [(10, (.bool y10_0))]) H) E H = keepT [] [10] (fun i => []) (wC Try.prog vizardlaw18_PolicyMore.Γ vizardlaw18_PolicyMore.J2.plan (sub [1, 1, 1] vizardlaw18_PolicyMore.body)) Q E (mkF 59 [(0, (.slice l0 l1 l2)), (2, (.int .i64 proto0)), (3, (.int .u32 dst0)), (4, (.int .i64 port0)), (6, (.pointer (some x0)))]) H := by
  kernel_rfl
theorem vizardlaw18_PolicyMore.J2.ok : SoundCode Try.prog (sub [1, 1, 1] vizardlaw18_PolicyMore.body) vizardlaw18_PolicyMore.J2.t := by
  refine piece_sound (keepT_sound [] [10] (fun i => []) (wC_sound vizardlaw18_PolicyMore.hΓ Try.hm vizardlaw18_PolicyMore.J2.plan _ vizardlaw18_PolicyMore.J2.pok)) ?_
  intro Q E fr H h
  unfold vizardlaw18_PolicyMore.J2.t at h
  obtain ⟨hl, h⟩ := lenIs_elim h
  obtain ⟨l0, l1, l2, q0, h⟩ := slSl_elim h
  obtain ⟨proto0, q2, h⟩ := slI_elim h
  obtain ⟨dst0, q3, h⟩ := slI_elim h
  obtain ⟨port0, q4, h⟩ := slI_elim h
  obtain ⟨x0, q6, h⟩ := slPA_elim h
  refine ⟨(mkF 59 [(0, (.slice l0 l1 l2)), (2, (.int .i64 proto0)), (3, (.int .u32 dst0)), (4, (.int .i64 port0)), (6, (.pointer (some x0)))]), fun a ha => ha.mk (Nat.le_of_eq hl.symm) (List.forall_mem_cons.2 ⟨q0, List.forall_mem_cons.2 ⟨q2, List.forall_mem_cons.2 ⟨q3, List.forall_mem_cons.2 ⟨q4, List.forall_mem_cons.2 ⟨q6, fun _ h => nomatch h⟩⟩⟩⟩⟩), ?_⟩
  have e := vizardlaw18_PolicyMore.J2.eq l0 l1 l2 proto0 dst0 port0 x0 Q E H
  rw [← e]
  exact h.h
noncomputable def vizardlaw18_PolicyMore.plan : Plan := .seq (.go) (.seq (.go) (.seq (.seq (.go) (.use vizardlaw18_PolicyMore.J1.t)) (.use vizardlaw18_PolicyMore.J2.t)))
theorem vizardlaw18_PolicyMore.pok : PlanOk Try.prog vizardlaw18_PolicyMore.plan vizardlaw18_PolicyMore.body := by
  have e : PlanOk Try.prog vizardlaw18_PolicyMore.plan vizardlaw18_PolicyMore.body = ((True) ∧ ((True) ∧ (((True) ∧ (SoundCode Try.prog (sub [1, 1, 0, 1] vizardlaw18_PolicyMore.body) vizardlaw18_PolicyMore.J1.t)) ∧ (SoundCode Try.prog (sub [1, 1, 1] vizardlaw18_PolicyMore.body) vizardlaw18_PolicyMore.J2.t)))) := by kernel_rfl
  exact e.mpr ⟨trivial, ⟨trivial, ⟨⟨trivial, vizardlaw18_PolicyMore.J1.ok⟩, vizardlaw18_PolicyMore.J2.ok⟩⟩⟩
theorem vizardlaw18_PolicyMore.eq (l0 : Option Addr) (l1 : Nat) (l2 : Nat) (x0 : Bool) (x1 : Int) (x2 : Int) (x3 : Int) (x4 : Int) (x5 : Int) (proto0 : Int) (dst0 : Int) (port0 : Int) (K : Value → Heap → Prop) (E : Value → Heap → Prop) (H : Heap) :
    fnT Try.prog Try.f6 (wC Try.prog vizardlaw18_PolicyMore.Γ vizardlaw18_PolicyMore.plan vizardlaw18_PolicyMore.body) [(.slice l0 l1 l2), (.agg #[(.bool x0), (.int .i64 x1), (.int .u32 x2), (.int .i64 x3), (.int .i64 x4), (.int .i64 x5)]), (.int .i64 proto0), (.int .u32 dst0), (.int .i64 port0)] K E H = vizardlaw18_PolicyMore.vc l0 l1 l2 x0 x1 x2 x3 x4 x5 proto0 dst0 port0 (fun r0_0 H => K (.bool r0_0) H) E H := by
  kernel_rfl
theorem vizardlaw18_PolicyMore.Fe {args : List Value} {K E : Value → Heap → Prop} {H : Heap} (h : vizardlaw18_PolicyMore.F args K E H) : ∃ l0 l1 l2 x0 x1 x2 x3 x4 x5 proto0 dst0 port0, args = [(.slice l0 l1 l2), (.agg #[(.bool x0), (.int .i64 x1), (.int .u32 x2), (.int .i64 x3), (.int .i64 x4), (.int .i64 x5)]), (.int .i64 proto0), (.int .u32 dst0), (.int .i64 port0)] ∧ vizardlaw18_PolicyMore.c l0 l1 l2 x0 x1 x2 x3 x4 x5 proto0 dst0 port0 (fun r0_0 H => K (.bool r0_0) H) E H := by
  unfold vizardlaw18_PolicyMore.F at h
  split at h
  · exact ⟨_, _, _, _, _, _, _, _, _, _, _, _, rfl, h⟩
  · exact h.elim
theorem vizardlaw18_PolicyMore.ok : CalleeOk Try.prog 6 vizardlaw18_PolicyMore.F :=
  callee_ok vizardlaw18_PolicyMore.hΓ (fn := Try.f6) (c := vizardlaw18_PolicyMore.body) (T := wC Try.prog vizardlaw18_PolicyMore.Γ vizardlaw18_PolicyMore.plan vizardlaw18_PolicyMore.body) (by kernel_rfl) (by kernel_rfl) (by kernel_rfl) (wC_sound vizardlaw18_PolicyMore.hΓ Try.hm vizardlaw18_PolicyMore.plan _ vizardlaw18_PolicyMore.pok) fun _ K E H h => by
    obtain ⟨z0, z1, z2, z3, z4, z5, z6, z7, z8, z9, z10, z11, e, h⟩ := vizardlaw18_PolicyMore.Fe h
    subst e
    have h2 : vizardlaw18_PolicyMore.vc z0 z1 z2 z3 z4 z5 z6 z7 z8 z9 z10 z11 (fun r0_0 H => ∃ H', Heap.Le H' H ∧ K (.bool r0_0) H') E H := h.h
    rw [vizardlaw18_PolicyMore.eq z0 z1 z2 z3 z4 z5 z6 z7 z8 z9 z10 z11 (Fg K) E H]
    exact h2
end Go.Sh
