/- PRINTED by a program (sh.py): what the walk over each function asks, and that it asks just that. -/
import Derived.Test.YtennpdminebahaaGpa
namespace Go.Sh
open Go.Proofs
set_option linter.unusedVariables false
set_option maxRecDepth 8000
/-! vizard/vizardlaw18.own -/
noncomputable def vizardlaw18_own.body : Code := Try.f11.body.getD .skip
def vizardlaw18_own.vc (l0 : Option Addr) (l1 : Nat) (l2 : Nat) (K : Option Addr → Nat → Nat → Heap → Prop) (E : Value → Heap → Prop) (h0 : Heap) : Prop :=
  newB (.cells #[] 40) (fun b0 h1 =>
  rdRow h1 l0 (l1 * 6) fun cs0 =>
  appT 40 (.agg #[(.bool false), (.int .i64 0), (.int .u32 0), (.int .i64 0), (.int .i64 0), (.int .i64 0)]) (some (⟨b0, 0, none⟩ : Addr)) 0 l1 0 6 48 cs0 (fun p0 n0 c0 h2 =>
  K p0 n0 c0 h2) h1) h0
structure vizardlaw18_own.c (l0 : Option Addr) (l1 : Nat) (l2 : Nat) (K : Option Addr → Nat → Nat → Heap → Prop) (E : Value → Heap → Prop) (H : Heap) : Prop where
  h : vizardlaw18_own.vc l0 l1 l2 (fun r0_0 r0_1 r0_2 H => ∃ H', Heap.Le H' H ∧ K r0_0 r0_1 r0_2 H') E H
def vizardlaw18_own.F : FT := fun args K E H => match args with
  | [(.slice l0 l1 l2)] => vizardlaw18_own.c l0 l1 l2 (fun r0_0 r0_1 r0_2 H => K (.slice r0_0 r0_1 r0_2) H) E H
  | _ => False
noncomputable def vizardlaw18_own.Γ : FuncId → Option FT := Γof []
theorem vizardlaw18_own.hΓ : ∀ f F, vizardlaw18_own.Γ f = some F → CalleeOk Try.prog f F := Γof_ok (fun _ h => nomatch h)
noncomputable def vizardlaw18_own.plan : Plan := .go
theorem vizardlaw18_own.pok : PlanOk Try.prog vizardlaw18_own.plan vizardlaw18_own.body := by
  have e : PlanOk Try.prog vizardlaw18_own.plan vizardlaw18_own.body = (True) := by kernel_rfl
  exact e.mpr trivial
theorem vizardlaw18_own.eq (l0 : Option Addr) (l1 : Nat) (l2 : Nat) (K : Value → Heap → Prop) (E : Value → Heap → Prop) (H : Heap) :
    fnT Try.prog Try.f11 (wC Try.prog vizardlaw18_own.Γ vizardlaw18_own.plan vizardlaw18_own.body) [(.slice l0 l1 l2)] K E H = vizardlaw18_own.vc l0 l1 l2 (fun r0_0 r0_1 r0_2 H => K (.slice r0_0 r0_1 r0_2) H) E H := by
  kernel_rfl
theorem vizardlaw18_own.Fe {args : List Value} {K E : Value → Heap → Prop} {H : Heap} (h : vizardlaw18_own.F args K E H) : ∃ l0 l1 l2, args = [(.slice l0 l1 l2)] ∧ vizardlaw18_own.c l0 l1 l2 (fun r0_0 r0_1 r0_2 H => K (.slice r0_0 r0_1 r0_2) H) E H := by
  unfold vizardlaw18_own.F at h
  split at h
  · exact ⟨_, _, _, rfl, h⟩
  · exact h.elim
theorem vizardlaw18_own.ok : CalleeOk Try.prog 11 vizardlaw18_own.F :=
  callee_ok vizardlaw18_own.hΓ (fn := Try.f11) (c := vizardlaw18_own.body) (T := wC Try.prog vizardlaw18_own.Γ vizardlaw18_own.plan vizardlaw18_own.body) (by kernel_rfl) (by kernel_rfl) (by kernel_rfl) (wC_sound vizardlaw18_own.hΓ Try.hm vizardlaw18_own.plan _ vizardlaw18_own.pok) fun _ K E H h => by
    obtain ⟨z0, z1, z2, e, h⟩ := vizardlaw18_own.Fe h
    subst e
    have h2 : vizardlaw18_own.vc z0 z1 z2 (fun r0_0 r0_1 r0_2 H => ∃ H', Heap.Le H' H ∧ K (.slice r0_0 r0_1 r0_2) H') E H := h.h
    rw [vizardlaw18_own.eq z0 z1 z2 (Fg K) E H]
    exact h2

/-! vizard/vizardref04.size -/
noncomputable def vizardref04_size.body : Code := Try.f61.body.getD .skip
def vizardref04_size.vc (bits0 : Int) (K : Int → Heap → Prop) (E : Value → Heap → Prop) (h0 : Heap) : Prop :=
  (0 : Int) ≤ (IntKind.i64.wrap (32 - bits0)) ∧
  K (shlI .i64 1 (IntKind.i64.wrap (32 - bits0))) h0
structure vizardref04_size.c (bits0 : Int) (K : Int → Heap → Prop) (E : Value → Heap → Prop) (H : Heap) : Prop where
  h : vizardref04_size.vc bits0 (fun r0_0 H => ∃ H', Heap.Le H' H ∧ K r0_0 H') E H
def vizardref04_size.F : FT := fun args K E H => match args with
  | [(.int .i64 bits0)] => vizardref04_size.c bits0 (fun r0_0 H => K (.int .i64 r0_0) H) E H
  | _ => False
noncomputable def vizardref04_size.Γ : FuncId → Option FT := Γof []
theorem vizardref04_size.hΓ : ∀ f F, vizardref04_size.Γ f = some F → CalleeOk Try.prog f F := Γof_ok (fun _ h => nomatch h)
noncomputable def vizardref04_size.plan : Plan := .go
theorem vizardref04_size.pok : PlanOk Try.prog vizardref04_size.plan vizardref04_size.body := by
  have e : PlanOk Try.prog vizardref04_size.plan vizardref04_size.body = (True) := by kernel_rfl
  exact e.mpr trivial
theorem vizardref04_size.eq (bits0 : Int) (K : Value → Heap → Prop) (E : Value → Heap → Prop) (H : Heap) :
    fnT Try.prog Try.f61 (wC Try.prog vizardref04_size.Γ vizardref04_size.plan vizardref04_size.body) [(.int .i64 bits0)] K E H = vizardref04_size.vc bits0 (fun r0_0 H => K (.int .i64 r0_0) H) E H := by
  kernel_rfl
theorem vizardref04_size.Fe {args : List Value} {K E : Value → Heap → Prop} {H : Heap} (h : vizardref04_size.F args K E H) : ∃ bits0, args = [(.int .i64 bits0)] ∧ vizardref04_size.c bits0 (fun r0_0 H => K (.int .i64 r0_0) H) E H := by
  unfold vizardref04_size.F at h
  split at h
  · exact ⟨_, rfl, h⟩
  · exact h.elim
theorem vizardref04_size.ok : CalleeOk Try.prog 61 vizardref04_size.F :=
  callee_ok vizardref04_size.hΓ (fn := Try.f61) (c := vizardref04_size.body) (T := wC Try.prog vizardref04_size.Γ vizardref04_size.plan vizardref04_size.body) (by kernel_rfl) (by kernel_rfl) (by kernel_rfl) (wC_sound vizardref04_size.hΓ Try.hm vizardref04_size.plan _ vizardref04_size.pok) fun _ K E H h => by
    obtain ⟨z0, e, h⟩ := vizardref04_size.Fe h
    subst e
    have h2 : vizardref04_size.vc z0 (fun r0_0 H => ∃ H', Heap.Le H' H ∧ K (.int .i64 r0_0) H') E H := h.h
    rw [vizardref04_size.eq z0 (Fg K) E H]
    exact h2

/-! vizard/vizardref04.Check -/
noncomputable def vizardref04_Check.body : Code := Try.f50.body.getD .skip
def vizardref04_Check.vc (p0 : Int) (p1 : Int) (K : Bool → Heap → Prop) (E : Value → Heap → Prop) (h0 : Heap) : Prop :=
  newB (.cells #[(.int .u32 p0), (.int .i64 p1)] 38) (fun b0 h1 =>
  ldI h1 .i64 ((⟨b0, 0, none⟩ : Addr).add 1) fun x0 =>
  (if (decide (x0 ≥ 0)) = true then
  ldI h1 .i64 ((⟨b0, 0, none⟩ : Addr).add 1) fun x1 =>
  (if (decide (x1 ≤ 32)) = true then
  ldI h1 .u32 ((⟨b0, 0, none⟩ : Addr).add 0) fun x2 =>
  ldI h1 .i64 ((⟨b0, 0, none⟩ : Addr).add 1) fun x3 =>
  vizardref04_size.c x3 (fun x4 h2 =>
  (eqv h2 h2 (some (.int .i64 (IntKind.i64.wrap x2))) (.int .i64 (IntKind.i64.wrap x2))) ∧
  (ldI h2 .u32 ((⟨b0, 0, none⟩ : Addr).add 0) fun x5 =>
  eqv h2 h2 (some (.int .u32 x2)) (.int .u32 x5)) ∧
  x4 ≠ (0 : Int) ∧
  K ((Int.tmod (IntKind.i64.wrap x2) x4) == 0) h2) E h1
  else
  True ∧
  True ∧
  K false h1)
  else
  True ∧
  True ∧
  K false h1)) h0
structure vizardref04_Check.c (p0 : Int) (p1 : Int) (K : Bool → Heap → Prop) (E : Value → Heap → Prop) (H : Heap) : Prop where
  h : vizardref04_Check.vc p0 p1 (fun r0_0 H => ∃ H', Heap.Le H' H ∧ K r0_0 H') E H
def vizardref04_Check.F : FT := fun args K E H => match args with
  | [(.agg ⟨[(.int .u32 p0), (.int .i64 p1)]⟩)] => vizardref04_Check.c p0 p1 (fun r0_0 H => K (.bool r0_0) H) E H
  | _ => False
noncomputable def vizardref04_Check.Γ : FuncId → Option FT := Γof [(61, vizardref04_size.F)]
theorem vizardref04_Check.hΓ : ∀ f F, vizardref04_Check.Γ f = some F → CalleeOk Try.prog f F := Γof_ok (List.forall_mem_cons.2 ⟨vizardref04_size.ok, fun _ h => nomatch h⟩)
noncomputable def vizardref04_Check.plan : Plan := .seq (.go) (.seq (.draw ⟨[0, 1, 2, 3, 4, 5, 6, 7, 8, 9, 10, 11, 12, 13, 14, 15, 16, 17], (dl [(0, []), (1, []), (2, []), (3, []), (4, []), (5, []), (6, []), (7, []), (8, []), (9, []), (10, []), (11, []), (12, []), (13, []), (14, [13, 8, 12, 7, 3, 6, 2, 5, 1, 4, 0]), (15, []), (16, []), (17, [])] .fin), [18]⟩) (.go))
theorem vizardref04_Check.pok : PlanOk Try.prog vizardref04_Check.plan vizardref04_Check.body := by
  have e : PlanOk Try.prog vizardref04_Check.plan vizardref04_Check.body = ((True) ∧ ((True) ∧ (True))) := by kernel_rfl
  exact e.mpr ⟨trivial, ⟨trivial, trivial⟩⟩
theorem vizardref04_Check.eq (p0 : Int) (p1 : Int) (K : Value → Heap → Prop) (E : Value → Heap → Prop) (H : Heap) :
    fnT Try.prog Try.f50 (wC Try.prog vizardref04_Check.Γ vizardref04_Check.plan vizardref04_Check.body) [(.agg #[(.int .u32 p0), (.int .i64 p1)])] K E H = vizardref04_Check.vc p0 p1 (fun r0_0 H => K (.bool r0_0) H) E H := by
  kernel_rfl
theorem vizardref04_Check.Fe {args : List Value} {K E : Value → Heap → Prop} {H : Heap} (h : vizardref04_Check.F args K E H) : ∃ p0 p1, args = [(.agg #[(.int .u32 p0), (.int .i64 p1)])] ∧ vizardref04_Check.c p0 p1 (fun r0_0 H => K (.bool r0_0) H) E H := by
  unfold vizardref04_Check.F at h
  split at h
  · exact ⟨_, _, rfl, h⟩
  · exact h.elim
theorem vizardref04_Check.ok : CalleeOk Try.prog 50 vizardref04_Check.F :=
  callee_ok vizardref04_Check.hΓ (fn := Try.f50) (c := vizardref04_Check.body) (T := wC Try.prog vizardref04_Check.Γ vizardref04_Check.plan vizardref04_Check.body) (by kernel_rfl) (by kernel_rfl) (by kernel_rfl) (wC_sound vizardref04_Check.hΓ Try.hm vizardref04_Check.plan _ vizardref04_Check.pok) fun _ K E H h => by
    obtain ⟨z0, z1, e, h⟩ := vizardref04_Check.Fe h
    subst e
    have h2 : vizardref04_Check.vc z0 z1 (fun r0_0 H => ∃ H', Heap.Le H' H ∧ K (.bool r0_0) H') E H := h.h
    rw [vizardref04_Check.eq z0 z1 (Fg K) E H]
    exact h2

/-! vizard/vizardref18.port -/
noncomputable def vizardref18_port.body : Code := Try.f51.body.getD .skip
def vizardref18_port.vc (n0 : Int) (K : Bool → Heap → Prop) (E : Value → Heap → Prop) (h0 : Heap) : Prop :=
  (if (decide (n0 ≥ 0)) = true then
  K (decide (n0 ≤ 65535)) h0
  else
  K false h0)
structure vizardref18_port.c (n0 : Int) (K : Bool → Heap → Prop) (E : Value → Heap → Prop) (H : Heap) : Prop where
  h : vizardref18_port.vc n0 (fun r0_0 H => ∃ H', Heap.Le H' H ∧ K r0_0 H') E H
def vizardref18_port.F : FT := fun args K E H => match args with
  | [(.int .i64 n0)] => vizardref18_port.c n0 (fun r0_0 H => K (.bool r0_0) H) E H
  | _ => False
noncomputable def vizardref18_port.Γ : FuncId → Option FT := Γof []
theorem vizardref18_port.hΓ : ∀ f F, vizardref18_port.Γ f = some F → CalleeOk Try.prog f F := Γof_ok (fun _ h => nomatch h)
noncomputable def vizardref18_port.plan : Plan := .go
theorem vizardref18_port.pok : PlanOk Try.prog vizardref18_port.plan vizardref18_port.body := by
  have e : PlanOk Try.prog vizardref18_port.plan vizardref18_port.body = (True) := by kernel_rfl
  exact e.mpr trivial
theorem vizardref18_port.eq (n0 : Int) (K : Value → Heap → Prop) (E : Value → Heap → Prop) (H : Heap) :
    fnT Try.prog Try.f51 (wC Try.prog vizardref18_port.Γ vizardref18_port.plan vizardref18_port.body) [(.int .i64 n0)] K E H = vizardref18_port.vc n0 (fun r0_0 H => K (.bool r0_0) H) E H := by
  kernel_rfl
theorem vizardref18_port.Fe {args : List Value} {K E : Value → Heap → Prop} {H : Heap} (h : vizardref18_port.F args K E H) : ∃ n0, args = [(.int .i64 n0)] ∧ vizardref18_port.c n0 (fun r0_0 H => K (.bool r0_0) H) E H := by
  unfold vizardref18_port.F at h
  split at h
  · exact ⟨_, rfl, h⟩
  · exact h.elim
theorem vizardref18_port.ok : CalleeOk Try.prog 51 vizardref18_port.F :=
  callee_ok vizardref18_port.hΓ (fn := Try.f51) (c := vizardref18_port.body) (T := wC Try.prog vizardref18_port.Γ vizardref18_port.plan vizardref18_port.body) (by kernel_rfl) (by kernel_rfl) (by kernel_rfl) (wC_sound vizardref18_port.hΓ Try.hm vizardref18_port.plan _ vizardref18_port.pok) fun _ K E H h => by
    obtain ⟨z0, e, h⟩ := vizardref18_port.Fe h
    subst e
    have h2 : vizardref18_port.vc z0 (fun r0_0 H => ∃ H', Heap.Le H' H ∧ K (.bool r0_0) H') E H := h.h
    rw [vizardref18_port.eq z0 (Fg K) E H]
    exact h2

/-! vizard/vizardref18.Check -/
noncomputable def vizardref18_Check.body : Code := Try.f31.body.getD .skip
def vizardref18_Check.J2.vc (l0 : Option Addr) (l1 : Nat) (l2 : Nat) (i0 : Int) (x0 : Bool) (Kn : Heap → Prop) (Kr : Int → Heap → Prop) (E : Value → Heap → Prop) (h0 : Heap) : Prop :=
  (if x0 = true then
  Kr 2 h0
  else
  Kn h0)
structure vizardref18_Check.J2 (l0 : Option Addr) (l1 : Nat) (l2 : Nat) (i0 : Int) (x0 : Bool) (Kn : Heap → Prop) (Kr : Int → Heap → Prop) (E : Value → Heap → Prop) (H : Heap) : Prop where
  h : vizardref18_Check.J2.vc l0 l1 l2 i0 x0 Kn Kr E H
def vizardref18_Check.J3.vc (l0 : Option Addr) (l1 : Nat) (l2 : Nat) (i0 : Int) (Kn : Int → Heap → Prop) (E : Value → Heap → Prop) (h0 : Heap) : Prop :=
  Kn (IntKind.i64.wrap (i0 + 1)) h0
structure vizardref18_Check.J3 (l0 : Option Addr) (l1 : Nat) (l2 : Nat) (i0 : Int) (Kn : Int → Heap → Prop) (E : Value → Heap → Prop) (H : Heap) : Prop where
  h : vizardref18_Check.J3.vc l0 l1 l2 i0 Kn E H
def vizardref18_Check.W1.vc (l0 : Option Addr) (l1 : Nat) (l2 : Nat) (i0 : Int) (Kx0 : Heap → Prop) (Kr : Int → Heap → Prop) (RR : Int → Heap → Prop) (E : Value → Heap → Prop) (h0 : Heap) : Prop :=
  (if (decide (i0 < (l1 : Int))) = true then
  nilc l0 fun a0 => (0 : Int) ≤ i0 ∧ i0 < (l1 : Int) ∧
  ldB h0 ((a0.add (i0.toNat * 6)).add 0) fun x0 => ldI h0 .i64 ((a0.add (i0.toNat * 6)).add 1) fun x1 => ldI h0 .u32 ((a0.add (i0.toNat * 6)).add 2) fun x2 => ldI h0 .i64 ((a0.add (i0.toNat * 6)).add 3) fun x3 => ldI h0 .i64 ((a0.add (i0.toNat * 6)).add 4) fun x4 => ldI h0 .i64 ((a0.add (i0.toNat * 6)).add 5) fun x5 =>
  newB (.cells #[(.bool false), (.int .i64 0), (.int .u32 0), (.int .i64 0), (.int .i64 0), (.int .i64 0)] 40) (fun b0 h1 =>
  stc h1 ((⟨b0, 0, none⟩ : Addr).add 0) (.bool x0) fun h2 =>
  stc h2 ((⟨b0, 0, none⟩ : Addr).add 1) (.int .i64 x1) fun h3 =>
  stc h3 ((⟨b0, 0, none⟩ : Addr).add 2) (.int .u32 x2) fun h4 =>
  stc h4 ((⟨b0, 0, none⟩ : Addr).add 3) (.int .i64 x3) fun h5 =>
  stc h5 ((⟨b0, 0, none⟩ : Addr).add 4) (.int .i64 x4) fun h6 =>
  stc h6 ((⟨b0, 0, none⟩ : Addr).add 5) (.int .i64 x5) fun h7 =>
  ldI h7 .i64 ((⟨b0, 0, none⟩ : Addr).add 1) fun x6 =>
  (if (decide (x6 < 0)) = true then
  vizardref18_Check.J2 l0 l1 l2 i0 true (fun h8 =>
  vizardref18_Check.J3 l0 l1 l2 i0 RR E h8) Kr E h7
  else
  ldI h7 .i64 ((⟨b0, 0, none⟩ : Addr).add 1) fun x8 =>
  (if (decide (x8 > 255)) = true then
  vizardref18_Check.J2 l0 l1 l2 i0 true (fun h11 =>
  vizardref18_Check.J3 l0 l1 l2 i0 RR E h11) Kr E h7
  else
  ldI h7 .u32 (((⟨b0, 0, none⟩ : Addr).add 2).add 0) fun x10 => ldI h7 .i64 (((⟨b0, 0, none⟩ : Addr).add 2).add 1) fun x11 =>
  vizardref04_Check.c x10 x11 (fun x12 h14 =>
  (if (!x12) = true then
  vizardref18_Check.J2 l0 l1 l2 i0 true (fun h15 =>
  vizardref18_Check.J3 l0 l1 l2 i0 RR E h15) Kr E h14
  else
  ldI h14 .i64 ((⟨b0, 0, none⟩ : Addr).add 4) fun x14 =>
  vizardref18_port.c x14 (fun x15 h18 =>
  (if (!x15) = true then
  vizardref18_Check.J2 l0 l1 l2 i0 true (fun h19 =>
  vizardref18_Check.J3 l0 l1 l2 i0 RR E h19) Kr E h18
  else
  ldI h18 .i64 ((⟨b0, 0, none⟩ : Addr).add 5) fun x17 =>
  vizardref18_port.c x17 (fun x18 h22 =>
  (if (!x18) = true then
  vizardref18_Check.J2 l0 l1 l2 i0 true (fun h23 =>
  vizardref18_Check.J3 l0 l1 l2 i0 RR E h23) Kr E h22
  else
  ldI h22 .i64 ((⟨b0, 0, none⟩ : Addr).add 4) fun x20 =>
  ldI h22 .i64 ((⟨b0, 0, none⟩ : Addr).add 5) fun x21 =>
  vizardref18_Check.J2 l0 l1 l2 i0 (decide (x20 > x21)) (fun h26 =>
  vizardref18_Check.J3 l0 l1 l2 i0 RR E h26) Kr E h22)) E h18)) E h14)) E h7))) h0
  else
  Kx0 h0)
structure vizardref18_Check.W1 (l0 : Option Addr) (l1 : Nat) (l2 : Nat) (i0 : Int) (Kx0 : Heap → Prop) (Kr : Int → Heap → Prop) (E : Value → Heap → Prop) (H : Heap) : Prop where
  h : Loop (fun (RR : Int → Heap → Prop) (s : Int) (H : Heap) => vizardref18_Check.W1.vc l0 l1 l2 s Kx0 Kr (fun i0 H => RR (i0) H) E H) (i0) H
def vizardref18_Check.vc (l0 : Option Addr) (l1 : Nat) (l2 : Nat) (K : Int → Heap → Prop) (E : Value → Heap → Prop) (h0 : Heap) : Prop :=
  (if (decide ((l1 : Int) > 32)) = true then
  K 8 h0
  else
  vizardref18_Check.W1 l0 l1 l2 0 (fun h1 =>
  K 0 h1) K E h0)
structure vizardref18_Check.c (l0 : Option Addr) (l1 : Nat) (l2 : Nat) (K : Int → Heap → Prop) (E : Value → Heap → Prop) (H : Heap) : Prop where
  h : vizardref18_Check.vc l0 l1 l2 (fun r0_0 H => ∃ H', Heap.Le H' H ∧ K r0_0 H') E H
def vizardref18_Check.F : FT := fun args K E H => match args with
  | [(.slice l0 l1 l2)] => vizardref18_Check.c l0 l1 l2 (fun r0_0 H => K (.int .i64 r0_0) H) E H
  | _ => False
noncomputable def vizardref18_Check.Γ : FuncId → Option FT := Γof [(50, vizardref04_Check.F), (51, vizardref18_port.F)]
theorem vizardref18_Check.hΓ : ∀ f F, vizardref18_Check.Γ f = some F → CalleeOk Try.prog f F := Γof_ok (List.forall_mem_cons.2 ⟨vizardref04_Check.ok, List.forall_mem_cons.2 ⟨vizardref18_port.ok, fun _ h => nomatch h⟩⟩)
def vizardref18_Check.J2.t : CT := fun Q E fr H => lenIs 51 fr (slSl fr 0 fun l0 l1 l2 => slI fr 3 .i64 fun i0 => slB fr 50 fun x0 => vizardref18_Check.J2 l0 l1 l2 i0 x0 (fun  H => Q .normal (mkF 51 [(0, (.slice l0 l1 l2)), (3, (.int .i64 i0))]) H) (fun y2_0 H => Q .ret (mkF 51 [(2, (.int .i64 y2_0))]) H) E H)
noncomputable def vizardref18_Check.J2.plan : Plan := .go
theorem vizardref18_Check.J2.pok : PlanOk Try.prog vizardref18_Check.J2.plan (sub [1, 1, 0, 1, 0, 0, 1, 0, 0, 1, 1] vizardref18_Check.body) := by
  have e : PlanOk Try.prog vizardref18_Check.J2.plan (sub [1, 1, 0, 1, 0, 0, 1, 0, 0, 1, 1] vizardref18_Check.body) = (True) := by kernel_rfl
  exact e.mpr trivial
theorem vizardref18_Check.J2.eq (l0 : Option Addr) (l1 : Nat) (l2 : Nat) (i0 : Int) (x0 : Bool) (Q : Ex → Fr → Heap → Prop) (E : Value → Heap → Prop) (H : Heap) :
    vizardref18_Check.J2.vc l0 l1 l2 i0 x0 (fun  H => Q .normal (mkF 51 [(0, (.slice l0 l1 l2)), (3, (.int .i64 i0))]) H) (fun y2_0 H => Q .ret (mkF 51 [(2, (.int .i64 y2_0))]) H) E H = keepT [0, 3] [2] (fun i => []) (wC Try.prog vizardref18_Check.Γ vizardref18_Check.J2.plan (sub [1, 1, 0, 1, 0, 0, 1, 0, 0, 1, 1] vizardref18_Check.body)) Q E (mkF 51 [(0, (.slice l0 l1 l2)), (3, (.int .i64 i0)), (50, (.bool x0))]) H := by
  kernel_rfl
theorem vizardref18_Check.J2.ok : SoundCode Try.prog (sub [1, 1, 0, 1, 0, 0, 1, 0, 0, 1, 1] vizardref18_Check.body) vizardref18_Check.J2.t := by
  refine piece_sound (keepT_sound [0, 3] [2] (fun i => []) (wC_sound vizardref18_Check.hΓ Try.hm vizardref18_Check.J2.plan _ vizardref18_Check.J2.pok)) ?_
  intro Q E fr H h
  unfold vizardref18_Check.J2.t at h
  obtain ⟨hl, h⟩ := lenIs_elim h
  obtain ⟨l0, l1, l2, q0, h⟩ := slSl_elim h
  obtain ⟨i0, q3, h⟩ := slI_elim h
  obtain ⟨x0, q50, h⟩ := slB_elim h
  refine ⟨(mkF 51 [(0, (.slice l0 l1 l2)), (3, (.int .i64 i0)), (50, (.bool x0))]), fun a ha => ha.mk (Nat.le_of_eq hl.symm) (List.forall_mem_cons.2 ⟨q0, List.forall_mem_cons.2 ⟨q3, List.forall_mem_cons.2 ⟨q50, fun _ h => nomatch h⟩⟩⟩), ?_⟩
  have e := vizardref18_Check.J2.eq l0 l1 l2 i0 x0 Q E H
  rw [← e]
  exact h.h
def vizardref18_Check.J3.t : CT := fun Q E fr H => lenIs 51 fr (slSl fr 0 fun l0 l1 l2 => slI fr 3 .i64 fun i0 => vizardref18_Check.J3 l0 l1 l2 i0 (fun y3_0 H => Q .normal (mkF 51 [(0, (.slice l0 l1 l2)), (3, (.int .i64 y3_0))]) H) E H)
noncomputable def vizardref18_Check.J3.plan : Plan := .go
theorem vizardref18_Check.J3.pok : PlanOk Try.prog vizardref18_Check.J3.plan (sub [1, 1, 0, 1, 0, 0, 1, 1] vizardref18_Check.body) := by
  have e : PlanOk Try.prog vizardref18_Check.J3.plan (sub [1, 1, 0, 1, 0, 0, 1, 1] vizardref18_Check.body) = (True) := by kernel_rfl
  exact e.mpr trivial
theorem vizardref18_Check.J3.eq (l0 : Option Addr) (l1 : Nat) (l2 : Nat) (i0 : Int) (Q : Ex → Fr → Heap → Prop) (E : Value → Heap → Prop) (H : Heap) :
    vizardref18_Check.J3.vc l0 l1 l2 i0 (fun y3_0 H => Q .normal (mkF 51 [(0, (.slice l0 l1 l2)), (3, (.int .i64 y3_0))]) H) E H = keepT [0, 3] [] (fun i => []) (wC Try.prog vizardref18_Check.Γ vizardref18_Check.J3.plan (sub [1, 1, 0, 1, 0, 0, 1, 1] vizardref18_Check.body)) Q E (mkF 51 [(0, (.slice l0 l1 l2)), (3, (.int .i64 i0))]) H := by
  kernel_rfl
theorem vizardref18_Check.J3.ok : SoundCode Try.prog (sub [1, 1, 0, 1, 0, 0, 1, 1] vizardref18_Check.body) vizardref18_Check.J3.t := by
  refine piece_sound (keepT_sound [0, 3] [] (fun i => []) (wC_sound vizardref18_Check.hΓ Try.hm vizardref18_Check.J3.plan _ vizardref18_Check.J3.pok)) ?_
  intro Q E fr H h
  unfold vizardref18_Check.J3.t at h
  obtain ⟨hl, h⟩ := lenIs_elim h
  obtain ⟨l0, l1, l2, q0, h⟩ := slSl_elim h
  obtain ⟨i0, q3, h⟩ := slI_elim h
  refine ⟨(mkF 51 [(0, (.slice l0 l1 l2)), (3, (.int .i64 i0))]), fun a ha => ha.mk (Nat.le_of_eq hl.symm) (List.forall_mem_cons.2 ⟨q0, List.forall_mem_cons.2 ⟨q3, fun _ h => nomatch h⟩⟩), ?_⟩
  have e := vizardref18_Check.J3.eq l0 l1 l2 i0 Q E H
  rw [← e]
  exact h.h
def vizardref18_Check.W1.t : CT := fun Q E fr H => lenIs 51 fr (slSl fr 0 fun l0 l1 l2 => slI fr 3 .i64 fun i0 => vizardref18_Check.W1 l0 l1 l2 i0 (fun  H => Q (.exit 0) (mkF 51 []) H) (fun y2_0 H => Q .ret (mkF 51 [(2, (.int .i64 y2_0))]) H) E H)
noncomputable def vizardref18_Check.W1.plan : Plan := .seq (.go) (.seq (.block (.seq (.go) (.seq (.go) (.use vizardref18_Check.J2.t)))) (.use vizardref18_Check.J3.t))
theorem vizardref18_Check.W1.pok : PlanOk Try.prog vizardref18_Check.W1.plan (sub [1, 1, 0, 1, 0, 0] vizardref18_Check.body) := by
  have e : PlanOk Try.prog vizardref18_Check.W1.plan (sub [1, 1, 0, 1, 0, 0] vizardref18_Check.body) = ((True) ∧ (((True) ∧ ((True) ∧ (SoundCode Try.prog (sub [1, 1, 0, 1, 0, 0, 1, 0, 0, 1, 1] vizardref18_Check.body) vizardref18_Check.J2.t))) ∧ (SoundCode Try.prog (sub [1, 1, 0, 1, 0, 0, 1, 1] vizardref18_Check.body) vizardref18_Check.J3.t))) := by kernel_rfl
  exact e.mpr ⟨trivial, ⟨⟨trivial, ⟨trivial, vizardref18_Check.J2.ok⟩⟩, vizardref18_Check.J3.ok⟩⟩
theorem vizardref18_Check.W1.eq (l0 : Option Addr) (l1 : Nat) (l2 : Nat) (Q : Ex → Fr → Heap → Prop) (E : Value → Heap → Prop) (RR : Fr → Heap → Prop) (s : Int) (H : Heap) :
    (fun (RR : Int → Heap → Prop) (s : Int) (H : Heap) => vizardref18_Check.W1.vc l0 l1 l2 s (fun  H => Q (.exit 0) (mkF 51 []) H) (fun y2_0 H => Q .ret (mkF 51 [(2, (.int .i64 y2_0))]) H) (fun i0 H => RR (i0) H) E H) (fun s' H' => RR ((fun (s : Int) => (mkF 51 [(0, (.slice l0 l1 l2)), (3, (.int .i64 s))])) s') H') s H = keepT [0, 3] [2] (fun i => if i = 0 then [] else []) (wC Try.prog vizardref18_Check.Γ vizardref18_Check.W1.plan (sub [1, 1, 0, 1, 0, 0] vizardref18_Check.body)) (fun e fr' H' => match e with | .normal => RR fr' H' | .exit id => Q (.exit id) fr' H' | .ret => Q .ret fr' H') E ((fun (s : Int) => (mkF 51 [(0, (.slice l0 l1 l2)), (3, (.int .i64 s))])) s) H := by
  kernel_rfl
theorem vizardref18_Check.W1.ok : SoundCode Try.prog (sub [1, 1, 0, 1, 0] vizardref18_Check.body) vizardref18_Check.W1.t := by
  have e : (sub [1, 1, 0, 1, 0] vizardref18_Check.body) = .loop (sub [1, 1, 0, 1, 0, 0] vizardref18_Check.body) := by kernel_rfl
  rw [e]
  refine piece_sound (loopN_sound (keepT_sound [0, 3] [2] (fun i => if i = 0 then [] else []) (wC_sound vizardref18_Check.hΓ Try.hm vizardref18_Check.W1.plan _ vizardref18_Check.W1.pok))) ?_
  intro Q E fr H h
  unfold vizardref18_Check.W1.t at h
  obtain ⟨hl, h⟩ := lenIs_elim h
  obtain ⟨l0, l1, l2, q0, h⟩ := slSl_elim h
  obtain ⟨i0, q3, h⟩ := slI_elim h
  obtain ⟨m, h⟩ := h.h
  refine ⟨(mkF 51 [(0, (.slice l0 l1 l2)), (3, (.int .i64 i0))]), fun a ha => ha.mk (Nat.le_of_eq hl.symm) (List.forall_mem_cons.2 ⟨q0, List.forall_mem_cons.2 ⟨q3, fun _ h => nomatch h⟩⟩), m, ?_⟩
  have e := loopS_eq (B := (fun (RR : Int → Heap → Prop) (s : Int) (H : Heap) => vizardref18_Check.W1.vc l0 l1 l2 s (fun  H => Q (.exit 0) (mkF 51 []) H) (fun y2_0 H => Q .ret (mkF 51 [(2, (.int .i64 y2_0))]) H) (fun i0 H => RR (i0) H) E H)) (A := keepT [0, 3] [2] (fun i => if i = 0 then [] else []) (wC Try.prog vizardref18_Check.Γ vizardref18_Check.W1.plan (sub [1, 1, 0, 1, 0, 0] vizardref18_Check.body))) (m := (fun (s : Int) => (mkF 51 [(0, (.slice l0 l1 l2)), (3, (.int .i64 s))]))) (Q := Q) (E := E) (fun RR s H => vizardref18_Check.W1.eq l0 l1 l2 Q E RR s H) m (i0) H
  exact cast e h
noncomputable def vizardref18_Check.plan : Plan := .seq (.go) (.seq (.go) (.seq (.seq (.go) (.block (.use vizardref18_Check.W1.t))) (.go)))
theorem vizardref18_Check.pok : PlanOk Try.prog vizardref18_Check.plan vizardref18_Check.body := by
  have e : PlanOk Try.prog vizardref18_Check.plan vizardref18_Check.body = ((True) ∧ ((True) ∧ (((True) ∧ (SoundCode Try.prog (sub [1, 1, 0, 1, 0] vizardref18_Check.body) vizardref18_Check.W1.t)) ∧ (True)))) := by kernel_rfl
  exact e.mpr ⟨trivial, ⟨trivial, ⟨⟨trivial, vizardref18_Check.W1.ok⟩, trivial⟩⟩⟩
theorem vizardref18_Check.eq (l0 : Option Addr) (l1 : Nat) (l2 : Nat) (K : Value → Heap → Prop) (E : Value → Heap → Prop) (H : Heap) :
    fnT Try.prog Try.f31 (wC Try.prog vizardref18_Check.Γ vizardref18_Check.plan vizardref18_Check.body) [(.slice l0 l1 l2)] K E H = vizardref18_Check.vc l0 l1 l2 (fun r0_0 H => K (.int .i64 r0_0) H) E H := by
  kernel_rfl
theorem vizardref18_Check.Fe {args : List Value} {K E : Value → Heap → Prop} {H : Heap} (h : vizardref18_Check.F args K E H) : ∃ l0 l1 l2, args = [(.slice l0 l1 l2)] ∧ vizardref18_Check.c l0 l1 l2 (fun r0_0 H => K (.int .i64 r0_0) H) E H := by
  unfold vizardref18_Check.F at h
  split at h
  · exact ⟨_, _, _, rfl, h⟩
  · exact h.elim
theorem vizardref18_Check.ok : CalleeOk Try.prog 31 vizardref18_Check.F :=
  callee_ok vizardref18_Check.hΓ (fn := Try.f31) (c := vizardref18_Check.body) (T := wC Try.prog vizardref18_Check.Γ vizardref18_Check.plan vizardref18_Check.body) (by kernel_rfl) (by kernel_rfl) (by kernel_rfl) (wC_sound vizardref18_Check.hΓ Try.hm vizardref18_Check.plan _ vizardref18_Check.pok) fun _ K E H h => by
    obtain ⟨z0, z1, z2, e, h⟩ := vizardref18_Check.Fe h
    subst e
    have h2 : vizardref18_Check.vc z0 z1 z2 (fun r0_0 H => ∃ H', Heap.Le H' H ∧ K (.int .i64 r0_0) H') E H := h.h
    rw [vizardref18_Check.eq z0 z1 z2 (Fg K) E H]
    exact h2

/-! vizard/vizardref04.Ends -/
noncomputable def vizardref04_Ends.body : Code := Try.f52.body.getD .skip
def vizardref04_Ends.vc (p0 : Int) (p1 : Int) (K : Int → Int → Heap → Prop) (E : Value → Heap → Prop) (h0 : Heap) : Prop :=
  newB (.cells #[(.int .u32 p0), (.int .i64 p1)] 38) (fun b0 h1 =>
  ldI h1 .u32 ((⟨b0, 0, none⟩ : Addr).add 0) fun x0 => ldI h1 .i64 ((⟨b0, 0, none⟩ : Addr).add 1) fun x1 =>
  vizardref04_Check.c x0 x1 (fun x2 h2 =>
  (if (!x2) = true then
  K 0 0 h2
  else
  ldI h2 .u32 ((⟨b0, 0, none⟩ : Addr).add 0) fun x3 =>
  ldI h2 .u32 ((⟨b0, 0, none⟩ : Addr).add 0) fun x4 =>
  ldI h2 .i64 ((⟨b0, 0, none⟩ : Addr).add 1) fun x5 =>
  vizardref04_size.c x5 (fun x6 h3 =>
  (eqv h3 h3 (some (.int .i64 (IntKind.i64.wrap x4))) (.int .i64 (IntKind.i64.wrap x4))) ∧
  (ldI h3 .u32 ((⟨b0, 0, none⟩ : Addr).add 0) fun x7 =>
  eqv h3 h3 (some (.int .u32 x4)) (.int .u32 x7)) ∧
  (ldI h3 .u32 ((⟨b0, 0, none⟩ : Addr).add 0) fun x8 =>
  eqv h3 h3 (some (.int .u32 x3)) (.int .u32 x8)) ∧
  K x3 (IntKind.u32.wrap (IntKind.i64.wrap ((IntKind.i64.wrap ((IntKind.i64.wrap x4) + x6)) - 1))) h3) E h2)) E h1) h0
structure vizardref04_Ends.c (p0 : Int) (p1 : Int) (K : Int → Int → Heap → Prop) (E : Value → Heap → Prop) (H : Heap) : Prop where
  h : vizardref04_Ends.vc p0 p1 (fun r0_0 r1_0 H => ∃ H', Heap.Le H' H ∧ K r0_0 r1_0 H') E H
def vizardref04_Ends.F : FT := fun args K E H => match args with
  | [(.agg ⟨[(.int .u32 p0), (.int .i64 p1)]⟩)] => vizardref04_Ends.c p0 p1 (fun r0_0 r1_0 H => K (.tuple #[(.int .u32 r0_0), (.int .u32 r1_0)]) H) E H
  | _ => False
noncomputable def vizardref04_Ends.Γ : FuncId → Option FT := Γof [(50, vizardref04_Check.F), (61, vizardref04_size.F)]
theorem vizardref04_Ends.hΓ : ∀ f F, vizardref04_Ends.Γ f = some F → CalleeOk Try.prog f F := Γof_ok (List.forall_mem_cons.2 ⟨vizardref04_Check.ok, List.forall_mem_cons.2 ⟨vizardref04_size.ok, fun _ h => nomatch h⟩⟩)
noncomputable def vizardref04_Ends.plan : Plan := .seq (.go) (.seq (.go) (.seq (.draw ⟨[0, 1, 2, 3, 4, 5, 6, 7, 8, 9, 10, 11], (dl [(0, []), (1, []), (2, []), (3, []), (4, []), (5, []), (6, []), (7, [6, 5]), (8, []), (9, []), (10, []), (11, [])] .fin), [12]⟩) (.go)))
theorem vizardref04_Ends.pok : PlanOk Try.prog vizardref04_Ends.plan vizardref04_Ends.body := by
  have e : PlanOk Try.prog vizardref04_Ends.plan vizardref04_Ends.body = ((True) ∧ ((True) ∧ ((True) ∧ (True)))) := by kernel_rfl
  exact e.mpr ⟨trivial, ⟨trivial, ⟨trivial, trivial⟩⟩⟩
theorem vizardref04_Ends.eq (p0 : Int) (p1 : Int) (K : Value → Heap → Prop) (E : Value → Heap → Prop) (H : Heap) :
    fnT Try.prog Try.f52 (wC Try.prog vizardref04_Ends.Γ vizardref04_Ends.plan vizardref04_Ends.body) [(.agg #[(.int .u32 p0), (.int .i64 p1)])] K E H = vizardref04_Ends.vc p0 p1 (fun r0_0 r1_0 H => K (.tuple #[(.int .u32 r0_0), (.int .u32 r1_0)]) H) E H := by
  kernel_rfl
theorem vizardref04_Ends.Fe {args : List Value} {K E : Value → Heap → Prop} {H : Heap} (h : vizardref04_Ends.F args K E H) : ∃ p0 p1, args = [(.agg #[(.int .u32 p0), (.int .i64 p1)])] ∧ vizardref04_Ends.c p0 p1 (fun r0_0 r1_0 H => K (.tuple #[(.int .u32 r0_0), (.int .u32 r1_0)]) H) E H := by
  unfold vizardref04_Ends.F at h
  split at h
  · exact ⟨_, _, rfl, h⟩
  · exact h.elim
theorem vizardref04_Ends.ok : CalleeOk Try.prog 52 vizardref04_Ends.F :=
  callee_ok vizardref04_Ends.hΓ (fn := Try.f52) (c := vizardref04_Ends.body) (T := wC Try.prog vizardref04_Ends.Γ vizardref04_Ends.plan vizardref04_Ends.body) (by kernel_rfl) (by kernel_rfl) (by kernel_rfl) (wC_sound vizardref04_Ends.hΓ Try.hm vizardref04_Ends.plan _ vizardref04_Ends.pok) fun _ K E H h => by
    obtain ⟨z0, z1, e, h⟩ := vizardref04_Ends.Fe h
    subst e
    have h2 : vizardref04_Ends.vc z0 z1 (fun r0_0 r1_0 H => ∃ H', Heap.Le H' H ∧ K (.tuple #[(.int .u32 r0_0), (.int .u32 r1_0)]) H') E H := h.h
    rw [vizardref04_Ends.eq z0 z1 (Fg K) E H]
    exact h2

/-! vizard/vizardref18.bounds -/
noncomputable def vizardref18_bounds.body : Code := Try.f32.body.getD .skip
def vizardref18_bounds.J2.vc (l0 : Option Addr) (l1 : Nat) (l2 : Nat) (b0 : Option Addr) (b1 : Nat) (b2 : Nat) (i0 : Int) (Kn : Int → Heap → Prop) (E : Value → Heap → Prop) (h0 : Heap) : Prop :=
  Kn (IntKind.i64.wrap (i0 + 1)) h0
structure vizardref18_bounds.J2 (l0 : Option Addr) (l1 : Nat) (l2 : Nat) (b0 : Option Addr) (b1 : Nat) (b2 : Nat) (i0 : Int) (Kn : Int → Heap → Prop) (E : Value → Heap → Prop) (H : Heap) : Prop where
  h : vizardref18_bounds.J2.vc l0 l1 l2 b0 b1 b2 i0 Kn E H
def vizardref18_bounds.W1.vc (l0 : Option Addr) (l1 : Nat) (l2 : Nat) (b0 : Option Addr) (b1 : Nat) (b2 : Nat) (i0 : Int) (Kx0 : Option Addr → Nat → Nat → Heap → Prop) (RR : Option Addr → Nat → Nat → Int → Heap → Prop) (E : Value → Heap → Prop) (h0 : Heap) : Prop :=
  (if (decide (i0 < (l1 : Int))) = true then
  nilc l0 fun a0 => (0 : Int) ≤ i0 ∧ i0 < (l1 : Int) ∧
  ldI h0 .u32 (((a0.add (i0.toNat * 6)).add 2).add 0) fun x0 => ldI h0 .i64 (((a0.add (i0.toNat * 6)).add 2).add 1) fun x1 =>
  vizardref04_Ends.c x0 x1 (fun x2 x3 h1 =>
  newB (.cells #[(.int .i64 (IntKind.i64.wrap x2)), (.int .i64 (IntKind.i64.wrap ((IntKind.i64.wrap x3) + 1)))] 2) (fun b3 h2 =>
  rdRow h2 (some (⟨b3, 0, none⟩ : Addr)) (2 * 1) fun cs0 =>
  appT 2 (.int .i64 0) b0 b1 2 b2 1 8 cs0 (fun p0 n0 c0 h3 =>
  vizardref18_bounds.J2 l0 l1 l2 p0 n0 c0 i0 (fun i1 h4 =>
  RR p0 n0 c0 i1 h4) E h3) h2) h1) E h0
  else
  Kx0 b0 b1 b2 h0)
structure vizardref18_bounds.W1 (l0 : Option Addr) (l1 : Nat) (l2 : Nat) (b0 : Option Addr) (b1 : Nat) (b2 : Nat) (i0 : Int) (Kx0 : Option Addr → Nat → Nat → Heap → Prop) (E : Value → Heap → Prop) (H : Heap) : Prop where
  h : Loop (fun (RR : Option Addr × Nat × Nat × Int → Heap → Prop) (s : Option Addr × Nat × Nat × Int) (H : Heap) => vizardref18_bounds.W1.vc l0 l1 l2 s.1 s.2.1 s.2.2.1 s.2.2.2 Kx0 (fun b0 b1 b2 i0 H => RR (b0, b1, b2, i0) H) E H) (b0, b1, b2, i0) H
def vizardref18_bounds.J6.vc (b0 : Option Addr) (b1 : Nat) (b2 : Nat) (out0 : Option Addr) (out1 : Nat) (out2 : Nat) (least0 : Int) (i0 : Int) (x0 : Bool) (Kn : Int → Heap → Prop) (E : Value → Heap → Prop) (h0 : Heap) : Prop :=
  (if x0 = true then
  nilc b0 fun a0 => (0 : Int) ≤ i0 ∧ i0 < (b1 : Int) ∧
  ldI h0 .i64 (a0.add (i0.toNat * 1)) fun x1 =>
  Kn x1 h0
  else
  Kn least0 h0)
structure vizardref18_bounds.J6 (b0 : Option Addr) (b1 : Nat) (b2 : Nat) (out0 : Option Addr) (out1 : Nat) (out2 : Nat) (least0 : Int) (i0 : Int) (x0 : Bool) (Kn : Int → Heap → Prop) (E : Value → Heap → Prop) (H : Heap) : Prop where
  h : vizardref18_bounds.J6.vc b0 b1 b2 out0 out1 out2 least0 i0 x0 Kn E H
def vizardref18_bounds.J7.vc (b0 : Option Addr) (b1 : Nat) (b2 : Nat) (out0 : Option Addr) (out1 : Nat) (out2 : Nat) (least0 : Int) (i0 : Int) (Kn : Int → Heap → Prop) (E : Value → Heap → Prop) (h0 : Heap) : Prop :=
  Kn (IntKind.i64.wrap (i0 + 1)) h0
structure vizardref18_bounds.J7 (b0 : Option Addr) (b1 : Nat) (b2 : Nat) (out0 : Option Addr) (out1 : Nat) (out2 : Nat) (least0 : Int) (i0 : Int) (Kn : Int → Heap → Prop) (E : Value → Heap → Prop) (H : Heap) : Prop where
  h : vizardref18_bounds.J7.vc b0 b1 b2 out0 out1 out2 least0 i0 Kn E H
def vizardref18_bounds.W5.vc (b0 : Option Addr) (b1 : Nat) (b2 : Nat) (out0 : Option Addr) (out1 : Nat) (out2 : Nat) (least0 : Int) (i0 : Int) (Kx4 : Int → Heap → Prop) (RR : Int → Int → Heap → Prop) (E : Value → Heap → Prop) (h0 : Heap) : Prop :=
  (if (decide (i0 < (b1 : Int))) = true then
  nilc b0 fun a0 => (0 : Int) ≤ i0 ∧ i0 < (b1 : Int) ∧
  ldI h0 .i64 (a0.add (i0.toNat * 1)) fun x0 =>
  (if (decide (x0 < least0)) = true then
  (if ((out1 : Int) == 0) = true then
  vizardref18_bounds.J6 b0 b1 b2 out0 out1 out2 least0 i0 true (fun least1 h1 =>
  vizardref18_bounds.J7 b0 b1 b2 out0 out1 out2 least1 i0 (fun i1 h2 =>
  RR least1 i1 h2) E h1) E h0
  else
  nilc b0 fun a1 => (0 : Int) ≤ i0 ∧ i0 < (b1 : Int) ∧
  ldI h0 .i64 (a1.add (i0.toNat * 1)) fun x1 =>
  nilc out0 fun a2 => (0 : Int) ≤ (IntKind.i64.wrap ((out1 : Int) - 1)) ∧ (IntKind.i64.wrap ((out1 : Int) - 1)) < (out1 : Int) ∧
  ldI h0 .i64 (a2.add ((IntKind.i64.wrap ((out1 : Int) - 1)).toNat * 1)) fun x2 =>
  vizardref18_bounds.J6 b0 b1 b2 out0 out1 out2 least0 i0 (decide (x1 > x2)) (fun least2 h3 =>
  vizardref18_bounds.J7 b0 b1 b2 out0 out1 out2 least2 i0 (fun i2 h4 =>
  RR least2 i2 h4) E h3) E h0)
  else
  vizardref18_bounds.J6 b0 b1 b2 out0 out1 out2 least0 i0 false (fun least3 h5 =>
  vizardref18_bounds.J7 b0 b1 b2 out0 out1 out2 least3 i0 (fun i3 h6 =>
  RR least3 i3 h6) E h5) E h0)
  else
  Kx4 least0 h0)
structure vizardref18_bounds.W5 (b0 : Option Addr) (b1 : Nat) (b2 : Nat) (out0 : Option Addr) (out1 : Nat) (out2 : Nat) (least0 : Int) (i0 : Int) (Kx4 : Int → Heap → Prop) (E : Value → Heap → Prop) (H : Heap) : Prop where
  h : Loop (fun (RR : Int × Int → Heap → Prop) (s : Int × Int) (H : Heap) => vizardref18_bounds.W5.vc b0 b1 b2 out0 out1 out2 s.1 s.2 Kx4 (fun least0 i0 H => RR (least0, i0) H) E H) (least0, i0) H
def vizardref18_bounds.J4.vc (b0 : Option Addr) (b1 : Nat) (b2 : Nat) (out0 : Option Addr) (out1 : Nat) (out2 : Nat) (Kn : Option Addr → Nat → Nat → Heap → Prop) (E : Value → Heap → Prop) (h0 : Heap) : Prop :=
  vizardref18_bounds.W5 b0 b1 b2 out0 out1 out2 4294967296 0 (fun least0 h1 =>
  newB (.cells #[(.int .i64 least0)] 2) (fun b3 h2 =>
  rdRow h2 (some (⟨b3, 0, none⟩ : Addr)) (1 * 1) fun cs0 =>
  appT 2 (.int .i64 0) out0 out1 1 out2 1 8 cs0 (fun p0 n0 c0 h3 =>
  Kn p0 n0 c0 h3) h2) h1) E h0
structure vizardref18_bounds.J4 (b0 : Option Addr) (b1 : Nat) (b2 : Nat) (out0 : Option Addr) (out1 : Nat) (out2 : Nat) (Kn : Option Addr → Nat → Nat → Heap → Prop) (E : Value → Heap → Prop) (H : Heap) : Prop where
  h : vizardref18_bounds.J4.vc b0 b1 b2 out0 out1 out2 Kn E H
def vizardref18_bounds.W3.vc (b0 : Option Addr) (b1 : Nat) (b2 : Nat) (out0 : Option Addr) (out1 : Nat) (out2 : Nat) (Kx2 : Option Addr → Nat → Nat → Heap → Prop) (RR : Option Addr → Nat → Nat → Heap → Prop) (E : Value → Heap → Prop) (h0 : Heap) : Prop :=
  (if ((out1 : Int) == 0) = true then
  vizardref18_bounds.J4 b0 b1 b2 out0 out1 out2 RR E h0
  else
  nilc out0 fun a0 => (0 : Int) ≤ (IntKind.i64.wrap ((out1 : Int) - 1)) ∧ (IntKind.i64.wrap ((out1 : Int) - 1)) < (out1 : Int) ∧
  ldI h0 .i64 (a0.add ((IntKind.i64.wrap ((out1 : Int) - 1)).toNat * 1)) fun x0 =>
  (if (decide (x0 < 4294967296)) = true then
  vizardref18_bounds.J4 b0 b1 b2 out0 out1 out2 RR E h0
  else
  Kx2 out0 out1 out2 h0))
structure vizardref18_bounds.W3 (b0 : Option Addr) (b1 : Nat) (b2 : Nat) (out0 : Option Addr) (out1 : Nat) (out2 : Nat) (Kx2 : Option Addr → Nat → Nat → Heap → Prop) (E : Value → Heap → Prop) (H : Heap) : Prop where
  h : Loop (fun (RR : Option Addr × Nat × Nat → Heap → Prop) (s : Option Addr × Nat × Nat) (H : Heap) => vizardref18_bounds.W3.vc b0 b1 b2 s.1 s.2.1 s.2.2 Kx2 (fun out0 out1 out2 H => RR (out0, out1, out2) H) E H) (out0, out1, out2) H
def vizardref18_bounds.vc (l0 : Option Addr) (l1 : Nat) (l2 : Nat) (K : Option Addr → Nat → Nat → Heap → Prop) (E : Value → Heap → Prop) (h0 : Heap) : Prop :=
  newB (.cells #[(.int .i64 0)] 2) (fun b0 h1 =>
  vizardref18_bounds.W1 l0 l1 l2 (some (⟨b0, 0, none⟩ : Addr)) 1 1 0 (fun b1 b2 b3 h2 =>
  vizardref18_bounds.W3 b1 b2 b3 none 0 0 K E h2) E h1) h0
structure vizardref18_bounds.c (l0 : Option Addr) (l1 : Nat) (l2 : Nat) (K : Option Addr → Nat → Nat → Heap → Prop) (E : Value → Heap → Prop) (H : Heap) : Prop where
  h : vizardref18_bounds.vc l0 l1 l2 (fun r0_0 r0_1 r0_2 H => ∃ H', Heap.Le H' H ∧ K r0_0 r0_1 r0_2 H') E H
def vizardref18_bounds.F : FT := fun args K E H => match args with
  | [(.slice l0 l1 l2)] => vizardref18_bounds.c l0 l1 l2 (fun r0_0 r0_1 r0_2 H => K (.slice r0_0 r0_1 r0_2) H) E H
  | _ => False
noncomputable def vizardref18_bounds.Γ : FuncId → Option FT := Γof [(52, vizardref04_Ends.F)]
theorem vizardref18_bounds.hΓ : ∀ f F, vizardref18_bounds.Γ f = some F → CalleeOk Try.prog f F := Γof_ok (List.forall_mem_cons.2 ⟨vizardref04_Ends.ok, fun _ h => nomatch h⟩)
def vizardref18_bounds.J2.t : CT := fun Q E fr H => lenIs 85 fr (slSl fr 0 fun l0 l1 l2 => slSl fr 3 fun b0 b1 b2 => slI fr 4 .i64 fun i0 => vizardref18_bounds.J2 l0 l1 l2 b0 b1 b2 i0 (fun y4_0 H => Q .normal (mkF 85 [(0, (.slice l0 l1 l2)), (3, (.slice b0 b1 b2)), (4, (.int .i64 y4_0))]) H) E H)
noncomputable def vizardref18_bounds.J2.plan : Plan := .go
theorem vizardref18_bounds.J2.pok : PlanOk Try.prog vizardref18_bounds.J2.plan (sub [1, 1, 0, 1, 0, 0, 1, 1] vizardref18_bounds.body) := by
  have e : PlanOk Try.prog vizardref18_bounds.J2.plan (sub [1, 1, 0, 1, 0, 0, 1, 1] vizardref18_bounds.body) = (True) := by kernel_rfl
  exact e.mpr trivial
theorem vizardref18_bounds.J2.eq (l0 : Option Addr) (l1 : Nat) (l2 : Nat) (b0 : Option Addr) (b1 : Nat) (b2 : Nat) (i0 : Int) (Q : Ex → Fr → Heap → Prop) (E : Value → Heap → Prop) (H : Heap) :
    vizardref18_bounds.J2.vc l0 l1 l2 b0 b1 b2 i0 (fun y4_0 H => Q .normal (mkF 85 [(0, (.slice l0 l1 l2)), (3, (.slice b0 b1 b2)), (4, (.int .i64 y4_0))]) H) E H = keepT [0, 3, 4] [] (fun i => []) (wC Try.prog vizardref18_bounds.Γ vizardref18_bounds.J2.plan (sub [1, 1, 0, 1, 0, 0, 1, 1] vizardref18_bounds.body)) Q E (mkF 85 [(0, (.slice l0 l1 l2)), (3, (.slice b0 b1 b2)), (4, (.int .i64 i0))]) H := by
  kernel_rfl
theorem vizardref18_bounds.J2.ok : SoundCode Try.prog (sub [1, 1, 0, 1, 0, 0, 1, 1] vizardref18_bounds.body) vizardref18_bounds.J2.t := by
  refine piece_sound (keepT_sound [0, 3, 4] [] (fun i => []) (wC_sound vizardref18_bounds.hΓ Try.hm vizardref18_bounds.J2.plan _ vizardref18_bounds.J2.pok)) ?_
  intro Q E fr H h
  unfold vizardref18_bounds.J2.t at h
  obtain ⟨hl, h⟩ := lenIs_elim h
  obtain ⟨l0, l1, l2, q0, h⟩ := slSl_elim h
  obtain ⟨b0, b1, b2, q3, h⟩ := slSl_elim h
  obtain ⟨i0, q4, h⟩ := slI_elim h
  refine ⟨(mkF 85 [(0, (.slice l0 l1 l2)), (3, (.slice b0 b1 b2)), (4, (.int .i64 i0))]), fun a ha => ha.mk (Nat.le_of_eq hl.symm) (List.forall_mem_cons.2 ⟨q0, List.forall_mem_cons.2 ⟨q3, List.forall_mem_cons.2 ⟨q4, fun _ h => nomatch h⟩⟩⟩), ?_⟩
  have e := vizardref18_bounds.J2.eq l0 l1 l2 b0 b1 b2 i0 Q E H
  rw [← e]
  exact h.h
def vizardref18_bounds.W1.t : CT := fun Q E fr H => lenIs 85 fr (slSl fr 0 fun l0 l1 l2 => slSl fr 3 fun b0 b1 b2 => slI fr 4 .i64 fun i0 => vizardref18_bounds.W1 l0 l1 l2 b0 b1 b2 i0 (fun y3_0 y3_1 y3_2 H => Q (.exit 0) (mkF 85 [(3, (.slice y3_0 y3_1 y3_2))]) H) E H)
noncomputable def vizardref18_bounds.W1.plan : Plan := .seq (.go) (.seq (.go) (.use vizardref18_bounds.J2.t))
theorem vizardref18_bounds.W1.pok : PlanOk Try.prog vizardref18_bounds.W1.plan (sub [1, 1, 0, 1, 0, 0] vizardref18_bounds.body) := by
  have e : PlanOk Try.prog vizardref18_bounds.W1.plan (sub [1, 1, 0, 1, 0, 0] vizardref18_bounds.body) = ((True) ∧ ((True) ∧ (SoundCode Try.prog (sub [1, 1, 0, 1, 0, 0, 1, 1] vizardref18_bounds.body) vizardref18_bounds.J2.t))) := by kernel_rfl
  exact e.mpr ⟨trivial, ⟨trivial, vizardref18_bounds.J2.ok⟩⟩
theorem vizardref18_bounds.W1.eq (l0 : Option Addr) (l1 : Nat) (l2 : Nat) (Q : Ex → Fr → Heap → Prop) (E : Value → Heap → Prop) (RR : Fr → Heap → Prop) (s : Option Addr × Nat × Nat × Int) (H : Heap) :
    (fun (RR : Option Addr × Nat × Nat × Int → Heap → Prop) (s : Option Addr × Nat × Nat × Int) (H : Heap) => vizardref18_bounds.W1.vc l0 l1 l2 s.1 s.2.1 s.2.2.1 s.2.2.2 (fun y3_0 y3_1 y3_2 H => Q (.exit 0) (mkF 85 [(3, (.slice y3_0 y3_1 y3_2))]) H) (fun b0 b1 b2 i0 H => RR (b0, b1, b2, i0) H) E H) (fun s' H' => RR ((fun (s : Option Addr × Nat × Nat × Int) => (mkF 85 [(0, (.slice l0 l1 l2)), (3, (.slice s.1 s.2.1 s.2.2.1)), (4, (.int .i64 s.2.2.2))])) s') H') s H = keepT [0, 3, 4] [] (fun i => if i = 0 then [3] else []) (wC Try.prog vizardref18_bounds.Γ vizardref18_bounds.W1.plan (sub [1, 1, 0, 1, 0, 0] vizardref18_bounds.body)) (fun e fr' H' => match e with | .normal => RR fr' H' | .exit id => Q (.exit id) fr' H' | .ret => Q .ret fr' H') E ((fun (s : Option Addr × Nat × Nat × Int) => (mkF 85 [(0, (.slice l0 l1 l2)), (3, (.slice s.1 s.2.1 s.2.2.1)), (4, (.int .i64 s.2.2.2))])) s) H := by
  kernel_rfl
theorem vizardref18_bounds.W1.ok : SoundCode Try.prog (sub [1, 1, 0, 1, 0] vizardref18_bounds.body) vizardref18_bounds.W1.t := by
  have e : (sub [1, 1, 0, 1, 0] vizardref18_bounds.body) = .loop (sub [1, 1, 0, 1, 0, 0] vizardref18_bounds.body) := by kernel_rfl
  rw [e]
  refine piece_sound (loopN_sound (keepT_sound [0, 3, 4] [] (fun i => if i = 0 then [3] else []) (wC_sound vizardref18_bounds.hΓ Try.hm vizardref18_bounds.W1.plan _ vizardref18_bounds.W1.pok))) ?_
  intro Q E fr H h
  unfold vizardref18_bounds.W1.t at h
  obtain ⟨hl, h⟩ := lenIs_elim h
  obtain ⟨l0, l1, l2, q0, h⟩ := slSl_elim h
  obtain ⟨b0, b1, b2, q3, h⟩ := slSl_elim h
  obtain ⟨i0, q4, h⟩ := slI_elim h
  obtain ⟨m, h⟩ := h.h
  refine ⟨(mkF 85 [(0, (.slice l0 l1 l2)), (3, (.slice b0 b1 b2)), (4, (.int .i64 i0))]), fun a ha => ha.mk (Nat.le_of_eq hl.symm) (List.forall_mem_cons.2 ⟨q0, List.forall_mem_cons.2 ⟨q3, List.forall_mem_cons.2 ⟨q4, fun _ h => nomatch h⟩⟩⟩), m, ?_⟩
  have e := loopS_eq (B := (fun (RR : Option Addr × Nat × Nat × Int → Heap → Prop) (s : Option Addr × Nat × Nat × Int) (H : Heap) => vizardref18_bounds.W1.vc l0 l1 l2 s.1 s.2.1 s.2.2.1 s.2.2.2 (fun y3_0 y3_1 y3_2 H => Q (.exit 0) (mkF 85 [(3, (.slice y3_0 y3_1 y3_2))]) H) (fun b0 b1 b2 i0 H => RR (b0, b1, b2, i0) H) E H)) (A := keepT [0, 3, 4] [] (fun i => if i = 0 then [3] else []) (wC Try.prog vizardref18_bounds.Γ vizardref18_bounds.W1.plan (sub [1, 1, 0, 1, 0, 0] vizardref18_bounds.body))) (m := (fun (s : Option Addr × Nat × Nat × Int) => (mkF 85 [(0, (.slice l0 l1 l2)), (3, (.slice s.1 s.2.1 s.2.2.1)), (4, (.int .i64 s.2.2.2))]))) (Q := Q) (E := E) (fun RR s H => vizardref18_bounds.W1.eq l0 l1 l2 Q E RR s H) m (b0, b1, b2, i0) H
  exact cast e h
def vizardref18_bounds.J6.t : CT := fun Q E fr H => lenIs 85 fr (slSl fr 3 fun b0 b1 b2 => slSl fr 7 fun out0 out1 out2 => slI fr 8 .i64 fun least0 => slI fr 9 .i64 fun i0 => slB fr 75 fun x0 => vizardref18_bounds.J6 b0 b1 b2 out0 out1 out2 least0 i0 x0 (fun y8_0 H => Q .normal (mkF 85 [(3, (.slice b0 b1 b2)), (7, (.slice out0 out1 out2)), (8, (.int .i64 y8_0)), (9, (.int .i64 i0))]) H) E H)
noncomputable def vizardref18_bounds.J6.plan : Plan := .go
theorem vizardref18_bounds.J6.pok : PlanOk Try.prog vizardref18_bounds.J6.plan (sub [1, 1, 1, 1, 0, 0, 0, 1, 0, 1, 0, 1, 0, 0, 1, 0, 0, 1] vizardref18_bounds.body) := by
  have e : PlanOk Try.prog vizardref18_bounds.J6.plan (sub [1, 1, 1, 1, 0, 0, 0, 1, 0, 1, 0, 1, 0, 0, 1, 0, 0, 1] vizardref18_bounds.body) = (True) := by kernel_rfl
  exact e.mpr trivial
theorem vizardref18_bounds.J6.eq (b0 : Option Addr) (b1 : Nat) (b2 : Nat) (out0 : Option Addr) (out1 : Nat) (out2 : Nat) (least0 : Int) (i0 : Int) (x0 : Bool) (Q : Ex → Fr → Heap → Prop) (E : Value → Heap → Prop) (H : Heap) :
    vizardref18_bounds.J6.vc b0 b1 b2 out0 out1 out2 least0 i0 x0 (fun y8_0 H => Q .normal (mkF 85 [(3, (.slice b0 b1 b2)), (7, (.slice out0 out1 out2)), (8, (.int .i64 y8_0)), (9, (.int .i64 i0))]) H) E H = keepT [3, 7, 8, 9] [] (fun i => []) (wC Try.prog vizardref18_bounds.Γ vizardref18_bounds.J6.plan (sub [1, 1, 1, 1, 0, 0, 0, 1, 0, 1, 0, 1, 0, 0, 1, 0, 0, 1] vizardref18_bounds.body)) Q E (mkF 85 [(3, (.slice b0 b1 b2)), (7, (.slice out0 out1 out2)), (8, (.int .i64 least0)), (9, (.int .i64 i0)), (75, (.bool x0))]) H := by
  kernel_rfl
theorem vizardref18_bounds.J6.ok : SoundCode Try.prog (sub [1, 1, 1, 1, 0, 0, 0, 1, 0, 1, 0, 1, 0, 0, 1, 0, 0, 1] vizardref18_bounds.body) vizardref18_bounds.J6.t := by
  refine piece_sound (keepT_sound [3, 7, 8, 9] [] (fun i => []) (wC_sound vizardref18_bounds.hΓ Try.hm vizardref18_bounds.J6.plan _ vizardref18_bounds.J6.pok)) ?_
  intro Q E fr H h
  unfold vizardref18_bounds.J6.t at h
  obtain ⟨hl, h⟩ := lenIs_elim h
  obtain ⟨b0, b1, b2, q3, h⟩ := slSl_elim h
  obtain ⟨out0, out1, out2, q7, h⟩ := slSl_elim h
  obtain ⟨least0, q8, h⟩ := slI_elim h
  obtain ⟨i0, q9, h⟩ := slI_elim h
  obtain ⟨x0, q75, h⟩ := slB_elim h
  refine ⟨(mkF 85 [(3, (.slice b0 b1 b2)), (7, (.slice out0 out1 out2)), (8, (.int .i64 least0)), (9, (.int .i64 i0)), (75, (.bool x0))]), fun a ha => ha.mk (Nat.le_of_eq hl.symm) (List.forall_mem_cons.2 ⟨q3, List.forall_mem_cons.2 ⟨q7, List.forall_mem_cons.2 ⟨q8, List.forall_mem_cons.2 ⟨q9, List.forall_mem_cons.2 ⟨q75, fun _ h => nomatch h⟩⟩⟩⟩⟩), ?_⟩
  have e := vizardref18_bounds.J6.eq b0 b1 b2 out0 out1 out2 least0 i0 x0 Q E H
  rw [← e]
  exact h.h
def vizardref18_bounds.J7.t : CT := fun Q E fr H => lenIs 85 fr (slSl fr 3 fun b0 b1 b2 => slSl fr 7 fun out0 out1 out2 => slI fr 8 .i64 fun least0 => slI fr 9 .i64 fun i0 => vizardref18_bounds.J7 b0 b1 b2 out0 out1 out2 least0 i0 (fun y9_0 H => Q .normal (mkF 85 [(3, (.slice b0 b1 b2)), (7, (.slice out0 out1 out2)), (8, (.int .i64 least0)), (9, (.int .i64 y9_0))]) H) E H)
noncomputable def vizardref18_bounds.J7.plan : Plan := .go
theorem vizardref18_bounds.J7.pok : PlanOk Try.prog vizardref18_bounds.J7.plan (sub [1, 1, 1, 1, 0, 0, 0, 1, 0, 1, 0, 1, 0, 0, 1, 1] vizardref18_bounds.body) := by
  have e : PlanOk Try.prog vizardref18_bounds.J7.plan (sub [1, 1, 1, 1, 0, 0, 0, 1, 0, 1, 0, 1, 0, 0, 1, 1] vizardref18_bounds.body) = (True) := by kernel_rfl
  exact e.mpr trivial
theorem vizardref18_bounds.J7.eq (b0 : Option Addr) (b1 : Nat) (b2 : Nat) (out0 : Option Addr) (out1 : Nat) (out2 : Nat) (least0 : Int) (i0 : Int) (Q : Ex → Fr → Heap → Prop) (E : Value → Heap → Prop) (H : Heap) :
    vizardref18_bounds.J7.vc b0 b1 b2 out0 out1 out2 least0 i0 (fun y9_0 H => Q .normal (mkF 85 [(3, (.slice b0 b1 b2)), (7, (.slice out0 out1 out2)), (8, (.int .i64 least0)), (9, (.int .i64 y9_0))]) H) E H = keepT [3, 7, 8, 9] [] (fun i => []) (wC Try.prog vizardref18_bounds.Γ vizardref18_bounds.J7.plan (sub [1, 1, 1, 1, 0, 0, 0, 1, 0, 1, 0, 1, 0, 0, 1, 1] vizardref18_bounds.body)) Q E (mkF 85 [(3, (.slice b0 b1 b2)), (7, (.slice out0 out1 out2)), (8, (.int .i64 least0)), (9, (.int .i64 i0))]) H := by
  kernel_rfl
theorem vizardref18_bounds.J7.ok : SoundCode Try.prog (sub [1, 1, 1, 1, 0, 0, 0, 1, 0, 1, 0, 1, 0, 0, 1, 1] vizardref18_bounds.body) vizardref18_bounds.J7.t := by
  refine piece_sound (keepT_sound [3, 7, 8, 9] [] (fun i => []) (wC_sound vizardref18_bounds.hΓ Try.hm vizardref18_bounds.J7.plan _ vizardref18_bounds.J7.pok)) ?_
  intro Q E fr H h
  unfold vizardref18_bounds.J7.t at h
  obtain ⟨hl, h⟩ := lenIs_elim h
  obtain ⟨b0, b1, b2, q3, h⟩ := slSl_elim h
  obtain ⟨out0, out1, out2, q7, h⟩ := slSl_elim h
  obtain ⟨least0, q8, h⟩ := slI_elim h
  obtain ⟨i0, q9, h⟩ := slI_elim h
  refine ⟨(mkF 85 [(3, (.slice b0 b1 b2)), (7, (.slice out0 out1 out2)), (8, (.int .i64 least0)), (9, (.int .i64 i0))]), fun a ha => ha.mk (Nat.le_of_eq hl.symm) (List.forall_mem_cons.2 ⟨q3, List.forall_mem_cons.2 ⟨q7, List.forall_mem_cons.2 ⟨q8, List.forall_mem_cons.2 ⟨q9, fun _ h => nomatch h⟩⟩⟩⟩), ?_⟩
  have e := vizardref18_bounds.J7.eq b0 b1 b2 out0 out1 out2 least0 i0 Q E H
  rw [← e]
  exact h.h
def vizardref18_bounds.W5.t : CT := fun Q E fr H => lenIs 85 fr (slSl fr 3 fun b0 b1 b2 => slSl fr 7 fun out0 out1 out2 => slI fr 8 .i64 fun least0 => slI fr 9 .i64 fun i0 => vizardref18_bounds.W5 b0 b1 b2 out0 out1 out2 least0 i0 (fun y8_0 H => Q (.exit 4) (mkF 85 [(3, (.slice b0 b1 b2)), (7, (.slice out0 out1 out2)), (8, (.int .i64 y8_0))]) H) E H)
noncomputable def vizardref18_bounds.W5.plan : Plan := .seq (.go) (.seq (.block (.seq (.draw ⟨[0, 1, 2, 3, 4, 5, 6, 7, 8, 9, 10, 11, 12, 13, 14, 15, 16, 17, 18, 19, 20, 21, 22, 23], (dl [(0, []), (1, []), (2, []), (3, []), (4, []), (5, []), (6, []), (7, []), (8, []), (9, []), (10, []), (11, []), (12, []), (13, []), (14, []), (15, []), (16, []), (17, []), (18, []), (19, []), (20, []), (21, []), (22, []), (23, [])] .fin), []⟩) (.use vizardref18_bounds.J6.t))) (.use vizardref18_bounds.J7.t))
theorem vizardref18_bounds.W5.pok : PlanOk Try.prog vizardref18_bounds.W5.plan (sub [1, 1, 1, 1, 0, 0, 0, 1, 0, 1, 0, 1, 0, 0] vizardref18_bounds.body) := by
  have e : PlanOk Try.prog vizardref18_bounds.W5.plan (sub [1, 1, 1, 1, 0, 0, 0, 1, 0, 1, 0, 1, 0, 0] vizardref18_bounds.body) = ((True) ∧ (((True) ∧ (SoundCode Try.prog (sub [1, 1, 1, 1, 0, 0, 0, 1, 0, 1, 0, 1, 0, 0, 1, 0, 0, 1] vizardref18_bounds.body) vizardref18_bounds.J6.t)) ∧ (SoundCode Try.prog (sub [1, 1, 1, 1, 0, 0, 0, 1, 0, 1, 0, 1, 0, 0, 1, 1] vizardref18_bounds.body) vizardref18_bounds.J7.t))) := by kernel_rfl
  exact e.mpr ⟨trivial, ⟨⟨trivial, vizardref18_bounds.J6.ok⟩, vizardref18_bounds.J7.ok⟩⟩
theorem vizardref18_bounds.W5.eq (b0 : Option Addr) (b1 : Nat) (b2 : Nat) (out0 : Option Addr) (out1 : Nat) (out2 : Nat) (Q : Ex → Fr → Heap → Prop) (E : Value → Heap → Prop) (RR : Fr → Heap → Prop) (s : Int × Int) (H : Heap) :
    (fun (RR : Int × Int → Heap → Prop) (s : Int × Int) (H : Heap) => vizardref18_bounds.W5.vc b0 b1 b2 out0 out1 out2 s.1 s.2 (fun y8_0 H => Q (.exit 4) (mkF 85 [(3, (.slice b0 b1 b2)), (7, (.slice out0 out1 out2)), (8, (.int .i64 y8_0))]) H) (fun least0 i0 H => RR (least0, i0) H) E H) (fun s' H' => RR ((fun (s : Int × Int) => (mkF 85 [(3, (.slice b0 b1 b2)), (7, (.slice out0 out1 out2)), (8, (.int .i64 s.1)), (9, (.int .i64 s.2))])) s') H') s H = keepT [3, 7, 8, 9] [] (fun i => if i = 4 then [3, 7, 8] else []) (wC Try.prog vizardref18_bounds.Γ vizardref18_bounds.W5.plan (sub [1, 1, 1, 1, 0, 0, 0, 1, 0, 1, 0, 1, 0, 0] vizardref18_bounds.body)) (fun e fr' H' => match e with | .normal => RR fr' H' | .exit id => Q (.exit id) fr' H' | .ret => Q .ret fr' H') E ((fun (s : Int × Int) => (mkF 85 [(3, (.slice b0 b1 b2)), (7, (.slice out0 out1 out2)), (8, (.int .i64 s.1)), (9, (.int .i64 s.2))])) s) H := by
  kernel_rfl
theorem vizardref18_bounds.W5.ok : SoundCode Try.prog (sub [1, 1, 1, 1, 0, 0, 0, 1, 0, 1, 0, 1, 0] vizardref18_bounds.body) vizardref18_bounds.W5.t := by
  have e : (sub [1, 1, 1, 1, 0, 0, 0, 1, 0, 1, 0, 1, 0] vizardref18_bounds.body) = .loop (sub [1, 1, 1, 1, 0, 0, 0, 1, 0, 1, 0, 1, 0, 0] vizardref18_bounds.body) := by kernel_rfl
  rw [e]
  refine piece_sound (loopN_sound (keepT_sound [3, 7, 8, 9] [] (fun i => if i = 4 then [3, 7, 8] else []) (wC_sound vizardref18_bounds.hΓ Try.hm vizardref18_bounds.W5.plan _ vizardref18_bounds.W5.pok))) ?_
  intro Q E fr H h
  unfold vizardref18_bounds.W5.t at h
  obtain ⟨hl, h⟩ := lenIs_elim h
  obtain ⟨b0, b1, b2, q3, h⟩ := slSl_elim h
  obtain ⟨out0, out1, out2, q7, h⟩ := slSl_elim h
  obtain ⟨least0, q8, h⟩ := slI_elim h
  obtain ⟨i0, q9, h⟩ := slI_elim h
  obtain ⟨m, h⟩ := h.h
  refine ⟨(mkF 85 [(3, (.slice b0 b1 b2)), (7, (.slice out0 out1 out2)), (8, (.int .i64 least0)), (9, (.int .i64 i0))]), fun a ha => ha.mk (Nat.le_of_eq hl.symm) (List.forall_mem_cons.2 ⟨q3, List.forall_mem_cons.2 ⟨q7, List.forall_mem_cons.2 ⟨q8, List.forall_mem_cons.2 ⟨q9, fun _ h => nomatch h⟩⟩⟩⟩), m, ?_⟩
  have e := loopS_eq (B := (fun (RR : Int × Int → Heap → Prop) (s : Int × Int) (H : Heap) => vizardref18_bounds.W5.vc b0 b1 b2 out0 out1 out2 s.1 s.2 (fun y8_0 H => Q (.exit 4) (mkF 85 [(3, (.slice b0 b1 b2)), (7, (.slice out0 out1 out2)), (8, (.int .i64 y8_0))]) H) (fun least0 i0 H => RR (least0, i0) H) E H)) (A := keepT [3, 7, 8, 9] [] (fun i => if i = 4 then [3, 7, 8] else []) (wC Try.prog vizardref18_bounds.Γ vizardref18_bounds.W5.plan (sub [1, 1, 1, 1, 0, 0, 0, 1, 0, 1, 0, 1, 0, 0] vizardref18_bounds.body))) (m := (fun (s : Int × Int) => (mkF 85 [(3, (.slice b0 b1 b2)), (7, (.slice out0 out1 out2)), (8, (.int .i64 s.1)), (9, (.int .i64 s.2))]))) (Q := Q) (E := E) (fun RR s H => vizardref18_bounds.W5.eq b0 b1 b2 out0 out1 out2 Q E RR s H) m (least0, i0) H
  exact cast e h
def vizardref18_bounds.J4.t : CT := fun Q E fr H => lenIs 85 fr (slSl fr 3 fun b0 b1 b2 => slSl fr 7 fun out0 out1 out2 => vizardref18_bounds.J4 b0 b1 b2 out0 out1 out2 (fun y7_0 y7_1 y7_2 H => Q .normal (mkF 85 [(3, (.slice b0 b1 b2)), (7, (.slice y7_0 y7_1 y7_2))]) H) E H)
noncomputable def vizardref18_bounds.J4.plan : Plan := .block (.seq (.go) (.seq (.seq (.go) (.block (.use vizardref18_bounds.W5.t))) (.go)))
theorem vizardref18_bounds.J4.pok : PlanOk Try.prog vizardref18_bounds.J4.plan (sub [1, 1, 1, 1, 0, 0, 0, 1] vizardref18_bounds.body) := by
  have e : PlanOk Try.prog vizardref18_bounds.J4.plan (sub [1, 1, 1, 1, 0, 0, 0, 1] vizardref18_bounds.body) = ((True) ∧ (((True) ∧ (SoundCode Try.prog (sub [1, 1, 1, 1, 0, 0, 0, 1, 0, 1, 0, 1, 0] vizardref18_bounds.body) vizardref18_bounds.W5.t)) ∧ (True))) := by kernel_rfl
  exact e.mpr ⟨trivial, ⟨⟨trivial, vizardref18_bounds.W5.ok⟩, trivial⟩⟩
theorem vizardref18_bounds.J4.eq (b0 : Option Addr) (b1 : Nat) (b2 : Nat) (out0 : Option Addr) (out1 : Nat) (out2 : Nat) (Q : Ex → Fr → Heap → Prop) (E : Value → Heap → Prop) (H : Heap) :
    vizardref18_bounds.J4.vc b0 b1 b2 out0 out1 out2 (fun y7_0 y7_1 y7_2 H => Q .normal (mkF 85 [(3, (.slice b0 b1 b2)), (7, (.slice y7_0 y7_1 y7_2))]) H) E H = keepT [3, 7] [] (fun i => []) (wC Try.prog vizardref18_bounds.Γ vizardref18_bounds.J4.plan (sub [1, 1, 1, 1, 0, 0, 0, 1] vizardref18_bounds.body)) Q E (mkF 85 [(3, (.slice b0 b1 b2)), (7, (.slice out0 out1 out2))]) H := by
  kernel_rfl
theorem vizardref18_bounds.J4.ok : SoundCode Try.prog (sub [1, 1, 1, 1, 0, 0, 0, 1] vizardref18_bounds.body) vizardref18_bounds.J4.t := by
  refine piece_sound (keepT_sound [3, 7] [] (fun i => []) (wC_sound vizardref18_bounds.hΓ Try.hm vizardref18_bounds.J4.plan _ vizardref18_bounds.J4.pok)) ?_
  intro Q E fr H h
  unfold vizardref18_bounds.J4.t at h
  obtain ⟨hl, h⟩ := lenIs_elim h
  obtain ⟨b0, b1, b2, q3, h⟩ := slSl_elim h
  obtain ⟨out0, out1, out2, q7, h⟩ := slSl_elim h
  refine ⟨(mkF 85 [(3, (.slice b0 b1 b2)), (7, (.slice out0 out1 out2))]), fun a ha => ha.mk (Nat.le_of_eq hl.symm) (List.forall_mem_cons.2 ⟨q3, List.forall_mem_cons.2 ⟨q7, fun _ h => nomatch h⟩⟩), ?_⟩
  have e := vizardref18_bounds.J4.eq b0 b1 b2 out0 out1 out2 Q E H
  rw [← e]
  exact h.h
def vizardref18_bounds.W3.t : CT := fun Q E fr H => lenIs 85 fr (slSl fr 3 fun b0 b1 b2 => slSl fr 7 fun out0 out1 out2 => vizardref18_bounds.W3 b0 b1 b2 out0 out1 out2 (fun y7_0 y7_1 y7_2 H => Q (.exit 2) (mkF 85 [(7, (.slice y7_0 y7_1 y7_2))]) H) E H)
noncomputable def vizardref18_bounds.W3.plan : Plan := .seq (.go) (.use vizardref18_bounds.J4.t)
theorem vizardref18_bounds.W3.pok : PlanOk Try.prog vizardref18_bounds.W3.plan (sub [1, 1, 1, 1, 0, 0, 0] vizardref18_bounds.body) := by
  have e : PlanOk Try.prog vizardref18_bounds.W3.plan (sub [1, 1, 1, 1, 0, 0, 0] vizardref18_bounds.body) = ((True) ∧ (SoundCode Try.prog (sub [1, 1, 1, 1, 0, 0, 0, 1] vizardref18_bounds.body) vizardref18_bounds.J4.t)) := by kernel_rfl
  exact e.mpr ⟨trivial, vizardref18_bounds.J4.ok⟩
theorem vizardref18_bounds.W3.eq (b0 : Option Addr) (b1 : Nat) (b2 : Nat) (Q : Ex → Fr → Heap → Prop) (E : Value → Heap → Prop) (RR : Fr → Heap → Prop) (s : Option Addr × Nat × Nat) (H : Heap) :
    (fun (RR : Option Addr × Nat × Nat → Heap → Prop) (s : Option Addr × Nat × Nat) (H : Heap) => vizardref18_bounds.W3.vc b0 b1 b2 s.1 s.2.1 s.2.2 (fun y7_0 y7_1 y7_2 H => Q (.exit 2) (mkF 85 [(7, (.slice y7_0 y7_1 y7_2))]) H) (fun out0 out1 out2 H => RR (out0, out1, out2) H) E H) (fun s' H' => RR ((fun (s : Option Addr × Nat × Nat) => (mkF 85 [(3, (.slice b0 b1 b2)), (7, (.slice s.1 s.2.1 s.2.2))])) s') H') s H = keepT [3, 7] [] (fun i => if i = 2 then [7] else []) (wC Try.prog vizardref18_bounds.Γ vizardref18_bounds.W3.plan (sub [1, 1, 1, 1, 0, 0, 0] vizardref18_bounds.body)) (fun e fr' H' => match e with | .normal => RR fr' H' | .exit id => Q (.exit id) fr' H' | .ret => Q .ret fr' H') E ((fun (s : Option Addr × Nat × Nat) => (mkF 85 [(3, (.slice b0 b1 b2)), (7, (.slice s.1 s.2.1 s.2.2))])) s) H := by
  kernel_rfl
theorem vizardref18_bounds.W3.ok : SoundCode Try.prog (sub [1, 1, 1, 1, 0, 0] vizardref18_bounds.body) vizardref18_bounds.W3.t := by
  have e : (sub [1, 1, 1, 1, 0, 0] vizardref18_bounds.body) = .loop (sub [1, 1, 1, 1, 0, 0, 0] vizardref18_bounds.body) := by kernel_rfl
  rw [e]
  refine piece_sound (loopN_sound (keepT_sound [3, 7] [] (fun i => if i = 2 then [7] else []) (wC_sound vizardref18_bounds.hΓ Try.hm vizardref18_bounds.W3.plan _ vizardref18_bounds.W3.pok))) ?_
  intro Q E fr H h
  unfold vizardref18_bounds.W3.t at h
  obtain ⟨hl, h⟩ := lenIs_elim h
  obtain ⟨b0, b1, b2, q3, h⟩ := slSl_elim h
  obtain ⟨out0, out1, out2, q7, h⟩ := slSl_elim h
  obtain ⟨m, h⟩ := h.h
  refine ⟨(mkF 85 [(3, (.slice b0 b1 b2)), (7, (.slice out0 out1 out2))]), fun a ha => ha.mk (Nat.le_of_eq hl.symm) (List.forall_mem_cons.2 ⟨q3, List.forall_mem_cons.2 ⟨q7, fun _ h => nomatch h⟩⟩), m, ?_⟩
  have e := loopS_eq (B := (fun (RR : Option Addr × Nat × Nat → Heap → Prop) (s : Option Addr × Nat × Nat) (H : Heap) => vizardref18_bounds.W3.vc b0 b1 b2 s.1 s.2.1 s.2.2 (fun y7_0 y7_1 y7_2 H => Q (.exit 2) (mkF 85 [(7, (.slice y7_0 y7_1 y7_2))]) H) (fun out0 out1 out2 H => RR (out0, out1, out2) H) E H)) (A := keepT [3, 7] [] (fun i => if i = 2 then [7] else []) (wC Try.prog vizardref18_bounds.Γ vizardref18_bounds.W3.plan (sub [1, 1, 1, 1, 0, 0, 0] vizardref18_bounds.body))) (m := (fun (s : Option Addr × Nat × Nat) => (mkF 85 [(3, (.slice b0 b1 b2)), (7, (.slice s.1 s.2.1 s.2.2))]))) (Q := Q) (E := E) (fun RR s H => vizardref18_bounds.W3.eq b0 b1 b2 Q E RR s H) m (out0, out1, out2) H
  exact cast e h
noncomputable def vizardref18_bounds.plan : Plan := .seq (.go) (.seq (.go) (.seq (.seq (.go) (.block (.use vizardref18_bounds.W1.t))) (.seq (.go) (.seq (.block (.use vizardref18_bounds.W3.t)) (.go)))))
theorem vizardref18_bounds.pok : PlanOk Try.prog vizardref18_bounds.plan vizardref18_bounds.body := by
  have e : PlanOk Try.prog vizardref18_bounds.plan vizardref18_bounds.body = ((True) ∧ ((True) ∧ (((True) ∧ (SoundCode Try.prog (sub [1, 1, 0, 1, 0] vizardref18_bounds.body) vizardref18_bounds.W1.t)) ∧ ((True) ∧ ((SoundCode Try.prog (sub [1, 1, 1, 1, 0, 0] vizardref18_bounds.body) vizardref18_bounds.W3.t) ∧ (True)))))) := by kernel_rfl
  exact e.mpr ⟨trivial, ⟨trivial, ⟨⟨trivial, vizardref18_bounds.W1.ok⟩, ⟨trivial, ⟨vizardref18_bounds.W3.ok, trivial⟩⟩⟩⟩⟩
theorem vizardref18_bounds.eq (l0 : Option Addr) (l1 : Nat) (l2 : Nat) (K : Value → Heap → Prop) (E : Value → Heap → Prop) (H : Heap) :
    fnT Try.prog Try.f32 (wC Try.prog vizardref18_bounds.Γ vizardref18_bounds.plan vizardref18_bounds.body) [(.slice l0 l1 l2)] K E H = vizardref18_bounds.vc l0 l1 l2 (fun r0_0 r0_1 r0_2 H => K (.slice r0_0 r0_1 r0_2) H) E H := by
  kernel_rfl
theorem vizardref18_bounds.Fe {args : List Value} {K E : Value → Heap → Prop} {H : Heap} (h : vizardref18_bounds.F args K E H) : ∃ l0 l1 l2, args = [(.slice l0 l1 l2)] ∧ vizardref18_bounds.c l0 l1 l2 (fun r0_0 r0_1 r0_2 H => K (.slice r0_0 r0_1 r0_2) H) E H := by
  unfold vizardref18_bounds.F at h
  split at h
  · exact ⟨_, _, _, rfl, h⟩
  · exact h.elim
theorem vizardref18_bounds.ok : CalleeOk Try.prog 32 vizardref18_bounds.F :=
  callee_ok vizardref18_bounds.hΓ (fn := Try.f32) (c := vizardref18_bounds.body) (T := wC Try.prog vizardref18_bounds.Γ vizardref18_bounds.plan vizardref18_bounds.body) (by kernel_rfl) (by kernel_rfl) (by kernel_rfl) (wC_sound vizardref18_bounds.hΓ Try.hm vizardref18_bounds.plan _ vizardref18_bounds.pok) fun _ K E H h => by
    obtain ⟨z0, z1, z2, e, h⟩ := vizardref18_bounds.Fe h
    subst e
    have h2 : vizardref18_bounds.vc z0 z1 z2 (fun r0_0 r0_1 r0_2 H => ∃ H', Heap.Le H' H ∧ K (.slice r0_0 r0_1 r0_2) H') E H := h.h
    rw [vizardref18_bounds.eq z0 z1 z2 (Fg K) E H]
    exact h2

/-! vizard/vizardref18.other -/
noncomputable def vizardref18_other.body : Code := Try.f53.body.getD .skip
def vizardref18_other.J3.vc (l0 : Option Addr) (l1 : Nat) (l2 : Nat) (p0 : Int) (in0 : Bool) (i0 : Int) (Kn : Int → Heap → Prop) (E : Value → Heap → Prop) (h0 : Heap) : Prop :=
  Kn (IntKind.i64.wrap (i0 + 1)) h0
structure vizardref18_other.J3 (l0 : Option Addr) (l1 : Nat) (l2 : Nat) (p0 : Int) (in0 : Bool) (i0 : Int) (Kn : Int → Heap → Prop) (E : Value → Heap → Prop) (H : Heap) : Prop where
  h : vizardref18_other.J3.vc l0 l1 l2 p0 in0 i0 Kn E H
def vizardref18_other.W2.vc (l0 : Option Addr) (l1 : Nat) (l2 : Nat) (p0 : Int) (in0 : Bool) (i0 : Int) (Kx2 : Bool → Heap → Prop) (RR : Bool → Int → Heap → Prop) (E : Value → Heap → Prop) (h0 : Heap) : Prop :=
  (if (decide (i0 < (l1 : Int))) = true then
  (if in0 = true then
  vizardref18_other.J3 l0 l1 l2 p0 true i0 (fun i1 h1 =>
  RR true i1 h1) E h0
  else
  nilc l0 fun a0 => (0 : Int) ≤ i0 ∧ i0 < (l1 : Int) ∧
  ldI h0 .i64 ((a0.add (i0.toNat * 6)).add 1) fun x0 =>
  vizardref18_other.J3 l0 l1 l2 p0 (x0 == p0) i0 (fun i2 h2 =>
  RR (x0 == p0) i2 h2) E h0)
  else
  Kx2 in0 h0)
structure vizardref18_other.W2 (l0 : Option Addr) (l1 : Nat) (l2 : Nat) (p0 : Int) (in0 : Bool) (i0 : Int) (Kx2 : Bool → Heap → Prop) (E : Value → Heap → Prop) (H : Heap) : Prop where
  h : Loop (fun (RR : Bool × Int → Heap → Prop) (s : Bool × Int) (H : Heap) => vizardref18_other.W2.vc l0 l1 l2 p0 s.1 s.2 Kx2 (fun in0 i0 H => RR (in0, i0) H) E H) (in0, i0) H
def vizardref18_other.W1.vc (l0 : Option Addr) (l1 : Nat) (l2 : Nat) (p0 : Int) (Kx0 : Heap → Prop) (Kr : Int → Heap → Prop) (RR : Int → Heap → Prop) (E : Value → Heap → Prop) (h0 : Heap) : Prop :=
  (if (decide (p0 ≤ 255)) = true then
  vizardref18_other.W2 l0 l1 l2 p0 false 0 (fun in0 h1 =>
  (if (!in0) = true then
  Kr p0 h1
  else
  RR (IntKind.i64.wrap (p0 + 1)) h1)) E h0
  else
  Kx0 h0)
structure vizardref18_other.W1 (l0 : Option Addr) (l1 : Nat) (l2 : Nat) (p0 : Int) (Kx0 : Heap → Prop) (Kr : Int → Heap → Prop) (E : Value → Heap → Prop) (H : Heap) : Prop where
  h : Loop (fun (RR : Int → Heap → Prop) (s : Int) (H : Heap) => vizardref18_other.W1.vc l0 l1 l2 s Kx0 Kr (fun p0 H => RR (p0) H) E H) (p0) H
def vizardref18_other.vc (l0 : Option Addr) (l1 : Nat) (l2 : Nat) (K : Int → Heap → Prop) (E : Value → Heap → Prop) (h0 : Heap) : Prop :=
  vizardref18_other.W1 l0 l1 l2 1 (fun h1 =>
  K 1 h1) K E h0
structure vizardref18_other.c (l0 : Option Addr) (l1 : Nat) (l2 : Nat) (K : Int → Heap → Prop) (E : Value → Heap → Prop) (H : Heap) : Prop where
  h : vizardref18_other.vc l0 l1 l2 (fun r0_0 H => ∃ H', Heap.Le H' H ∧ K r0_0 H') E H
def vizardref18_other.F : FT := fun args K E H => match args with
  | [(.slice l0 l1 l2)] => vizardref18_other.c l0 l1 l2 (fun r0_0 H => K (.int .i64 r0_0) H) E H
  | _ => False
noncomputable def vizardref18_other.Γ : FuncId → Option FT := Γof []
theorem vizardref18_other.hΓ : ∀ f F, vizardref18_other.Γ f = some F → CalleeOk Try.prog f F := Γof_ok (fun _ h => nomatch h)
def vizardref18_other.J3.t : CT := fun Q E fr H => lenIs 29 fr (slSl fr 0 fun l0 l1 l2 => slI fr 3 .i64 fun p0 => slB fr 4 fun in0 => slI fr 5 .i64 fun i0 => vizardref18_other.J3 l0 l1 l2 p0 in0 i0 (fun y5_0 H => Q .normal (mkF 29 [(0, (.slice l0 l1 l2)), (3, (.int .i64 p0)), (4, (.bool in0)), (5, (.int .i64 y5_0))]) H) E H)
noncomputable def vizardref18_other.J3.plan : Plan := .go
theorem vizardref18_other.J3.pok : PlanOk Try.prog vizardref18_other.J3.plan (sub [1, 0, 1, 0, 0, 1, 0, 0, 1, 0, 1, 0, 0, 1, 1] vizardref18_other.body) := by
  have e : PlanOk Try.prog vizardref18_other.J3.plan (sub [1, 0, 1, 0, 0, 1, 0, 0, 1, 0, 1, 0, 0, 1, 1] vizardref18_other.body) = (True) := by kernel_rfl
  exact e.mpr trivial
theorem vizardref18_other.J3.eq (l0 : Option Addr) (l1 : Nat) (l2 : Nat) (p0 : Int) (in0 : Bool) (i0 : Int) (Q : Ex → Fr → Heap → Prop) (E : Value → Heap → Prop) (H : Heap) :
    vizardref18_other.J3.vc l0 l1 l2 p0 in0 i0 (fun y5_0 H => Q .normal (mkF 29 [(0, (.slice l0 l1 l2)), (3, (.int .i64 p0)), (4, (.bool in0)), (5, (.int .i64 y5_0))]) H) E H = keepT [0, 3, 4, 5] [] (fun i => []) (wC Try.prog vizardref18_other.Γ vizardref18_other.J3.plan (sub [1, 0, 1, 0, 0, 1, 0, 0, 1, 0, 1, 0, 0, 1, 1] vizardref18_other.body)) Q E (mkF 29 [(0, (.slice l0 l1 l2)), (3, (.int .i64 p0)), (4, (.bool in0)), (5, (.int .i64 i0))]) H := by
  kernel_rfl
theorem vizardref18_other.J3.ok : SoundCode Try.prog (sub [1, 0, 1, 0, 0, 1, 0, 0, 1, 0, 1, 0, 0, 1, 1] vizardref18_other.body) vizardref18_other.J3.t := by
  refine piece_sound (keepT_sound [0, 3, 4, 5] [] (fun i => []) (wC_sound vizardref18_other.hΓ Try.hm vizardref18_other.J3.plan _ vizardref18_other.J3.pok)) ?_
  intro Q E fr H h
  unfold vizardref18_other.J3.t at h
  obtain ⟨hl, h⟩ := lenIs_elim h
  obtain ⟨l0, l1, l2, q0, h⟩ := slSl_elim h
  obtain ⟨p0, q3, h⟩ := slI_elim h
  obtain ⟨in0, q4, h⟩ := slB_elim h
  obtain ⟨i0, q5, h⟩ := slI_elim h
  refine ⟨(mkF 29 [(0, (.slice l0 l1 l2)), (3, (.int .i64 p0)), (4, (.bool in0)), (5, (.int .i64 i0))]), fun a ha => ha.mk (Nat.le_of_eq hl.symm) (List.forall_mem_cons.2 ⟨q0, List.forall_mem_cons.2 ⟨q3, List.forall_mem_cons.2 ⟨q4, List.forall_mem_cons.2 ⟨q5, fun _ h => nomatch h⟩⟩⟩⟩), ?_⟩
  have e := vizardref18_other.J3.eq l0 l1 l2 p0 in0 i0 Q E H
  rw [← e]
  exact h.h
def vizardref18_other.W2.t : CT := fun Q E fr H => lenIs 29 fr (slSl fr 0 fun l0 l1 l2 => slI fr 3 .i64 fun p0 => slB fr 4 fun in0 => slI fr 5 .i64 fun i0 => vizardref18_other.W2 l0 l1 l2 p0 in0 i0 (fun y4_0 H => Q (.exit 2) (mkF 29 [(0, (.slice l0 l1 l2)), (3, (.int .i64 p0)), (4, (.bool y4_0))]) H) E H)
noncomputable def vizardref18_other.W2.plan : Plan := .seq (.go) (.seq (.go) (.use vizardref18_other.J3.t))
theorem vizardref18_other.W2.pok : PlanOk Try.prog vizardref18_other.W2.plan (sub [1, 0, 1, 0, 0, 1, 0, 0, 1, 0, 1, 0, 0] vizardref18_other.body) := by
  have e : PlanOk Try.prog vizardref18_other.W2.plan (sub [1, 0, 1, 0, 0, 1, 0, 0, 1, 0, 1, 0, 0] vizardref18_other.body) = ((True) ∧ ((True) ∧ (SoundCode Try.prog (sub [1, 0, 1, 0, 0, 1, 0, 0, 1, 0, 1, 0, 0, 1, 1] vizardref18_other.body) vizardref18_other.J3.t))) := by kernel_rfl
  exact e.mpr ⟨trivial, ⟨trivial, vizardref18_other.J3.ok⟩⟩
theorem vizardref18_other.W2.eq (l0 : Option Addr) (l1 : Nat) (l2 : Nat) (p0 : Int) (Q : Ex → Fr → Heap → Prop) (E : Value → Heap → Prop) (RR : Fr → Heap → Prop) (s : Bool × Int) (H : Heap) :
    (fun (RR : Bool × Int → Heap → Prop) (s : Bool × Int) (H : Heap) => vizardref18_other.W2.vc l0 l1 l2 p0 s.1 s.2 (fun y4_0 H => Q (.exit 2) (mkF 29 [(0, (.slice l0 l1 l2)), (3, (.int .i64 p0)), (4, (.bool y4_0))]) H) (fun in0 i0 H => RR (in0, i0) H) E H) (fun s' H' => RR ((fun (s : Bool × Int) => (mkF 29 [(0, (.slice l0 l1 l2)), (3, (.int .i64 p0)), (4, (.bool s.1)), (5, (.int .i64 s.2))])) s') H') s H = keepT [0, 3, 4, 5] [] (fun i => if i = 2 then [0, 3, 4] else []) (wC Try.prog vizardref18_other.Γ vizardref18_other.W2.plan (sub [1, 0, 1, 0, 0, 1, 0, 0, 1, 0, 1, 0, 0] vizardref18_other.body)) (fun e fr' H' => match e with | .normal => RR fr' H' | .exit id => Q (.exit id) fr' H' | .ret => Q .ret fr' H') E ((fun (s : Bool × Int) => (mkF 29 [(0, (.slice l0 l1 l2)), (3, (.int .i64 p0)), (4, (.bool s.1)), (5, (.int .i64 s.2))])) s) H := by
  kernel_rfl
theorem vizardref18_other.W2.ok : SoundCode Try.prog (sub [1, 0, 1, 0, 0, 1, 0, 0, 1, 0, 1, 0] vizardref18_other.body) vizardref18_other.W2.t := by
  have e : (sub [1, 0, 1, 0, 0, 1, 0, 0, 1, 0, 1, 0] vizardref18_other.body) = .loop (sub [1, 0, 1, 0, 0, 1, 0, 0, 1, 0, 1, 0, 0] vizardref18_other.body) := by kernel_rfl
  rw [e]
  refine piece_sound (loopN_sound (keepT_sound [0, 3, 4, 5] [] (fun i => if i = 2 then [0, 3, 4] else []) (wC_sound vizardref18_other.hΓ Try.hm vizardref18_other.W2.plan _ vizardref18_other.W2.pok))) ?_
  intro Q E fr H h
  unfold vizardref18_other.W2.t at h
  obtain ⟨hl, h⟩ := lenIs_elim h
  obtain ⟨l0, l1, l2, q0, h⟩ := slSl_elim h
  obtain ⟨p0, q3, h⟩ := slI_elim h
  obtain ⟨in0, q4, h⟩ := slB_elim h
  obtain ⟨i0, q5, h⟩ := slI_elim h
  obtain ⟨m, h⟩ := h.h
  refine ⟨(mkF 29 [(0, (.slice l0 l1 l2)), (3, (.int .i64 p0)), (4, (.bool in0)), (5, (.int .i64 i0))]), fun a ha => ha.mk (Nat.le_of_eq hl.symm) (List.forall_mem_cons.2 ⟨q0, List.forall_mem_cons.2 ⟨q3, List.forall_mem_cons.2 ⟨q4, List.forall_mem_cons.2 ⟨q5, fun _ h => nomatch h⟩⟩⟩⟩), m, ?_⟩
  have e := loopS_eq (B := (fun (RR : Bool × Int → Heap → Prop) (s : Bool × Int) (H : Heap) => vizardref18_other.W2.vc l0 l1 l2 p0 s.1 s.2 (fun y4_0 H => Q (.exit 2) (mkF 29 [(0, (.slice l0 l1 l2)), (3, (.int .i64 p0)), (4, (.bool y4_0))]) H) (fun in0 i0 H => RR (in0, i0) H) E H)) (A := keepT [0, 3, 4, 5] [] (fun i => if i = 2 then [0, 3, 4] else []) (wC Try.prog vizardref18_other.Γ vizardref18_other.W2.plan (sub [1, 0, 1, 0, 0, 1, 0, 0, 1, 0, 1, 0, 0] vizardref18_other.body))) (m := (fun (s : Bool × Int) => (mkF 29 [(0, (.slice l0 l1 l2)), (3, (.int .i64 p0)), (4, (.bool s.1)), (5, (.int .i64 s.2))]))) (Q := Q) (E := E) (fun RR s H => vizardref18_other.W2.eq l0 l1 l2 p0 Q E RR s H) m (in0, i0) H
  exact cast e h
def vizardref18_other.W1.t : CT := fun Q E fr H => lenIs 29 fr (slSl fr 0 fun l0 l1 l2 => slI fr 3 .i64 fun p0 => vizardref18_other.W1 l0 l1 l2 p0 (fun  H => Q (.exit 0) (mkF 29 []) H) (fun y2_0 H => Q .ret (mkF 29 [(2, (.int .i64 y2_0))]) H) E H)
noncomputable def vizardref18_other.W1.plan : Plan := .seq (.go) (.seq (.block (.seq (.go) (.seq (.seq (.go) (.block (.use vizardref18_other.W2.t))) (.go)))) (.go))
theorem vizardref18_other.W1.pok : PlanOk Try.prog vizardref18_other.W1.plan (sub [1, 0, 1, 0, 0] vizardref18_other.body) := by
  have e : PlanOk Try.prog vizardref18_other.W1.plan (sub [1, 0, 1, 0, 0] vizardref18_other.body) = ((True) ∧ (((True) ∧ (((True) ∧ (SoundCode Try.prog (sub [1, 0, 1, 0, 0, 1, 0, 0, 1, 0, 1, 0] vizardref18_other.body) vizardref18_other.W2.t)) ∧ (True))) ∧ (True))) := by kernel_rfl
  exact e.mpr ⟨trivial, ⟨⟨trivial, ⟨⟨trivial, vizardref18_other.W2.ok⟩, trivial⟩⟩, trivial⟩⟩
theorem vizardref18_other.W1.eq (l0 : Option Addr) (l1 : Nat) (l2 : Nat) (Q : Ex → Fr → Heap → Prop) (E : Value → Heap → Prop) (RR : Fr → Heap → Prop) (s : Int) (H : Heap) :
    (fun (RR : Int → Heap → Prop) (s : Int) (H : Heap) => vizardref18_other.W1.vc l0 l1 l2 s (fun  H => Q (.exit 0) (mkF 29 []) H) (fun y2_0 H => Q .ret (mkF 29 [(2, (.int .i64 y2_0))]) H) (fun p0 H => RR (p0) H) E H) (fun s' H' => RR ((fun (s : Int) => (mkF 29 [(0, (.slice l0 l1 l2)), (3, (.int .i64 s))])) s') H') s H = keepT [0, 3] [2] (fun i => if i = 0 then [] else []) (wC Try.prog vizardref18_other.Γ vizardref18_other.W1.plan (sub [1, 0, 1, 0, 0] vizardref18_other.body)) (fun e fr' H' => match e with | .normal => RR fr' H' | .exit id => Q (.exit id) fr' H' | .ret => Q .ret fr' H') E ((fun (s : Int) => (mkF 29 [(0, (.slice l0 l1 l2)), (3, (.int .i64 s))])) s) H := by
  kernel_rfl
theorem vizardref18_other.W1.ok : SoundCode Try.prog (sub [1, 0, 1, 0] vizardref18_other.body) vizardref18_other.W1.t := by
  have e : (sub [1, 0, 1, 0] vizardref18_other.body) = .loop (sub [1, 0, 1, 0, 0] vizardref18_other.body) := by kernel_rfl
  rw [e]
  refine piece_sound (loopN_sound (keepT_sound [0, 3] [2] (fun i => if i = 0 then [] else []) (wC_sound vizardref18_other.hΓ Try.hm vizardref18_other.W1.plan _ vizardref18_other.W1.pok))) ?_
  intro Q E fr H h
  unfold vizardref18_other.W1.t at h
  obtain ⟨hl, h⟩ := lenIs_elim h
  obtain ⟨l0, l1, l2, q0, h⟩ := slSl_elim h
  obtain ⟨p0, q3, h⟩ := slI_elim h
  obtain ⟨m, h⟩ := h.h
  refine ⟨(mkF 29 [(0, (.slice l0 l1 l2)), (3, (.int .i64 p0))]), fun a ha => ha.mk (Nat.le_of_eq hl.symm) (List.forall_mem_cons.2 ⟨q0, List.forall_mem_cons.2 ⟨q3, fun _ h => nomatch h⟩⟩), m, ?_⟩
  have e := loopS_eq (B := (fun (RR : Int → Heap → Prop) (s : Int) (H : Heap) => vizardref18_other.W1.vc l0 l1 l2 s (fun  H => Q (.exit 0) (mkF 29 []) H) (fun y2_0 H => Q .ret (mkF 29 [(2, (.int .i64 y2_0))]) H) (fun p0 H => RR (p0) H) E H)) (A := keepT [0, 3] [2] (fun i => if i = 0 then [] else []) (wC Try.prog vizardref18_other.Γ vizardref18_other.W1.plan (sub [1, 0, 1, 0, 0] vizardref18_other.body))) (m := (fun (s : Int) => (mkF 29 [(0, (.slice l0 l1 l2)), (3, (.int .i64 s))]))) (Q := Q) (E := E) (fun RR s H => vizardref18_other.W1.eq l0 l1 l2 Q E RR s H) m (p0) H
  exact cast e h
noncomputable def vizardref18_other.plan : Plan := .seq (.go) (.seq (.seq (.go) (.block (.use vizardref18_other.W1.t))) (.go))
theorem vizardref18_other.pok : PlanOk Try.prog vizardref18_other.plan vizardref18_other.body := by
  have e : PlanOk Try.prog vizardref18_other.plan vizardref18_other.body = ((True) ∧ (((True) ∧ (SoundCode Try.prog (sub [1, 0, 1, 0] vizardref18_other.body) vizardref18_other.W1.t)) ∧ (True))) := by kernel_rfl
  exact e.mpr ⟨trivial, ⟨⟨trivial, vizardref18_other.W1.ok⟩, trivial⟩⟩
theorem vizardref18_other.eq (l0 : Option Addr) (l1 : Nat) (l2 : Nat) (K : Value → Heap → Prop) (E : Value → Heap → Prop) (H : Heap) :
    fnT Try.prog Try.f53 (wC Try.prog vizardref18_other.Γ vizardref18_other.plan vizardref18_other.body) [(.slice l0 l1 l2)] K E H = vizardref18_other.vc l0 l1 l2 (fun r0_0 H => K (.int .i64 r0_0) H) E H := by
  kernel_rfl
theorem vizardref18_other.Fe {args : List Value} {K E : Value → Heap → Prop} {H : Heap} (h : vizardref18_other.F args K E H) : ∃ l0 l1 l2, args = [(.slice l0 l1 l2)] ∧ vizardref18_other.c l0 l1 l2 (fun r0_0 H => K (.int .i64 r0_0) H) E H := by
  unfold vizardref18_other.F at h
  split at h
  · exact ⟨_, _, _, rfl, h⟩
  · exact h.elim
theorem vizardref18_other.ok : CalleeOk Try.prog 53 vizardref18_other.F :=
  callee_ok vizardref18_other.hΓ (fn := Try.f53) (c := vizardref18_other.body) (T := wC Try.prog vizardref18_other.Γ vizardref18_other.plan vizardref18_other.body) (by kernel_rfl) (by kernel_rfl) (by kernel_rfl) (wC_sound vizardref18_other.hΓ Try.hm vizardref18_other.plan _ vizardref18_other.pok) fun _ K E H h => by
    obtain ⟨z0, z1, z2, e, h⟩ := vizardref18_other.Fe h
    subst e
    have h2 : vizardref18_other.vc z0 z1 z2 (fun r0_0 H => ∃ H', Heap.Le H' H ∧ K (.int .i64 r0_0) H') E H := h.h
    rw [vizardref18_other.eq z0 z1 z2 (Fg K) E H]
    exact h2

/-! vizard/vizardref04.Has -/
noncomputable def vizardref04_Has.body : Code := Try.f40.body.getD .skip
def vizardref04_Has.vc (p0 : Int) (p1 : Int) (a0 : Int) (K : Bool → Heap → Prop) (E : Value → Heap → Prop) (h0 : Heap) : Prop :=
  newB (.cells #[(.int .u32 p0), (.int .i64 p1)] 38) (fun b0 h1 =>
  ldI h1 .u32 ((⟨b0, 0, none⟩ : Addr).add 0) fun x0 => ldI h1 .i64 ((⟨b0, 0, none⟩ : Addr).add 1) fun x1 =>
  vizardref04_Check.c x0 x1 (fun x2 h2 =>
  (if x2 = true then
  ldI h2 .u32 ((⟨b0, 0, none⟩ : Addr).add 0) fun x3 =>
  (if (decide (a0 ≥ x3)) = true then
  ldI h2 .u32 ((⟨b0, 0, none⟩ : Addr).add 0) fun x4 =>
  ldI h2 .i64 ((⟨b0, 0, none⟩ : Addr).add 1) fun x5 =>
  vizardref04_size.c x5 (fun x6 h3 =>
  (eqv h3 h3 (some (.int .i64 (IntKind.i64.wrap x4))) (.int .i64 (IntKind.i64.wrap x4))) ∧
  (ldI h3 .u32 ((⟨b0, 0, none⟩ : Addr).add 0) fun x7 =>
  eqv h3 h3 (some (.int .u32 x4)) (.int .u32 x7)) ∧
  (eqv h3 h3 (some (.int .i64 (IntKind.i64.wrap a0))) (.int .i64 (IntKind.i64.wrap a0))) ∧
  K (decide ((IntKind.i64.wrap a0) < (IntKind.i64.wrap ((IntKind.i64.wrap x4) + x6)))) h3) E h2
  else
  True ∧
  True ∧
  True ∧
  K false h2)
  else
  True ∧
  True ∧
  True ∧
  K false h2)) E h1) h0
structure vizardref04_Has.c (p0 : Int) (p1 : Int) (a0 : Int) (K : Bool → Heap → Prop) (E : Value → Heap → Prop) (H : Heap) : Prop where
  h : vizardref04_Has.vc p0 p1 a0 (fun r0_0 H => ∃ H', Heap.Le H' H ∧ K r0_0 H') E H
def vizardref04_Has.F : FT := fun args K E H => match args with
  | [(.agg ⟨[(.int .u32 p0), (.int .i64 p1)]⟩), (.int .u32 a0)] => vizardref04_Has.c p0 p1 a0 (fun r0_0 H => K (.bool r0_0) H) E H
  | _ => False
noncomputable def vizardref04_Has.Γ : FuncId → Option FT := Γof [(50, vizardref04_Check.F), (61, vizardref04_size.F)]
theorem vizardref04_Has.hΓ : ∀ f F, vizardref04_Has.Γ f = some F → CalleeOk Try.prog f F := Γof_ok (List.forall_mem_cons.2 ⟨vizardref04_Check.ok, List.forall_mem_cons.2 ⟨vizardref04_size.ok, fun _ h => nomatch h⟩⟩)
noncomputable def vizardref04_Has.plan : Plan := .seq (.go) (.seq (.draw ⟨[0, 1, 2, 3, 4, 5, 6, 7, 8, 9, 10, 11, 12, 13, 14, 15, 16, 17, 18, 19], (dl [(0, []), (1, [0]), (2, []), (3, []), (4, []), (5, []), (6, []), (7, []), (8, []), (9, []), (10, []), (11, []), (12, []), (13, []), (14, []), (15, []), (16, [15, 8, 14, 7, 2, 6, 1, 3, 5, 0, 4]), (17, []), (18, []), (19, [])] .fin), [20]⟩) (.go))
theorem vizardref04_Has.pok : PlanOk Try.prog vizardref04_Has.plan vizardref04_Has.body := by
  have e : PlanOk Try.prog vizardref04_Has.plan vizardref04_Has.body = ((True) ∧ ((True) ∧ (True))) := by kernel_rfl
  exact e.mpr ⟨trivial, ⟨trivial, trivial⟩⟩
theorem vizardref04_Has.eq (p0 : Int) (p1 : Int) (a0 : Int) (K : Value → Heap → Prop) (E : Value → Heap → Prop) (H : Heap) :
    fnT Try.prog Try.f40 (wC Try.prog vizardref04_Has.Γ vizardref04_Has.plan vizardref04_Has.body) [(.agg #[(.int .u32 p0), (.int .i64 p1)]), (.int .u32 a0)] K E H = vizardref04_Has.vc p0 p1 a0 (fun r0_0 H => K (.bool r0_0) H) E H := by
  kernel_rfl
theorem vizardref04_Has.Fe {args : List Value} {K E : Value → Heap → Prop} {H : Heap} (h : vizardref04_Has.F args K E H) : ∃ p0 p1 a0, args = [(.agg #[(.int .u32 p0), (.int .i64 p1)]), (.int .u32 a0)] ∧ vizardref04_Has.c p0 p1 a0 (fun r0_0 H => K (.bool r0_0) H) E H := by
  unfold vizardref04_Has.F at h
  split at h
  · exact ⟨_, _, _, rfl, h⟩
  · exact h.elim
theorem vizardref04_Has.ok : CalleeOk Try.prog 40 vizardref04_Has.F :=
  callee_ok vizardref04_Has.hΓ (fn := Try.f40) (c := vizardref04_Has.body) (T := wC Try.prog vizardref04_Has.Γ vizardref04_Has.plan vizardref04_Has.body) (by kernel_rfl) (by kernel_rfl) (by kernel_rfl) (wC_sound vizardref04_Has.hΓ Try.hm vizardref04_Has.plan _ vizardref04_Has.pok) fun _ K E H h => by
    obtain ⟨z0, z1, z2, e, h⟩ := vizardref04_Has.Fe h
    subst e
    have h2 : vizardref04_Has.vc z0 z1 z2 (fun r0_0 H => ∃ H', Heap.Le H' H ∧ K (.bool r0_0) H') E H := h.h
    rw [vizardref04_Has.eq z0 z1 z2 (Fg K) E H]
    exact h2

/-! vizard/vizardref18.Allow -/
noncomputable def vizardref18_Allow.body : Code := Try.f24.body.getD .skip
def vizardref18_Allow.J2.vc (l0 : Option Addr) (l1 : Nat) (l2 : Nat) (proto0 : Int) (dst0 : Int) (at0 : Int) (i0 : Int) (x0 : Addr) (x1 : Bool) (Kn : Heap → Prop) (Kr : Bool → Heap → Prop) (E : Value → Heap → Prop) (h0 : Heap) : Prop :=
  (if x1 = true then
  ldB h0 (x0.add 0) fun x2 =>
  Kr x2 h0
  else
  Kn h0)
structure vizardref18_Allow.J2 (l0 : Option Addr) (l1 : Nat) (l2 : Nat) (proto0 : Int) (dst0 : Int) (at0 : Int) (i0 : Int) (x0 : Addr) (x1 : Bool) (Kn : Heap → Prop) (Kr : Bool → Heap → Prop) (E : Value → Heap → Prop) (H : Heap) : Prop where
  h : vizardref18_Allow.J2.vc l0 l1 l2 proto0 dst0 at0 i0 x0 x1 Kn Kr E H
def vizardref18_Allow.J3.vc (l0 : Option Addr) (l1 : Nat) (l2 : Nat) (proto0 : Int) (dst0 : Int) (at0 : Int) (i0 : Int) (Kn : Int → Heap → Prop) (E : Value → Heap → Prop) (h0 : Heap) : Prop :=
  Kn (IntKind.i64.wrap (i0 + 1)) h0
structure vizardref18_Allow.J3 (l0 : Option Addr) (l1 : Nat) (l2 : Nat) (proto0 : Int) (dst0 : Int) (at0 : Int) (i0 : Int) (Kn : Int → Heap → Prop) (E : Value → Heap → Prop) (H : Heap) : Prop where
  h : vizardref18_Allow.J3.vc l0 l1 l2 proto0 dst0 at0 i0 Kn E H
def vizardref18_Allow.W1.vc (l0 : Option Addr) (l1 : Nat) (l2 : Nat) (proto0 : Int) (dst0 : Int) (at0 : Int) (i0 : Int) (Kx0 : Heap → Prop) (Kr : Bool → Heap → Prop) (RR : Int → Heap → Prop) (E : Value → Heap → Prop) (h0 : Heap) : Prop :=
  (if (decide (i0 < (l1 : Int))) = true then
  nilc l0 fun a0 => (0 : Int) ≤ i0 ∧ i0 < (l1 : Int) ∧
  ldB h0 ((a0.add (i0.toNat * 6)).add 0) fun x0 => ldI h0 .i64 ((a0.add (i0.toNat * 6)).add 1) fun x1 => ldI h0 .u32 ((a0.add (i0.toNat * 6)).add 2) fun x2 => ldI h0 .i64 ((a0.add (i0.toNat * 6)).add 3) fun x3 => ldI h0 .i64 ((a0.add (i0.toNat * 6)).add 4) fun x4 => ldI h0 .i64 ((a0.add (i0.toNat * 6)).add 5) fun x5 =>
  newB (.cells #[(.bool false), (.int .i64 0), (.int .u32 0), (.int .i64 0), (.int .i64 0), (.int .i64 0)] 40) (fun b0 h1 =>
  stc h1 ((⟨b0, 0, none⟩ : Addr).add 0) (.bool x0) fun h2 =>
  stc h2 ((⟨b0, 0, none⟩ : Addr).add 1) (.int .i64 x1) fun h3 =>
  stc h3 ((⟨b0, 0, none⟩ : Addr).add 2) (.int .u32 x2) fun h4 =>
  stc h4 ((⟨b0, 0, none⟩ : Addr).add 3) (.int .i64 x3) fun h5 =>
  stc h5 ((⟨b0, 0, none⟩ : Addr).add 4) (.int .i64 x4) fun h6 =>
  stc h6 ((⟨b0, 0, none⟩ : Addr).add 5) (.int .i64 x5) fun h7 =>
  ldI h7 .i64 ((⟨b0, 0, none⟩ : Addr).add 1) fun x6 =>
  (if (x6 == 0) = true then
  ldI h7 .u32 (((⟨b0, 0, none⟩ : Addr).add 2).add 0) fun x7 => ldI h7 .i64 (((⟨b0, 0, none⟩ : Addr).add 2).add 1) fun x8 =>
  vizardref04_Has.c x7 x8 dst0 (fun x9 h8 =>
  (if x9 = true then
  ldI h8 .i64 ((⟨b0, 0, none⟩ : Addr).add 4) fun x10 =>
  (if (decide (at0 ≥ x10)) = true then
  ldI h8 .i64 ((⟨b0, 0, none⟩ : Addr).add 5) fun x11 =>
  vizardref18_Allow.J2 l0 l1 l2 proto0 dst0 at0 i0 (⟨b0, 0, none⟩ : Addr) (decide (at0 ≤ x11)) (fun h9 =>
  vizardref18_Allow.J3 l0 l1 l2 proto0 dst0 at0 i0 RR E h9) Kr E h8
  else
  vizardref18_Allow.J2 l0 l1 l2 proto0 dst0 at0 i0 (⟨b0, 0, none⟩ : Addr) false (fun h12 =>
  vizardref18_Allow.J3 l0 l1 l2 proto0 dst0 at0 i0 RR E h12) Kr E h8)
  else
  vizardref18_Allow.J2 l0 l1 l2 proto0 dst0 at0 i0 (⟨b0, 0, none⟩ : Addr) false (fun h15 =>
  vizardref18_Allow.J3 l0 l1 l2 proto0 dst0 at0 i0 RR E h15) Kr E h8)) E h7
  else
  ldI h7 .i64 ((⟨b0, 0, none⟩ : Addr).add 1) fun x15 =>
  (if (x15 == proto0) = true then
  ldI h7 .u32 (((⟨b0, 0, none⟩ : Addr).add 2).add 0) fun x16 => ldI h7 .i64 (((⟨b0, 0, none⟩ : Addr).add 2).add 1) fun x17 =>
  vizardref04_Has.c x16 x17 dst0 (fun x18 h18 =>
  (if x18 = true then
  ldI h18 .i64 ((⟨b0, 0, none⟩ : Addr).add 4) fun x19 =>
  (if (decide (at0 ≥ x19)) = true then
  ldI h18 .i64 ((⟨b0, 0, none⟩ : Addr).add 5) fun x20 =>
  vizardref18_Allow.J2 l0 l1 l2 proto0 dst0 at0 i0 (⟨b0, 0, none⟩ : Addr) (decide (at0 ≤ x20)) (fun h19 =>
  vizardref18_Allow.J3 l0 l1 l2 proto0 dst0 at0 i0 RR E h19) Kr E h18
  else
  vizardref18_Allow.J2 l0 l1 l2 proto0 dst0 at0 i0 (⟨b0, 0, none⟩ : Addr) false (fun h22 =>
  vizardref18_Allow.J3 l0 l1 l2 proto0 dst0 at0 i0 RR E h22) Kr E h18)
  else
  vizardref18_Allow.J2 l0 l1 l2 proto0 dst0 at0 i0 (⟨b0, 0, none⟩ : Addr) false (fun h25 =>
  vizardref18_Allow.J3 l0 l1 l2 proto0 dst0 at0 i0 RR E h25) Kr E h18)) E h7
  else
  vizardref18_Allow.J2 l0 l1 l2 proto0 dst0 at0 i0 (⟨b0, 0, none⟩ : Addr) false (fun h28 =>
  vizardref18_Allow.J3 l0 l1 l2 proto0 dst0 at0 i0 RR E h28) Kr E h7))) h0
  else
  Kx0 h0)
structure vizardref18_Allow.W1 (l0 : Option Addr) (l1 : Nat) (l2 : Nat) (proto0 : Int) (dst0 : Int) (at0 : Int) (i0 : Int) (Kx0 : Heap → Prop) (Kr : Bool → Heap → Prop) (E : Value → Heap → Prop) (H : Heap) : Prop where
  h : Loop (fun (RR : Int → Heap → Prop) (s : Int) (H : Heap) => vizardref18_Allow.W1.vc l0 l1 l2 proto0 dst0 at0 s Kx0 Kr (fun i0 H => RR (i0) H) E H) (i0) H
def vizardref18_Allow.vc (l0 : Option Addr) (l1 : Nat) (l2 : Nat) (proto0 : Int) (dst0 : Int) (at0 : Int) (K : Bool → Heap → Prop) (E : Value → Heap → Prop) (h0 : Heap) : Prop :=
  vizardref18_Check.c l0 l1 l2 (fun x0 h1 =>
  (if (x0 != 0) = true then
  K false h1
  else
  vizardref18_Allow.W1 l0 l1 l2 proto0 dst0 at0 0 (fun h2 =>
  K false h2) K E h1)) E h0
structure vizardref18_Allow.c (l0 : Option Addr) (l1 : Nat) (l2 : Nat) (proto0 : Int) (dst0 : Int) (at0 : Int) (K : Bool → Heap → Prop) (E : Value → Heap → Prop) (H : Heap) : Prop where
  h : vizardref18_Allow.vc l0 l1 l2 proto0 dst0 at0 (fun r0_0 H => ∃ H', Heap.Le H' H ∧ K r0_0 H') E H
def vizardref18_Allow.F : FT := fun args K E H => match args with
  | [(.slice l0 l1 l2), (.int .i64 proto0), (.int .u32 dst0), (.int .i64 at0)] => vizardref18_Allow.c l0 l1 l2 proto0 dst0 at0 (fun r0_0 H => K (.bool r0_0) H) E H
  | _ => False
noncomputable def vizardref18_Allow.Γ : FuncId → Option FT := Γof [(31, vizardref18_Check.F), (40, vizardref04_Has.F)]
theorem vizardref18_Allow.hΓ : ∀ f F, vizardref18_Allow.Γ f = some F → CalleeOk Try.prog f F := Γof_ok (List.forall_mem_cons.2 ⟨vizardref18_Check.ok, List.forall_mem_cons.2 ⟨vizardref04_Has.ok, fun _ h => nomatch h⟩⟩)
def vizardref18_Allow.J2.t : CT := fun Q E fr H => lenIs 53 fr (slSl fr 0 fun l0 l1 l2 => slI fr 1 .i64 fun proto0 => slI fr 2 .u32 fun dst0 => slI fr 3 .i64 fun at0 => slI fr 9 .i64 fun i0 => slPA fr 10 fun x0 => slB fr 50 fun x1 => vizardref18_Allow.J2 l0 l1 l2 proto0 dst0 at0 i0 x0 x1 (fun  H => Q .normal (mkF 53 [(0, (.slice l0 l1 l2)), (1, (.int .i64 proto0)), (2, (.int .u32 dst0)), (3, (.int .i64 at0)), (9, (.int .i64 i0))]) H) (fun y8_0 H => Q .ret (mkF 53 [(8, (.bool y8_0))]) H) E H)
noncomputable def vizardref18_Allow.J2.plan : Plan := .go
theorem vizardref18_Allow.J2.pok : PlanOk Try.prog vizardref18_Allow.J2.plan (sub [1, 1, 0, 1, 0, 0, 1, 0, 0, 1, 1] vizardref18_Allow.body) := by
  have e : PlanOk Try.prog vizardref18_Allow.J2.plan (sub [1, 1, 0, 1, 0, 0, 1, 0, 0, 1, 1] vizardref18_Allow.body) = (True) := by kernel_rfl
  exact e.mpr trivial
theorem vizardref18_Allow.J2.eq (l0 : Option Addr) (l1 : Nat) (l2 : Nat) (proto0 : Int) (dst0 : Int) (at0 : Int) (i0 : Int) (x0 : Addr) (x1 : Bool) (Q : Ex → Fr → Heap → Prop) (E : Value → Heap → Prop) (H : Heap) :
    vizardref18_Allow.J2.vc l0 l1 l2 proto0 dst0 at0 i0 x0 x1 (fun  H => Q .normal (mkF 53 [(0, (.slice l0 l1 l2)), (1, (.int .i64 proto0)), (2, (.int .u32 dst0)), (3, (.int .i64 at0)), (9, (.int .i64 i0))]) H) (fun y8_0 H => Q .ret (mkF 53 [(8, (.bool y8_0))]) H) E H = keepT [0, 1, 2, 3, 9] [8] (fun i => []) (wC Try.prog vizardref18_Allow.Γ vizardref18_Allow.J2.plan (sub [1, 1, 0, 1, 0, 0, 1, 0, 0, 1, 1] vizardref18_Allow.body)) Q E (mkF 53 [(0, (.slice l0 l1 l2)), (1, (.int .i64 proto0)), (2, (.int .u32 dst0)), (3, (.int .i64 at0)), (9, (.int .i64 i0)), (10, (.pointer (some x0))), (50, (.bool x1))]) H := by
  kernel_rfl
theorem vizardref18_Allow.J2.ok : SoundCode Try.prog (sub [1, 1, 0, 1, 0, 0, 1, 0, 0, 1, 1] vizardref18_Allow.body) vizardref18_Allow.J2.t := by
  refine piece_sound (keepT_sound [0, 1, 2, 3, 9] [8] (fun i => []) (wC_sound vizardref18_Allow.hΓ Try.hm vizardref18_Allow.J2.plan _ vizardref18_Allow.J2.pok)) ?_
  intro Q E fr H h
  unfold vizardref18_Allow.J2.t at h
  obtain ⟨hl, h⟩ := lenIs_elim h
  obtain ⟨l0, l1, l2, q0, h⟩ := slSl_elim h
  obtain ⟨proto0, q1, h⟩ := slI_elim h
  obtain ⟨dst0, q2, h⟩ := slI_elim h
  obtain ⟨at0, q3, h⟩ := slI_elim h
  obtain ⟨i0, q9, h⟩ := slI_elim h
  obtain ⟨x0, q10, h⟩ := slPA_elim h
  obtain ⟨x1, q50, h⟩ := slB_elim h
  refine ⟨(mkF 53 [(0, (.slice l0 l1 l2)), (1, (.int .i64 proto0)), (2, (.int .u32 dst0)), (3, (.int .i64 at0)), (9, (.int .i64 i0)), (10, (.pointer (some x0))), (50, (.bool x1))]), fun a ha => ha.mk (Nat.le_of_eq hl.symm) (List.forall_mem_cons.2 ⟨q0, List.forall_mem_cons.2 ⟨q1, List.forall_mem_cons.2 ⟨q2, List.forall_mem_cons.2 ⟨q3, List.forall_mem_cons.2 ⟨q9, List.forall_mem_cons.2 ⟨q10, List.forall_mem_cons.2 ⟨q50, fun _ h => nomatch h⟩⟩⟩⟩⟩⟩⟩), ?_⟩
  have e := vizardref18_Allow.J2.eq l0 l1 l2 proto0 dst0 at0 i0 x0 x1 Q E H
  rw [← e]
  exact h.h
def vizardref18_Allow.J3.t : CT := fun Q E fr H => lenIs 53 fr (slSl fr 0 fun l0 l1 l2 => slI fr 1 .i64 fun proto0 => slI fr 2 .u32 fun dst0 => slI fr 3 .i64 fun at0 => slI fr 9 .i64 fun i0 => vizardref18_Allow.J3 l0 l1 l2 proto0 dst0 at0 i0 (fun y9_0 H => Q .normal (mkF 53 [(0, (.slice l0 l1 l2)), (1, (.int .i64 proto0)), (2, (.int .u32 dst0)), (3, (.int .i64 at0)), (9, (.int .i64 y9_0))]) H) E H)
noncomputable def vizardref18_Allow.J3.plan : Plan := .go
theorem vizardref18_Allow.J3.pok : PlanOk Try.prog vizardref18_Allow.J3.plan (sub [1, 1, 0, 1, 0, 0, 1, 1] vizardref18_Allow.body) := by
  have e : PlanOk Try.prog vizardref18_Allow.J3.plan (sub [1, 1, 0, 1, 0, 0, 1, 1] vizardref18_Allow.body) = (True) := by kernel_rfl
  exact e.mpr trivial
theorem vizardref18_Allow.J3.eq (l0 : Option Addr) (l1 : Nat) (l2 : Nat) (proto0 : Int) (dst0 : Int) (at0 : Int) (i0 : Int) (Q : Ex → Fr → Heap → Prop) (E : Value → Heap → Prop) (H : Heap) :
    vizardref18_Allow.J3.vc l0 l1 l2 proto0 dst0 at0 i0 (fun y9_0 H => Q .normal (mkF 53 [(0, (.slice l0 l1 l2)), (1, (.int .i64 proto0)), (2, (.int .u32 dst0)), (3, (.int .i64 at0)), (9, (.int .i64 y9_0))]) H) E H = keepT [0, 1, 2, 3, 9] [] (fun i => []) (wC Try.prog vizardref18_Allow.Γ vizardref18_Allow.J3.plan (sub [1, 1, 0, 1, 0, 0, 1, 1] vizardref18_Allow.body)) Q E (mkF 53 [(0, (.slice l0 l1 l2)), (1, (.int .i64 proto0)), (2, (.int .u32 dst0)), (3, (.int .i64 at0)), (9, (.int .i64 i0))]) H := by
  kernel_rfl
theorem vizardref18_Allow.J3.ok : SoundCode Try.prog (sub [1, 1, 0, 1, 0, 0, 1, 1] vizardref18_Allow.body) vizardref18_Allow.J3.t := by
  refine piece_sound (keepT_sound [0, 1, 2, 3, 9] [] (fun i => []) (wC_sound vizardref18_Allow.hΓ Try.hm vizardref18_Allow.J3.plan _ vizardref18_Allow.J3.pok)) ?_
  intro Q E fr H h
  unfold vizardref18_Allow.J3.t at h
  obtain ⟨hl, h⟩ := lenIs_elim h
  obtain ⟨l0, l1, l2, q0, h⟩ := slSl_elim h
  obtain ⟨proto0, q1, h⟩ := slI_elim h
  obtain ⟨dst0, q2, h⟩ := slI_elim h
  obtain ⟨at0, q3, h⟩ := slI_elim h
  obtain ⟨i0, q9, h⟩ := slI_elim h
  refine ⟨(mkF 53 [(0, (.slice l0 l1 l2)), (1, (.int .i64 proto0)), (2, (.int .u32 dst0)), (3, (.int .i64 at0)), (9, (.int .i64 i0))]), fun a ha => ha.mk (Nat.le_of_eq hl.symm) (List.forall_mem_cons.2 ⟨q0, List.forall_mem_cons.2 ⟨q1, List.forall_mem_cons.2 ⟨q2, List.forall_mem_cons.2 ⟨q3, List.forall_mem_cons.2 ⟨q9, fun _ h => nomatch h⟩⟩⟩⟩⟩), ?_⟩
  have e := vizardref18_Allow.J3.eq l0 l1 l2 proto0 dst0 at0 i0 Q E H
  rw [← e]
  exact h.h
def vizardref18_Allow.W1.t : CT := fun Q E fr H => lenIs 53 fr (slSl fr 0 fun l0 l1 l2 => slI fr 1 .i64 fun proto0 => slI fr 2 .u32 fun dst0 => slI fr 3 .i64 fun at0 => slI fr 9 .i64 fun i0 => vizardref18_Allow.W1 l0 l1 l2 proto0 dst0 at0 i0 (fun  H => Q (.exit 0) (mkF 53 []) H) (fun y8_0 H => Q .ret (mkF 53 [(8, (.bool y8_0))]) H) E H)
noncomputable def vizardref18_Allow.W1.plan : Plan := .seq (.go) (.seq (.block (.seq (.go) (.seq (.go) (.use vizardref18_Allow.J2.t)))) (.use vizardref18_Allow.J3.t))
theorem vizardref18_Allow.W1.pok : PlanOk Try.prog vizardref18_Allow.W1.plan (sub [1, 1, 0, 1, 0, 0] vizardref18_Allow.body) := by
  have e : PlanOk Try.prog vizardref18_Allow.W1.plan (sub [1, 1, 0, 1, 0, 0] vizardref18_Allow.body) = ((True) ∧ (((True) ∧ ((True) ∧ (SoundCode Try.prog (sub [1, 1, 0, 1, 0, 0, 1, 0, 0, 1, 1] vizardref18_Allow.body) vizardref18_Allow.J2.t))) ∧ (SoundCode Try.prog (sub [1, 1, 0, 1, 0, 0, 1, 1] vizardref18_Allow.body) vizardref18_Allow.J3.t))) := by kernel_rfl
  exact e.mpr ⟨trivial, ⟨⟨trivial, ⟨trivial, vizardref18_Allow.J2.ok⟩⟩, vizardref18_Allow.J3.ok⟩⟩
theorem vizardref18_Allow.W1.eq (l0 : Option Addr) (l1 : Nat) (l2 : Nat) (proto0 : Int) (dst0 : Int) (at0 : Int) (Q : Ex → Fr → Heap → Prop) (E : Value → Heap → Prop) (RR : Fr → Heap → Prop) (s : Int) (H : Heap) :
    (fun (RR : Int → Heap → Prop) (s : Int) (H : Heap) => vizardref18_Allow.W1.vc l0 l1 l2 proto0 dst0 at0 s (fun  H => Q (.exit 0) (mkF 53 []) H) (fun y8_0 H => Q .ret (mkF 53 [(8, (.bool y8_0))]) H) (fun i0 H => RR (i0) H) E H) (fun s' H' => RR ((fun (s : Int) => (mkF 53 [(0, (.slice l0 l1 l2)), (1, (.int .i64 proto0)), (2, (.int .u32 dst0)), (3, (.int .i64 at0)), (9, (.int .i64 s))])) s') H') s H = keepT [0, 1, 2, 3, 9] [8] (fun i => if i = 0 then [] else []) (wC Try.prog vizardref18_Allow.Γ vizardref18_Allow.W1.plan (sub [1, 1, 0, 1, 0, 0] vizardref18_Allow.body)) (fun e fr' H' => match e with | .normal => RR fr' H' | .exit id => Q (.exit id) fr' H' | .ret => Q .ret fr' H') E ((fun (s : Int) => (mkF 53 [(0, (.slice l0 l1 l2)), (1, (.int .i64 proto0)), (2, (.int .u32 dst0)), (3, (.int .i64 at0)), (9, (.int .i64 s))])) s) H := by
  kernel_rfl
theorem vizardref18_Allow.W1.ok : SoundCode Try.prog (sub [1, 1, 0, 1, 0] vizardref18_Allow.body) vizardref18_Allow.W1.t := by
  have e : (sub [1, 1, 0, 1, 0] vizardref18_Allow.body) = .loop (sub [1, 1, 0, 1, 0, 0] vizardref18_Allow.body) := by kernel_rfl
  rw [e]
  refine piece_sound (loopN_sound (keepT_sound [0, 1, 2, 3, 9] [8] (fun i => if i = 0 then [] else []) (wC_sound vizardref18_Allow.hΓ Try.hm vizardref18_Allow.W1.plan _ vizardref18_Allow.W1.pok))) ?_
  intro Q E fr H h
  unfold vizardref18_Allow.W1.t at h
  obtain ⟨hl, h⟩ := lenIs_elim h
  obtain ⟨l0, l1, l2, q0, h⟩ := slSl_elim h
  obtain ⟨proto0, q1, h⟩ := slI_elim h
  obtain ⟨dst0, q2, h⟩ := slI_elim h
  obtain ⟨at0, q3, h⟩ := slI_elim h
  obtain ⟨i0, q9, h⟩ := slI_elim h
  obtain ⟨m, h⟩ := h.h
  refine ⟨(mkF 53 [(0, (.slice l0 l1 l2)), (1, (.int .i64 proto0)), (2, (.int .u32 dst0)), (3, (.int .i64 at0)), (9, (.int .i64 i0))]), fun a ha => ha.mk (Nat.le_of_eq hl.symm) (List.forall_mem_cons.2 ⟨q0, List.forall_mem_cons.2 ⟨q1, List.forall_mem_cons.2 ⟨q2, List.forall_mem_cons.2 ⟨q3, List.forall_mem_cons.2 ⟨q9, fun _ h => nomatch h⟩⟩⟩⟩⟩), m, ?_⟩
  have e := loopS_eq (B := (fun (RR : Int → Heap → Prop) (s : Int) (H : Heap) => vizardref18_Allow.W1.vc l0 l1 l2 proto0 dst0 at0 s (fun  H => Q (.exit 0) (mkF 53 []) H) (fun y8_0 H => Q .ret (mkF 53 [(8, (.bool y8_0))]) H) (fun i0 H => RR (i0) H) E H)) (A := keepT [0, 1, 2, 3, 9] [8] (fun i => if i = 0 then [] else []) (wC Try.prog vizardref18_Allow.Γ vizardref18_Allow.W1.plan (sub [1, 1, 0, 1, 0, 0] vizardref18_Allow.body))) (m := (fun (s : Int) => (mkF 53 [(0, (.slice l0 l1 l2)), (1, (.int .i64 proto0)), (2, (.int .u32 dst0)), (3, (.int .i64 at0)), (9, (.int .i64 s))]))) (Q := Q) (E := E) (fun RR s H => vizardref18_Allow.W1.eq l0 l1 l2 proto0 dst0 at0 Q E RR s H) m (i0) H
  exact cast e h
noncomputable def vizardref18_Allow.plan : Plan := .seq (.go) (.seq (.go) (.seq (.seq (.go) (.block (.use vizardref18_Allow.W1.t))) (.go)))
theorem vizardref18_Allow.pok : PlanOk Try.prog vizardref18_Allow.plan vizardref18_Allow.body := by
  have e : PlanOk Try.prog vizardref18_Allow.plan vizardref18_Allow.body = ((True) ∧ ((True) ∧ (((True) ∧ (SoundCode Try.prog (sub [1, 1, 0, 1, 0] vizardref18_Allow.body) vizardref18_Allow.W1.t)) ∧ (True)))) := by kernel_rfl
  exact e.mpr ⟨trivial, ⟨trivial, ⟨⟨trivial, vizardref18_Allow.W1.ok⟩, trivial⟩⟩⟩
theorem vizardref18_Allow.eq (l0 : Option Addr) (l1 : Nat) (l2 : Nat) (proto0 : Int) (dst0 : Int) (at0 : Int) (K : Value → Heap → Prop) (E : Value → Heap → Prop) (H : Heap) :
    fnT Try.prog Try.f24 (wC Try.prog vizardref18_Allow.Γ vizardref18_Allow.plan vizardref18_Allow.body) [(.slice l0 l1 l2), (.int .i64 proto0), (.int .u32 dst0), (.int .i64 at0)] K E H = vizardref18_Allow.vc l0 l1 l2 proto0 dst0 at0 (fun r0_0 H => K (.bool r0_0) H) E H := by
  kernel_rfl
theorem vizardref18_Allow.Fe {args : List Value} {K E : Value → Heap → Prop} {H : Heap} (h : vizardref18_Allow.F args K E H) : ∃ l0 l1 l2 proto0 dst0 at0, args = [(.slice l0 l1 l2), (.int .i64 proto0), (.int .u32 dst0), (.int .i64 at0)] ∧ vizardref18_Allow.c l0 l1 l2 proto0 dst0 at0 (fun r0_0 H => K (.bool r0_0) H) E H := by
  unfold vizardref18_Allow.F at h
  split at h
  · exact ⟨_, _, _, _, _, _, rfl, h⟩
  · exact h.elim
theorem vizardref18_Allow.ok : CalleeOk Try.prog 24 vizardref18_Allow.F :=
  callee_ok vizardref18_Allow.hΓ (fn := Try.f24) (c := vizardref18_Allow.body) (T := wC Try.prog vizardref18_Allow.Γ vizardref18_Allow.plan vizardref18_Allow.body) (by kernel_rfl) (by kernel_rfl) (by kernel_rfl) (wC_sound vizardref18_Allow.hΓ Try.hm vizardref18_Allow.plan _ vizardref18_Allow.pok) fun _ K E H h => by
    obtain ⟨z0, z1, z2, z3, z4, z5, e, h⟩ := vizardref18_Allow.Fe h
    subst e
    have h2 : vizardref18_Allow.vc z0 z1 z2 z3 z4 z5 (fun r0_0 H => ∃ H', Heap.Le H' H ∧ K (.bool r0_0) H') E H := h.h
    rw [vizardref18_Allow.eq z0 z1 z2 z3 z4 z5 (Fg K) E H]
    exact h2

/-! vizard/vizardref18.some -/
noncomputable def vizardref18_some.body : Code := Try.f33.body.getD .skip
def vizardref18_some.J6.vc (l0 : Option Addr) (l1 : Nat) (l2 : Nat) (a0 : Int) (i0 : Int) (k0 : Int) (x0 : Bool) (Kn : Heap → Prop) (Kr : Bool → Heap → Prop) (E : Value → Heap → Prop) (h0 : Heap) : Prop :=
  (if x0 = true then
  Kr true h0
  else
  Kn h0)
structure vizardref18_some.J6 (l0 : Option Addr) (l1 : Nat) (l2 : Nat) (a0 : Int) (i0 : Int) (k0 : Int) (x0 : Bool) (Kn : Heap → Prop) (Kr : Bool → Heap → Prop) (E : Value → Heap → Prop) (H : Heap) : Prop where
  h : vizardref18_some.J6.vc l0 l1 l2 a0 i0 k0 x0 Kn Kr E H
def vizardref18_some.J5.vc (l0 : Option Addr) (l1 : Nat) (l2 : Nat) (a0 : Int) (i0 : Int) (k0 : Int) (p0 : Int) (at0 : Int) (Kn : Heap → Prop) (Kr : Bool → Heap → Prop) (E : Value → Heap → Prop) (h0 : Heap) : Prop :=
  vizardref18_Allow.c l0 l1 l2 p0 a0 at0 (fun x0 h1 =>
  (if x0 = true then
  vizardref18_some.J6 l0 l1 l2 a0 i0 k0 true Kn Kr E h1
  else
  (if (decide (k0 < (l1 : Int))) = true then
  nilc l0 fun a1 => (0 : Int) ≤ k0 ∧ k0 < (l1 : Int) ∧
  ldI h1 .i64 ((a1.add (k0.toNat * 6)).add 5) fun x2 =>
  (if (decide (x2 < 65535)) = true then
  nilc l0 fun a2 => (0 : Int) ≤ k0 ∧ k0 < (l1 : Int) ∧
  ldI h1 .i64 ((a2.add (k0.toNat * 6)).add 5) fun x3 =>
  vizardref18_Allow.c l0 l1 l2 p0 a0 (IntKind.i64.wrap (x3 + 1)) (fun x4 h4 =>
  vizardref18_some.J6 l0 l1 l2 a0 i0 k0 x4 Kn Kr E h4) E h1
  else
  vizardref18_some.J6 l0 l1 l2 a0 i0 k0 false Kn Kr E h1)
  else
  vizardref18_some.J6 l0 l1 l2 a0 i0 k0 false Kn Kr E h1))) E h0
structure vizardref18_some.J5 (l0 : Option Addr) (l1 : Nat) (l2 : Nat) (a0 : Int) (i0 : Int) (k0 : Int) (p0 : Int) (at0 : Int) (Kn : Heap → Prop) (Kr : Bool → Heap → Prop) (E : Value → Heap → Prop) (H : Heap) : Prop where
  h : vizardref18_some.J5.vc l0 l1 l2 a0 i0 k0 p0 at0 Kn Kr E H
def vizardref18_some.J4.vc (l0 : Option Addr) (l1 : Nat) (l2 : Nat) (a0 : Int) (i0 : Int) (k0 : Int) (p0 : Int) (Kn : Heap → Prop) (Kr : Bool → Heap → Prop) (E : Value → Heap → Prop) (h0 : Heap) : Prop :=
  (if (decide (k0 < (l1 : Int))) = true then
  nilc l0 fun a1 => (0 : Int) ≤ k0 ∧ k0 < (l1 : Int) ∧
  ldI h0 .i64 ((a1.add (k0.toNat * 6)).add 4) fun x0 =>
  vizardref18_some.J5 l0 l1 l2 a0 i0 k0 p0 x0 Kn Kr E h0
  else
  vizardref18_some.J5 l0 l1 l2 a0 i0 k0 p0 0 Kn Kr E h0)
structure vizardref18_some.J4 (l0 : Option Addr) (l1 : Nat) (l2 : Nat) (a0 : Int) (i0 : Int) (k0 : Int) (p0 : Int) (Kn : Heap → Prop) (Kr : Bool → Heap → Prop) (E : Value → Heap → Prop) (H : Heap) : Prop where
  h : vizardref18_some.J4.vc l0 l1 l2 a0 i0 k0 p0 Kn Kr E H
def vizardref18_some.J3.vc (l0 : Option Addr) (l1 : Nat) (l2 : Nat) (a0 : Int) (i0 : Int) (k0 : Int) (p0 : Int) (Kn : Heap → Prop) (Kr : Bool → Heap → Prop) (E : Value → Heap → Prop) (h0 : Heap) : Prop :=
  (if (p0 == 0) = true then
  vizardref18_other.c l0 l1 l2 (fun x0 h1 =>
  vizardref18_some.J4 l0 l1 l2 a0 i0 k0 x0 Kn Kr E h1) E h0
  else
  vizardref18_some.J4 l0 l1 l2 a0 i0 k0 p0 Kn Kr E h0)
structure vizardref18_some.J3 (l0 : Option Addr) (l1 : Nat) (l2 : Nat) (a0 : Int) (i0 : Int) (k0 : Int) (p0 : Int) (Kn : Heap → Prop) (Kr : Bool → Heap → Prop) (E : Value → Heap → Prop) (H : Heap) : Prop where
  h : vizardref18_some.J3.vc l0 l1 l2 a0 i0 k0 p0 Kn Kr E H
def vizardref18_some.J7.vc (l0 : Option Addr) (l1 : Nat) (l2 : Nat) (a0 : Int) (i0 : Int) (k0 : Int) (Kn : Int → Heap → Prop) (E : Value → Heap → Prop) (h0 : Heap) : Prop :=
  Kn (IntKind.i64.wrap (k0 + 1)) h0
structure vizardref18_some.J7 (l0 : Option Addr) (l1 : Nat) (l2 : Nat) (a0 : Int) (i0 : Int) (k0 : Int) (Kn : Int → Heap → Prop) (E : Value → Heap → Prop) (H : Heap) : Prop where
  h : vizardref18_some.J7.vc l0 l1 l2 a0 i0 k0 Kn E H
def vizardref18_some.W2.vc (l0 : Option Addr) (l1 : Nat) (l2 : Nat) (a0 : Int) (i0 : Int) (k0 : Int) (Kx2 : Heap → Prop) (Kr : Bool → Heap → Prop) (RR : Int → Heap → Prop) (E : Value → Heap → Prop) (h0 : Heap) : Prop :=
  (if (decide (k0 ≤ (l1 : Int))) = true then
  (if (decide (i0 < (l1 : Int))) = true then
  nilc l0 fun a1 => (0 : Int) ≤ i0 ∧ i0 < (l1 : Int) ∧
  ldI h0 .i64 ((a1.add (i0.toNat * 6)).add 1) fun x0 =>
  vizardref18_some.J3 l0 l1 l2 a0 i0 k0 x0 (fun h1 =>
  vizardref18_some.J7 l0 l1 l2 a0 i0 k0 RR E h1) Kr E h0
  else
  vizardref18_some.J3 l0 l1 l2 a0 i0 k0 0 (fun h4 =>
  vizardref18_some.J7 l0 l1 l2 a0 i0 k0 RR E h4) Kr E h0)
  else
  Kx2 h0)
structure vizardref18_some.W2 (l0 : Option Addr) (l1 : Nat) (l2 : Nat) (a0 : Int) (i0 : Int) (k0 : Int) (Kx2 : Heap → Prop) (Kr : Bool → Heap → Prop) (E : Value → Heap → Prop) (H : Heap) : Prop where
  h : Loop (fun (RR : Int → Heap → Prop) (s : Int) (H : Heap) => vizardref18_some.W2.vc l0 l1 l2 a0 i0 s Kx2 Kr (fun k0 H => RR (k0) H) E H) (k0) H
def vizardref18_some.W1.vc (l0 : Option Addr) (l1 : Nat) (l2 : Nat) (a0 : Int) (i0 : Int) (Kx0 : Heap → Prop) (Kr : Bool → Heap → Prop) (RR : Int → Heap → Prop) (E : Value → Heap → Prop) (h0 : Heap) : Prop :=
  (if (decide (i0 ≤ (l1 : Int))) = true then
  vizardref18_some.W2 l0 l1 l2 a0 i0 0 (fun h1 =>
  RR (IntKind.i64.wrap (i0 + 1)) h1) Kr E h0
  else
  Kx0 h0)
structure vizardref18_some.W1 (l0 : Option Addr) (l1 : Nat) (l2 : Nat) (a0 : Int) (i0 : Int) (Kx0 : Heap → Prop) (Kr : Bool → Heap → Prop) (E : Value → Heap → Prop) (H : Heap) : Prop where
  h : Loop (fun (RR : Int → Heap → Prop) (s : Int) (H : Heap) => vizardref18_some.W1.vc l0 l1 l2 a0 s Kx0 Kr (fun i0 H => RR (i0) H) E H) (i0) H
def vizardref18_some.vc (l0 : Option Addr) (l1 : Nat) (l2 : Nat) (a0 : Int) (K : Bool → Heap → Prop) (E : Value → Heap → Prop) (h0 : Heap) : Prop :=
  vizardref18_some.W1 l0 l1 l2 a0 0 (fun h1 =>
  K false h1) K E h0
structure vizardref18_some.c (l0 : Option Addr) (l1 : Nat) (l2 : Nat) (a0 : Int) (K : Bool → Heap → Prop) (E : Value → Heap → Prop) (H : Heap) : Prop where
  h : vizardref18_some.vc l0 l1 l2 a0 (fun r0_0 H => ∃ H', Heap.Le H' H ∧ K r0_0 H') E H
def vizardref18_some.F : FT := fun args K E H => match args with
  | [(.slice l0 l1 l2), (.int .u32 a0)] => vizardref18_some.c l0 l1 l2 a0 (fun r0_0 H => K (.bool r0_0) H) E H
  | _ => False
noncomputable def vizardref18_some.Γ : FuncId → Option FT := Γof [(24, vizardref18_Allow.F), (53, vizardref18_other.F)]
theorem vizardref18_some.hΓ : ∀ f F, vizardref18_some.Γ f = some F → CalleeOk Try.prog f F := Γof_ok (List.forall_mem_cons.2 ⟨vizardref18_Allow.ok, List.forall_mem_cons.2 ⟨vizardref18_other.ok, fun _ h => nomatch h⟩⟩)
def vizardref18_some.J6.t : CT := fun Q E fr H => lenIs 74 fr (slSl fr 0 fun l0 l1 l2 => slI fr 1 .u32 fun a0 => slI fr 5 .i64 fun i0 => slI fr 6 .i64 fun k0 => slB fr 73 fun x0 => vizardref18_some.J6 l0 l1 l2 a0 i0 k0 x0 (fun  H => Q .normal (mkF 74 [(0, (.slice l0 l1 l2)), (1, (.int .u32 a0)), (5, (.int .i64 i0)), (6, (.int .i64 k0))]) H) (fun y4_0 H => Q .ret (mkF 74 [(4, (.bool y4_0))]) H) E H)
noncomputable def vizardref18_some.J6.plan : Plan := .go
theorem vizardref18_some.J6.pok : PlanOk Try.prog vizardref18_some.J6.plan (sub [1, 0, 1, 0, 0, 1, 0, 0, 1, 0, 0, 1, 0, 0, 1, 1, 1, 1, 1, 1] vizardref18_some.body) := by
  have e : PlanOk Try.prog vizardref18_some.J6.plan (sub [1, 0, 1, 0, 0, 1, 0, 0, 1, 0, 0, 1, 0, 0, 1, 1, 1, 1, 1, 1] vizardref18_some.body) = (True) := by kernel_rfl
  exact e.mpr trivial
theorem vizardref18_some.J6.eq (l0 : Option Addr) (l1 : Nat) (l2 : Nat) (a0 : Int) (i0 : Int) (k0 : Int) (x0 : Bool) (Q : Ex → Fr → Heap → Prop) (E : Value → Heap → Prop) (H : Heap) :
    vizardref18_some.J6.vc l0 l1 l2 a0 i0 k0 x0 (fun  H => Q .normal (mkF 74 [(0, (.slice l0 l1 l2)), (1, (.int .u32 a0)), (5, (.int .i64 i0)), (6, (.int .i64 k0))]) H) (fun y4_0 H => Q .ret (mkF 74 [(4, (.bool y4_0))]) H) E H = keepT [0, 1, 5, 6] [4] (fun i => []) (wC Try.prog vizardref18_some.Γ vizardref18_some.J6.plan (sub [1, 0, 1, 0, 0, 1, 0, 0, 1, 0, 0, 1, 0, 0, 1, 1, 1, 1, 1, 1] vizardref18_some.body)) Q E (mkF 74 [(0, (.slice l0 l1 l2)), (1, (.int .u32 a0)), (5, (.int .i64 i0)), (6, (.int .i64 k0)), (73, (.bool x0))]) H := by
  kernel_rfl
theorem vizardref18_some.J6.ok : SoundCode Try.prog (sub [1, 0, 1, 0, 0, 1, 0, 0, 1, 0, 0, 1, 0, 0, 1, 1, 1, 1, 1, 1] vizardref18_some.body) vizardref18_some.J6.t := by
  refine piece_sound (keepT_sound [0, 1, 5, 6] [4] (fun i => []) (wC_sound vizardref18_some.hΓ Try.hm vizardref18_some.J6.plan _ vizardref18_some.J6.pok)) ?_
  intro Q E fr H h
  unfold vizardref18_some.J6.t at h
  obtain ⟨hl, h⟩ := lenIs_elim h
  obtain ⟨l0, l1, l2, q0, h⟩ := slSl_elim h
  obtain ⟨a0, q1, h⟩ := slI_elim h
  obtain ⟨i0, q5, h⟩ := slI_elim h
  obtain ⟨k0, q6, h⟩ := slI_elim h
  obtain ⟨x0, q73, h⟩ := slB_elim h
  refine ⟨(mkF 74 [(0, (.slice l0 l1 l2)), (1, (.int .u32 a0)), (5, (.int .i64 i0)), (6, (.int .i64 k0)), (73, (.bool x0))]), fun a ha => ha.mk (Nat.le_of_eq hl.symm) (List.forall_mem_cons.2 ⟨q0, List.forall_mem_cons.2 ⟨q1, List.forall_mem_cons.2 ⟨q5, List.forall_mem_cons.2 ⟨q6, List.forall_mem_cons.2 ⟨q73, fun _ h => nomatch h⟩⟩⟩⟩⟩), ?_⟩
  have e := vizardref18_some.J6.eq l0 l1 l2 a0 i0 k0 x0 Q E H
  rw [← e]
  exact h.h
def vizardref18_some.J5.t : CT := fun Q E fr H => lenIs 74 fr (slSl fr 0 fun l0 l1 l2 => slI fr 1 .u32 fun a0 => slI fr 5 .i64 fun i0 => slI fr 6 .i64 fun k0 => slI fr 7 .i64 fun p0 => slI fr 8 .i64 fun at0 => vizardref18_some.J5 l0 l1 l2 a0 i0 k0 p0 at0 (fun  H => Q .normal (mkF 74 [(0, (.slice l0 l1 l2)), (1, (.int .u32 a0)), (5, (.int .i64 i0)), (6, (.int .i64 k0))]) H) (fun y4_0 H => Q .ret (mkF 74 [(4, (.bool y4_0))]) H) E H)
noncomputable def vizardref18_some.J5.plan : Plan := .seq (.go) (.use vizardref18_some.J6.t)
theorem vizardref18_some.J5.pok : PlanOk Try.prog vizardref18_some.J5.plan (sub [1, 0, 1, 0, 0, 1, 0, 0, 1, 0, 0, 1, 0, 0, 1, 1, 1, 1, 1] vizardref18_some.body) := by
  have e : PlanOk Try.prog vizardref18_some.J5.plan (sub [1, 0, 1, 0, 0, 1, 0, 0, 1, 0, 0, 1, 0, 0, 1, 1, 1, 1, 1] vizardref18_some.body) = ((True) ∧ (SoundCode Try.prog (sub [1, 0, 1, 0, 0, 1, 0, 0, 1, 0, 0, 1, 0, 0, 1, 1, 1, 1, 1, 1] vizardref18_some.body) vizardref18_some.J6.t)) := by kernel_rfl
  exact e.mpr ⟨trivial, vizardref18_some.J6.ok⟩
theorem vizardref18_some.J5.eq (l0 : Option Addr) (l1 : Nat) (l2 : Nat) (a0 : Int) (i0 : Int) (k0 : Int) (p0 : Int) (at0 : Int) (Q : Ex → Fr → Heap → Prop) (E : Value → Heap → Prop) (H : Heap) :
    vizardref18_some.J5.vc l0 l1 l2 a0 i0 k0 p0 at0 (fun  H => Q .normal (mkF 74 [(0, (.slice l0 l1 l2)), (1, (.int .u32 a0)), (5, (.int .i64 i0)), (6, (.int .i64 k0))]) H) (fun y4_0 H => Q .ret (mkF 74 [(4, (.bool y4_0))]) H) E H = keepT [0, 1, 5, 6] [4] (fun i => []) (wC Try.prog vizardref18_some.Γ vizardref18_some.J5.plan (sub [1, 0, 1, 0, 0, 1, 0, 0, 1, 0, 0, 1, 0, 0, 1, 1, 1, 1, 1] vizardref18_some.body)) Q E (mkF 74 [(0, (.slice l0 l1 l2)), (1, (.int .u32 a0)), (5, (.int .i64 i0)), (6, (.int .i64 k0)), (7, (.int .i64 p0)), (8, (.int .i64 at0))]) H := by
  kernel_rfl
theorem vizardref18_some.J5.ok : SoundCode Try.prog (sub [1, 0, 1, 0, 0, 1, 0, 0, 1, 0, 0, 1, 0, 0, 1, 1, 1, 1, 1] vizardref18_some.body) vizardref18_some.J5.t := by
  refine piece_sound (keepT_sound [0, 1, 5, 6] [4] (fun i => []) (wC_sound vizardref18_some.hΓ Try.hm vizardref18_some.J5.plan _ vizardref18_some.J5.pok)) ?_
  intro Q E fr H h
  unfold vizardref18_some.J5.t at h
  obtain ⟨hl, h⟩ := lenIs_elim h
  obtain ⟨l0, l1, l2, q0, h⟩ := slSl_elim h
  obtain ⟨a0, q1, h⟩ := slI_elim h
  obtain ⟨i0, q5, h⟩ := slI_elim h
  obtain ⟨k0, q6, h⟩ := slI_elim h
  obtain ⟨p0, q7, h⟩ := slI_elim h
  obtain ⟨at0, q8, h⟩ := slI_elim h
  refine ⟨(mkF 74 [(0, (.slice l0 l1 l2)), (1, (.int .u32 a0)), (5, (.int .i64 i0)), (6, (.int .i64 k0)), (7, (.int .i64 p0)), (8, (.int .i64 at0))]), fun a ha => ha.mk (Nat.le_of_eq hl.symm) (List.forall_mem_cons.2 ⟨q0, List.forall_mem_cons.2 ⟨q1, List.forall_mem_cons.2 ⟨q5, List.forall_mem_cons.2 ⟨q6, List.forall_mem_cons.2 ⟨q7, List.forall_mem_cons.2 ⟨q8, fun _ h => nomatch h⟩⟩⟩⟩⟩⟩), ?_⟩
  have e := vizardref18_some.J5.eq l0 l1 l2 a0 i0 k0 p0 at0 Q E H
  rw [← e]
  exact h.h
def vizardref18_some.J4.t : CT := fun Q E fr H => lenIs 74 fr (slSl fr 0 fun l0 l1 l2 => slI fr 1 .u32 fun a0 => slI fr 5 .i64 fun i0 => slI fr 6 .i64 fun k0 => slI fr 7 .i64 fun p0 => vizardref18_some.J4 l0 l1 l2 a0 i0 k0 p0 (fun  H => Q .normal (mkF 74 [(0, (.slice l0 l1 l2)), (1, (.int .u32 a0)), (5, (.int .i64 i0)), (6, (.int .i64 k0))]) H) (fun y4_0 H => Q .ret (mkF 74 [(4, (.bool y4_0))]) H) E H)
noncomputable def vizardref18_some.J4.plan : Plan := .seq (.go) (.seq (.go) (.use vizardref18_some.J5.t))
theorem vizardref18_some.J4.pok : PlanOk Try.prog vizardref18_some.J4.plan (sub [1, 0, 1, 0, 0, 1, 0, 0, 1, 0, 0, 1, 0, 0, 1, 1, 1] vizardref18_some.body) := by
  have e : PlanOk Try.prog vizardref18_some.J4.plan (sub [1, 0, 1, 0, 0, 1, 0, 0, 1, 0, 0, 1, 0, 0, 1, 1, 1] vizardref18_some.body) = ((True) ∧ ((True) ∧ (SoundCode Try.prog (sub [1, 0, 1, 0, 0, 1, 0, 0, 1, 0, 0, 1, 0, 0, 1, 1, 1, 1, 1] vizardref18_some.body) vizardref18_some.J5.t))) := by kernel_rfl
  exact e.mpr ⟨trivial, ⟨trivial, vizardref18_some.J5.ok⟩⟩
theorem vizardref18_some.J4.eq (l0 : Option Addr) (l1 : Nat) (l2 : Nat) (a0 : Int) (i0 : Int) (k0 : Int) (p0 : Int) (Q : Ex → Fr → Heap → Prop) (E : Value → Heap → Prop) (H : Heap) :
    vizardref18_some.J4.vc l0 l1 l2 a0 i0 k0 p0 (fun  H => Q .normal (mkF 74 [(0, (.slice l0 l1 l2)), (1, (.int .u32 a0)), (5, (.int .i64 i0)), (6, (.int .i64 k0))]) H) (fun y4_0 H => Q .ret (mkF 74 [(4, (.bool y4_0))]) H) E H = keepT [0, 1, 5, 6] [4] (fun i => []) (wC Try.prog vizardref18_some.Γ vizardref18_some.J4.plan (sub [1, 0, 1, 0, 0, 1, 0, 0, 1, 0, 0, 1, 0, 0, 1, 1, 1] vizardref18_some.body)) Q E (mkF 74 [(0, (.slice l0 l1 l2)), (1, (.int .u32 a0)), (5, (.int .i64 i0)), (6, (.int .i64 k0)), (7, (.int .i64 p0))]) H := by
  kernel_rfl
theorem vizardref18_some.J4.ok : SoundCode Try.prog (sub [1, 0, 1, 0, 0, 1, 0, 0, 1, 0, 0, 1, 0, 0, 1, 1, 1] vizardref18_some.body) vizardref18_some.J4.t := by
  refine piece_sound (keepT_sound [0, 1, 5, 6] [4] (fun i => []) (wC_sound vizardref18_some.hΓ Try.hm vizardref18_some.J4.plan _ vizardref18_some.J4.pok)) ?_
  intro Q E fr H h
  unfold vizardref18_some.J4.t at h
  obtain ⟨hl, h⟩ := lenIs_elim h
  obtain ⟨l0, l1, l2, q0, h⟩ := slSl_elim h
  obtain ⟨a0, q1, h⟩ := slI_elim h
  obtain ⟨i0, q5, h⟩ := slI_elim h
  obtain ⟨k0, q6, h⟩ := slI_elim h
  obtain ⟨p0, q7, h⟩ := slI_elim h
  refine ⟨(mkF 74 [(0, (.slice l0 l1 l2)), (1, (.int .u32 a0)), (5, (.int .i64 i0)), (6, (.int .i64 k0)), (7, (.int .i64 p0))]), fun a ha => ha.mk (Nat.le_of_eq hl.symm) (List.forall_mem_cons.2 ⟨q0, List.forall_mem_cons.2 ⟨q1, List.forall_mem_cons.2 ⟨q5, List.forall_mem_cons.2 ⟨q6, List.forall_mem_cons.2 ⟨q7, fun _ h => nomatch h⟩⟩⟩⟩⟩), ?_⟩
  have e := vizardref18_some.J4.eq l0 l1 l2 a0 i0 k0 p0 Q E H
  rw [← e]
  exact h.h
def vizardref18_some.J3.t : CT := fun Q E fr H => lenIs 74 fr (slSl fr 0 fun l0 l1 l2 => slI fr 1 .u32 fun a0 => slI fr 5 .i64 fun i0 => slI fr 6 .i64 fun k0 => slI fr 7 .i64 fun p0 => vizardref18_some.J3 l0 l1 l2 a0 i0 k0 p0 (fun  H => Q .normal (mkF 74 [(0, (.slice l0 l1 l2)), (1, (.int .u32 a0)), (5, (.int .i64 i0)), (6, (.int .i64 k0))]) H) (fun y4_0 H => Q .ret (mkF 74 [(4, (.bool y4_0))]) H) E H)
noncomputable def vizardref18_some.J3.plan : Plan := .seq (.go) (.use vizardref18_some.J4.t)
theorem vizardref18_some.J3.pok : PlanOk Try.prog vizardref18_some.J3.plan (sub [1, 0, 1, 0, 0, 1, 0, 0, 1, 0, 0, 1, 0, 0, 1, 1] vizardref18_some.body) := by
  have e : PlanOk Try.prog vizardref18_some.J3.plan (sub [1, 0, 1, 0, 0, 1, 0, 0, 1, 0, 0, 1, 0, 0, 1, 1] vizardref18_some.body) = ((True) ∧ (SoundCode Try.prog (sub [1, 0, 1, 0, 0, 1, 0, 0, 1, 0, 0, 1, 0, 0, 1, 1, 1] vizardref18_some.body) vizardref18_some.J4.t)) := by kernel_rfl
  exact e.mpr ⟨trivial, vizardref18_some.J4.ok⟩
theorem vizardref18_some.J3.eq (l0 : Option Addr) (l1 : Nat) (l2 : Nat) (a0 : Int) (i0 : Int) (k0 : Int) (p0 : Int) (Q : Ex → Fr → Heap → Prop) (E : Value → Heap → Prop) (H : Heap) :
    vizardref18_some.J3.vc l0 l1 l2 a0 i0 k0 p0 (fun  H => Q .normal (mkF 74 [(0, (.slice l0 l1 l2)), (1, (.int .u32 a0)), (5, (.int .i64 i0)), (6, (.int .i64 k0))]) H) (fun y4_0 H => Q .ret (mkF 74 [(4, (.bool y4_0))]) H) E H = keepT [0, 1, 5, 6] [4] (fun i => []) (wC Try.prog vizardref18_some.Γ vizardref18_some.J3.plan (sub [1, 0, 1, 0, 0, 1, 0, 0, 1, 0, 0, 1, 0, 0, 1, 1] vizardref18_some.body)) Q E (mkF 74 [(0, (.slice l0 l1 l2)), (1, (.int .u32 a0)), (5, (.int .i64 i0)), (6, (.int .i64 k0)), (7, (.int .i64 p0))]) H := by
  kernel_rfl
theorem vizardref18_some.J3.ok : SoundCode Try.prog (sub [1, 0, 1, 0, 0, 1, 0, 0, 1, 0, 0, 1, 0, 0, 1, 1] vizardref18_some.body) vizardref18_some.J3.t := by
  refine piece_sound (keepT_sound [0, 1, 5, 6] [4] (fun i => []) (wC_sound vizardref18_some.hΓ Try.hm vizardref18_some.J3.plan _ vizardref18_some.J3.pok)) ?_
  intro Q E fr H h
  unfold vizardref18_some.J3.t at h
  obtain ⟨hl, h⟩ := lenIs_elim h
  obtain ⟨l0, l1, l2, q0, h⟩ := slSl_elim h
  obtain ⟨a0, q1, h⟩ := slI_elim h
  obtain ⟨i0, q5, h⟩ := slI_elim h
  obtain ⟨k0, q6, h⟩ := slI_elim h
  obtain ⟨p0, q7, h⟩ := slI_elim h
  refine ⟨(mkF 74 [(0, (.slice l0 l1 l2)), (1, (.int .u32 a0)), (5, (.int .i64 i0)), (6, (.int .i64 k0)), (7, (.int .i64 p0))]), fun a ha => ha.mk (Nat.le_of_eq hl.symm) (List.forall_mem_cons.2 ⟨q0, List.forall_mem_cons.2 ⟨q1, List.forall_mem_cons.2 ⟨q5, List.forall_mem_cons.2 ⟨q6, List.forall_mem_cons.2 ⟨q7, fun _ h => nomatch h⟩⟩⟩⟩⟩), ?_⟩
  have e := vizardref18_some.J3.eq l0 l1 l2 a0 i0 k0 p0 Q E H
  rw [← e]
  exact h.h
def vizardref18_some.J7.t : CT := fun Q E fr H => lenIs 74 fr (slSl fr 0 fun l0 l1 l2 => slI fr 1 .u32 fun a0 => slI fr 5 .i64 fun i0 => slI fr 6 .i64 fun k0 => vizardref18_some.J7 l0 l1 l2 a0 i0 k0 (fun y6_0 H => Q .normal (mkF 74 [(0, (.slice l0 l1 l2)), (1, (.int .u32 a0)), (5, (.int .i64 i0)), (6, (.int .i64 y6_0))]) H) E H)
noncomputable def vizardref18_some.J7.plan : Plan := .go
theorem vizardref18_some.J7.pok : PlanOk Try.prog vizardref18_some.J7.plan (sub [1, 0, 1, 0, 0, 1, 0, 0, 1, 0, 0, 1, 1] vizardref18_some.body) := by
  have e : PlanOk Try.prog vizardref18_some.J7.plan (sub [1, 0, 1, 0, 0, 1, 0, 0, 1, 0, 0, 1, 1] vizardref18_some.body) = (True) := by kernel_rfl
  exact e.mpr trivial
theorem vizardref18_some.J7.eq (l0 : Option Addr) (l1 : Nat) (l2 : Nat) (a0 : Int) (i0 : Int) (k0 : Int) (Q : Ex → Fr → Heap → Prop) (E : Value → Heap → Prop) (H : Heap) :
    vizardref18_some.J7.vc l0 l1 l2 a0 i0 k0 (fun y6_0 H => Q .normal (mkF 74 [(0, (.slice l0 l1 l2)), (1, (.int .u32 a0)), (5, (.int .i64 i0)), (6, (.int .i64 y6_0))]) H) E H = keepT [0, 1, 5, 6] [] (fun i => []) (wC Try.prog vizardref18_some.Γ vizardref18_some.J7.plan (sub [1, 0, 1, 0, 0, 1, 0, 0, 1, 0, 0, 1, 1] vizardref18_some.body)) Q E (mkF 74 [(0, (.slice l0 l1 l2)), (1, (.int .u32 a0)), (5, (.int .i64 i0)), (6, (.int .i64 k0))]) H := by
  kernel_rfl
theorem vizardref18_some.J7.ok : SoundCode Try.prog (sub [1, 0, 1, 0, 0, 1, 0, 0, 1, 0, 0, 1, 1] vizardref18_some.body) vizardref18_some.J7.t := by
  refine piece_sound (keepT_sound [0, 1, 5, 6] [] (fun i => []) (wC_sound vizardref18_some.hΓ Try.hm vizardref18_some.J7.plan _ vizardref18_some.J7.pok)) ?_
  intro Q E fr H h
  unfold vizardref18_some.J7.t at h
  obtain ⟨hl, h⟩ := lenIs_elim h
  obtain ⟨l0, l1, l2, q0, h⟩ := slSl_elim h
  obtain ⟨a0, q1, h⟩ := slI_elim h
  obtain ⟨i0, q5, h⟩ := slI_elim h
  obtain ⟨k0, q6, h⟩ := slI_elim h
  refine ⟨(mkF 74 [(0, (.slice l0 l1 l2)), (1, (.int .u32 a0)), (5, (.int .i64 i0)), (6, (.int .i64 k0))]), fun a ha => ha.mk (Nat.le_of_eq hl.symm) (List.forall_mem_cons.2 ⟨q0, List.forall_mem_cons.2 ⟨q1, List.forall_mem_cons.2 ⟨q5, List.forall_mem_cons.2 ⟨q6, fun _ h => nomatch h⟩⟩⟩⟩), ?_⟩
  have e := vizardref18_some.J7.eq l0 l1 l2 a0 i0 k0 Q E H
  rw [← e]
  exact h.h
def vizardref18_some.W2.t : CT := fun Q E fr H => lenIs 74 fr (slSl fr 0 fun l0 l1 l2 => slI fr 1 .u32 fun a0 => slI fr 5 .i64 fun i0 => slI fr 6 .i64 fun k0 => vizardref18_some.W2 l0 l1 l2 a0 i0 k0 (fun  H => Q (.exit 2) (mkF 74 [(0, (.slice l0 l1 l2)), (1, (.int .u32 a0)), (5, (.int .i64 i0))]) H) (fun y4_0 H => Q .ret (mkF 74 [(4, (.bool y4_0))]) H) E H)
noncomputable def vizardref18_some.W2.plan : Plan := .seq (.go) (.seq (.block (.seq (.go) (.seq (.go) (.use vizardref18_some.J3.t)))) (.use vizardref18_some.J7.t))
theorem vizardref18_some.W2.pok : PlanOk Try.prog vizardref18_some.W2.plan (sub [1, 0, 1, 0, 0, 1, 0, 0, 1, 0, 0] vizardref18_some.body) := by
  have e : PlanOk Try.prog vizardref18_some.W2.plan (sub [1, 0, 1, 0, 0, 1, 0, 0, 1, 0, 0] vizardref18_some.body) = ((True) ∧ (((True) ∧ ((True) ∧ (SoundCode Try.prog (sub [1, 0, 1, 0, 0, 1, 0, 0, 1, 0, 0, 1, 0, 0, 1, 1] vizardref18_some.body) vizardref18_some.J3.t))) ∧ (SoundCode Try.prog (sub [1, 0, 1, 0, 0, 1, 0, 0, 1, 0, 0, 1, 1] vizardref18_some.body) vizardref18_some.J7.t))) := by kernel_rfl
  exact e.mpr ⟨trivial, ⟨⟨trivial, ⟨trivial, vizardref18_some.J3.ok⟩⟩, vizardref18_some.J7.ok⟩⟩
theorem vizardref18_some.W2.eq (l0 : Option Addr) (l1 : Nat) (l2 : Nat) (a0 : Int) (i0 : Int) (Q : Ex → Fr → Heap → Prop) (E : Value → Heap → Prop) (RR : Fr → Heap → Prop) (s : Int) (H : Heap) :
    (fun (RR : Int → Heap → Prop) (s : Int) (H : Heap) => vizardref18_some.W2.vc l0 l1 l2 a0 i0 s (fun  H => Q (.exit 2) (mkF 74 [(0, (.slice l0 l1 l2)), (1, (.int .u32 a0)), (5, (.int .i64 i0))]) H) (fun y4_0 H => Q .ret (mkF 74 [(4, (.bool y4_0))]) H) (fun k0 H => RR (k0) H) E H) (fun s' H' => RR ((fun (s : Int) => (mkF 74 [(0, (.slice l0 l1 l2)), (1, (.int .u32 a0)), (5, (.int .i64 i0)), (6, (.int .i64 s))])) s') H') s H = keepT [0, 1, 5, 6] [4] (fun i => if i = 2 then [0, 1, 5] else []) (wC Try.prog vizardref18_some.Γ vizardref18_some.W2.plan (sub [1, 0, 1, 0, 0, 1, 0, 0, 1, 0, 0] vizardref18_some.body)) (fun e fr' H' => match e with | .normal => RR fr' H' | .exit id => Q (.exit id) fr' H' | .ret => Q .ret fr' H') E ((fun (s : Int) => (mkF 74 [(0, (.slice l0 l1 l2)), (1, (.int .u32 a0)), (5, (.int .i64 i0)), (6, (.int .i64 s))])) s) H := by
  kernel_rfl
theorem vizardref18_some.W2.ok : SoundCode Try.prog (sub [1, 0, 1, 0, 0, 1, 0, 0, 1, 0] vizardref18_some.body) vizardref18_some.W2.t := by
  have e : (sub [1, 0, 1, 0, 0, 1, 0, 0, 1, 0] vizardref18_some.body) = .loop (sub [1, 0, 1, 0, 0, 1, 0, 0, 1, 0, 0] vizardref18_some.body) := by kernel_rfl
  rw [e]
  refine piece_sound (loopN_sound (keepT_sound [0, 1, 5, 6] [4] (fun i => if i = 2 then [0, 1, 5] else []) (wC_sound vizardref18_some.hΓ Try.hm vizardref18_some.W2.plan _ vizardref18_some.W2.pok))) ?_
  intro Q E fr H h
  unfold vizardref18_some.W2.t at h
  obtain ⟨hl, h⟩ := lenIs_elim h
  obtain ⟨l0, l1, l2, q0, h⟩ := slSl_elim h
  obtain ⟨a0, q1, h⟩ := slI_elim h
  obtain ⟨i0, q5, h⟩ := slI_elim h
  obtain ⟨k0, q6, h⟩ := slI_elim h
  obtain ⟨m, h⟩ := h.h
  refine ⟨(mkF 74 [(0, (.slice l0 l1 l2)), (1, (.int .u32 a0)), (5, (.int .i64 i0)), (6, (.int .i64 k0))]), fun a ha => ha.mk (Nat.le_of_eq hl.symm) (List.forall_mem_cons.2 ⟨q0, List.forall_mem_cons.2 ⟨q1, List.forall_mem_cons.2 ⟨q5, List.forall_mem_cons.2 ⟨q6, fun _ h => nomatch h⟩⟩⟩⟩), m, ?_⟩
  have e := loopS_eq (B := (fun (RR : Int → Heap → Prop) (s : Int) (H : Heap) => vizardref18_some.W2.vc l0 l1 l2 a0 i0 s (fun  H => Q (.exit 2) (mkF 74 [(0, (.slice l0 l1 l2)), (1, (.int .u32 a0)), (5, (.int .i64 i0))]) H) (fun y4_0 H => Q .ret (mkF 74 [(4, (.bool y4_0))]) H) (fun k0 H => RR (k0) H) E H)) (A := keepT [0, 1, 5, 6] [4] (fun i => if i = 2 then [0, 1, 5] else []) (wC Try.prog vizardref18_some.Γ vizardref18_some.W2.plan (sub [1, 0, 1, 0, 0, 1, 0, 0, 1, 0, 0] vizardref18_some.body))) (m := (fun (s : Int) => (mkF 74 [(0, (.slice l0 l1 l2)), (1, (.int .u32 a0)), (5, (.int .i64 i0)), (6, (.int .i64 s))]))) (Q := Q) (E := E) (fun RR s H => vizardref18_some.W2.eq l0 l1 l2 a0 i0 Q E RR s H) m (k0) H
  exact cast e h
def vizardref18_some.W1.t : CT := fun Q E fr H => lenIs 74 fr (slSl fr 0 fun l0 l1 l2 => slI fr 1 .u32 fun a0 => slI fr 5 .i64 fun i0 => vizardref18_some.W1 l0 l1 l2 a0 i0 (fun  H => Q (.exit 0) (mkF 74 []) H) (fun y4_0 H => Q .ret (mkF 74 [(4, (.bool y4_0))]) H) E H)
noncomputable def vizardref18_some.W1.plan : Plan := .seq (.go) (.seq (.block (.seq (.go) (.block (.use vizardref18_some.W2.t)))) (.go))
theorem vizardref18_some.W1.pok : PlanOk Try.prog vizardref18_some.W1.plan (sub [1, 0, 1, 0, 0] vizardref18_some.body) := by
  have e : PlanOk Try.prog vizardref18_some.W1.plan (sub [1, 0, 1, 0, 0] vizardref18_some.body) = ((True) ∧ (((True) ∧ (SoundCode Try.prog (sub [1, 0, 1, 0, 0, 1, 0, 0, 1, 0] vizardref18_some.body) vizardref18_some.W2.t)) ∧ (True))) := by kernel_rfl
  exact e.mpr ⟨trivial, ⟨⟨trivial, vizardref18_some.W2.ok⟩, trivial⟩⟩
theorem vizardref18_some.W1.eq (l0 : Option Addr) (l1 : Nat) (l2 : Nat) (a0 : Int) (Q : Ex → Fr → Heap → Prop) (E : Value → Heap → Prop) (RR : Fr → Heap → Prop) (s : Int) (H : Heap) :
    (fun (RR : Int → Heap → Prop) (s : Int) (H : Heap) => vizardref18_some.W1.vc l0 l1 l2 a0 s (fun  H => Q (.exit 0) (mkF 74 []) H) (fun y4_0 H => Q .ret (mkF 74 [(4, (.bool y4_0))]) H) (fun i0 H => RR (i0) H) E H) (fun s' H' => RR ((fun (s : Int) => (mkF 74 [(0, (.slice l0 l1 l2)), (1, (.int .u32 a0)), (5, (.int .i64 s))])) s') H') s H = keepT [0, 1, 5] [4] (fun i => if i = 0 then [] else []) (wC Try.prog vizardref18_some.Γ vizardref18_some.W1.plan (sub [1, 0, 1, 0, 0] vizardref18_some.body)) (fun e fr' H' => match e with | .normal => RR fr' H' | .exit id => Q (.exit id) fr' H' | .ret => Q .ret fr' H') E ((fun (s : Int) => (mkF 74 [(0, (.slice l0 l1 l2)), (1, (.int .u32 a0)), (5, (.int .i64 s))])) s) H := by
  kernel_rfl
theorem vizardref18_some.W1.ok : SoundCode Try.prog (sub [1, 0, 1, 0] vizardref18_some.body) vizardref18_some.W1.t := by
  have e : (sub [1, 0, 1, 0] vizardref18_some.body) = .loop (sub [1, 0, 1, 0, 0] vizardref18_some.body) := by kernel_rfl
  rw [e]
  refine piece_sound (loopN_sound (keepT_sound [0, 1, 5] [4] (fun i => if i = 0 then [] else []) (wC_sound vizardref18_some.hΓ Try.hm vizardref18_some.W1.plan _ vizardref18_some.W1.pok))) ?_
  intro Q E fr H h
  unfold vizardref18_some.W1.t at h
  obtain ⟨hl, h⟩ := lenIs_elim h
  obtain ⟨l0, l1, l2, q0, h⟩ := slSl_elim h
  obtain ⟨a0, q1, h⟩ := slI_elim h
  obtain ⟨i0, q5, h⟩ := slI_elim h
  obtain ⟨m, h⟩ := h.h
  refine ⟨(mkF 74 [(0, (.slice l0 l1 l2)), (1, (.int .u32 a0)), (5, (.int .i64 i0))]), fun a ha => ha.mk (Nat.le_of_eq hl.symm) (List.forall_mem_cons.2 ⟨q0, List.forall_mem_cons.2 ⟨q1, List.forall_mem_cons.2 ⟨q5, fun _ h => nomatch h⟩⟩⟩), m, ?_⟩
  have e := loopS_eq (B := (fun (RR : Int → Heap → Prop) (s : Int) (H : Heap) => vizardref18_some.W1.vc l0 l1 l2 a0 s (fun  H => Q (.exit 0) (mkF 74 []) H) (fun y4_0 H => Q .ret (mkF 74 [(4, (.bool y4_0))]) H) (fun i0 H => RR (i0) H) E H)) (A := keepT [0, 1, 5] [4] (fun i => if i = 0 then [] else []) (wC Try.prog vizardref18_some.Γ vizardref18_some.W1.plan (sub [1, 0, 1, 0, 0] vizardref18_some.body))) (m := (fun (s : Int) => (mkF 74 [(0, (.slice l0 l1 l2)), (1, (.int .u32 a0)), (5, (.int .i64 s))]))) (Q := Q) (E := E) (fun RR s H => vizardref18_some.W1.eq l0 l1 l2 a0 Q E RR s H) m (i0) H
  exact cast e h
noncomputable def vizardref18_some.plan : Plan := .seq (.go) (.seq (.seq (.go) (.block (.use vizardref18_some.W1.t))) (.go))
theorem vizardref18_some.pok : PlanOk Try.prog vizardref18_some.plan vizardref18_some.body := by
  have e : PlanOk Try.prog vizardref18_some.plan vizardref18_some.body = ((True) ∧ (((True) ∧ (SoundCode Try.prog (sub [1, 0, 1, 0] vizardref18_some.body) vizardref18_some.W1.t)) ∧ (True))) := by kernel_rfl
  exact e.mpr ⟨trivial, ⟨⟨trivial, vizardref18_some.W1.ok⟩, trivial⟩⟩
theorem vizardref18_some.eq (l0 : Option Addr) (l1 : Nat) (l2 : Nat) (a0 : Int) (K : Value → Heap → Prop) (E : Value → Heap → Prop) (H : Heap) :
    fnT Try.prog Try.f33 (wC Try.prog vizardref18_some.Γ vizardref18_some.plan vizardref18_some.body) [(.slice l0 l1 l2), (.int .u32 a0)] K E H = vizardref18_some.vc l0 l1 l2 a0 (fun r0_0 H => K (.bool r0_0) H) E H := by
  kernel_rfl
theorem vizardref18_some.Fe {args : List Value} {K E : Value → Heap → Prop} {H : Heap} (h : vizardref18_some.F args K E H) : ∃ l0 l1 l2 a0, args = [(.slice l0 l1 l2), (.int .u32 a0)] ∧ vizardref18_some.c l0 l1 l2 a0 (fun r0_0 H => K (.bool r0_0) H) E H := by
  unfold vizardref18_some.F at h
  split at h
  · exact ⟨_, _, _, _, rfl, h⟩
  · exact h.elim
theorem vizardref18_some.ok : CalleeOk Try.prog 33 vizardref18_some.F :=
  callee_ok vizardref18_some.hΓ (fn := Try.f33) (c := vizardref18_some.body) (T := wC Try.prog vizardref18_some.Γ vizardref18_some.plan vizardref18_some.body) (by kernel_rfl) (by kernel_rfl) (by kernel_rfl) (wC_sound vizardref18_some.hΓ Try.hm vizardref18_some.plan _ vizardref18_some.pok) fun _ K E H h => by
    obtain ⟨z0, z1, z2, z3, e, h⟩ := vizardref18_some.Fe h
    subst e
    have h2 : vizardref18_some.vc z0 z1 z2 z3 (fun r0_0 H => ∃ H', Heap.Le H' H ∧ K (.bool r0_0) H') E H := h.h
    rw [vizardref18_some.eq z0 z1 z2 z3 (Fg K) E H]
    exact h2

/-! vizard/vizardref18.Routes -/
noncomputable def vizardref18_Routes.body : Code := Try.f12.body.getD .skip
def vizardref18_Routes.J2.vc (l0 : Option Addr) (l1 : Nat) (l2 : Nat) (out0 : Option Addr) (out1 : Nat) (out2 : Nat) (b0 : Option Addr) (b1 : Nat) (b2 : Nat) (joins0 : Bool) (i0 : Int) (Kn : Int → Heap → Prop) (E : Value → Heap → Prop) (h0 : Heap) : Prop :=
  Kn (IntKind.i64.wrap (i0 + 1)) h0
structure vizardref18_Routes.J2 (l0 : Option Addr) (l1 : Nat) (l2 : Nat) (out0 : Option Addr) (out1 : Nat) (out2 : Nat) (b0 : Option Addr) (b1 : Nat) (b2 : Nat) (joins0 : Bool) (i0 : Int) (Kn : Int → Heap → Prop) (E : Value → Heap → Prop) (H : Heap) : Prop where
  h : vizardref18_Routes.J2.vc l0 l1 l2 out0 out1 out2 b0 b1 b2 joins0 i0 Kn E H
def vizardref18_Routes.W1.vc (l0 : Option Addr) (l1 : Nat) (l2 : Nat) (out0 : Option Addr) (out1 : Nat) (out2 : Nat) (b0 : Option Addr) (b1 : Nat) (b2 : Nat) (joins0 : Bool) (i0 : Int) (Kx0 : Option Addr → Nat → Nat → Heap → Prop) (RR : Option Addr → Nat → Nat → Bool → Int → Heap → Prop) (E : Value → Heap → Prop) (h0 : Heap) : Prop :=
  (if (decide ((IntKind.i64.wrap (i0 + 1)) < (b1 : Int))) = true then
  nilc b0 fun a0 => (0 : Int) ≤ i0 ∧ i0 < (b1 : Int) ∧
  ldI h0 .i64 (a0.add (i0.toNat * 1)) fun x0 =>
  vizardref18_some.c l0 l1 l2 (IntKind.u32.wrap x0) (fun x1 h1 =>
  (if (!x1) = true then
  vizardref18_Routes.J2 l0 l1 l2 out0 out1 out2 b0 b1 b2 false i0 (fun i1 h2 =>
  RR out0 out1 out2 false i1 h2) E h1
  else
  nilc b0 fun a1 => (0 : Int) ≤ (IntKind.i64.wrap (i0 + 1)) ∧ (IntKind.i64.wrap (i0 + 1)) < (b1 : Int) ∧
  ldI h1 .i64 (a1.add ((IntKind.i64.wrap (i0 + 1)).toNat * 1)) fun x2 =>
  (if joins0 = true then
  nilc out0 fun a2 => (0 : Int) ≤ (IntKind.i64.wrap ((out1 : Int) - 1)) ∧ (IntKind.i64.wrap ((out1 : Int) - 1)) < (out1 : Int) ∧
  stc h1 ((a2.add ((IntKind.i64.wrap ((out1 : Int) - 1)).toNat * 3)).add 1) (.int .u32 (IntKind.u32.wrap (IntKind.i64.wrap (x2 - 1)))) fun h3 =>
  vizardref18_Routes.J2 l0 l1 l2 out0 out1 out2 b0 b1 b2 true i0 (fun i2 h4 =>
  RR out0 out1 out2 true i2 h4) E h3
  else
  nilc b0 fun a3 => (0 : Int) ≤ i0 ∧ i0 < (b1 : Int) ∧
  ldI h1 .i64 (a3.add (i0.toNat * 1)) fun x3 =>
  newB (.cells #[(.int .u32 (IntKind.u32.wrap x3)), (.int .u32 (IntKind.u32.wrap (IntKind.i64.wrap (x2 - 1)))), (.int .i64 0)] 31) (fun b3 h5 =>
  rdRow h5 (some (⟨b3, 0, none⟩ : Addr)) (1 * 3) fun cs0 =>
  appT 31 (.agg #[(.int .u32 0), (.int .u32 0), (.int .i64 0)]) out0 out1 1 out2 3 16 cs0 (fun p0 n0 c0 h6 =>
  vizardref18_Routes.J2 l0 l1 l2 p0 n0 c0 b0 b1 b2 true i0 (fun i3 h7 =>
  RR p0 n0 c0 true i3 h7) E h6) h5) h1))) E h0
  else
  Kx0 out0 out1 out2 h0)
structure vizardref18_Routes.W1 (l0 : Option Addr) (l1 : Nat) (l2 : Nat) (out0 : Option Addr) (out1 : Nat) (out2 : Nat) (b0 : Option Addr) (b1 : Nat) (b2 : Nat) (joins0 : Bool) (i0 : Int) (Kx0 : Option Addr → Nat → Nat → Heap → Prop) (E : Value → Heap → Prop) (H : Heap) : Prop where
  h : Loop (fun (RR : Option Addr × Nat × Nat × Bool × Int → Heap → Prop) (s : Option Addr × Nat × Nat × Bool × Int) (H : Heap) => vizardref18_Routes.W1.vc l0 l1 l2 s.1 s.2.1 s.2.2.1 b0 b1 b2 s.2.2.2.1 s.2.2.2.2 Kx0 (fun out0 out1 out2 joins0 i0 H => RR (out0, out1, out2, joins0, i0) H) E H) (out0, out1, out2, joins0, i0) H
def vizardref18_Routes.J3.vc (out0 : Option Addr) (out1 : Nat) (out2 : Nat) (Kr : Option Addr → Nat → Nat → Heap → Prop) (E : Value → Heap → Prop) (h0 : Heap) : Prop :=
  Kr out0 out1 out2 h0
structure vizardref18_Routes.J3 (out0 : Option Addr) (out1 : Nat) (out2 : Nat) (Kr : Option Addr → Nat → Nat → Heap → Prop) (E : Value → Heap → Prop) (H : Heap) : Prop where
  h : vizardref18_Routes.J3.vc out0 out1 out2 Kr E H
def vizardref18_Routes.vc (l0 : Option Addr) (l1 : Nat) (l2 : Nat) (K : Option Addr → Nat → Nat → Heap → Prop) (E : Value → Heap → Prop) (h0 : Heap) : Prop :=
  vizardref18_Check.c l0 l1 l2 (fun x0 h1 =>
  (if (x0 != 0) = true then
  K none 0 0 h1
  else
  vizardref18_bounds.c l0 l1 l2 (fun x1 x2 x3 h2 =>
  vizardref18_Routes.W1 l0 l1 l2 none 0 0 x1 x2 x3 false 0 (fun out0 out1 out2 h3 =>
  (if (decide ((out1 : Int) > 16)) = true then
  (0 : Int) ≤ 16 ∧ 16 ≤ (out2 : Int) ∧
  vizardref18_Routes.J3 (slA out0 out2 0 3) 16 out2 K E h3
  else
  vizardref18_Routes.J3 out0 out1 out2 K E h3)) E h2) E h1)) E h0
structure vizardref18_Routes.c (l0 : Option Addr) (l1 : Nat) (l2 : Nat) (K : Option Addr → Nat → Nat → Heap → Prop) (E : Value → Heap → Prop) (H : Heap) : Prop where
  h : vizardref18_Routes.vc l0 l1 l2 (fun r0_0 r0_1 r0_2 H => ∃ H', Heap.Le H' H ∧ K r0_0 r0_1 r0_2 H') E H
def vizardref18_Routes.F : FT := fun args K E H => match args with
  | [(.slice l0 l1 l2)] => vizardref18_Routes.c l0 l1 l2 (fun r0_0 r0_1 r0_2 H => K (.slice r0_0 r0_1 r0_2) H) E H
  | _ => False
noncomputable def vizardref18_Routes.Γ : FuncId → Option FT := Γof [(31, vizardref18_Check.F), (32, vizardref18_bounds.F), (33, vizardref18_some.F)]
theorem vizardref18_Routes.hΓ : ∀ f F, vizardref18_Routes.Γ f = some F → CalleeOk Try.prog f F := Γof_ok (List.forall_mem_cons.2 ⟨vizardref18_Check.ok, List.forall_mem_cons.2 ⟨vizardref18_bounds.ok, List.forall_mem_cons.2 ⟨vizardref18_some.ok, fun _ h => nomatch h⟩⟩⟩)
def vizardref18_Routes.J2.t : CT := fun Q E fr H => lenIs 59 fr (slSl fr 0 fun l0 l1 l2 => slSl fr 3 fun out0 out1 out2 => slSl fr 4 fun b0 b1 b2 => slB fr 5 fun joins0 => slI fr 6 .i64 fun i0 => vizardref18_Routes.J2 l0 l1 l2 out0 out1 out2 b0 b1 b2 joins0 i0 (fun y6_0 H => Q .normal (mkF 59 [(0, (.slice l0 l1 l2)), (3, (.slice out0 out1 out2)), (4, (.slice b0 b1 b2)), (5, (.bool joins0)), (6, (.int .i64 y6_0))]) H) E H)
noncomputable def vizardref18_Routes.J2.plan : Plan := .go
theorem vizardref18_Routes.J2.pok : PlanOk Try.prog vizardref18_Routes.J2.plan (sub [1, 1, 1, 1, 1, 0, 1, 0, 0, 1, 1] vizardref18_Routes.body) := by
  have e : PlanOk Try.prog vizardref18_Routes.J2.plan (sub [1, 1, 1, 1, 1, 0, 1, 0, 0, 1, 1] vizardref18_Routes.body) = (True) := by kernel_rfl
  exact e.mpr trivial
theorem vizardref18_Routes.J2.eq (l0 : Option Addr) (l1 : Nat) (l2 : Nat) (out0 : Option Addr) (out1 : Nat) (out2 : Nat) (b0 : Option Addr) (b1 : Nat) (b2 : Nat) (joins0 : Bool) (i0 : Int) (Q : Ex → Fr → Heap → Prop) (E : Value → Heap → Prop) (H : Heap) :
    vizardref18_Routes.J2.vc l0 l1 l2 out0 out1 out2 b0 b1 b2 joins0 i0 (fun y6_0 H => Q .normal (mkF 59 [(0, (.slice l0 l1 l2)), (3, (.slice out0 out1 out2)), (4, (.slice b0 b1 b2)), (5, (.bool joins0)), (6, (.int .i64 y6_0))]) H) E H = keepT [0, 3, 4, 5, 6] [] (fun i => []) (wC Try.prog vizardref18_Routes.Γ vizardref18_Routes.J2.plan (sub [1, 1, 1, 1, 1, 0, 1, 0, 0, 1, 1] vizardref18_Routes.body)) Q E (mkF 59 [(0, (.slice l0 l1 l2)), (3, (.slice out0 out1 out2)), (4, (.slice b0 b1 b2)), (5, (.bool joins0)), (6, (.int .i64 i0))]) H := by
  kernel_rfl
theorem vizardref18_Routes.J2.ok : SoundCode Try.prog (sub [1, 1, 1, 1, 1, 0, 1, 0, 0, 1, 1] vizardref18_Routes.body) vizardref18_Routes.J2.t := by
  refine piece_sound (keepT_sound [0, 3, 4, 5, 6] [] (fun i => []) (wC_sound vizardref18_Routes.hΓ Try.hm vizardref18_Routes.J2.plan _ vizardref18_Routes.J2.pok)) ?_
  intro Q E fr H h
  unfold vizardref18_Routes.J2.t at h
  obtain ⟨hl, h⟩ := lenIs_elim h
  obtain ⟨l0, l1, l2, q0, h⟩ := slSl_elim h
  obtain ⟨out0, out1, out2, q3, h⟩ := slSl_elim h
  obtain ⟨b0, b1, b2, q4, h⟩ := slSl_elim h
  obtain ⟨joins0, q5, h⟩ := slB_elim h
  obtain ⟨i0, q6, h⟩ := slI_elim h
  refine ⟨(mkF 59 [(0, (.slice l0 l1 l2)), (3, (.slice out0 out1 out2)), (4, (.slice b0 b1 b2)), (5, (.bool joins0)), (6, (.int .i64 i0))]), fun a ha => ha.mk (Nat.le_of_eq hl.symm) (List.forall_mem_cons.2 ⟨q0, List.forall_mem_cons.2 ⟨q3, List.forall_mem_cons.2 ⟨q4, List.forall_mem_cons.2 ⟨q5, List.forall_mem_cons.2 ⟨q6, fun _ h => nomatch h⟩⟩⟩⟩⟩), ?_⟩
  have e := vizardref18_Routes.J2.eq l0 l1 l2 out0 out1 out2 b0 b1 b2 joins0 i0 Q E H
  rw [← e]
  exact h.h
def vizardref18_Routes.W1.t : CT := fun Q E fr H => lenIs 59 fr (slSl fr 0 fun l0 l1 l2 => slSl fr 3 fun out0 out1 out2 => slSl fr 4 fun b0 b1 b2 => slB fr 5 fun joins0 => slI fr 6 .i64 fun i0 => vizardref18_Routes.W1 l0 l1 l2 out0 out1 out2 b0 b1 b2 joins0 i0 (fun y3_0 y3_1 y3_2 H => Q (.exit 0) (mkF 59 [(3, (.slice y3_0 y3_1 y3_2))]) H) E H)
noncomputable def vizardref18_Routes.W1.plan : Plan := .seq (.go) (.seq (.go) (.use vizardref18_Routes.J2.t))
theorem vizardref18_Routes.W1.pok : PlanOk Try.prog vizardref18_Routes.W1.plan (sub [1, 1, 1, 1, 1, 0, 1, 0, 0] vizardref18_Routes.body) := by
  have e : PlanOk Try.prog vizardref18_Routes.W1.plan (sub [1, 1, 1, 1, 1, 0, 1, 0, 0] vizardref18_Routes.body) = ((True) ∧ ((True) ∧ (SoundCode Try.prog (sub [1, 1, 1, 1, 1, 0, 1, 0, 0, 1, 1] vizardref18_Routes.body) vizardref18_Routes.J2.t))) := by kernel_rfl
  exact e.mpr ⟨trivial, ⟨trivial, vizardref18_Routes.J2.ok⟩⟩
theorem vizardref18_Routes.W1.eq (l0 : Option Addr) (l1 : Nat) (l2 : Nat) (b0 : Option Addr) (b1 : Nat) (b2 : Nat) (Q : Ex → Fr → Heap → Prop) (E : Value → Heap → Prop) (RR : Fr → Heap → Prop) (s : Option Addr × Nat × Nat × Bool × Int) (H : Heap) :
    (fun (RR : Option Addr × Nat × Nat × Bool × Int → Heap → Prop) (s : Option Addr × Nat × Nat × Bool × Int) (H : Heap) => vizardref18_Routes.W1.vc l0 l1 l2 s.1 s.2.1 s.2.2.1 b0 b1 b2 s.2.2.2.1 s.2.2.2.2 (fun y3_0 y3_1 y3_2 H => Q (.exit 0) (mkF 59 [(3, (.slice y3_0 y3_1 y3_2))]) H) (fun out0 out1 out2 joins0 i0 H => RR (out0, out1, out2, joins0, i0) H) E H) (fun s' H' => RR ((fun (s : Option Addr × Nat × Nat × Bool × Int) => (mkF 59 [(0, (.slice l0 l1 l2)), (3, (.slice s.1 s.2.1 s.2.2.1)), (4, (.slice b0 b1 b2)), (5, (.bool s.2.2.2.1)), (6, (.int .i64 s.2.2.2.2))])) s') H') s H = keepT [0, 3, 4, 5, 6] [] (fun i => if i = 0 then [3] else []) (wC Try.prog vizardref18_Routes.Γ vizardref18_Routes.W1.plan (sub [1, 1, 1, 1, 1, 0, 1, 0, 0] vizardref18_Routes.body)) (fun e fr' H' => match e with | .normal => RR fr' H' | .exit id => Q (.exit id) fr' H' | .ret => Q .ret fr' H') E ((fun (s : Option Addr × Nat × Nat × Bool × Int) => (mkF 59 [(0, (.slice l0 l1 l2)), (3, (.slice s.1 s.2.1 s.2.2.1)), (4, (.slice b0 b1 b2)), (5, (.bool s.2.2.2.1)), (6, (.int .i64 s.2.2.2.2))])) s) H := by
  kernel_rfl
theorem vizardref18_Routes.W1.ok : SoundCode Try.prog (sub [1, 1, 1, 1, 1, 0, 1, 0] vizardref18_Routes.body) vizardref18_Routes.W1.t := by
  have e : (sub [1, 1, 1, 1, 1, 0, 1, 0] vizardref18_Routes.body) = .loop (sub [1, 1, 1, 1, 1, 0, 1, 0, 0] vizardref18_Routes.body) := by kernel_rfl
  rw [e]
  refine piece_sound (loopN_sound (keepT_sound [0, 3, 4, 5, 6] [] (fun i => if i = 0 then [3] else []) (wC_sound vizardref18_Routes.hΓ Try.hm vizardref18_Routes.W1.plan _ vizardref18_Routes.W1.pok))) ?_
  intro Q E fr H h
  unfold vizardref18_Routes.W1.t at h
  obtain ⟨hl, h⟩ := lenIs_elim h
  obtain ⟨l0, l1, l2, q0, h⟩ := slSl_elim h
  obtain ⟨out0, out1, out2, q3, h⟩ := slSl_elim h
  obtain ⟨b0, b1, b2, q4, h⟩ := slSl_elim h
  obtain ⟨joins0, q5, h⟩ := slB_elim h
  obtain ⟨i0, q6, h⟩ := slI_elim h
  obtain ⟨m, h⟩ := h.h
  refine ⟨(mkF 59 [(0, (.slice l0 l1 l2)), (3, (.slice out0 out1 out2)), (4, (.slice b0 b1 b2)), (5, (.bool joins0)), (6, (.int .i64 i0))]), fun a ha => ha.mk (Nat.le_of_eq hl.symm) (List.forall_mem_cons.2 ⟨q0, List.forall_mem_cons.2 ⟨q3, List.forall_mem_cons.2 ⟨q4, List.forall_mem_cons.2 ⟨q5, List.forall_mem_cons.2 ⟨q6, fun _ h => nomatch h⟩⟩⟩⟩⟩), m, ?_⟩
  have e := loopS_eq (B := (fun (RR : Option Addr × Nat × Nat × Bool × Int → Heap → Prop) (s : Option Addr × Nat × Nat × Bool × Int) (H : Heap) => vizardref18_Routes.W1.vc l0 l1 l2 s.1 s.2.1 s.2.2.1 b0 b1 b2 s.2.2.2.1 s.2.2.2.2 (fun y3_0 y3_1 y3_2 H => Q (.exit 0) (mkF 59 [(3, (.slice y3_0 y3_1 y3_2))]) H) (fun out0 out1 out2 joins0 i0 H => RR (out0, out1, out2, joins0, i0) H) E H)) (A := keepT [0, 3, 4, 5, 6] [] (fun i => if i = 0 then [3] else []) (wC Try.prog vizardref18_Routes.Γ vizardref18_Routes.W1.plan (sub [1, 1, 1, 1, 1, 0, 1, 0, 0] vizardref18_Routes.body))) (m := (fun (s : Option Addr × Nat × Nat × Bool × Int) => (mkF 59 [(0, (.slice l0 l1 l2)), (3, (.slice s.1 s.2.1 s.2.2.1)), (4, (.slice b0 b1 b2)), (5, (.bool s.2.2.2.1)), (6, (.int .i64 s.2.2.2.2))]))) (Q := Q) (E := E) (fun RR s H => vizardref18_Routes.W1.eq l0 l1 l2 b0 b1 b2 Q E RR s H) m (out0, out1, out2, joins0, i0) H
  exact cast e h
def vizardref18_Routes.J3.t : CT := fun Q E fr H => lenIs 59 fr (slSl fr 3 fun out0 out1 out2 => vizardref18_Routes.J3 out0 out1 out2 (fun y2_0 y2_1 y2_2 H => Q .ret (mkF 59 [(2, (.slice y2_0 y2_1 y2_2))]) H) E H)
noncomputable def vizardref18_Routes.J3.plan : Plan := .go
theorem vizardref18_Routes.J3.pok : PlanOk Try.prog vizardref18_Routes.J3.plan (sub [1, 1, 1, 1, 1, 1, 1] vizardref18_Routes.body) := by
  have e : PlanOk Try.prog vizardref18_Routes.J3.plan (sub [1, 1, 1, 1, 1, 1, 1] vizardref18_Routes.body) = (True) := by kernel_rfl
  exact e.mpr trivial
theorem vizardref18_Routes.J3.eq (out0 : Option Addr) (out1 : Nat) (out2 : Nat) (Q : Ex → Fr → Heap → Prop) (E : Value → Heap → Prop) (H : Heap) :
    vizardref18_Routes.J3.vc out0 out1 out2 (fun y2_0 y2_1 y2_2 H => Q .ret (mkF 59 [(2, (.slice y2_0 y2_1 y2_2))]) H) E H = keepT [] [2] (fun i => []) (wC Try.prog vizardref18_Routes.Γ vizardref18_Routes.J3.plan (sub [1, 1, 1, 1, 1, 1, 1] vizardref18_Routes.body)) Q E (mkF 59 [(3, (.slice out0 out1 out2))]) H := by
  kernel_rfl
theorem vizardref18_Routes.J3.ok : SoundCode Try.prog (sub [1, 1, 1, 1, 1, 1, 1] vizardref18_Routes.body) vizardref18_Routes.J3.t := by
  refine piece_sound (keepT_sound [] [2] (fun i => []) (wC_sound vizardref18_Routes.hΓ Try.hm vizardref18_Routes.J3.plan _ vizardref18_Routes.J3.pok)) ?_
  intro Q E fr H h
  unfold vizardref18_Routes.J3.t at h
  obtain ⟨hl, h⟩ := lenIs_elim h
  obtain ⟨out0, out1, out2, q3, h⟩ := slSl_elim h
  refine ⟨(mkF 59 [(3, (.slice out0 out1 out2))]), fun a ha => ha.mk (Nat.le_of_eq hl.symm) (List.forall_mem_cons.2 ⟨q3, fun _ h => nomatch h⟩), ?_⟩
  have e := vizardref18_Routes.J3.eq out0 out1 out2 Q E H
  rw [← e]
  exact h.h
noncomputable def vizardref18_Routes.plan : Plan := .seq (.go) (.seq (.go) (.seq (.go) (.seq (.go) (.seq (.go) (.seq (.seq (.go) (.block (.use vizardref18_Routes.W1.t))) (.seq (.go) (.use vizardref18_Routes.J3.t)))))))
theorem vizardref18_Routes.pok : PlanOk Try.prog vizardref18_Routes.plan vizardref18_Routes.body := by
  have e : PlanOk Try.prog vizardref18_Routes.plan vizardref18_Routes.body = ((True) ∧ ((True) ∧ ((True) ∧ ((True) ∧ ((True) ∧ (((True) ∧ (SoundCode Try.prog (sub [1, 1, 1, 1, 1, 0, 1, 0] vizardref18_Routes.body) vizardref18_Routes.W1.t)) ∧ ((True) ∧ (SoundCode Try.prog (sub [1, 1, 1, 1, 1, 1, 1] vizardref18_Routes.body) vizardref18_Routes.J3.t)))))))) := by kernel_rfl
  exact e.mpr ⟨trivial, ⟨trivial, ⟨trivial, ⟨trivial, ⟨trivial, ⟨⟨trivial, vizardref18_Routes.W1.ok⟩, ⟨trivial, vizardref18_Routes.J3.ok⟩⟩⟩⟩⟩⟩⟩
theorem vizardref18_Routes.eq (l0 : Option Addr) (l1 : Nat) (l2 : Nat) (K : Value → Heap → Prop) (E : Value → Heap → Prop) (H : Heap) :
    fnT Try.prog Try.f12 (wC Try.prog vizardref18_Routes.Γ vizardref18_Routes.plan vizardref18_Routes.body) [(.slice l0 l1 l2)] K E H = vizardref18_Routes.vc l0 l1 l2 (fun r0_0 r0_1 r0_2 H => K (.slice r0_0 r0_1 r0_2) H) E H := by
  kernel_rfl
theorem vizardref18_Routes.Fe {args : List Value} {K E : Value → Heap → Prop} {H : Heap} (h : vizardref18_Routes.F args K E H) : ∃ l0 l1 l2, args = [(.slice l0 l1 l2)] ∧ vizardref18_Routes.c l0 l1 l2 (fun r0_0 r0_1 r0_2 H => K (.slice r0_0 r0_1 r0_2) H) E H := by
  unfold vizardref18_Routes.F at h
  split at h
  · exact ⟨_, _, _, rfl, h⟩
  · exact h.elim
theorem vizardref18_Routes.ok : CalleeOk Try.prog 12 vizardref18_Routes.F :=
  callee_ok vizardref18_Routes.hΓ (fn := Try.f12) (c := vizardref18_Routes.body) (T := wC Try.prog vizardref18_Routes.Γ vizardref18_Routes.plan vizardref18_Routes.body) (by kernel_rfl) (by kernel_rfl) (by kernel_rfl) (wC_sound vizardref18_Routes.hΓ Try.hm vizardref18_Routes.plan _ vizardref18_Routes.pok) fun _ K E H h => by
    obtain ⟨z0, z1, z2, e, h⟩ := vizardref18_Routes.Fe h
    subst e
    have h2 : vizardref18_Routes.vc z0 z1 z2 (fun r0_0 r0_1 r0_2 H => ∃ H', Heap.Le H' H ∧ K (.slice r0_0 r0_1 r0_2) H') E H := h.h
    rw [vizardref18_Routes.eq z0 z1 z2 (Fg K) E H]
    exact h2

/-! vizard/vizardlaw18.PolicyRoutes -/
noncomputable def vizardlaw18_PolicyRoutes.body : Code := Try.f3.body.getD .skip
def vizardlaw18_PolicyRoutes.J2.vc (a0 : Option Addr) (a1 : Nat) (a2 : Nat) (b0 : Option Addr) (b1 : Nat) (b2 : Nat) (i0 : Int) (x0 : Bool) (Kn : Heap → Prop) (Kr : Bool → Heap → Prop) (E : Value → Heap → Prop) (h0 : Heap) : Prop :=
  (if x0 = true then
  Kr false h0
  else
  Kn h0)
structure vizardlaw18_PolicyRoutes.J2 (a0 : Option Addr) (a1 : Nat) (a2 : Nat) (b0 : Option Addr) (b1 : Nat) (b2 : Nat) (i0 : Int) (x0 : Bool) (Kn : Heap → Prop) (Kr : Bool → Heap → Prop) (E : Value → Heap → Prop) (H : Heap) : Prop where
  h : vizardlaw18_PolicyRoutes.J2.vc a0 a1 a2 b0 b1 b2 i0 x0 Kn Kr E H
def vizardlaw18_PolicyRoutes.J3.vc (a0 : Option Addr) (a1 : Nat) (a2 : Nat) (b0 : Option Addr) (b1 : Nat) (b2 : Nat) (i0 : Int) (Kn : Int → Heap → Prop) (E : Value → Heap → Prop) (h0 : Heap) : Prop :=
  Kn (IntKind.i64.wrap (i0 + 1)) h0
structure vizardlaw18_PolicyRoutes.J3 (a0 : Option Addr) (a1 : Nat) (a2 : Nat) (b0 : Option Addr) (b1 : Nat) (b2 : Nat) (i0 : Int) (Kn : Int → Heap → Prop) (E : Value → Heap → Prop) (H : Heap) : Prop where
  h : vizardlaw18_PolicyRoutes.J3.vc a0 a1 a2 b0 b1 b2 i0 Kn E H
def vizardlaw18_PolicyRoutes.W1.vc (a0 : Option Addr) (a1 : Nat) (a2 : Nat) (b0 : Option Addr) (b1 : Nat) (b2 : Nat) (i0 : Int) (Kx0 : Heap → Prop) (Kr : Bool → Heap → Prop) (RR : Int → Heap → Prop) (E : Value → Heap → Prop) (h0 : Heap) : Prop :=
  (if (decide (i0 < (a1 : Int))) = true then
  nilc a0 fun a3 => (0 : Int) ≤ i0 ∧ i0 < (a1 : Int) ∧
  ldI h0 .u32 ((a3.add (i0.toNat * 3)).add 0) fun x0 =>
  nilc b0 fun a4 => (0 : Int) ≤ i0 ∧ i0 < (b1 : Int) ∧
  ldI h0 .u32 ((a4.add (i0.toNat * 3)).add 0) fun x1 =>
  (if (x0 != x1) = true then
  vizardlaw18_PolicyRoutes.J2 a0 a1 a2 b0 b1 b2 i0 true (fun h1 =>
  vizardlaw18_PolicyRoutes.J3 a0 a1 a2 b0 b1 b2 i0 RR E h1) Kr E h0
  else
  nilc a0 fun a5 => (0 : Int) ≤ i0 ∧ i0 < (a1 : Int) ∧
  ldI h0 .u32 ((a5.add (i0.toNat * 3)).add 1) fun x3 =>
  nilc b0 fun a6 => (0 : Int) ≤ i0 ∧ i0 < (b1 : Int) ∧
  ldI h0 .u32 ((a6.add (i0.toNat * 3)).add 1) fun x4 =>
  (if (x3 != x4) = true then
  vizardlaw18_PolicyRoutes.J2 a0 a1 a2 b0 b1 b2 i0 true (fun h4 =>
  vizardlaw18_PolicyRoutes.J3 a0 a1 a2 b0 b1 b2 i0 RR E h4) Kr E h0
  else
  nilc a0 fun a7 => (0 : Int) ≤ i0 ∧ i0 < (a1 : Int) ∧
  ldI h0 .i64 ((a7.add (i0.toNat * 3)).add 2) fun x6 =>
  nilc b0 fun a8 => (0 : Int) ≤ i0 ∧ i0 < (b1 : Int) ∧
  ldI h0 .i64 ((a8.add (i0.toNat * 3)).add 2) fun x7 =>
  vizardlaw18_PolicyRoutes.J2 a0 a1 a2 b0 b1 b2 i0 (x6 != x7) (fun h7 =>
  vizardlaw18_PolicyRoutes.J3 a0 a1 a2 b0 b1 b2 i0 RR E h7) Kr E h0))
  else
  Kx0 h0)
structure vizardlaw18_PolicyRoutes.W1 (a0 : Option Addr) (a1 : Nat) (a2 : Nat) (b0 : Option Addr) (b1 : Nat) (b2 : Nat) (i0 : Int) (Kx0 : Heap → Prop) (Kr : Bool → Heap → Prop) (E : Value → Heap → Prop) (H : Heap) : Prop where
  h : Loop (fun (RR : Int → Heap → Prop) (s : Int) (H : Heap) => vizardlaw18_PolicyRoutes.W1.vc a0 a1 a2 b0 b1 b2 s Kx0 Kr (fun i0 H => RR (i0) H) E H) (i0) H
def vizardlaw18_PolicyRoutes.vc (l0 : Option Addr) (l1 : Nat) (l2 : Nat) (K : Bool → Heap → Prop) (E : Value → Heap → Prop) (h0 : Heap) : Prop :=
  vizardlaw18_own.c l0 l1 l2 (fun x0 x1 x2 h1 =>
  policy_Routes.c x0 x1 x2 (fun x3 x4 x5 h2 =>
  vizardref18_Routes.c l0 l1 l2 (fun x6 x7 x8 h3 =>
  (if ((x4 : Int) != (x7 : Int)) = true then
  K false h3
  else
  vizardlaw18_PolicyRoutes.W1 x3 x4 x5 x6 x7 x8 0 (fun h4 =>
  K true h4) K E h3)) E h2) E h1) E h0
structure vizardlaw18_PolicyRoutes.c (l0 : Option Addr) (l1 : Nat) (l2 : Nat) (K : Bool → Heap → Prop) (E : Value → Heap → Prop) (H : Heap) : Prop where
  h : vizardlaw18_PolicyRoutes.vc l0 l1 l2 (fun r0_0 H => ∃ H', Heap.Le H' H ∧ K r0_0 H') E H
def vizardlaw18_PolicyRoutes.F : FT := fun args K E H => match args with
  | [(.slice l0 l1 l2)] => vizardlaw18_PolicyRoutes.c l0 l1 l2 (fun r0_0 H => K (.bool r0_0) H) E H
  | _ => False
noncomputable def vizardlaw18_PolicyRoutes.Γ : FuncId → Option FT := Γof [(10, policy_Routes.F), (11, vizardlaw18_own.F), (12, vizardref18_Routes.F)]
theorem vizardlaw18_PolicyRoutes.hΓ : ∀ f F, vizardlaw18_PolicyRoutes.Γ f = some F → CalleeOk Try.prog f F := Γof_ok (List.forall_mem_cons.2 ⟨policy_Routes.ok, List.forall_mem_cons.2 ⟨vizardlaw18_own.ok, List.forall_mem_cons.2 ⟨vizardref18_Routes.ok, fun _ h => nomatch h⟩⟩⟩)
def vizardlaw18_PolicyRoutes.J2.t : CT := fun Q E fr H => lenIs 59 fr (slSl fr 3 fun a0 a1 a2 => slSl fr 4 fun b0 b1 b2 => slI fr 5 .i64 fun i0 => slB fr 58 fun x0 => vizardlaw18_PolicyRoutes.J2 a0 a1 a2 b0 b1 b2 i0 x0 (fun  H => Q .normal (mkF 59 [(3, (.slice a0 a1 a2)), (4, (.slice b0 b1 b2)), (5, (.int .i64 i0))]) H) (fun y2_0 H => Q .ret (mkF 59 [(2, (.bool y2_0))]) H) E H)
noncomputable def vizardlaw18_PolicyRoutes.J2.plan : Plan := .go
theorem vizardlaw18_PolicyRoutes.J2.pok : PlanOk Try.prog vizardlaw18_PolicyRoutes.J2.plan (sub [1, 1, 1, 0, 1, 0, 0, 1, 0, 0, 1] vizardlaw18_PolicyRoutes.body) := by
  have e : PlanOk Try.prog vizardlaw18_PolicyRoutes.J2.plan (sub [1, 1, 1, 0, 1, 0, 0, 1, 0, 0, 1] vizardlaw18_PolicyRoutes.body) = (True) := by kernel_rfl
  exact e.mpr trivial
theorem vizardlaw18_PolicyRoutes.J2.eq (a0 : Option Addr) (a1 : Nat) (a2 : Nat) (b0 : Option Addr) (b1 : Nat) (b2 : Nat) (i0 : Int) (x0 : Bool) (Q : Ex → Fr → Heap → Prop) (E : Value → Heap → Prop) (H : Heap) :
    vizardlaw18_PolicyRoutes.J2.vc a0 a1 a2 b0 b1 b2 i0 x0 (fun  H => Q .normal (mkF 59 [(3, (.slice a0 a1 a2)), (4, (.slice b0 b1 b2)), (5, (.int .i64 i0))]) H) (fun y2_0 H => Q .ret (mkF 59 [(2, (.bool y2_0))]) H) E H = keepT [3, 4, 5] [2] (fun i => []) (wC Try.prog vizardlaw18_PolicyRoutes.Γ vizardlaw18_PolicyRoutes.J2.plan (sub [1, 1, 1, 0, 1, 0, 0, 1, 0, 0, 1] vizardlaw18_PolicyRoutes.body)) Q E (mkF 59 [(3, (.slice a0 a1 a2)), (4, (.slice b0 b1 b2)), (5, (.int .i64 i0)), (58, (.bool x0))]) H := by
  kernel_rfl
theorem vizardlaw18_PolicyRoutes.J2.ok : SoundCode Try.prog (sub [1, 1, 1, 0, 1, 0, 0, 1, 0, 0, 1] vizardlaw18_PolicyRoutes.body) vizardlaw18_PolicyRoutes.J2.t := by
  refine piece_sound (keepT_sound [3, 4, 5] [2] (fun i => []) (wC_sound vizardlaw18_PolicyRoutes.hΓ Try.hm vizardlaw18_PolicyRoutes.J2.plan _ vizardlaw18_PolicyRoutes.J2.pok)) ?_
  intro Q E fr H h
  unfold vizardlaw18_PolicyRoutes.J2.t at h
  obtain ⟨hl, h⟩ := lenIs_elim h
  obtain ⟨a0, a1, a2, q3, h⟩ := slSl_elim h
  obtain ⟨b0, b1, b2, q4, h⟩ := slSl_elim h
  obtain ⟨i0, q5, h⟩ := slI_elim h
  obtain ⟨x0, q58, h⟩ := slB_elim h
  refine ⟨(mkF 59 [(3, (.slice a0 a1 a2)), (4, (.slice b0 b1 b2)), (5, (.int .i64 i0)), (58, (.bool x0))]), fun a ha => ha.mk (Nat.le_of_eq hl.symm) (List.forall_mem_cons.2 ⟨q3, List.forall_mem_cons.2 ⟨q4, List.forall_mem_cons.2 ⟨q5, List.forall_mem_cons.2 ⟨q58, fun _ h => nomatch h⟩⟩⟩⟩), ?_⟩
  have e := vizardlaw18_PolicyRoutes.J2.eq a0 a1 a2 b0 b1 b2 i0 x0 Q E H
  rw [← e]
  exact h.h
def vizardlaw18_PolicyRoutes.J3.t : CT := fun Q E fr H => lenIs 59 fr (slSl fr 3 fun a0 a1 a2 => slSl fr 4 fun b0 b1 b2 => slI fr 5 .i64 fun i0 => vizardlaw18_PolicyRoutes.J3 a0 a1 a2 b0 b1 b2 i0 (fun y5_0 H => Q .normal (mkF 59 [(3, (.slice a0 a1 a2)), (4, (.slice b0 b1 b2)), (5, (.int .i64 y5_0))]) H) E H)
noncomputable def vizardlaw18_PolicyRoutes.J3.plan : Plan := .go
theorem vizardlaw18_PolicyRoutes.J3.pok : PlanOk Try.prog vizardlaw18_PolicyRoutes.J3.plan (sub [1, 1, 1, 0, 1, 0, 0, 1, 1] vizardlaw18_PolicyRoutes.body) := by
  have e : PlanOk Try.prog vizardlaw18_PolicyRoutes.J3.plan (sub [1, 1, 1, 0, 1, 0, 0, 1, 1] vizardlaw18_PolicyRoutes.body) = (True) := by kernel_rfl
  exact e.mpr trivial
theorem vizardlaw18_PolicyRoutes.J3.eq (a0 : Option Addr) (a1 : Nat) (a2 : Nat) (b0 : Option Addr) (b1 : Nat) (b2 : Nat) (i0 : Int) (Q : Ex → Fr → Heap → Prop) (E : Value → Heap → Prop) (H : Heap) :
    vizardlaw18_PolicyRoutes.J3.vc a0 a1 a2 b0 b1 b2 i0 (fun y5_0 H => Q .normal (mkF 59 [(3, (.slice a0 a1 a2)), (4, (.slice b0 b1 b2)), (5, (.int .i64 y5_0))]) H) E H = keepT [3, 4, 5] [] (fun i => []) (wC Try.prog vizardlaw18_PolicyRoutes.Γ vizardlaw18_PolicyRoutes.J3.plan (sub [1, 1, 1, 0, 1, 0, 0, 1, 1] vizardlaw18_PolicyRoutes.body)) Q E (mkF 59 [(3, (.slice a0 a1 a2)), (4, (.slice b0 b1 b2)), (5, (.int .i64 i0))]) H := by
  kernel_rfl
theorem vizardlaw18_PolicyRoutes.J3.ok : SoundCode Try.prog (sub [1, 1, 1, 0, 1, 0, 0, 1, 1] vizardlaw18_PolicyRoutes.body) vizardlaw18_PolicyRoutes.J3.t := by
  refine piece_sound (keepT_sound [3, 4, 5] [] (fun i => []) (wC_sound vizardlaw18_PolicyRoutes.hΓ Try.hm vizardlaw18_PolicyRoutes.J3.plan _ vizardlaw18_PolicyRoutes.J3.pok)) ?_
  intro Q E fr H h
  unfold vizardlaw18_PolicyRoutes.J3.t at h
  obtain ⟨hl, h⟩ := lenIs_elim h
  obtain ⟨a0, a1, a2, q3, h⟩ := slSl_elim h
  obtain ⟨b0, b1, b2, q4, h⟩ := slSl_elim h
  obtain ⟨i0, q5, h⟩ := slI_elim h
  refine ⟨(mkF 59 [(3, (.slice a0 a1 a2)), (4, (.slice b0 b1 b2)), (5, (.int .i64 i0))]), fun a ha => ha.mk (Nat.le_of_eq hl.symm) (List.forall_mem_cons.2 ⟨q3, List.forall_mem_cons.2 ⟨q4, List.forall_mem_cons.2 ⟨q5, fun _ h => nomatch h⟩⟩⟩), ?_⟩
  have e := vizardlaw18_PolicyRoutes.J3.eq a0 a1 a2 b0 b1 b2 i0 Q E H
  rw [← e]
  exact h.h
def vizardlaw18_PolicyRoutes.W1.t : CT := fun Q E fr H => lenIs 59 fr (slSl fr 3 fun a0 a1 a2 => slSl fr 4 fun b0 b1 b2 => slI fr 5 .i64 fun i0 => vizardlaw18_PolicyRoutes.W1 a0 a1 a2 b0 b1 b2 i0 (fun  H => Q (.exit 0) (mkF 59 []) H) (fun y2_0 H => Q .ret (mkF 59 [(2, (.bool y2_0))]) H) E H)
noncomputable def vizardlaw18_PolicyRoutes.W1.plan : Plan := .seq (.go) (.seq (.block (.seq (.draw ⟨[0, 1, 2, 3, 4, 5, 6, 7, 8, 9, 10, 11, 12, 13, 14, 15, 16, 17, 18, 19, 20, 21, 22, 23, 24, 25, 26, 27, 28, 29, 30, 31, 32, 33, 34, 35, 36], (dl [(0, []), (1, []), (2, []), (3, []), (4, []), (5, []), (6, []), (7, []), (8, []), (9, []), (10, []), (11, []), (12, []), (13, []), (14, []), (15, []), (16, []), (17, []), (18, []), (19, []), (20, []), (21, []), (22, []), (23, []), (24, []), (25, []), (26, []), (27, []), (28, []), (29, []), (30, []), (31, []), (32, []), (33, []), (34, []), (35, []), (36, [])] .fin), []⟩) (.use vizardlaw18_PolicyRoutes.J2.t))) (.use vizardlaw18_PolicyRoutes.J3.t))
theorem vizardlaw18_PolicyRoutes.W1.pok : PlanOk Try.prog vizardlaw18_PolicyRoutes.W1.plan (sub [1, 1, 1, 0, 1, 0, 0] vizardlaw18_PolicyRoutes.body) := by
  have e : PlanOk Try.prog vizardlaw18_PolicyRoutes.W1.plan (sub [1, 1, 1, 0, 1, 0, 0] vizardlaw18_PolicyRoutes.body) = ((True) ∧ (((True) ∧ (SoundCode Try.prog (sub [1, 1, 1, 0, 1, 0, 0, 1, 0, 0, 1] vizardlaw18_PolicyRoutes.body) vizardlaw18_PolicyRoutes.J2.t)) ∧ (SoundCode Try.prog (sub [1, 1, 1, 0, 1, 0, 0, 1, 1] vizardlaw18_PolicyRoutes.body) vizardlaw18_PolicyRoutes.J3.t))) := by kernel_rfl
  exact e.mpr ⟨trivial, ⟨⟨trivial, vizardlaw18_PolicyRoutes.J2.ok⟩, vizardlaw18_PolicyRoutes.J3.ok⟩⟩
theorem vizardlaw18_PolicyRoutes.W1.eq (a0 : Option Addr) (a1 : Nat) (a2 : Nat) (b0 : Option Addr) (b1 : Nat) (b2 : Nat) (Q : Ex → Fr → Heap → Prop) (E : Value → Heap → Prop) (RR : Fr → Heap → Prop) (s : Int) (H : Heap) :
    (fun (RR : Int → Heap → Prop) (s : Int) (H : Heap) => vizardlaw18_PolicyRoutes.W1.vc a0 a1 a2 b0 b1 b2 s (fun  H => Q (.exit 0) (mkF 59 []) H) (fun y2_0 H => Q .ret (mkF 59 [(2, (.bool y2_0))]) H) (fun i0 H => RR (i0) H) E H) (fun s' H' => RR ((fun (s : Int) => (mkF 59 [(3, (.slice a0 a1 a2)), (4, (.slice b0 b1 b2)), (5, (.int .i64 s))])) s') H') s H = keepT [3, 4, 5] [2] (fun i => if i = 0 then [] else []) (wC Try.prog vizardlaw18_PolicyRoutes.Γ vizardlaw18_PolicyRoutes.W1.plan (sub [1, 1, 1, 0, 1, 0, 0] vizardlaw18_PolicyRoutes.body)) (fun e fr' H' => match e with | .normal => RR fr' H' | .exit id => Q (.exit id) fr' H' | .ret => Q .ret fr' H') E ((fun (s : Int) => (mkF 59 [(3, (.slice a0 a1 a2)), (4, (.slice b0 b1 b2)), (5, (.int .i64 s))])) s) H := by
  kernel_rfl
theorem vizardlaw18_PolicyRoutes.W1.ok : SoundCode Try.prog (sub [1, 1, 1, 0, 1, 0] vizardlaw18_PolicyRoutes.body) vizardlaw18_PolicyRoutes.W1.t := by
  have e : (sub [1, 1, 1, 0, 1, 0] vizardlaw18_PolicyRoutes.body) = .loop (sub [1, 1, 1, 0, 1, 0, 0] vizardlaw18_PolicyRoutes.body) := by kernel_rfl
  rw [e]
  refine piece_sound (loopN_sound (keepT_sound [3, 4, 5] [2] (fun i => if i = 0 then [] else []) (wC_sound vizardlaw18_PolicyRoutes.hΓ Try.hm vizardlaw18_PolicyRoutes.W1.plan _ vizardlaw18_PolicyRoutes.W1.pok))) ?_
  intro Q E fr H h
  unfold vizardlaw18_PolicyRoutes.W1.t at h
  obtain ⟨hl, h⟩ := lenIs_elim h
  obtain ⟨a0, a1, a2, q3, h⟩ := slSl_elim h
  obtain ⟨b0, b1, b2, q4, h⟩ := slSl_elim h
  obtain ⟨i0, q5, h⟩ := slI_elim h
  obtain ⟨m, h⟩ := h.h
  refine ⟨(mkF 59 [(3, (.slice a0 a1 a2)), (4, (.slice b0 b1 b2)), (5, (.int .i64 i0))]), fun a ha => ha.mk (Nat.le_of_eq hl.symm) (List.forall_mem_cons.2 ⟨q3, List.forall_mem_cons.2 ⟨q4, List.forall_mem_cons.2 ⟨q5, fun _ h => nomatch h⟩⟩⟩), m, ?_⟩
  have e := loopS_eq (B := (fun (RR : Int → Heap → Prop) (s : Int) (H : Heap) => vizardlaw18_PolicyRoutes.W1.vc a0 a1 a2 b0 b1 b2 s (fun  H => Q (.exit 0) (mkF 59 []) H) (fun y2_0 H => Q .ret (mkF 59 [(2, (.bool y2_0))]) H) (fun i0 H => RR (i0) H) E H)) (A := keepT [3, 4, 5] [2] (fun i => if i = 0 then [] else []) (wC Try.prog vizardlaw18_PolicyRoutes.Γ vizardlaw18_PolicyRoutes.W1.plan (sub [1, 1, 1, 0, 1, 0, 0] vizardlaw18_PolicyRoutes.body))) (m := (fun (s : Int) => (mkF 59 [(3, (.slice a0 a1 a2)), (4, (.slice b0 b1 b2)), (5, (.int .i64 s))]))) (Q := Q) (E := E) (fun RR s H => vizardlaw18_PolicyRoutes.W1.eq a0 a1 a2 b0 b1 b2 Q E RR s H) m (i0) H
  exact cast e h
noncomputable def vizardlaw18_PolicyRoutes.plan : Plan := .seq (.go) (.seq (.go) (.seq (.go) (.seq (.seq (.go) (.block (.use vizardlaw18_PolicyRoutes.W1.t))) (.go))))
theorem vizardlaw18_PolicyRoutes.pok : PlanOk Try.prog vizardlaw18_PolicyRoutes.plan vizardlaw18_PolicyRoutes.body := by
  have e : PlanOk Try.prog vizardlaw18_PolicyRoutes.plan vizardlaw18_PolicyRoutes.body = ((True) ∧ ((True) ∧ ((True) ∧ (((True) ∧ (SoundCode Try.prog (sub [1, 1, 1, 0, 1, 0] vizardlaw18_PolicyRoutes.body) vizardlaw18_PolicyRoutes.W1.t)) ∧ (True))))) := by kernel_rfl
  exact e.mpr ⟨trivial, ⟨trivial, ⟨trivial, ⟨⟨trivial, vizardlaw18_PolicyRoutes.W1.ok⟩, trivial⟩⟩⟩⟩
theorem vizardlaw18_PolicyRoutes.eq (l0 : Option Addr) (l1 : Nat) (l2 : Nat) (K : Value → Heap → Prop) (E : Value → Heap → Prop) (H : Heap) :
    fnT Try.prog Try.f3 (wC Try.prog vizardlaw18_PolicyRoutes.Γ vizardlaw18_PolicyRoutes.plan vizardlaw18_PolicyRoutes.body) [(.slice l0 l1 l2)] K E H = vizardlaw18_PolicyRoutes.vc l0 l1 l2 (fun r0_0 H => K (.bool r0_0) H) E H := by
  kernel_rfl
theorem vizardlaw18_PolicyRoutes.Fe {args : List Value} {K E : Value → Heap → Prop} {H : Heap} (h : vizardlaw18_PolicyRoutes.F args K E H) : ∃ l0 l1 l2, args = [(.slice l0 l1 l2)] ∧ vizardlaw18_PolicyRoutes.c l0 l1 l2 (fun r0_0 H => K (.bool r0_0) H) E H := by
  unfold vizardlaw18_PolicyRoutes.F at h
  split at h
  · exact ⟨_, _, _, rfl, h⟩
  · exact h.elim
theorem vizardlaw18_PolicyRoutes.ok : CalleeOk Try.prog 3 vizardlaw18_PolicyRoutes.F :=
  callee_ok vizardlaw18_PolicyRoutes.hΓ (fn := Try.f3) (c := vizardlaw18_PolicyRoutes.body) (T := wC Try.prog vizardlaw18_PolicyRoutes.Γ vizardlaw18_PolicyRoutes.plan vizardlaw18_PolicyRoutes.body) (by kernel_rfl) (by kernel_rfl) (by kernel_rfl) (wC_sound vizardlaw18_PolicyRoutes.hΓ Try.hm vizardlaw18_PolicyRoutes.plan _ vizardlaw18_PolicyRoutes.pok) fun _ K E H h => by
    obtain ⟨z0, z1, z2, e, h⟩ := vizardlaw18_PolicyRoutes.Fe h
    subst e
    have h2 : vizardlaw18_PolicyRoutes.vc z0 z1 z2 (fun r0_0 H => ∃ H', Heap.Le H' H ∧ K (.bool r0_0) H') E H := h.h
    rw [vizardlaw18_PolicyRoutes.eq z0 z1 z2 (Fg K) E H]
    exact h2
end Go.Sh
