/- PRINTED by a program (sh.py): what the walk over each function asks, and that it asks just that. -/
import Derived.Test.YtjbfpeeigjjbdaaShP
namespace Go.Sh
open Go.Proofs
set_option linter.unusedVariables false
set_option maxRecDepth 8000
/-! vizard/prefix.rest -/
noncomputable def prefix_rest.body : Code := Try.f48.body.getD .skip
def prefix_rest.vc (n0 : Int) (K : Int → Heap → Prop) (E : Value → Heap → Prop) (h0 : Heap) : Prop :=
  (0 : Int) ≤ (IntKind.i64.wrap (32 - n0)) ∧
  K (IntKind.u32.wrap (IntKind.u64.wrap ((shlI .u64 1 (IntKind.i64.wrap (32 - n0))) - 1))) h0
structure prefix_rest.c (n0 : Int) (K : Int → Heap → Prop) (E : Value → Heap → Prop) (H : Heap) : Prop where
  h : prefix_rest.vc n0 (fun r0_0 H => ∃ H', Heap.Le H' H ∧ K r0_0 H') E H
def prefix_rest.F : FT := fun args K E H => match args with
  | [(.int .i64 n0)] => prefix_rest.c n0 (fun r0_0 H => K (.int .u32 r0_0) H) E H
  | _ => False
noncomputable def prefix_rest.Γ : FuncId → Option FT := Γof []
theorem prefix_rest.hΓ : ∀ f F, prefix_rest.Γ f = some F → CalleeOk Try.prog f F := Γof_ok (fun _ h => nomatch h)
noncomputable def prefix_rest.plan : Plan := .go
theorem prefix_rest.pok : PlanOk Try.prog prefix_rest.plan prefix_rest.body := by
  have e : PlanOk Try.prog prefix_rest.plan prefix_rest.body = (True) := by kernel_rfl
  exact e.mpr trivial
theorem prefix_rest.eq (n0 : Int) (K : Value → Heap → Prop) (E : Value → Heap → Prop) (H : Heap) :
    fnT Try.prog Try.f48 (wC Try.prog prefix_rest.Γ prefix_rest.plan prefix_rest.body) [(.int .i64 n0)] K E H = prefix_rest.vc n0 (fun r0_0 H => K (.int .u32 r0_0) H) E H := by
  kernel_rfl
theorem prefix_rest.Fe {args : List Value} {K E : Value → Heap → Prop} {H : Heap} (h : prefix_rest.F args K E H) : ∃ n0, args = [(.int .i64 n0)] ∧ prefix_rest.c n0 (fun r0_0 H => K (.int .u32 r0_0) H) E H := by
  unfold prefix_rest.F at h
  split at h
  · exact ⟨_, rfl, h⟩
  · exact h.elim
theorem prefix_rest.ok : CalleeOk Try.prog 48 prefix_rest.F :=
  callee_ok prefix_rest.hΓ (fn := Try.f48) (c := prefix_rest.body) (T := wC Try.prog prefix_rest.Γ prefix_rest.plan prefix_rest.body) (by kernel_rfl) (by kernel_rfl) (by kernel_rfl) (wC_sound prefix_rest.hΓ Try.hm prefix_rest.plan _ prefix_rest.pok) fun _ K E H h => by
    obtain ⟨z0, e, h⟩ := prefix_rest.Fe h
    subst e
    have h2 : prefix_rest.vc z0 (fun r0_0 H => ∃ H', Heap.Le H' H ∧ K (.int .u32 r0_0) H') E H := h.h
    rw [prefix_rest.eq z0 (Fg K) E H]
    exact h2

/-! vizard/prefix.Check -/
noncomputable def prefix_Check.body : Code := Try.f15.body.getD .skip
def prefix_Check.vc (p0 : Int) (p1 : Int) (K : Bool → Heap → Prop) (E : Value → Heap → Prop) (h0 : Heap) : Prop :=
  newB (.cells #[(.int .u32 p0), (.int .i64 p1)] 24) (fun b0 h1 =>
  ldI h1 .i64 ((⟨b0, 0, none⟩ : Addr).add 1) fun x0 =>
  (if (decide (x0 ≥ 0)) = true then
  ldI h1 .i64 ((⟨b0, 0, none⟩ : Addr).add 1) fun x1 =>
  (if (decide (x1 ≤ 32)) = true then
  ldI h1 .u32 ((⟨b0, 0, none⟩ : Addr).add 0) fun x2 =>
  ldI h1 .i64 ((⟨b0, 0, none⟩ : Addr).add 1) fun x3 =>
  prefix_rest.c x3 (fun x4 h2 =>
  (ldI h2 .u32 ((⟨b0, 0, none⟩ : Addr).add 0) fun x5 =>
  eqv h2 h2 (some (.int .u32 x2)) (.int .u32 x5)) ∧
  K ((bits .and .u32 x2 x4) == 0) h2) E h1
  else
  True ∧
  K false h1)
  else
  True ∧
  K false h1)) h0
structure prefix_Check.c (p0 : Int) (p1 : Int) (K : Bool → Heap → Prop) (E : Value → Heap → Prop) (H : Heap) : Prop where
  h : prefix_Check.vc p0 p1 (fun r0_0 H => ∃ H', Heap.Le H' H ∧ K r0_0 H') E H
def prefix_Check.F : FT := fun args K E H => match args with
  | [(.agg ⟨[(.int .u32 p0), (.int .i64 p1)]⟩)] => prefix_Check.c p0 p1 (fun r0_0 H => K (.bool r0_0) H) E H
  | _ => False
noncomputable def prefix_Check.Γ : FuncId → Option FT := Γof [(48, prefix_rest.F)]
theorem prefix_Check.hΓ : ∀ f F, prefix_Check.Γ f = some F → CalleeOk Try.prog f F := Γof_ok (List.forall_mem_cons.2 ⟨prefix_rest.ok, fun _ h => nomatch h⟩)
noncomputable def prefix_Check.plan : Plan := .seq (.go) (.seq (.draw ⟨[0, 1, 2, 3, 4, 5, 6, 7, 8, 9, 10, 11, 12, 13, 14, 15, 16], (dl [(0, []), (1, []), (2, []), (3, []), (4, []), (5, []), (6, []), (7, []), (8, []), (9, []), (10, []), (11, []), (12, []), (13, [12, 8, 11, 7, 3, 6, 2, 5, 1, 4, 0]), (14, []), (15, []), (16, [])] .fin), [17]⟩) (.go))
theorem prefix_Check.pok : PlanOk Try.prog prefix_Check.plan prefix_Check.body := by
  have e : PlanOk Try.prog prefix_Check.plan prefix_Check.body = ((True) ∧ ((True) ∧ (True))) := by kernel_rfl
  exact e.mpr ⟨trivial, ⟨trivial, trivial⟩⟩
theorem prefix_Check.eq (p0 : Int) (p1 : Int) (K : Value → Heap → Prop) (E : Value → Heap → Prop) (H : Heap) :
    fnT Try.prog Try.f15 (wC Try.prog prefix_Check.Γ prefix_Check.plan prefix_Check.body) [(.agg #[(.int .u32 p0), (.int .i64 p1)])] K E H = prefix_Check.vc p0 p1 (fun r0_0 H => K (.bool r0_0) H) E H := by
  kernel_rfl
theorem prefix_Check.Fe {args : List Value} {K E : Value → Heap → Prop} {H : Heap} (h : prefix_Check.F args K E H) : ∃ p0 p1, args = [(.agg #[(.int .u32 p0), (.int .i64 p1)])] ∧ prefix_Check.c p0 p1 (fun r0_0 H => K (.bool r0_0) H) E H := by
  unfold prefix_Check.F at h
  split at h
  · exact ⟨_, _, rfl, h⟩
  · exact h.elim
theorem prefix_Check.ok : CalleeOk Try.prog 15 prefix_Check.F :=
  callee_ok prefix_Check.hΓ (fn := Try.f15) (c := prefix_Check.body) (T := wC Try.prog prefix_Check.Γ prefix_Check.plan prefix_Check.body) (by kernel_rfl) (by kernel_rfl) (by kernel_rfl) (wC_sound prefix_Check.hΓ Try.hm prefix_Check.plan _ prefix_Check.pok) fun _ K E H h => by
    obtain ⟨z0, z1, e, h⟩ := prefix_Check.Fe h
    subst e
    have h2 : prefix_Check.vc z0 z1 (fun r0_0 H => ∃ H', Heap.Le H' H ∧ K (.bool r0_0) H') E H := h.h
    rw [prefix_Check.eq z0 z1 (Fg K) E H]
    exact h2

/-! vizard/prefix.Ends -/
noncomputable def prefix_Ends.body : Code := Try.f13.body.getD .skip
def prefix_Ends.vc (p0 : Int) (p1 : Int) (K : Int → Int → Heap → Prop) (E : Value → Heap → Prop) (h0 : Heap) : Prop :=
  newB (.cells #[(.int .u32 p0), (.int .i64 p1)] 24) (fun b0 h1 =>
  ldI h1 .u32 ((⟨b0, 0, none⟩ : Addr).add 0) fun x0 => ldI h1 .i64 ((⟨b0, 0, none⟩ : Addr).add 1) fun x1 =>
  prefix_Check.c x0 x1 (fun x2 h2 =>
  (if (!x2) = true then
  K 0 0 h2
  else
  ldI h2 .u32 ((⟨b0, 0, none⟩ : Addr).add 0) fun x3 =>
  ldI h2 .u32 ((⟨b0, 0, none⟩ : Addr).add 0) fun x4 =>
  ldI h2 .i64 ((⟨b0, 0, none⟩ : Addr).add 1) fun x5 =>
  prefix_rest.c x5 (fun x6 h3 =>
  (ldI h3 .u32 ((⟨b0, 0, none⟩ : Addr).add 0) fun x7 =>
  eqv h3 h3 (some (.int .u32 x4)) (.int .u32 x7)) ∧
  (ldI h3 .u32 ((⟨b0, 0, none⟩ : Addr).add 0) fun x8 =>
  eqv h3 h3 (some (.int .u32 x3)) (.int .u32 x8)) ∧
  K x3 (bits .or .u32 x4 x6) h3) E h2)) E h1) h0
structure prefix_Ends.c (p0 : Int) (p1 : Int) (K : Int → Int → Heap → Prop) (E : Value → Heap → Prop) (H : Heap) : Prop where
  h : prefix_Ends.vc p0 p1 (fun r0_0 r1_0 H => ∃ H', Heap.Le H' H ∧ K r0_0 r1_0 H') E H
def prefix_Ends.F : FT := fun args K E H => match args with
  | [(.agg ⟨[(.int .u32 p0), (.int .i64 p1)]⟩)] => prefix_Ends.c p0 p1 (fun r0_0 r1_0 H => K (.tuple #[(.int .u32 r0_0), (.int .u32 r1_0)]) H) E H
  | _ => False
noncomputable def prefix_Ends.Γ : FuncId → Option FT := Γof [(15, prefix_Check.F), (48, prefix_rest.F)]
theorem prefix_Ends.hΓ : ∀ f F, prefix_Ends.Γ f = some F → CalleeOk Try.prog f F := Γof_ok (List.forall_mem_cons.2 ⟨prefix_Check.ok, List.forall_mem_cons.2 ⟨prefix_rest.ok, fun _ h => nomatch h⟩⟩)
noncomputable def prefix_Ends.plan : Plan := .seq (.go) (.seq (.go) (.seq (.draw ⟨[0, 1, 2, 3, 4, 5, 6, 7, 8], (dl [(0, []), (1, []), (2, []), (3, []), (4, []), (5, []), (6, [5, 4]), (7, []), (8, [])] .fin), [9]⟩) (.go)))
theorem prefix_Ends.pok : PlanOk Try.prog prefix_Ends.plan prefix_Ends.body := by
  have e : PlanOk Try.prog prefix_Ends.plan prefix_Ends.body = ((True) ∧ ((True) ∧ ((True) ∧ (True)))) := by kernel_rfl
  exact e.mpr ⟨trivial, ⟨trivial, ⟨trivial, trivial⟩⟩⟩
theorem prefix_Ends.eq (p0 : Int) (p1 : Int) (K : Value → Heap → Prop) (E : Value → Heap → Prop) (H : Heap) :
    fnT Try.prog Try.f13 (wC Try.prog prefix_Ends.Γ prefix_Ends.plan prefix_Ends.body) [(.agg #[(.int .u32 p0), (.int .i64 p1)])] K E H = prefix_Ends.vc p0 p1 (fun r0_0 r1_0 H => K (.tuple #[(.int .u32 r0_0), (.int .u32 r1_0)]) H) E H := by
  kernel_rfl
theorem prefix_Ends.Fe {args : List Value} {K E : Value → Heap → Prop} {H : Heap} (h : prefix_Ends.F args K E H) : ∃ p0 p1, args = [(.agg #[(.int .u32 p0), (.int .i64 p1)])] ∧ prefix_Ends.c p0 p1 (fun r0_0 r1_0 H => K (.tuple #[(.int .u32 r0_0), (.int .u32 r1_0)]) H) E H := by
  unfold prefix_Ends.F at h
  split at h
  · exact ⟨_, _, rfl, h⟩
  · exact h.elim
theorem prefix_Ends.ok : CalleeOk Try.prog 13 prefix_Ends.F :=
  callee_ok prefix_Ends.hΓ (fn := Try.f13) (c := prefix_Ends.body) (T := wC Try.prog prefix_Ends.Γ prefix_Ends.plan prefix_Ends.body) (by kernel_rfl) (by kernel_rfl) (by kernel_rfl) (wC_sound prefix_Ends.hΓ Try.hm prefix_Ends.plan _ prefix_Ends.pok) fun _ K E H h => by
    obtain ⟨z0, z1, e, h⟩ := prefix_Ends.Fe h
    subst e
    have h2 : prefix_Ends.vc z0 z1 (fun r0_0 r1_0 H => ∃ H', Heap.Le H' H ∧ K (.tuple #[(.int .u32 r0_0), (.int .u32 r1_0)]) H') E H := h.h
    rw [prefix_Ends.eq z0 z1 (Fg K) E H]
    exact h2

/-! vizard/vizardref04.size -/
noncomputable def vizardref04_size.body : Code := Try.f49.body.getD .skip
def vizardref04_size.vc (bits0 : Int) (K : Int → Heap → Prop) (E : Value → Heap → Prop) (h0 : Heap) : Prop :=
  (0 : Int) ≤ (IntKind.i64.wrap (32 - bits0)) ∧
  K (shlI .i64 1 (IntKind.i64.wrap (32 - bits0))) h0
structure vizardref04_size.c (bits0 : Int) (K : Int → Heap → Prop) (E : Value → Heap → Prop) (H : Heap) : Prop where
  h : vizardref04_size.vc bits0 (fun r0_0 H => ∃ H', Heap.Le H' H ∧ K r0_0 H') E H
def vizardref04_size.F : FT := fun args K E H => match args with
  | [(.int .i64 bits0)] => vizardref04_size.c bits0 (fun r0_0 H => K (.int .i64 r0_0) H) E H
  | _ => False
noncomputable def vizardref04_size.Γ : FuncId → Option FT := Γof []
theorem vizardref04_size.hΓ : ∀ f F, vizardref04_size.Γ f = some F → CalleeOk Try.prog f F := Γof_ok (fun _ h => nomatch h)
noncomputable def vizardref04_size.plan : Plan := .go
theorem vizardref04_size.pok : PlanOk Try.prog vizardref04_size.plan vizardref04_size.body := by
  have e : PlanOk Try.prog vizardref04_size.plan vizardref04_size.body = (True) := by kernel_rfl
  exact e.mpr trivial
theorem vizardref04_size.eq (bits0 : Int) (K : Value → Heap → Prop) (E : Value → Heap → Prop) (H : Heap) :
    fnT Try.prog Try.f49 (wC Try.prog vizardref04_size.Γ vizardref04_size.plan vizardref04_size.body) [(.int .i64 bits0)] K E H = vizardref04_size.vc bits0 (fun r0_0 H => K (.int .i64 r0_0) H) E H := by
  kernel_rfl
theorem vizardref04_size.Fe {args : List Value} {K E : Value → Heap → Prop} {H : Heap} (h : vizardref04_size.F args K E H) : ∃ bits0, args = [(.int .i64 bits0)] ∧ vizardref04_size.c bits0 (fun r0_0 H => K (.int .i64 r0_0) H) E H := by
  unfold vizardref04_size.F at h
  split at h
  · exact ⟨_, rfl, h⟩
  · exact h.elim
theorem vizardref04_size.ok : CalleeOk Try.prog 49 vizardref04_size.F :=
  callee_ok vizardref04_size.hΓ (fn := Try.f49) (c := vizardref04_size.body) (T := wC Try.prog vizardref04_size.Γ vizardref04_size.plan vizardref04_size.body) (by kernel_rfl) (by kernel_rfl) (by kernel_rfl) (wC_sound vizardref04_size.hΓ Try.hm vizardref04_size.plan _ vizardref04_size.pok) fun _ K E H h => by
    obtain ⟨z0, e, h⟩ := vizardref04_size.Fe h
    subst e
    have h2 : vizardref04_size.vc z0 (fun r0_0 H => ∃ H', Heap.Le H' H ∧ K (.int .i64 r0_0) H') E H := h.h
    rw [vizardref04_size.eq z0 (Fg K) E H]
    exact h2

/-! vizard/vizardref04.Check -/
noncomputable def vizardref04_Check.body : Code := Try.f16.body.getD .skip
def vizardref04_Check.vc (p0 : Int) (p1 : Int) (K : Bool → Heap → Prop) (E : Value → Heap → Prop) (h0 : Heap) : Prop :=
  newB (.cells #[(.int .u32 p0), (.int .i64 p1)] 24) (fun b0 h1 =>
  ldI h1 .i64 ((⟨b0, 0, none⟩ : Addr).add 1) fun x0 =>
  (if (decide (x0 ≥ 0)) = true then
  ldI h1 .i64 ((⟨b0, 0, none⟩ : Addr).add 1) fun x1 =>
  (if (decide (x1 ≤ 32)) = true then
  ldI h1 .u32 ((⟨b0, 0, none⟩ : Addr).add 0) fun x2 =>
  ldI h1 .i64 ((⟨b0, 0, none⟩ : Addr).add 1) fun x3 =>
  vizardref04_size.c x3 (fun x4 h2 =>
  (eqv h2 h2 (some (.int .i64 (IntKind.i64.wrap x2))) (.int .i64 (IntKind.i64.wrap x2))) ∧
  (ldI h2 .u32 ((⟨b0, 0, none⟩ : Addr).add 0) fun x5 =>
  eqv h2 h2 (some (.int .u32 x2)) (.int .u32 x5)) ∧
  x4 ≠ (0 : Int) ∧
  K ((Int.tmod (IntKind.i64.wrap x2) x4) == 0) h2) E h1
  else
  True ∧
  True ∧
  K false h1)
  else
  True ∧
  True ∧
  K false h1)) h0
structure vizardref04_Check.c (p0 : Int) (p1 : Int) (K : Bool → Heap → Prop) (E : Value → Heap → Prop) (H : Heap) : Prop where
  h : vizardref04_Check.vc p0 p1 (fun r0_0 H => ∃ H', Heap.Le H' H ∧ K r0_0 H') E H
def vizardref04_Check.F : FT := fun args K E H => match args with
  | [(.agg ⟨[(.int .u32 p0), (.int .i64 p1)]⟩)] => vizardref04_Check.c p0 p1 (fun r0_0 H => K (.bool r0_0) H) E H
  | _ => False
noncomputable def vizardref04_Check.Γ : FuncId → Option FT := Γof [(49, vizardref04_size.F)]
theorem vizardref04_Check.hΓ : ∀ f F, vizardref04_Check.Γ f = some F → CalleeOk Try.prog f F := Γof_ok (List.forall_mem_cons.2 ⟨vizardref04_size.ok, fun _ h => nomatch h⟩)
noncomputable def vizardref04_Check.plan : Plan := .seq (.go) (.seq (.draw ⟨[0, 1, 2, 3, 4, 5, 6, 7, 8, 9, 10, 11, 12, 13, 14, 15, 16, 17], (dl [(0, []), (1, []), (2, []), (3, []), (4, []), (5, []), (6, []), (7, []), (8, []), (9, []), (10, []), (11, []), (12, []), (13, []), (14, [13, 8, 12, 7, 3, 6, 2, 5, 1, 4, 0]), (15, []), (16, []), (17, [])] .fin), [18]⟩) (.go))
theorem vizardref04_Check.pok : PlanOk Try.prog vizardref04_Check.plan vizardref04_Check.body := by
  have e : PlanOk Try.prog vizardref04_Check.plan vizardref04_Check.body = ((True) ∧ ((True) ∧ (True))) := by kernel_rfl
  exact e.mpr ⟨trivial, ⟨trivial, trivial⟩⟩
theorem vizardref04_Check.eq (p0 : Int) (p1 : Int) (K : Value → Heap → Prop) (E : Value → Heap → Prop) (H : Heap) :
    fnT Try.prog Try.f16 (wC Try.prog vizardref04_Check.Γ vizardref04_Check.plan vizardref04_Check.body) [(.agg #[(.int .u32 p0), (.int .i64 p1)])] K E H = vizardref04_Check.vc p0 p1 (fun r0_0 H => K (.bool r0_0) H) E H := by
  kernel_rfl
theorem vizardref04_Check.Fe {args : List Value} {K E : Value → Heap → Prop} {H : Heap} (h : vizardref04_Check.F args K E H) : ∃ p0 p1, args = [(.agg #[(.int .u32 p0), (.int .i64 p1)])] ∧ vizardref04_Check.c p0 p1 (fun r0_0 H => K (.bool r0_0) H) E H := by
  unfold vizardref04_Check.F at h
  split at h
  · exact ⟨_, _, rfl, h⟩
  · exact h.elim
theorem vizardref04_Check.ok : CalleeOk Try.prog 16 vizardref04_Check.F :=
  callee_ok vizardref04_Check.hΓ (fn := Try.f16) (c := vizardref04_Check.body) (T := wC Try.prog vizardref04_Check.Γ vizardref04_Check.plan vizardref04_Check.body) (by kernel_rfl) (by kernel_rfl) (by kernel_rfl) (wC_sound vizardref04_Check.hΓ Try.hm vizardref04_Check.plan _ vizardref04_Check.pok) fun _ K E H h => by
    obtain ⟨z0, z1, e, h⟩ := vizardref04_Check.Fe h
    subst e
    have h2 : vizardref04_Check.vc z0 z1 (fun r0_0 H => ∃ H', Heap.Le H' H ∧ K (.bool r0_0) H') E H := h.h
    rw [vizardref04_Check.eq z0 z1 (Fg K) E H]
    exact h2

/-! vizard/vizardref04.Ends -/
noncomputable def vizardref04_Ends.body : Code := Try.f14.body.getD .skip
def vizardref04_Ends.vc (p0 : Int) (p1 : Int) (K : Int → Int → Heap → Prop) (E : Value → Heap → Prop) (h0 : Heap) : Prop :=
  newB (.cells #[(.int .u32 p0), (.int .i64 p1)] 24) (fun b0 h1 =>
  ldI h1 .u32 ((⟨b0, 0, none⟩ : Addr).add 0) fun x0 => ldI h1 .i64 ((⟨b0, 0, none⟩ : Addr).add 1) fun x1 =>
  vizardref04_Check.c x0 x1 (fun x2 h2 =>
  (if (!x2) = true then
  K 0 0 h2
  else
  ldI h2 .u32 ((⟨b0, 0, none⟩ : Addr).add 0) fun x3 =>
  ldI h2 .u32 ((⟨b0, 0, none⟩ : Addr).add 0) fun x4 =>
  ldI h2 .i64 ((⟨b0, 0, none⟩ : Addr).add 1) fun x5 =>
  vizardref04_size.c x5 (fun x6 h3 =>
  (eqv h3 h3 (some (.int .i64 (IntKind.i64.wrap x4))) (.int .i64 (IntKind.i64.wrap x4))) ∧
  (ldI h3 .u32 ((⟨b0, 0, none⟩ : Addr).add 0) fun x7 =>
  eqv h3 h3 (some (.int .u32 x4)) (.int .u32 x7)) ∧
  (ldI h3 .u32 ((⟨b0, 0, none⟩ : Addr).add 0) fun x8 =>
  eqv h3 h3 (some (.int .u32 x3)) (.int .u32 x8)) ∧
  K x3 (IntKind.u32.wrap (IntKind.i64.wrap ((IntKind.i64.wrap ((IntKind.i64.wrap x4) + x6)) - 1))) h3) E h2)) E h1) h0
structure vizardref04_Ends.c (p0 : Int) (p1 : Int) (K : Int → Int → Heap → Prop) (E : Value → Heap → Prop) (H : Heap) : Prop where
  h : vizardref04_Ends.vc p0 p1 (fun r0_0 r1_0 H => ∃ H', Heap.Le H' H ∧ K r0_0 r1_0 H') E H
def vizardref04_Ends.F : FT := fun args K E H => match args with
  | [(.agg ⟨[(.int .u32 p0), (.int .i64 p1)]⟩)] => vizardref04_Ends.c p0 p1 (fun r0_0 r1_0 H => K (.tuple #[(.int .u32 r0_0), (.int .u32 r1_0)]) H) E H
  | _ => False
noncomputable def vizardref04_Ends.Γ : FuncId → Option FT := Γof [(16, vizardref04_Check.F), (49, vizardref04_size.F)]
theorem vizardref04_Ends.hΓ : ∀ f F, vizardref04_Ends.Γ f = some F → CalleeOk Try.prog f F := Γof_ok (List.forall_mem_cons.2 ⟨vizardref04_Check.ok, List.forall_mem_cons.2 ⟨vizardref04_size.ok, fun _ h => nomatch h⟩⟩)
noncomputable def vizardref04_Ends.plan : Plan := .seq (.go) (.seq (.go) (.seq (.draw ⟨[0, 1, 2, 3, 4, 5, 6, 7, 8, 9, 10, 11], (dl [(0, []), (1, []), (2, []), (3, []), (4, []), (5, []), (6, []), (7, [6, 5]), (8, []), (9, []), (10, []), (11, [])] .fin), [12]⟩) (.go)))
theorem vizardref04_Ends.pok : PlanOk Try.prog vizardref04_Ends.plan vizardref04_Ends.body := by
  have e : PlanOk Try.prog vizardref04_Ends.plan vizardref04_Ends.body = ((True) ∧ ((True) ∧ ((True) ∧ (True)))) := by kernel_rfl
  exact e.mpr ⟨trivial, ⟨trivial, ⟨trivial, trivial⟩⟩⟩
theorem vizardref04_Ends.eq (p0 : Int) (p1 : Int) (K : Value → Heap → Prop) (E : Value → Heap → Prop) (H : Heap) :
    fnT Try.prog Try.f14 (wC Try.prog vizardref04_Ends.Γ vizardref04_Ends.plan vizardref04_Ends.body) [(.agg #[(.int .u32 p0), (.int .i64 p1)])] K E H = vizardref04_Ends.vc p0 p1 (fun r0_0 r1_0 H => K (.tuple #[(.int .u32 r0_0), (.int .u32 r1_0)]) H) E H := by
  kernel_rfl
theorem vizardref04_Ends.Fe {args : List Value} {K E : Value → Heap → Prop} {H : Heap} (h : vizardref04_Ends.F args K E H) : ∃ p0 p1, args = [(.agg #[(.int .u32 p0), (.int .i64 p1)])] ∧ vizardref04_Ends.c p0 p1 (fun r0_0 r1_0 H => K (.tuple #[(.int .u32 r0_0), (.int .u32 r1_0)]) H) E H := by
  unfold vizardref04_Ends.F at h
  split at h
  · exact ⟨_, _, rfl, h⟩
  · exact h.elim
theorem vizardref04_Ends.ok : CalleeOk Try.prog 14 vizardref04_Ends.F :=
  callee_ok vizardref04_Ends.hΓ (fn := Try.f14) (c := vizardref04_Ends.body) (T := wC Try.prog vizardref04_Ends.Γ vizardref04_Ends.plan vizardref04_Ends.body) (by kernel_rfl) (by kernel_rfl) (by kernel_rfl) (wC_sound vizardref04_Ends.hΓ Try.hm vizardref04_Ends.plan _ vizardref04_Ends.pok) fun _ K E H h => by
    obtain ⟨z0, z1, e, h⟩ := vizardref04_Ends.Fe h
    subst e
    have h2 : vizardref04_Ends.vc z0 z1 (fun r0_0 r1_0 H => ∃ H', Heap.Le H' H ∧ K (.tuple #[(.int .u32 r0_0), (.int .u32 r1_0)]) H') E H := h.h
    rw [vizardref04_Ends.eq z0 z1 (Fg K) E H]
    exact h2

/-! vizard/prefix.Has -/
noncomputable def prefix_Has.body : Code := Try.f17.body.getD .skip
def prefix_Has.vc (p0 : Int) (p1 : Int) (a0 : Int) (K : Bool → Heap → Prop) (E : Value → Heap → Prop) (h0 : Heap) : Prop :=
  newB (.cells #[(.int .u32 p0), (.int .i64 p1)] 24) (fun b0 h1 =>
  ldI h1 .u32 ((⟨b0, 0, none⟩ : Addr).add 0) fun x0 => ldI h1 .i64 ((⟨b0, 0, none⟩ : Addr).add 1) fun x1 =>
  prefix_Check.c x0 x1 (fun x2 h2 =>
  (if x2 = true then
  ldI h2 .i64 ((⟨b0, 0, none⟩ : Addr).add 1) fun x3 =>
  ldI h2 .u32 ((⟨b0, 0, none⟩ : Addr).add 0) fun x4 =>
  prefix_rest.c x3 (fun x5 h3 =>
  (ldI h3 .u32 ((⟨b0, 0, none⟩ : Addr).add 0) fun x6 =>
  eqv h3 h3 (some (.int .u32 x4)) (.int .u32 x6)) ∧
  K ((bits .andNot .u32 a0 x5) == x4) h3) E h2
  else
  True ∧
  K false h2)) E h1) h0
structure prefix_Has.c (p0 : Int) (p1 : Int) (a0 : Int) (K : Bool → Heap → Prop) (E : Value → Heap → Prop) (H : Heap) : Prop where
  h : prefix_Has.vc p0 p1 a0 (fun r0_0 H => ∃ H', Heap.Le H' H ∧ K r0_0 H') E H
def prefix_Has.F : FT := fun args K E H => match args with
  | [(.agg ⟨[(.int .u32 p0), (.int .i64 p1)]⟩), (.int .u32 a0)] => prefix_Has.c p0 p1 a0 (fun r0_0 H => K (.bool r0_0) H) E H
  | _ => False
noncomputable def prefix_Has.Γ : FuncId → Option FT := Γof [(15, prefix_Check.F), (48, prefix_rest.F)]
theorem prefix_Has.hΓ : ∀ f F, prefix_Has.Γ f = some F → CalleeOk Try.prog f F := Γof_ok (List.forall_mem_cons.2 ⟨prefix_Check.ok, List.forall_mem_cons.2 ⟨prefix_rest.ok, fun _ h => nomatch h⟩⟩)
noncomputable def prefix_Has.plan : Plan := .seq (.go) (.seq (.draw ⟨[0, 1, 2, 3, 4, 5, 6, 7, 8, 9, 10, 11], (dl [(0, []), (1, [0]), (2, []), (3, []), (4, []), (5, []), (8, []), (9, []), (6, [5, 2, 4, 1, 0]), (7, []), (10, []), (11, [])] .fin), [12]⟩) (.go))
theorem prefix_Has.pok : PlanOk Try.prog prefix_Has.plan prefix_Has.body := by
  have e : PlanOk Try.prog prefix_Has.plan prefix_Has.body = ((True) ∧ ((True) ∧ (True))) := by kernel_rfl
  exact e.mpr ⟨trivial, ⟨trivial, trivial⟩⟩
theorem prefix_Has.eq (p0 : Int) (p1 : Int) (a0 : Int) (K : Value → Heap → Prop) (E : Value → Heap → Prop) (H : Heap) :
    fnT Try.prog Try.f17 (wC Try.prog prefix_Has.Γ prefix_Has.plan prefix_Has.body) [(.agg #[(.int .u32 p0), (.int .i64 p1)]), (.int .u32 a0)] K E H = prefix_Has.vc p0 p1 a0 (fun r0_0 H => K (.bool r0_0) H) E H := by
  kernel_rfl
theorem prefix_Has.Fe {args : List Value} {K E : Value → Heap → Prop} {H : Heap} (h : prefix_Has.F args K E H) : ∃ p0 p1 a0, args = [(.agg #[(.int .u32 p0), (.int .i64 p1)]), (.int .u32 a0)] ∧ prefix_Has.c p0 p1 a0 (fun r0_0 H => K (.bool r0_0) H) E H := by
  unfold prefix_Has.F at h
  split at h
  · exact ⟨_, _, _, rfl, h⟩
  · exact h.elim
theorem prefix_Has.ok : CalleeOk Try.prog 17 prefix_Has.F :=
  callee_ok prefix_Has.hΓ (fn := Try.f17) (c := prefix_Has.body) (T := wC Try.prog prefix_Has.Γ prefix_Has.plan prefix_Has.body) (by kernel_rfl) (by kernel_rfl) (by kernel_rfl) (wC_sound prefix_Has.hΓ Try.hm prefix_Has.plan _ prefix_Has.pok) fun _ K E H h => by
    obtain ⟨z0, z1, z2, e, h⟩ := prefix_Has.Fe h
    subst e
    have h2 : prefix_Has.vc z0 z1 z2 (fun r0_0 H => ∃ H', Heap.Le H' H ∧ K (.bool r0_0) H') E H := h.h
    rw [prefix_Has.eq z0 z1 z2 (Fg K) E H]
    exact h2

/-! vizard/vizardref04.Has -/
noncomputable def vizardref04_Has.body : Code := Try.f18.body.getD .skip
def vizardref04_Has.vc (p0 : Int) (p1 : Int) (a0 : Int) (K : Bool → Heap → Prop) (E : Value → Heap → Prop) (h0 : Heap) : Prop :=
  newB (.cells #[(.int .u32 p0), (.int .i64 p1)] 24) (fun b0 h1 =>
  ldI h1 .u32 ((⟨b0, 0, none⟩ : Addr).add 0) fun x0 => ldI h1 .i64 ((⟨b0, 0, none⟩ : Addr).add 1) fun x1 =>
  vizardref04_Check.c x0 x1 (fun x2 h2 =>
  (if x2 = true then
  ldI h2 .u32 ((⟨b0, 0, none⟩ : Addr).add 0) fun x3 =>
  (if (decide (a0 ≥ x3)) = true then
  ldI h2 .u32 ((⟨b0, 0, none⟩ : Addr).add 0) fun x4 =>
  ldI h2 .i64 ((⟨b0, 0, none⟩ : Addr).add 1) fun x5 =>
  vizardref04_size.c x5 (fun x6 h3 =>
  (eqv h3 h3 (some (.int .i64 (IntKind.i64.wrap x4))) (.int .i64 (IntKind.i64.wrap x4))) ∧
  (ldI h3 .u32 ((⟨b0, 0, none⟩ : Addr).add 0) fun x7 =>
  eqv h3 h3 (some (.int .u32 x4)) (.int .u32 x7)) ∧
  (eqv h3 h3 (some (.int .i64 (IntKind.i64.wrap a0))) (.int .i64 (IntKind.i64.wrap a0))) ∧
  K (decide ((IntKind.i64.wrap a0) < (IntKind.i64.wrap ((IntKind.i64.wrap x4) + x6)))) h3) E h2
  else
  True ∧
  True ∧
  True ∧
  K false h2)
  else
  True ∧
  True ∧
  True ∧
  K false h2)) E h1) h0
structure vizardref04_Has.c (p0 : Int) (p1 : Int) (a0 : Int) (K : Bool → Heap → Prop) (E : Value → Heap → Prop) (H : Heap) : Prop where
  h : vizardref04_Has.vc p0 p1 a0 (fun r0_0 H => ∃ H', Heap.Le H' H ∧ K r0_0 H') E H
def vizardref04_Has.F : FT := fun args K E H => match args with
  | [(.agg ⟨[(.int .u32 p0), (.int .i64 p1)]⟩), (.int .u32 a0)] => vizardref04_Has.c p0 p1 a0 (fun r0_0 H => K (.bool r0_0) H) E H
  | _ => False
noncomputable def vizardref04_Has.Γ : FuncId → Option FT := Γof [(16, vizardref04_Check.F), (49, vizardref04_size.F)]
theorem vizardref04_Has.hΓ : ∀ f F, vizardref04_Has.Γ f = some F → CalleeOk Try.prog f F := Γof_ok (List.forall_mem_cons.2 ⟨vizardref04_Check.ok, List.forall_mem_cons.2 ⟨vizardref04_size.ok, fun _ h => nomatch h⟩⟩)
noncomputable def vizardref04_Has.plan : Plan := .seq (.go) (.seq (.draw ⟨[0, 1, 2, 3, 4, 5, 6, 7, 8, 9, 10, 11, 12, 13, 14, 15, 16, 17, 18, 19], (dl [(0, []), (1, [0]), (2, []), (3, []), (4, []), (5, []), (6, []), (7, []), (8, []), (9, []), (10, []), (11, []), (12, []), (13, []), (14, []), (15, []), (16, [15, 8, 14, 7, 2, 6, 1, 3, 5, 0, 4]), (17, []), (18, []), (19, [])] .fin), [20]⟩) (.go))
theorem vizardref04_Has.pok : PlanOk Try.prog vizardref04_Has.plan vizardref04_Has.body := by
  have e : PlanOk Try.prog vizardref04_Has.plan vizardref04_Has.body = ((True) ∧ ((True) ∧ (True))) := by kernel_rfl
  exact e.mpr ⟨trivial, ⟨trivial, trivial⟩⟩
theorem vizardref04_Has.eq (p0 : Int) (p1 : Int) (a0 : Int) (K : Value → Heap → Prop) (E : Value → Heap → Prop) (H : Heap) :
    fnT Try.prog Try.f18 (wC Try.prog vizardref04_Has.Γ vizardref04_Has.plan vizardref04_Has.body) [(.agg #[(.int .u32 p0), (.int .i64 p1)]), (.int .u32 a0)] K E H = vizardref04_Has.vc p0 p1 a0 (fun r0_0 H => K (.bool r0_0) H) E H := by
  kernel_rfl
theorem vizardref04_Has.Fe {args : List Value} {K E : Value → Heap → Prop} {H : Heap} (h : vizardref04_Has.F args K E H) : ∃ p0 p1 a0, args = [(.agg #[(.int .u32 p0), (.int .i64 p1)]), (.int .u32 a0)] ∧ vizardref04_Has.c p0 p1 a0 (fun r0_0 H => K (.bool r0_0) H) E H := by
  unfold vizardref04_Has.F at h
  split at h
  · exact ⟨_, _, _, rfl, h⟩
  · exact h.elim
theorem vizardref04_Has.ok : CalleeOk Try.prog 18 vizardref04_Has.F :=
  callee_ok vizardref04_Has.hΓ (fn := Try.f18) (c := vizardref04_Has.body) (T := wC Try.prog vizardref04_Has.Γ vizardref04_Has.plan vizardref04_Has.body) (by kernel_rfl) (by kernel_rfl) (by kernel_rfl) (wC_sound vizardref04_Has.hΓ Try.hm vizardref04_Has.plan _ vizardref04_Has.pok) fun _ K E H h => by
    obtain ⟨z0, z1, z2, e, h⟩ := vizardref04_Has.Fe h
    subst e
    have h2 : vizardref04_Has.vc z0 z1 z2 (fun r0_0 H => ∃ H', Heap.Le H' H ∧ K (.bool r0_0) H') E H := h.h
    rw [vizardref04_Has.eq z0 z1 z2 (Fg K) E H]
    exact h2

/-! vizard/vizardlaw04.PrefixHas -/
noncomputable def vizardlaw04_PrefixHas.body : Code := Try.f3.body.getD .skip
def vizardlaw04_PrefixHas.vc (p0 : Int) (p1 : Int) (a0 : Int) (K : Bool → Heap → Prop) (E : Value → Heap → Prop) (h0 : Heap) : Prop :=
  newB (.cells #[(.int .u32 p0), (.int .i64 p1)] 24) (fun b0 h1 =>
  ldI h1 .u32 ((⟨b0, 0, none⟩ : Addr).add 0) fun x0 => ldI h1 .i64 ((⟨b0, 0, none⟩ : Addr).add 1) fun x1 =>
  prefix_Ends.c x0 x1 (fun x2 x3 h2 =>
  ldI h2 .u32 ((⟨b0, 0, none⟩ : Addr).add 0) fun x4 => ldI h2 .i64 ((⟨b0, 0, none⟩ : Addr).add 1) fun x5 =>
  vizardref04_Ends.c x4 x5 (fun x6 x7 h3 =>
  ldI h3 .u32 ((⟨b0, 0, none⟩ : Addr).add 0) fun x8 => ldI h3 .i64 ((⟨b0, 0, none⟩ : Addr).add 1) fun x9 =>
  ldI h3 .u32 ((⟨b0, 0, none⟩ : Addr).add 0) fun x10 => ldI h3 .i64 ((⟨b0, 0, none⟩ : Addr).add 1) fun x11 =>
  prefix_Check.c x8 x9 (fun x12 h4 =>
  (ldI h4 .u32 ((⟨b0, 0, none⟩ : Addr).add 0) fun x13 => ldI h4 .i64 ((⟨b0, 0, none⟩ : Addr).add 1) fun x14 =>
  eqv h4 h4 (some (.agg #[(.int .u32 x10), (.int .i64 x11)])) (.agg #[(.int .u32 x13), (.int .i64 x14)])) ∧
  vizardref04_Check.c x10 x11 (fun x15 h5 =>
  (if (x12 == x15) = true then
  ldI h5 .u32 ((⟨b0, 0, none⟩ : Addr).add 0) fun x16 => ldI h5 .i64 ((⟨b0, 0, none⟩ : Addr).add 1) fun x17 =>
  ldI h5 .u32 ((⟨b0, 0, none⟩ : Addr).add 0) fun x18 => ldI h5 .i64 ((⟨b0, 0, none⟩ : Addr).add 1) fun x19 =>
  prefix_Has.c x16 x17 a0 (fun x20 h6 =>
  (ldI h6 .u32 ((⟨b0, 0, none⟩ : Addr).add 0) fun x21 => ldI h6 .i64 ((⟨b0, 0, none⟩ : Addr).add 1) fun x22 =>
  eqv h6 h6 (some (.agg #[(.int .u32 x18), (.int .i64 x19)])) (.agg #[(.int .u32 x21), (.int .i64 x22)])) ∧
  vizardref04_Has.c x18 x19 a0 (fun x23 h7 =>
  (if (x20 == x23) = true then
  (if (x2 == x6) = true then
  K (x3 == x7) h7
  else
  K false h7)
  else
  K false h7)) E h6) E h5
  else
  True ∧
  K false h5)) E h4) E h3) E h2) E h1) h0
structure vizardlaw04_PrefixHas.c (p0 : Int) (p1 : Int) (a0 : Int) (K : Bool → Heap → Prop) (E : Value → Heap → Prop) (H : Heap) : Prop where
  h : vizardlaw04_PrefixHas.vc p0 p1 a0 (fun r0_0 H => ∃ H', Heap.Le H' H ∧ K r0_0 H') E H
def vizardlaw04_PrefixHas.F : FT := fun args K E H => match args with
  | [(.agg ⟨[(.int .u32 p0), (.int .i64 p1)]⟩), (.int .u32 a0)] => vizardlaw04_PrefixHas.c p0 p1 a0 (fun r0_0 H => K (.bool r0_0) H) E H
  | _ => False
noncomputable def vizardlaw04_PrefixHas.Γ : FuncId → Option FT := Γof [(13, prefix_Ends.F), (14, vizardref04_Ends.F), (15, prefix_Check.F), (16, vizardref04_Check.F), (17, prefix_Has.F), (18, vizardref04_Has.F)]
theorem vizardlaw04_PrefixHas.hΓ : ∀ f F, vizardlaw04_PrefixHas.Γ f = some F → CalleeOk Try.prog f F := Γof_ok (List.forall_mem_cons.2 ⟨prefix_Ends.ok, List.forall_mem_cons.2 ⟨vizardref04_Ends.ok, List.forall_mem_cons.2 ⟨prefix_Check.ok, List.forall_mem_cons.2 ⟨vizardref04_Check.ok, List.forall_mem_cons.2 ⟨prefix_Has.ok, List.forall_mem_cons.2 ⟨vizardref04_Has.ok, fun _ h => nomatch h⟩⟩⟩⟩⟩⟩)
noncomputable def vizardlaw04_PrefixHas.plan : Plan := .seq (.go) (.seq (.go) (.seq (.go) (.seq (.draw ⟨[0, 1, 2, 3, 4, 5, 6, 7, 8, 9, 10, 11, 12, 13, 14, 15, 16, 17, 18, 19, 20, 21, 22, 23], (dl [(0, []), (2, []), (1, [0]), (3, [2, 1, 0]), (4, []), (5, []), (6, []), (7, []), (9, []), (10, []), (8, [6, 7, 5, 4, 3, 1, 2, 0]), (11, [9, 10, 8, 5, 6, 7, 4, 3, 1, 2, 0]), (12, []), (13, []), (14, []), (15, []), (16, []), (17, []), (18, []), (19, []), (20, []), (21, []), (22, []), (23, [])] .fin), [24]⟩) (.go))))
theorem vizardlaw04_PrefixHas.pok : PlanOk Try.prog vizardlaw04_PrefixHas.plan vizardlaw04_PrefixHas.body := by
  have e : PlanOk Try.prog vizardlaw04_PrefixHas.plan vizardlaw04_PrefixHas.body = ((True) ∧ ((True) ∧ ((True) ∧ ((True) ∧ (True))))) := by kernel_rfl
  exact e.mpr ⟨trivial, ⟨trivial, ⟨trivial, ⟨trivial, trivial⟩⟩⟩⟩
theorem vizardlaw04_PrefixHas.eq (p0 : Int) (p1 : Int) (a0 : Int) (K : Value → Heap → Prop) (E : Value → Heap → Prop) (H : Heap) :
    fnT Try.prog Try.f3 (wC Try.prog vizardlaw04_PrefixHas.Γ vizardlaw04_PrefixHas.plan vizardlaw04_PrefixHas.body) [(.agg #[(.int .u32 p0), (.int .i64 p1)]), (.int .u32 a0)] K E H = vizardlaw04_PrefixHas.vc p0 p1 a0 (fun r0_0 H => K (.bool r0_0) H) E H := by
  kernel_rfl
theorem vizardlaw04_PrefixHas.Fe {args : List Value} {K E : Value → Heap → Prop} {H : Heap} (h : vizardlaw04_PrefixHas.F args K E H) : ∃ p0 p1 a0, args = [(.agg #[(.int .u32 p0), (.int .i64 p1)]), (.int .u32 a0)] ∧ vizardlaw04_PrefixHas.c p0 p1 a0 (fun r0_0 H => K (.bool r0_0) H) E H := by
  unfold vizardlaw04_PrefixHas.F at h
  split at h
  · exact ⟨_, _, _, rfl, h⟩
  · exact h.elim
theorem vizardlaw04_PrefixHas.ok : CalleeOk Try.prog 3 vizardlaw04_PrefixHas.F :=
  callee_ok vizardlaw04_PrefixHas.hΓ (fn := Try.f3) (c := vizardlaw04_PrefixHas.body) (T := wC Try.prog vizardlaw04_PrefixHas.Γ vizardlaw04_PrefixHas.plan vizardlaw04_PrefixHas.body) (by kernel_rfl) (by kernel_rfl) (by kernel_rfl) (wC_sound vizardlaw04_PrefixHas.hΓ Try.hm vizardlaw04_PrefixHas.plan _ vizardlaw04_PrefixHas.pok) fun _ K E H h => by
    obtain ⟨z0, z1, z2, e, h⟩ := vizardlaw04_PrefixHas.Fe h
    subst e
    have h2 : vizardlaw04_PrefixHas.vc z0 z1 z2 (fun r0_0 H => ∃ H', Heap.Le H' H ∧ K (.bool r0_0) H') E H := h.h
    rw [vizardlaw04_PrefixHas.eq z0 z1 z2 (Fg K) E H]
    exact h2
end Go.Sh
