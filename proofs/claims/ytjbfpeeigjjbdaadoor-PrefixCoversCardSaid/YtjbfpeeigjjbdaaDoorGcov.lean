/- PRINTED by a program (sh.py): what the walk over each function asks, and that it asks just that. -/
import Derived.Test.YtjbfpeeigjjbdaaDoorShP
namespace Go.Sh
open Go.Proofs
set_option linter.unusedVariables false
set_option maxRecDepth 8000
/-! math/bits.TrailingZeros32 -/
noncomputable def math_bits_TrailingZeros32.body : Code := Tryd.f6.body.getD .skip
def math_bits_TrailingZeros32.vc (x0 : Int) (K : Int → Heap → Prop) (E : Value → Heap → Prop) (h0 : Heap) : Prop :=
  (if (x0 == 0) = true then
  K 32 h0
  else
  (0 : Int) ≤ 27 ∧
  (0 : Int) ≤ (shrI .u32 (IntKind.u32.wrap ((bits .and .u32 x0 (IntKind.u32.wrap (0 - x0))) * 125613361)) 27) ∧ (shrI .u32 (IntKind.u32.wrap ((bits .and .u32 x0 (IntKind.u32.wrap (0 - x0))) * 125613361)) 27) < ((32 : Nat) : Int) ∧
  ldI h0 .u8 ((⟨0, 0, none⟩ : Addr).add ((shrI .u32 (IntKind.u32.wrap ((bits .and .u32 x0 (IntKind.u32.wrap (0 - x0))) * 125613361)) 27).toNat * 1)) fun x1 =>
  K (IntKind.i64.wrap x1) h0)
structure math_bits_TrailingZeros32.c (x0 : Int) (K : Int → Heap → Prop) (E : Value → Heap → Prop) (H : Heap) : Prop where
  h : math_bits_TrailingZeros32.vc x0 (fun r0_0 H => ∃ H', Heap.Le H' H ∧ K r0_0 H') E H
def math_bits_TrailingZeros32.F : FT := fun args K E H => match args with
  | [(.int .u32 x0)] => math_bits_TrailingZeros32.c x0 (fun r0_0 H => K (.int .i64 r0_0) H) E H
  | _ => False
noncomputable def math_bits_TrailingZeros32.Γ : FuncId → Option FT := Γof []
theorem math_bits_TrailingZeros32.hΓ : ∀ f F, math_bits_TrailingZeros32.Γ f = some F → CalleeOk Tryd.prog f F := Γof_ok (fun _ h => nomatch h)
noncomputable def math_bits_TrailingZeros32.plan : Plan := .go
theorem math_bits_TrailingZeros32.pok : PlanOk Tryd.prog math_bits_TrailingZeros32.plan math_bits_TrailingZeros32.body := by
  have e : PlanOk Tryd.prog math_bits_TrailingZeros32.plan math_bits_TrailingZeros32.body = (True) := by kernel_rfl
  exact e.mpr trivial
theorem math_bits_TrailingZeros32.eq (x0 : Int) (K : Value → Heap → Prop) (E : Value → Heap → Prop) (H : Heap) :
    fnT Tryd.prog Tryd.f6 (wC Tryd.prog math_bits_TrailingZeros32.Γ math_bits_TrailingZeros32.plan math_bits_TrailingZeros32.body) [(.int .u32 x0)] K E H = math_bits_TrailingZeros32.vc x0 (fun r0_0 H => K (.int .i64 r0_0) H) E H := by
  kernel_rfl
theorem math_bits_TrailingZeros32.Fe {args : List Value} {K E : Value → Heap → Prop} {H : Heap} (h : math_bits_TrailingZeros32.F args K E H) : ∃ x0, args = [(.int .u32 x0)] ∧ math_bits_TrailingZeros32.c x0 (fun r0_0 H => K (.int .i64 r0_0) H) E H := by
  unfold math_bits_TrailingZeros32.F at h
  split at h
  · exact ⟨_, rfl, h⟩
  · exact h.elim
theorem math_bits_TrailingZeros32.ok : CalleeOk Tryd.prog 6 math_bits_TrailingZeros32.F :=
  callee_ok math_bits_TrailingZeros32.hΓ (fn := Tryd.f6) (c := math_bits_TrailingZeros32.body) (T := wC Tryd.prog math_bits_TrailingZeros32.Γ math_bits_TrailingZeros32.plan math_bits_TrailingZeros32.body) (by kernel_rfl) (by kernel_rfl) (by kernel_rfl) (wC_sound math_bits_TrailingZeros32.hΓ Tryd.hm math_bits_TrailingZeros32.plan _ math_bits_TrailingZeros32.pok) fun _ K E H h => by
    obtain ⟨z0, e, h⟩ := math_bits_TrailingZeros32.Fe h
    subst e
    have h2 : math_bits_TrailingZeros32.vc z0 (fun r0_0 H => ∃ H', Heap.Le H' H ∧ K (.int .i64 r0_0) H') E H := h.h
    rw [math_bits_TrailingZeros32.eq z0 (Fg K) E H]
    exact h2

/-! vizard/prefix.rest -/
noncomputable def prefix_rest.body : Code := Tryd.f10.body.getD .skip
def prefix_rest.vc (n0 : Int) (K : Int → Heap → Prop) (E : Value → Heap → Prop) (h0 : Heap) : Prop :=
  (0 : Int) ≤ (IntKind.i64.wrap (32 - n0)) ∧
  K (IntKind.u32.wrap (IntKind.u64.wrap ((shlI .u64 1 (IntKind.i64.wrap (32 - n0))) - 1))) h0
structure prefix_rest.c (n0 : Int) (K : Int → Heap → Prop) (E : Value → Heap → Prop) (H : Heap) : Prop where
  h : prefix_rest.vc n0 (fun r0_0 H => ∃ H', Heap.Le H' H ∧ K r0_0 H') E H
def prefix_rest.F : FT := fun args K E H => match args with
  | [(.int .i64 n0)] => prefix_rest.c n0 (fun r0_0 H => K (.int .u32 r0_0) H) E H
  | _ => False
noncomputable def prefix_rest.Γ : FuncId → Option FT := Γof []
theorem prefix_rest.hΓ : ∀ f F, prefix_rest.Γ f = some F → CalleeOk Tryd.prog f F := Γof_ok (fun _ h => nomatch h)
noncomputable def prefix_rest.plan : Plan := .go
theorem prefix_rest.pok : PlanOk Tryd.prog prefix_rest.plan prefix_rest.body := by
  have e : PlanOk Tryd.prog prefix_rest.plan prefix_rest.body = (True) := by kernel_rfl
  exact e.mpr trivial
theorem prefix_rest.eq (n0 : Int) (K : Value → Heap → Prop) (E : Value → Heap → Prop) (H : Heap) :
    fnT Tryd.prog Tryd.f10 (wC Tryd.prog prefix_rest.Γ prefix_rest.plan prefix_rest.body) [(.int .i64 n0)] K E H = prefix_rest.vc n0 (fun r0_0 H => K (.int .u32 r0_0) H) E H := by
  kernel_rfl
theorem prefix_rest.Fe {args : List Value} {K E : Value → Heap → Prop} {H : Heap} (h : prefix_rest.F args K E H) : ∃ n0, args = [(.int .i64 n0)] ∧ prefix_rest.c n0 (fun r0_0 H => K (.int .u32 r0_0) H) E H := by
  unfold prefix_rest.F at h
  split at h
  · exact ⟨_, rfl, h⟩
  · exact h.elim
theorem prefix_rest.ok : CalleeOk Tryd.prog 10 prefix_rest.F :=
  callee_ok prefix_rest.hΓ (fn := Tryd.f10) (c := prefix_rest.body) (T := wC Tryd.prog prefix_rest.Γ prefix_rest.plan prefix_rest.body) (by kernel_rfl) (by kernel_rfl) (by kernel_rfl) (wC_sound prefix_rest.hΓ Tryd.hm prefix_rest.plan _ prefix_rest.pok) fun _ K E H h => by
    obtain ⟨z0, e, h⟩ := prefix_rest.Fe h
    subst e
    have h2 : prefix_rest.vc z0 (fun r0_0 H => ∃ H', Heap.Le H' H ∧ K (.int .u32 r0_0) H') E H := h.h
    rw [prefix_rest.eq z0 (Fg K) E H]
    exact h2

/-! vizard/prefix.Check -/
noncomputable def prefix_Check.body : Code := Tryd.f9.body.getD .skip
def prefix_Check.vc (p0 : Int) (p1 : Int) (K : Bool → Heap → Prop) (E : Value → Heap → Prop) (h0 : Heap) : Prop :=
  newB (.cells #[(.int .u32 p0), (.int .i64 p1)] 26) (fun b0 h1 =>
  ldI h1 .i64 ((⟨b0, 0, none⟩ : Addr).add 1) fun x0 =>
  (if (decide (x0 ≥ 0)) = true then
  ldI h1 .i64 ((⟨b0, 0, none⟩ : Addr).add 1) fun x1 =>
  (if (decide (x1 ≤ 32)) = true then
  ldI h1 .u32 ((⟨b0, 0, none⟩ : Addr).add 0) fun x2 =>
  ldI h1 .i64 ((⟨b0, 0, none⟩ : Addr).add 1) fun x3 =>
  prefix_rest.c x3 (fun x4 h2 =>
  (ldI h2 .u32 ((⟨b0, 0, none⟩ : Addr).add 0) fun x5 =>
  eqv h2 h2 (some (.int .u32 x2)) (.int .u32 x5)) ∧
  K ((bits .and .u32 x2 x4) == 0) h2) E h1
  else
  True ∧
  K false h1)
  else
  True ∧
  K false h1)) h0
structure prefix_Check.c (p0 : Int) (p1 : Int) (K : Bool → Heap → Prop) (E : Value → Heap → Prop) (H : Heap) : Prop where
  h : prefix_Check.vc p0 p1 (fun r0_0 H => ∃ H', Heap.Le H' H ∧ K r0_0 H') E H
def prefix_Check.F : FT := fun args K E H => match args with
  | [(.agg ⟨[(.int .u32 p0), (.int .i64 p1)]⟩)] => prefix_Check.c p0 p1 (fun r0_0 H => K (.bool r0_0) H) E H
  | _ => False
noncomputable def prefix_Check.Γ : FuncId → Option FT := Γof [(10, prefix_rest.F)]
theorem prefix_Check.hΓ : ∀ f F, prefix_Check.Γ f = some F → CalleeOk Tryd.prog f F := Γof_ok (List.forall_mem_cons.2 ⟨prefix_rest.ok, fun _ h => nomatch h⟩)
noncomputable def prefix_Check.plan : Plan := .seq (.go) (.seq (.draw ⟨[0, 1, 2, 3, 4, 5, 6, 7, 8, 9, 10, 11, 12, 13, 14, 15, 16], (dl [(0, []), (1, []), (2, []), (3, []), (4, []), (5, []), (6, []), (7, []), (8, []), (9, []), (10, []), (11, []), (12, []), (13, [12, 8, 11, 7, 3, 6, 2, 5, 1, 4, 0]), (14, []), (15, []), (16, [])] .fin), [17]⟩) (.go))
theorem prefix_Check.pok : PlanOk Tryd.prog prefix_Check.plan prefix_Check.body := by
  have e : PlanOk Tryd.prog prefix_Check.plan prefix_Check.body = ((True) ∧ ((True) ∧ (True))) := by kernel_rfl
  exact e.mpr ⟨trivial, ⟨trivial, trivial⟩⟩
theorem prefix_Check.eq (p0 : Int) (p1 : Int) (K : Value → Heap → Prop) (E : Value → Heap → Prop) (H : Heap) :
    fnT Tryd.prog Tryd.f9 (wC Tryd.prog prefix_Check.Γ prefix_Check.plan prefix_Check.body) [(.agg #[(.int .u32 p0), (.int .i64 p1)])] K E H = prefix_Check.vc p0 p1 (fun r0_0 H => K (.bool r0_0) H) E H := by
  kernel_rfl
theorem prefix_Check.Fe {args : List Value} {K E : Value → Heap → Prop} {H : Heap} (h : prefix_Check.F args K E H) : ∃ p0 p1, args = [(.agg #[(.int .u32 p0), (.int .i64 p1)])] ∧ prefix_Check.c p0 p1 (fun r0_0 H => K (.bool r0_0) H) E H := by
  unfold prefix_Check.F at h
  split at h
  · exact ⟨_, _, rfl, h⟩
  · exact h.elim
theorem prefix_Check.ok : CalleeOk Tryd.prog 9 prefix_Check.F :=
  callee_ok prefix_Check.hΓ (fn := Tryd.f9) (c := prefix_Check.body) (T := wC Tryd.prog prefix_Check.Γ prefix_Check.plan prefix_Check.body) (by kernel_rfl) (by kernel_rfl) (by kernel_rfl) (wC_sound prefix_Check.hΓ Tryd.hm prefix_Check.plan _ prefix_Check.pok) fun _ K E H h => by
    obtain ⟨z0, z1, e, h⟩ := prefix_Check.Fe h
    subst e
    have h2 : prefix_Check.vc z0 z1 (fun r0_0 H => ∃ H', Heap.Le H' H ∧ K (.bool r0_0) H') E H := h.h
    rw [prefix_Check.eq z0 z1 (Fg K) E H]
    exact h2

/-! vizard/prefix.Ends -/
noncomputable def prefix_Ends.body : Code := Tryd.f7.body.getD .skip
def prefix_Ends.vc (p0 : Int) (p1 : Int) (K : Int → Int → Heap → Prop) (E : Value → Heap → Prop) (h0 : Heap) : Prop :=
  newB (.cells #[(.int .u32 p0), (.int .i64 p1)] 26) (fun b0 h1 =>
  ldI h1 .u32 ((⟨b0, 0, none⟩ : Addr).add 0) fun x0 => ldI h1 .i64 ((⟨b0, 0, none⟩ : Addr).add 1) fun x1 =>
  prefix_Check.c x0 x1 (fun x2 h2 =>
  (if (!x2) = true then
  K 0 0 h2
  else
  ldI h2 .u32 ((⟨b0, 0, none⟩ : Addr).add 0) fun x3 =>
  ldI h2 .u32 ((⟨b0, 0, none⟩ : Addr).add 0) fun x4 =>
  ldI h2 .i64 ((⟨b0, 0, none⟩ : Addr).add 1) fun x5 =>
  prefix_rest.c x5 (fun x6 h3 =>
  (ldI h3 .u32 ((⟨b0, 0, none⟩ : Addr).add 0) fun x7 =>
  eqv h3 h3 (some (.int .u32 x4)) (.int .u32 x7)) ∧
  (ldI h3 .u32 ((⟨b0, 0, none⟩ : Addr).add 0) fun x8 =>
  eqv h3 h3 (some (.int .u32 x3)) (.int .u32 x8)) ∧
  K x3 (bits .or .u32 x4 x6) h3) E h2)) E h1) h0
structure prefix_Ends.c (p0 : Int) (p1 : Int) (K : Int → Int → Heap → Prop) (E : Value → Heap → Prop) (H : Heap) : Prop where
  h : prefix_Ends.vc p0 p1 (fun r0_0 r1_0 H => ∃ H', Heap.Le H' H ∧ K r0_0 r1_0 H') E H
def prefix_Ends.F : FT := fun args K E H => match args with
  | [(.agg ⟨[(.int .u32 p0), (.int .i64 p1)]⟩)] => prefix_Ends.c p0 p1 (fun r0_0 r1_0 H => K (.tuple #[(.int .u32 r0_0), (.int .u32 r1_0)]) H) E H
  | _ => False
noncomputable def prefix_Ends.Γ : FuncId → Option FT := Γof [(9, prefix_Check.F), (10, prefix_rest.F)]
theorem prefix_Ends.hΓ : ∀ f F, prefix_Ends.Γ f = some F → CalleeOk Tryd.prog f F := Γof_ok (List.forall_mem_cons.2 ⟨prefix_Check.ok, List.forall_mem_cons.2 ⟨prefix_rest.ok, fun _ h => nomatch h⟩⟩)
noncomputable def prefix_Ends.plan : Plan := .seq (.go) (.seq (.go) (.seq (.draw ⟨[0, 1, 2, 3, 4, 5, 6, 7, 8], (dl [(0, []), (1, []), (2, []), (3, []), (4, []), (5, []), (6, [5, 4]), (7, []), (8, [])] .fin), [9]⟩) (.go)))
theorem prefix_Ends.pok : PlanOk Tryd.prog prefix_Ends.plan prefix_Ends.body := by
  have e : PlanOk Tryd.prog prefix_Ends.plan prefix_Ends.body = ((True) ∧ ((True) ∧ ((True) ∧ (True)))) := by kernel_rfl
  exact e.mpr ⟨trivial, ⟨trivial, ⟨trivial, trivial⟩⟩⟩
theorem prefix_Ends.eq (p0 : Int) (p1 : Int) (K : Value → Heap → Prop) (E : Value → Heap → Prop) (H : Heap) :
    fnT Tryd.prog Tryd.f7 (wC Tryd.prog prefix_Ends.Γ prefix_Ends.plan prefix_Ends.body) [(.agg #[(.int .u32 p0), (.int .i64 p1)])] K E H = prefix_Ends.vc p0 p1 (fun r0_0 r1_0 H => K (.tuple #[(.int .u32 r0_0), (.int .u32 r1_0)]) H) E H := by
  kernel_rfl
theorem prefix_Ends.Fe {args : List Value} {K E : Value → Heap → Prop} {H : Heap} (h : prefix_Ends.F args K E H) : ∃ p0 p1, args = [(.agg #[(.int .u32 p0), (.int .i64 p1)])] ∧ prefix_Ends.c p0 p1 (fun r0_0 r1_0 H => K (.tuple #[(.int .u32 r0_0), (.int .u32 r1_0)]) H) E H := by
  unfold prefix_Ends.F at h
  split at h
  · exact ⟨_, _, rfl, h⟩
  · exact h.elim
theorem prefix_Ends.ok : CalleeOk Tryd.prog 7 prefix_Ends.F :=
  callee_ok prefix_Ends.hΓ (fn := Tryd.f7) (c := prefix_Ends.body) (T := wC Tryd.prog prefix_Ends.Γ prefix_Ends.plan prefix_Ends.body) (by kernel_rfl) (by kernel_rfl) (by kernel_rfl) (wC_sound prefix_Ends.hΓ Tryd.hm prefix_Ends.plan _ prefix_Ends.pok) fun _ K E H h => by
    obtain ⟨z0, z1, e, h⟩ := prefix_Ends.Fe h
    subst e
    have h2 : prefix_Ends.vc z0 z1 (fun r0_0 r1_0 H => ∃ H', Heap.Le H' H ∧ K (.tuple #[(.int .u32 r0_0), (.int .u32 r1_0)]) H') E H := h.h
    rw [prefix_Ends.eq z0 z1 (Fg K) E H]
    exact h2

/-! vizard/prefix.Cover -/
noncomputable def prefix_Cover.body : Code := Tryd.f4.body.getD .skip
def prefix_Cover.J3.vc (high0 : Int) (l0 : Option Addr) (l1 : Nat) (l2 : Nat) (last0 : Int) (Kx1 : Int → Heap → Prop) (Kr : Option Addr → Nat → Nat → Heap → Prop) (E : Value → Heap → Prop) (h0 : Heap) : Prop :=
  (if (last0 == high0) = true then
  Kr l0 l1 l2 h0
  else
  Kx1 (IntKind.u32.wrap (last0 + 1)) h0)
structure prefix_Cover.J3 (high0 : Int) (l0 : Option Addr) (l1 : Nat) (l2 : Nat) (last0 : Int) (Kx1 : Int → Heap → Prop) (Kr : Option Addr → Nat → Nat → Heap → Prop) (E : Value → Heap → Prop) (H : Heap) : Prop where
  h : prefix_Cover.J3.vc high0 l0 l1 l2 last0 Kx1 Kr E H
def prefix_Cover.W2.vc (low0 : Int) (high0 : Int) (l0 : Option Addr) (l1 : Nat) (l2 : Nat) (n0 : Int) (Kx1 : Int → Option Addr → Nat → Nat → Heap → Prop) (Kr : Option Addr → Nat → Nat → Heap → Prop) (RR : Int → Option Addr → Nat → Nat → Int → Heap → Prop) (E : Value → Heap → Prop) (h0 : Heap) : Prop :=
  newB (.cells #[(.int .u32 0), (.int .i64 0)] 26) (fun b0 h1 =>
  stc h1 ((⟨b0, 0, none⟩ : Addr).add 0) (.int .u32 low0) fun h2 =>
  stc h2 ((⟨b0, 0, none⟩ : Addr).add 1) (.int .i64 n0) fun h3 =>
  ldI h3 .u32 ((⟨b0, 0, none⟩ : Addr).add 0) fun x0 => ldI h3 .i64 ((⟨b0, 0, none⟩ : Addr).add 1) fun x1 =>
  prefix_Ends.c x0 x1 (fun x2 x3 h4 =>
  (if (decide (x3 > high0)) = true then
  RR low0 l0 l1 l2 (IntKind.i64.wrap (n0 + 1)) h4
  else
  ldI h4 .u32 ((⟨b0, 0, none⟩ : Addr).add 0) fun x4 => ldI h4 .i64 ((⟨b0, 0, none⟩ : Addr).add 1) fun x5 =>
  newB (.cells #[(.int .u32 x4), (.int .i64 x5)] 26) (fun b1 h5 =>
  rdRow h5 (some (⟨b1, 0, none⟩ : Addr)) (1 * 2) fun cs0 =>
  appT 26 (.agg #[(.int .u32 0), (.int .i64 0)]) l0 l1 1 l2 2 16 cs0 (fun p0 n1 c0 h6 =>
  prefix_Cover.J3 high0 p0 n1 c0 x3 (fun low1 h7 =>
  Kx1 low1 p0 n1 c0 h7) Kr E h6) h5) h4)) E h3) h0
structure prefix_Cover.W2 (low0 : Int) (high0 : Int) (l0 : Option Addr) (l1 : Nat) (l2 : Nat) (n0 : Int) (Kx1 : Int → Option Addr → Nat → Nat → Heap → Prop) (Kr : Option Addr → Nat → Nat → Heap → Prop) (E : Value → Heap → Prop) (H : Heap) : Prop where
  h : Loop (fun (RR : Int × Option Addr × Nat × Nat × Int → Heap → Prop) (s : Int × Option Addr × Nat × Nat × Int) (H : Heap) => prefix_Cover.W2.vc s.1 high0 s.2.1 s.2.2.1 s.2.2.2.1 s.2.2.2.2 Kx1 Kr (fun low0 l0 l1 l2 n0 H => RR (low0, l0, l1, l2, n0) H) E H) (low0, l0, l1, l2, n0) H
def prefix_Cover.W1.vc (low0 : Int) (high0 : Int) (l0 : Option Addr) (l1 : Nat) (l2 : Nat) (Kr : Option Addr → Nat → Nat → Heap → Prop) (RR : Int → Option Addr → Nat → Nat → Heap → Prop) (E : Value → Heap → Prop) (h0 : Heap) : Prop :=
  math_bits_TrailingZeros32.c low0 (fun x0 h1 =>
  prefix_Cover.W2 low0 high0 l0 l1 l2 (IntKind.i64.wrap (32 - x0)) RR Kr E h1) E h0
structure prefix_Cover.W1 (low0 : Int) (high0 : Int) (l0 : Option Addr) (l1 : Nat) (l2 : Nat) (Kr : Option Addr → Nat → Nat → Heap → Prop) (E : Value → Heap → Prop) (H : Heap) : Prop where
  h : Loop (fun (RR : Int × Option Addr × Nat × Nat → Heap → Prop) (s : Int × Option Addr × Nat × Nat) (H : Heap) => prefix_Cover.W1.vc s.1 high0 s.2.1 s.2.2.1 s.2.2.2 Kr (fun low0 l0 l1 l2 H => RR (low0, l0, l1, l2) H) E H) (low0, l0, l1, l2) H
def prefix_Cover.vc (low0 : Int) (high0 : Int) (K : Option Addr → Nat → Nat → Heap → Prop) (E : Value → Heap → Prop) (h0 : Heap) : Prop :=
  (if (decide (low0 > high0)) = true then
  K none 0 0 h0
  else
  prefix_Cover.W1 low0 high0 none 0 0 K E h0)
structure prefix_Cover.c (low0 : Int) (high0 : Int) (K : Option Addr → Nat → Nat → Heap → Prop) (E : Value → Heap → Prop) (H : Heap) : Prop where
  h : prefix_Cover.vc low0 high0 (fun r0_0 r0_1 r0_2 H => ∃ H', Heap.Le H' H ∧ K r0_0 r0_1 r0_2 H') E H
def prefix_Cover.F : FT := fun args K E H => match args with
  | [(.int .u32 low0), (.int .u32 high0)] => prefix_Cover.c low0 high0 (fun r0_0 r0_1 r0_2 H => K (.slice r0_0 r0_1 r0_2) H) E H
  | _ => False
noncomputable def prefix_Cover.Γ : FuncId → Option FT := Γof [(6, math_bits_TrailingZeros32.F), (7, prefix_Ends.F)]
theorem prefix_Cover.hΓ : ∀ f F, prefix_Cover.Γ f = some F → CalleeOk Tryd.prog f F := Γof_ok (List.forall_mem_cons.2 ⟨math_bits_TrailingZeros32.ok, List.forall_mem_cons.2 ⟨prefix_Ends.ok, fun _ h => nomatch h⟩⟩)
def prefix_Cover.J3.t : CT := fun Q E fr H => lenIs 39 fr (slI fr 1 .u32 fun high0 => slSl fr 5 fun l0 l1 l2 => slI fr 9 .u32 fun last0 => prefix_Cover.J3 high0 l0 l1 l2 last0 (fun y0_0 H => Q (.exit 1) (mkF 39 [(0, (.int .u32 y0_0)), (1, (.int .u32 high0)), (5, (.slice l0 l1 l2))]) H) (fun y4_0 y4_1 y4_2 H => Q .ret (mkF 39 [(4, (.slice y4_0 y4_1 y4_2))]) H) E H)
noncomputable def prefix_Cover.J3.plan : Plan := .go
theorem prefix_Cover.J3.pok : PlanOk Tryd.prog prefix_Cover.J3.plan (sub [1, 0, 1, 1, 1, 0, 0, 0, 1, 0, 0, 0, 0, 1, 1, 1, 1] prefix_Cover.body) := by
  have e : PlanOk Tryd.prog prefix_Cover.J3.plan (sub [1, 0, 1, 1, 1, 0, 0, 0, 1, 0, 0, 0, 0, 1, 1, 1, 1] prefix_Cover.body) = (True) := by kernel_rfl
  exact e.mpr trivial
theorem prefix_Cover.J3.eq (high0 : Int) (l0 : Option Addr) (l1 : Nat) (l2 : Nat) (last0 : Int) (Q : Ex → Fr → Heap → Prop) (E : Value → Heap → Prop) (H : Heap) :
    prefix_Cover.J3.vc high0 l0 l1 l2 last0 (fun y0_0 H => Q (.exit 1) (mkF 39 [(0, (.int .u32 y0_0)), (1, (.int .u32 high0)), (5, (.slice l0 l1 l2))]) H) (fun y4_0 y4_1 y4_2 H => Q .ret (mkF 39 [(4, (.slice y4_0 y4_1 y4_2))]) H) E H = keepT [] [4] (fun i => if i = 1 then [0, 1, 5] else []) (wC Tryd.prog prefix_Cover.Γ prefix_Cover.J3.plan (sub [1, 0, 1, 1, 1, 0, 0, 0, 1, 0, 0, 0, 0, 1, 1, 1, 1] prefix_Cover.body)) Q E (mkF 39 [(1, (.int .u32 high0)), (5, (.slice l0 l1 l2)), (9, (.int .u32 last0))]) H := by
  kernel_rfl
theorem prefix_Cover.J3.ok : SoundCode Tryd.prog (sub [1, 0, 1, 1, 1, 0, 0, 0, 1, 0, 0, 0, 0, 1, 1, 1, 1] prefix_Cover.body) prefix_Cover.J3.t := by
  refine piece_sound (keepT_sound [] [4] (fun i => if i = 1 then [0, 1, 5] else []) (wC_sound prefix_Cover.hΓ Tryd.hm prefix_Cover.J3.plan _ prefix_Cover.J3.pok)) ?_
  intro Q E fr H h
  unfold prefix_Cover.J3.t at h
  obtain ⟨hl, h⟩ := lenIs_elim h
  obtain ⟨high0, q1, h⟩ := slI_elim h
  obtain ⟨l0, l1, l2, q5, h⟩ := slSl_elim h
  obtain ⟨last0, q9, h⟩ := slI_elim h
  refine ⟨(mkF 39 [(1, (.int .u32 high0)), (5, (.slice l0 l1 l2)), (9, (.int .u32 last0))]), fun a ha => ha.mk (Nat.le_of_eq hl.symm) (List.forall_mem_cons.2 ⟨q1, List.forall_mem_cons.2 ⟨q5, List.forall_mem_cons.2 ⟨q9, fun _ h => nomatch h⟩⟩⟩), ?_⟩
  have e := prefix_Cover.J3.eq high0 l0 l1 l2 last0 Q E H
  rw [← e]
  exact h.h
def prefix_Cover.W2.t : CT := fun Q E fr H => lenIs 39 fr (slI fr 0 .u32 fun low0 => slI fr 1 .u32 fun high0 => slSl fr 5 fun l0 l1 l2 => slI fr 6 .i64 fun n0 => prefix_Cover.W2 low0 high0 l0 l1 l2 n0 (fun y0_0 y5_0 y5_1 y5_2 H => Q (.exit 1) (mkF 39 [(0, (.int .u32 y0_0)), (1, (.int .u32 high0)), (5, (.slice y5_0 y5_1 y5_2))]) H) (fun y4_0 y4_1 y4_2 H => Q .ret (mkF 39 [(4, (.slice y4_0 y4_1 y4_2))]) H) E H)
noncomputable def prefix_Cover.W2.plan : Plan := .seq (.block (.seq (.go) (.seq (.go) (.seq (.go) (.seq (.go) (.use prefix_Cover.J3.t)))))) (.go)
theorem prefix_Cover.W2.pok : PlanOk Tryd.prog prefix_Cover.W2.plan (sub [1, 0, 1, 1, 1, 0, 0, 0, 1, 0, 0] prefix_Cover.body) := by
  have e : PlanOk Tryd.prog prefix_Cover.W2.plan (sub [1, 0, 1, 1, 1, 0, 0, 0, 1, 0, 0] prefix_Cover.body) = (((True) ∧ ((True) ∧ ((True) ∧ ((True) ∧ (SoundCode Tryd.prog (sub [1, 0, 1, 1, 1, 0, 0, 0, 1, 0, 0, 0, 0, 1, 1, 1, 1] prefix_Cover.body) prefix_Cover.J3.t))))) ∧ (True)) := by kernel_rfl
  exact e.mpr ⟨⟨trivial, ⟨trivial, ⟨trivial, ⟨trivial, prefix_Cover.J3.ok⟩⟩⟩⟩, trivial⟩
theorem prefix_Cover.W2.eq (high0 : Int) (Q : Ex → Fr → Heap → Prop) (E : Value → Heap → Prop) (RR : Fr → Heap → Prop) (s : Int × Option Addr × Nat × Nat × Int) (H : Heap) :
    (fun (RR : Int × Option Addr × Nat × Nat × Int → Heap → Prop) (s : Int × Option Addr × Nat × Nat × Int) (H : Heap) => prefix_Cover.W2.vc s.1 high0 s.2.1 s.2.2.1 s.2.2.2.1 s.2.2.2.2 (fun y0_0 y5_0 y5_1 y5_2 H => Q (.exit 1) (mkF 39 [(0, (.int .u32 y0_0)), (1, (.int .u32 high0)), (5, (.slice y5_0 y5_1 y5_2))]) H) (fun y4_0 y4_1 y4_2 H => Q .ret (mkF 39 [(4, (.slice y4_0 y4_1 y4_2))]) H) (fun low0 l0 l1 l2 n0 H => RR (low0, l0, l1, l2, n0) H) E H) (fun s' H' => RR ((fun (s : Int × Option Addr × Nat × Nat × Int) => (mkF 39 [(0, (.int .u32 s.1)), (1, (.int .u32 high0)), (5, (.slice s.2.1 s.2.2.1 s.2.2.2.1)), (6, (.int .i64 s.2.2.2.2))])) s') H') s H = keepT [0, 1, 5, 6] [4] (fun i => if i = 1 then [0, 1, 5] else []) (wC Tryd.prog prefix_Cover.Γ prefix_Cover.W2.plan (sub [1, 0, 1, 1, 1, 0, 0, 0, 1, 0, 0] prefix_Cover.body)) (fun e fr' H' => match e with | .normal => RR fr' H' | .exit id => Q (.exit id) fr' H' | .ret => Q .ret fr' H') E ((fun (s : Int × Option Addr × Nat × Nat × Int) => (mkF 39 [(0, (.int .u32 s.1)), (1, (.int .u32 high0)), (5, (.slice s.2.1 s.2.2.1 s.2.2.2.1)), (6, (.int .i64 s.2.2.2.2))])) s) H := by
  kernel_rfl
theorem prefix_Cover.W2.ok : SoundCode Tryd.prog (sub [1, 0, 1, 1, 1, 0, 0, 0, 1, 0] prefix_Cover.body) prefix_Cover.W2.t := by
  have e : (sub [1, 0, 1, 1, 1, 0, 0, 0, 1, 0] prefix_Cover.body) = .loop (sub [1, 0, 1, 1, 1, 0, 0, 0, 1, 0, 0] prefix_Cover.body) := by kernel_rfl
  rw [e]
  refine piece_sound (loopN_sound (keepT_sound [0, 1, 5, 6] [4] (fun i => if i = 1 then [0, 1, 5] else []) (wC_sound prefix_Cover.hΓ Tryd.hm prefix_Cover.W2.plan _ prefix_Cover.W2.pok))) ?_
  intro Q E fr H h
  unfold prefix_Cover.W2.t at h
  obtain ⟨hl, h⟩ := lenIs_elim h
  obtain ⟨low0, q0, h⟩ := slI_elim h
  obtain ⟨high0, q1, h⟩ := slI_elim h
  obtain ⟨l0, l1, l2, q5, h⟩ := slSl_elim h
  obtain ⟨n0, q6, h⟩ := slI_elim h
  obtain ⟨m, h⟩ := h.h
  refine ⟨(mkF 39 [(0, (.int .u32 low0)), (1, (.int .u32 high0)), (5, (.slice l0 l1 l2)), (6, (.int .i64 n0))]), fun a ha => ha.mk (Nat.le_of_eq hl.symm) (List.forall_mem_cons.2 ⟨q0, List.forall_mem_cons.2 ⟨q1, List.forall_mem_cons.2 ⟨q5, List.forall_mem_cons.2 ⟨q6, fun _ h => nomatch h⟩⟩⟩⟩), m, ?_⟩
  have e := loopS_eq (B := (fun (RR : Int × Option Addr × Nat × Nat × Int → Heap → Prop) (s : Int × Option Addr × Nat × Nat × Int) (H : Heap) => prefix_Cover.W2.vc s.1 high0 s.2.1 s.2.2.1 s.2.2.2.1 s.2.2.2.2 (fun y0_0 y5_0 y5_1 y5_2 H => Q (.exit 1) (mkF 39 [(0, (.int .u32 y0_0)), (1, (.int .u32 high0)), (5, (.slice y5_0 y5_1 y5_2))]) H) (fun y4_0 y4_1 y4_2 H => Q .ret (mkF 39 [(4, (.slice y4_0 y4_1 y4_2))]) H) (fun low0 l0 l1 l2 n0 H => RR (low0, l0, l1, l2, n0) H) E H)) (A := keepT [0, 1, 5, 6] [4] (fun i => if i = 1 then [0, 1, 5] else []) (wC Tryd.prog prefix_Cover.Γ prefix_Cover.W2.plan (sub [1, 0, 1, 1, 1, 0, 0, 0, 1, 0, 0] prefix_Cover.body))) (m := (fun (s : Int × Option Addr × Nat × Nat × Int) => (mkF 39 [(0, (.int .u32 s.1)), (1, (.int .u32 high0)), (5, (.slice s.2.1 s.2.2.1 s.2.2.2.1)), (6, (.int .i64 s.2.2.2.2))]))) (Q := Q) (E := E) (fun RR s H => prefix_Cover.W2.eq high0 Q E RR s H) m (low0, l0, l1, l2, n0) H
  exact cast e h
def prefix_Cover.W1.t : CT := fun Q E fr H => lenIs 39 fr (slI fr 0 .u32 fun low0 => slI fr 1 .u32 fun high0 => slSl fr 5 fun l0 l1 l2 => prefix_Cover.W1 low0 high0 l0 l1 l2 (fun y4_0 y4_1 y4_2 H => Q .ret (mkF 39 [(4, (.slice y4_0 y4_1 y4_2))]) H) E H)
noncomputable def prefix_Cover.W1.plan : Plan := .block (.seq (.go) (.block (.use prefix_Cover.W2.t)))
theorem prefix_Cover.W1.pok : PlanOk Tryd.prog prefix_Cover.W1.plan (sub [1, 0, 1, 1, 1, 0, 0] prefix_Cover.body) := by
  have e : PlanOk Tryd.prog prefix_Cover.W1.plan (sub [1, 0, 1, 1, 1, 0, 0] prefix_Cover.body) = ((True) ∧ (SoundCode Tryd.prog (sub [1, 0, 1, 1, 1, 0, 0, 0, 1, 0] prefix_Cover.body) prefix_Cover.W2.t)) := by kernel_rfl
  exact e.mpr ⟨trivial, prefix_Cover.W2.ok⟩
theorem prefix_Cover.W1.eq (high0 : Int) (Q : Ex → Fr → Heap → Prop) (E : Value → Heap → Prop) (RR : Fr → Heap → Prop) (s : Int × Option Addr × Nat × Nat) (H : Heap) :
    (fun (RR : Int × Option Addr × Nat × Nat → Heap → Prop) (s : Int × Option Addr × Nat × Nat) (H : Heap) => prefix_Cover.W1.vc s.1 high0 s.2.1 s.2.2.1 s.2.2.2 (fun y4_0 y4_1 y4_2 H => Q .ret (mkF 39 [(4, (.slice y4_0 y4_1 y4_2))]) H) (fun low0 l0 l1 l2 H => RR (low0, l0, l1, l2) H) E H) (fun s' H' => RR ((fun (s : Int × Option Addr × Nat × Nat) => (mkF 39 [(0, (.int .u32 s.1)), (1, (.int .u32 high0)), (5, (.slice s.2.1 s.2.2.1 s.2.2.2))])) s') H') s H = keepT [0, 1, 5] [4] (fun i => []) (wC Tryd.prog prefix_Cover.Γ prefix_Cover.W1.plan (sub [1, 0, 1, 1, 1, 0, 0] prefix_Cover.body)) (fun e fr' H' => match e with | .normal => RR fr' H' | .exit id => Q (.exit id) fr' H' | .ret => Q .ret fr' H') E ((fun (s : Int × Option Addr × Nat × Nat) => (mkF 39 [(0, (.int .u32 s.1)), (1, (.int .u32 high0)), (5, (.slice s.2.1 s.2.2.1 s.2.2.2))])) s) H := by
  kernel_rfl
theorem prefix_Cover.W1.ok : SoundCode Tryd.prog (sub [1, 0, 1, 1, 1, 0] prefix_Cover.body) prefix_Cover.W1.t := by
  have e : (sub [1, 0, 1, 1, 1, 0] prefix_Cover.body) = .loop (sub [1, 0, 1, 1, 1, 0, 0] prefix_Cover.body) := by kernel_rfl
  rw [e]
  refine piece_sound (loopN_sound (keepT_sound [0, 1, 5] [4] (fun i => []) (wC_sound prefix_Cover.hΓ Tryd.hm prefix_Cover.W1.plan _ prefix_Cover.W1.pok))) ?_
  intro Q E fr H h
  unfold prefix_Cover.W1.t at h
  obtain ⟨hl, h⟩ := lenIs_elim h
  obtain ⟨low0, q0, h⟩ := slI_elim h
  obtain ⟨high0, q1, h⟩ := slI_elim h
  obtain ⟨l0, l1, l2, q5, h⟩ := slSl_elim h
  obtain ⟨m, h⟩ := h.h
  refine ⟨(mkF 39 [(0, (.int .u32 low0)), (1, (.int .u32 high0)), (5, (.slice l0 l1 l2))]), fun a ha => ha.mk (Nat.le_of_eq hl.symm) (List.forall_mem_cons.2 ⟨q0, List.forall_mem_cons.2 ⟨q1, List.forall_mem_cons.2 ⟨q5, fun _ h => nomatch h⟩⟩⟩), m, ?_⟩
  have e := loopS_eq (B := (fun (RR : Int × Option Addr × Nat × Nat → Heap → Prop) (s : Int × Option Addr × Nat × Nat) (H : Heap) => prefix_Cover.W1.vc s.1 high0 s.2.1 s.2.2.1 s.2.2.2 (fun y4_0 y4_1 y4_2 H => Q .ret (mkF 39 [(4, (.slice y4_0 y4_1 y4_2))]) H) (fun low0 l0 l1 l2 H => RR (low0, l0, l1, l2) H) E H)) (A := keepT [0, 1, 5] [4] (fun i => []) (wC Tryd.prog prefix_Cover.Γ prefix_Cover.W1.plan (sub [1, 0, 1, 1, 1, 0, 0] prefix_Cover.body))) (m := (fun (s : Int × Option Addr × Nat × Nat) => (mkF 39 [(0, (.int .u32 s.1)), (1, (.int .u32 high0)), (5, (.slice s.2.1 s.2.2.1 s.2.2.2))]))) (Q := Q) (E := E) (fun RR s H => prefix_Cover.W1.eq high0 Q E RR s H) m (low0, l0, l1, l2) H
  exact cast e h
noncomputable def prefix_Cover.plan : Plan := .seq (.go) (.scope (.seq (.go) (.seq (.go) (.seq (.go) (.block (.use prefix_Cover.W1.t))))))
theorem prefix_Cover.pok : PlanOk Tryd.prog prefix_Cover.plan prefix_Cover.body := by
  have e : PlanOk Tryd.prog prefix_Cover.plan prefix_Cover.body = ((True) ∧ ((True) ∧ ((True) ∧ ((True) ∧ (SoundCode Tryd.prog (sub [1, 0, 1, 1, 1, 0] prefix_Cover.body) prefix_Cover.W1.t))))) := by kernel_rfl
  exact e.mpr ⟨trivial, ⟨trivial, ⟨trivial, ⟨trivial, prefix_Cover.W1.ok⟩⟩⟩⟩
theorem prefix_Cover.eq (low0 : Int) (high0 : Int) (K : Value → Heap → Prop) (E : Value → Heap → Prop) (H : Heap) :
    fnT Tryd.prog Tryd.f4 (wC Tryd.prog prefix_Cover.Γ prefix_Cover.plan prefix_Cover.body) [(.int .u32 low0), (.int .u32 high0)] K E H = prefix_Cover.vc low0 high0 (fun r0_0 r0_1 r0_2 H => K (.slice r0_0 r0_1 r0_2) H) E H := by
  kernel_rfl
theorem prefix_Cover.Fe {args : List Value} {K E : Value → Heap → Prop} {H : Heap} (h : prefix_Cover.F args K E H) : ∃ low0 high0, args = [(.int .u32 low0), (.int .u32 high0)] ∧ prefix_Cover.c low0 high0 (fun r0_0 r0_1 r0_2 H => K (.slice r0_0 r0_1 r0_2) H) E H := by
  unfold prefix_Cover.F at h
  split at h
  · exact ⟨_, _, rfl, h⟩
  · exact h.elim
theorem prefix_Cover.ok : CalleeOk Tryd.prog 4 prefix_Cover.F :=
  callee_ok prefix_Cover.hΓ (fn := Tryd.f4) (c := prefix_Cover.body) (T := wC Tryd.prog prefix_Cover.Γ prefix_Cover.plan prefix_Cover.body) (by kernel_rfl) (by kernel_rfl) (by kernel_rfl) (wC_sound prefix_Cover.hΓ Tryd.hm prefix_Cover.plan _ prefix_Cover.pok) fun _ K E H h => by
    obtain ⟨z0, z1, e, h⟩ := prefix_Cover.Fe h
    subst e
    have h2 : prefix_Cover.vc z0 z1 (fun r0_0 r0_1 r0_2 H => ∃ H', Heap.Le H' H ∧ K (.slice r0_0 r0_1 r0_2) H') E H := h.h
    rw [prefix_Cover.eq z0 z1 (Fg K) E H]
    exact h2

/-! vizard/vizardref04.size -/
noncomputable def vizardref04_size.body : Code := Tryd.f8.body.getD .skip
def vizardref04_size.vc (bits0 : Int) (K : Int → Heap → Prop) (E : Value → Heap → Prop) (h0 : Heap) : Prop :=
  (0 : Int) ≤ (IntKind.i64.wrap (32 - bits0)) ∧
  K (shlI .i64 1 (IntKind.i64.wrap (32 - bits0))) h0
structure vizardref04_size.c (bits0 : Int) (K : Int → Heap → Prop) (E : Value → Heap → Prop) (H : Heap) : Prop where
  h : vizardref04_size.vc bits0 (fun r0_0 H => ∃ H', Heap.Le H' H ∧ K r0_0 H') E H
def vizardref04_size.F : FT := fun args K E H => match args with
  | [(.int .i64 bits0)] => vizardref04_size.c bits0 (fun r0_0 H => K (.int .i64 r0_0) H) E H
  | _ => False
noncomputable def vizardref04_size.Γ : FuncId → Option FT := Γof []
theorem vizardref04_size.hΓ : ∀ f F, vizardref04_size.Γ f = some F → CalleeOk Tryd.prog f F := Γof_ok (fun _ h => nomatch h)
noncomputable def vizardref04_size.plan : Plan := .go
theorem vizardref04_size.pok : PlanOk Tryd.prog vizardref04_size.plan vizardref04_size.body := by
  have e : PlanOk Tryd.prog vizardref04_size.plan vizardref04_size.body = (True) := by kernel_rfl
  exact e.mpr trivial
theorem vizardref04_size.eq (bits0 : Int) (K : Value → Heap → Prop) (E : Value → Heap → Prop) (H : Heap) :
    fnT Tryd.prog Tryd.f8 (wC Tryd.prog vizardref04_size.Γ vizardref04_size.plan vizardref04_size.body) [(.int .i64 bits0)] K E H = vizardref04_size.vc bits0 (fun r0_0 H => K (.int .i64 r0_0) H) E H := by
  kernel_rfl
theorem vizardref04_size.Fe {args : List Value} {K E : Value → Heap → Prop} {H : Heap} (h : vizardref04_size.F args K E H) : ∃ bits0, args = [(.int .i64 bits0)] ∧ vizardref04_size.c bits0 (fun r0_0 H => K (.int .i64 r0_0) H) E H := by
  unfold vizardref04_size.F at h
  split at h
  · exact ⟨_, rfl, h⟩
  · exact h.elim
theorem vizardref04_size.ok : CalleeOk Tryd.prog 8 vizardref04_size.F :=
  callee_ok vizardref04_size.hΓ (fn := Tryd.f8) (c := vizardref04_size.body) (T := wC Tryd.prog vizardref04_size.Γ vizardref04_size.plan vizardref04_size.body) (by kernel_rfl) (by kernel_rfl) (by kernel_rfl) (wC_sound vizardref04_size.hΓ Tryd.hm vizardref04_size.plan _ vizardref04_size.pok) fun _ K E H h => by
    obtain ⟨z0, e, h⟩ := vizardref04_size.Fe h
    subst e
    have h2 : vizardref04_size.vc z0 (fun r0_0 H => ∃ H', Heap.Le H' H ∧ K (.int .i64 r0_0) H') E H := h.h
    rw [vizardref04_size.eq z0 (Fg K) E H]
    exact h2

/-! vizard/vizardref04.Cover -/
noncomputable def vizardref04_Cover.body : Code := Tryd.f5.body.getD .skip
def vizardref04_Cover.J3.vc (high0 : Int) (l0 : Option Addr) (l1 : Nat) (l2 : Nat) (at0 : Int) (bits0 : Int) (Kn : Int → Heap → Prop) (E : Value → Heap → Prop) (h0 : Heap) : Prop :=
  Kn (IntKind.i64.wrap (bits0 + 1)) h0
structure vizardref04_Cover.J3 (high0 : Int) (l0 : Option Addr) (l1 : Nat) (l2 : Nat) (at0 : Int) (bits0 : Int) (Kn : Int → Heap → Prop) (E : Value → Heap → Prop) (H : Heap) : Prop where
  h : vizardref04_Cover.J3.vc high0 l0 l1 l2 at0 bits0 Kn E H
def vizardref04_Cover.W2.vc (high0 : Int) (l0 : Option Addr) (l1 : Nat) (l2 : Nat) (at0 : Int) (bits0 : Int) (Kx2 : Int → Heap → Prop) (RR : Int → Heap → Prop) (E : Value → Heap → Prop) (h0 : Heap) : Prop :=
  vizardref04_size.c bits0 (fun x0 h1 =>
  x0 ≠ (0 : Int) ∧
  (if ((Int.tmod at0 x0) != 0) = true then
  vizardref04_Cover.J3 high0 l0 l1 l2 at0 bits0 RR E h1
  else
  vizardref04_size.c bits0 (fun x1 h3 =>
  (if (decide ((IntKind.i64.wrap ((IntKind.i64.wrap (at0 + x1)) - 1)) > (IntKind.i64.wrap high0))) = true then
  vizardref04_Cover.J3 high0 l0 l1 l2 at0 bits0 RR E h3
  else
  Kx2 bits0 h3)) E h1)) E h0
structure vizardref04_Cover.W2 (high0 : Int) (l0 : Option Addr) (l1 : Nat) (l2 : Nat) (at0 : Int) (bits0 : Int) (Kx2 : Int → Heap → Prop) (E : Value → Heap → Prop) (H : Heap) : Prop where
  h : Loop (fun (RR : Int → Heap → Prop) (s : Int) (H : Heap) => vizardref04_Cover.W2.vc high0 l0 l1 l2 at0 s Kx2 (fun bits0 H => RR (bits0) H) E H) (bits0) H
def vizardref04_Cover.J4.vc (high0 : Int) (l0 : Option Addr) (l1 : Nat) (l2 : Nat) (at0 : Int) (bits0 : Int) (Kn : Int → Heap → Prop) (E : Value → Heap → Prop) (h0 : Heap) : Prop :=
  vizardref04_size.c bits0 (fun x0 h1 =>
  Kn (IntKind.i64.wrap (at0 + x0)) h1) E h0
structure vizardref04_Cover.J4 (high0 : Int) (l0 : Option Addr) (l1 : Nat) (l2 : Nat) (at0 : Int) (bits0 : Int) (Kn : Int → Heap → Prop) (E : Value → Heap → Prop) (H : Heap) : Prop where
  h : vizardref04_Cover.J4.vc high0 l0 l1 l2 at0 bits0 Kn E H
def vizardref04_Cover.W1.vc (high0 : Int) (l0 : Option Addr) (l1 : Nat) (l2 : Nat) (at0 : Int) (Kx0 : Option Addr → Nat → Nat → Heap → Prop) (RR : Option Addr → Nat → Nat → Int → Heap → Prop) (E : Value → Heap → Prop) (h0 : Heap) : Prop :=
  (if (decide (at0 ≤ (IntKind.i64.wrap high0))) = true then
  vizardref04_Cover.W2 high0 l0 l1 l2 at0 0 (fun bits0 h1 =>
  newB (.cells #[(.int .u32 (IntKind.u32.wrap at0)), (.int .i64 bits0)] 26) (fun b0 h2 =>
  rdRow h2 (some (⟨b0, 0, none⟩ : Addr)) (1 * 2) fun cs0 =>
  appT 26 (.agg #[(.int .u32 0), (.int .i64 0)]) l0 l1 1 l2 2 16 cs0 (fun p0 n0 c0 h3 =>
  vizardref04_Cover.J4 high0 p0 n0 c0 at0 bits0 (fun at1 h4 =>
  RR p0 n0 c0 at1 h4) E h3) h2) h1) E h0
  else
  Kx0 l0 l1 l2 h0)
structure vizardref04_Cover.W1 (high0 : Int) (l0 : Option Addr) (l1 : Nat) (l2 : Nat) (at0 : Int) (Kx0 : Option Addr → Nat → Nat → Heap → Prop) (E : Value → Heap → Prop) (H : Heap) : Prop where
  h : Loop (fun (RR : Option Addr × Nat × Nat × Int → Heap → Prop) (s : Option Addr × Nat × Nat × Int) (H : Heap) => vizardref04_Cover.W1.vc high0 s.1 s.2.1 s.2.2.1 s.2.2.2 Kx0 (fun l0 l1 l2 at0 H => RR (l0, l1, l2, at0) H) E H) (l0, l1, l2, at0) H
def vizardref04_Cover.vc (low0 : Int) (high0 : Int) (K : Option Addr → Nat → Nat → Heap → Prop) (E : Value → Heap → Prop) (h0 : Heap) : Prop :=
  vizardref04_Cover.W1 high0 none 0 0 (IntKind.i64.wrap low0) K E h0
structure vizardref04_Cover.c (low0 : Int) (high0 : Int) (K : Option Addr → Nat → Nat → Heap → Prop) (E : Value → Heap → Prop) (H : Heap) : Prop where
  h : vizardref04_Cover.vc low0 high0 (fun r0_0 r0_1 r0_2 H => ∃ H', Heap.Le H' H ∧ K r0_0 r0_1 r0_2 H') E H
def vizardref04_Cover.F : FT := fun args K E H => match args with
  | [(.int .u32 low0), (.int .u32 high0)] => vizardref04_Cover.c low0 high0 (fun r0_0 r0_1 r0_2 H => K (.slice r0_0 r0_1 r0_2) H) E H
  | _ => False
noncomputable def vizardref04_Cover.Γ : FuncId → Option FT := Γof [(8, vizardref04_size.F)]
theorem vizardref04_Cover.hΓ : ∀ f F, vizardref04_Cover.Γ f = some F → CalleeOk Tryd.prog f F := Γof_ok (List.forall_mem_cons.2 ⟨vizardref04_size.ok, fun _ h => nomatch h⟩)
def vizardref04_Cover.J3.t : CT := fun Q E fr H => lenIs 43 fr (slI fr 1 .u32 fun high0 => slSl fr 5 fun l0 l1 l2 => slI fr 6 .i64 fun at0 => slI fr 7 .i64 fun bits0 => vizardref04_Cover.J3 high0 l0 l1 l2 at0 bits0 (fun y7_0 H => Q .normal (mkF 43 [(1, (.int .u32 high0)), (5, (.slice l0 l1 l2)), (6, (.int .i64 at0)), (7, (.int .i64 y7_0))]) H) E H)
noncomputable def vizardref04_Cover.J3.plan : Plan := .go
theorem vizardref04_Cover.J3.pok : PlanOk Tryd.prog vizardref04_Cover.J3.plan (sub [1, 1, 1, 0, 0, 0, 1, 0, 1, 0, 0, 0, 1] vizardref04_Cover.body) := by
  have e : PlanOk Tryd.prog vizardref04_Cover.J3.plan (sub [1, 1, 1, 0, 0, 0, 1, 0, 1, 0, 0, 0, 1] vizardref04_Cover.body) = (True) := by kernel_rfl
  exact e.mpr trivial
theorem vizardref04_Cover.J3.eq (high0 : Int) (l0 : Option Addr) (l1 : Nat) (l2 : Nat) (at0 : Int) (bits0 : Int) (Q : Ex → Fr → Heap → Prop) (E : Value → Heap → Prop) (H : Heap) :
    vizardref04_Cover.J3.vc high0 l0 l1 l2 at0 bits0 (fun y7_0 H => Q .normal (mkF 43 [(1, (.int .u32 high0)), (5, (.slice l0 l1 l2)), (6, (.int .i64 at0)), (7, (.int .i64 y7_0))]) H) E H = keepT [1, 5, 6, 7] [] (fun i => []) (wC Tryd.prog vizardref04_Cover.Γ vizardref04_Cover.J3.plan (sub [1, 1, 1, 0, 0, 0, 1, 0, 1, 0, 0, 0, 1] vizardref04_Cover.body)) Q E (mkF 43 [(1, (.int .u32 high0)), (5, (.slice l0 l1 l2)), (6, (.int .i64 at0)), (7, (.int .i64 bits0))]) H := by
  kernel_rfl
theorem vizardref04_Cover.J3.ok : SoundCode Tryd.prog (sub [1, 1, 1, 0, 0, 0, 1, 0, 1, 0, 0, 0, 1] vizardref04_Cover.body) vizardref04_Cover.J3.t := by
  refine piece_sound (keepT_sound [1, 5, 6, 7] [] (fun i => []) (wC_sound vizardref04_Cover.hΓ Tryd.hm vizardref04_Cover.J3.plan _ vizardref04_Cover.J3.pok)) ?_
  intro Q E fr H h
  unfold vizardref04_Cover.J3.t at h
  obtain ⟨hl, h⟩ := lenIs_elim h
  obtain ⟨high0, q1, h⟩ := slI_elim h
  obtain ⟨l0, l1, l2, q5, h⟩ := slSl_elim h
  obtain ⟨at0, q6, h⟩ := slI_elim h
  obtain ⟨bits0, q7, h⟩ := slI_elim h
  refine ⟨(mkF 43 [(1, (.int .u32 high0)), (5, (.slice l0 l1 l2)), (6, (.int .i64 at0)), (7, (.int .i64 bits0))]), fun a ha => ha.mk (Nat.le_of_eq hl.symm) (List.forall_mem_cons.2 ⟨q1, List.forall_mem_cons.2 ⟨q5, List.forall_mem_cons.2 ⟨q6, List.forall_mem_cons.2 ⟨q7, fun _ h => nomatch h⟩⟩⟩⟩), ?_⟩
  have e := vizardref04_Cover.J3.eq high0 l0 l1 l2 at0 bits0 Q E H
  rw [← e]
  exact h.h
def vizardref04_Cover.W2.t : CT := fun Q E fr H => lenIs 43 fr (slI fr 1 .u32 fun high0 => slSl fr 5 fun l0 l1 l2 => slI fr 6 .i64 fun at0 => slI fr 7 .i64 fun bits0 => vizardref04_Cover.W2 high0 l0 l1 l2 at0 bits0 (fun y7_0 H => Q (.exit 2) (mkF 43 [(1, (.int .u32 high0)), (5, (.slice l0 l1 l2)), (6, (.int .i64 at0)), (7, (.int .i64 y7_0))]) H) E H)
noncomputable def vizardref04_Cover.W2.plan : Plan := .seq (.go) (.use vizardref04_Cover.J3.t)
theorem vizardref04_Cover.W2.pok : PlanOk Tryd.prog vizardref04_Cover.W2.plan (sub [1, 1, 1, 0, 0, 0, 1, 0, 1, 0, 0, 0] vizardref04_Cover.body) := by
  have e : PlanOk Tryd.prog vizardref04_Cover.W2.plan (sub [1, 1, 1, 0, 0, 0, 1, 0, 1, 0, 0, 0] vizardref04_Cover.body) = ((True) ∧ (SoundCode Tryd.prog (sub [1, 1, 1, 0, 0, 0, 1, 0, 1, 0, 0, 0, 1] vizardref04_Cover.body) vizardref04_Cover.J3.t)) := by kernel_rfl
  exact e.mpr ⟨trivial, vizardref04_Cover.J3.ok⟩
theorem vizardref04_Cover.W2.eq (high0 : Int) (l0 : Option Addr) (l1 : Nat) (l2 : Nat) (at0 : Int) (Q : Ex → Fr → Heap → Prop) (E : Value → Heap → Prop) (RR : Fr → Heap → Prop) (s : Int) (H : Heap) :
    (fun (RR : Int → Heap → Prop) (s : Int) (H : Heap) => vizardref04_Cover.W2.vc high0 l0 l1 l2 at0 s (fun y7_0 H => Q (.exit 2) (mkF 43 [(1, (.int .u32 high0)), (5, (.slice l0 l1 l2)), (6, (.int .i64 at0)), (7, (.int .i64 y7_0))]) H) (fun bits0 H => RR (bits0) H) E H) (fun s' H' => RR ((fun (s : Int) => (mkF 43 [(1, (.int .u32 high0)), (5, (.slice l0 l1 l2)), (6, (.int .i64 at0)), (7, (.int .i64 s))])) s') H') s H = keepT [1, 5, 6, 7] [] (fun i => if i = 2 then [1, 5, 6, 7] else []) (wC Tryd.prog vizardref04_Cover.Γ vizardref04_Cover.W2.plan (sub [1, 1, 1, 0, 0, 0, 1, 0, 1, 0, 0, 0] vizardref04_Cover.body)) (fun e fr' H' => match e with | .normal => RR fr' H' | .exit id => Q (.exit id) fr' H' | .ret => Q .ret fr' H') E ((fun (s : Int) => (mkF 43 [(1, (.int .u32 high0)), (5, (.slice l0 l1 l2)), (6, (.int .i64 at0)), (7, (.int .i64 s))])) s) H := by
  kernel_rfl
theorem vizardref04_Cover.W2.ok : SoundCode Tryd.prog (sub [1, 1, 1, 0, 0, 0, 1, 0, 1, 0, 0] vizardref04_Cover.body) vizardref04_Cover.W2.t := by
  have e : (sub [1, 1, 1, 0, 0, 0, 1, 0, 1, 0, 0] vizardref04_Cover.body) = .loop (sub [1, 1, 1, 0, 0, 0, 1, 0, 1, 0, 0, 0] vizardref04_Cover.body) := by kernel_rfl
  rw [e]
  refine piece_sound (loopN_sound (keepT_sound [1, 5, 6, 7] [] (fun i => if i = 2 then [1, 5, 6, 7] else []) (wC_sound vizardref04_Cover.hΓ Tryd.hm vizardref04_Cover.W2.plan _ vizardref04_Cover.W2.pok))) ?_
  intro Q E fr H h
  unfold vizardref04_Cover.W2.t at h
  obtain ⟨hl, h⟩ := lenIs_elim h
  obtain ⟨high0, q1, h⟩ := slI_elim h
  obtain ⟨l0, l1, l2, q5, h⟩ := slSl_elim h
  obtain ⟨at0, q6, h⟩ := slI_elim h
  obtain ⟨bits0, q7, h⟩ := slI_elim h
  obtain ⟨m, h⟩ := h.h
  refine ⟨(mkF 43 [(1, (.int .u32 high0)), (5, (.slice l0 l1 l2)), (6, (.int .i64 at0)), (7, (.int .i64 bits0))]), fun a ha => ha.mk (Nat.le_of_eq hl.symm) (List.forall_mem_cons.2 ⟨q1, List.forall_mem_cons.2 ⟨q5, List.forall_mem_cons.2 ⟨q6, List.forall_mem_cons.2 ⟨q7, fun _ h => nomatch h⟩⟩⟩⟩), m, ?_⟩
  have e := loopS_eq (B := (fun (RR : Int → Heap → Prop) (s : Int) (H : Heap) => vizardref04_Cover.W2.vc high0 l0 l1 l2 at0 s (fun y7_0 H => Q (.exit 2) (mkF 43 [(1, (.int .u32 high0)), (5, (.slice l0 l1 l2)), (6, (.int .i64 at0)), (7, (.int .i64 y7_0))]) H) (fun bits0 H => RR (bits0) H) E H)) (A := keepT [1, 5, 6, 7] [] (fun i => if i = 2 then [1, 5, 6, 7] else []) (wC Tryd.prog vizardref04_Cover.Γ vizardref04_Cover.W2.plan (sub [1, 1, 1, 0, 0, 0, 1, 0, 1, 0, 0, 0] vizardref04_Cover.body))) (m := (fun (s : Int) => (mkF 43 [(1, (.int .u32 high0)), (5, (.slice l0 l1 l2)), (6, (.int .i64 at0)), (7, (.int .i64 s))]))) (Q := Q) (E := E) (fun RR s H => vizardref04_Cover.W2.eq high0 l0 l1 l2 at0 Q E RR s H) m (bits0) H
  exact cast e h
def vizardref04_Cover.J4.t : CT := fun Q E fr H => lenIs 43 fr (slI fr 1 .u32 fun high0 => slSl fr 5 fun l0 l1 l2 => slI fr 6 .i64 fun at0 => slI fr 7 .i64 fun bits0 => vizardref04_Cover.J4 high0 l0 l1 l2 at0 bits0 (fun y6_0 H => Q .normal (mkF 43 [(1, (.int .u32 high0)), (5, (.slice l0 l1 l2)), (6, (.int .i64 y6_0))]) H) E H)
noncomputable def vizardref04_Cover.J4.plan : Plan := .go
theorem vizardref04_Cover.J4.pok : PlanOk Tryd.prog vizardref04_Cover.J4.plan (sub [1, 1, 1, 0, 0, 0, 1, 0, 1, 1, 1] vizardref04_Cover.body) := by
  have e : PlanOk Tryd.prog vizardref04_Cover.J4.plan (sub [1, 1, 1, 0, 0, 0, 1, 0, 1, 1, 1] vizardref04_Cover.body) = (True) := by kernel_rfl
  exact e.mpr trivial
theorem vizardref04_Cover.J4.eq (high0 : Int) (l0 : Option Addr) (l1 : Nat) (l2 : Nat) (at0 : Int) (bits0 : Int) (Q : Ex → Fr → Heap → Prop) (E : Value → Heap → Prop) (H : Heap) :
    vizardref04_Cover.J4.vc high0 l0 l1 l2 at0 bits0 (fun y6_0 H => Q .normal (mkF 43 [(1, (.int .u32 high0)), (5, (.slice l0 l1 l2)), (6, (.int .i64 y6_0))]) H) E H = keepT [1, 5, 6] [] (fun i => []) (wC Tryd.prog vizardref04_Cover.Γ vizardref04_Cover.J4.plan (sub [1, 1, 1, 0, 0, 0, 1, 0, 1, 1, 1] vizardref04_Cover.body)) Q E (mkF 43 [(1, (.int .u32 high0)), (5, (.slice l0 l1 l2)), (6, (.int .i64 at0)), (7, (.int .i64 bits0))]) H := by
  kernel_rfl
theorem vizardref04_Cover.J4.ok : SoundCode Tryd.prog (sub [1, 1, 1, 0, 0, 0, 1, 0, 1, 1, 1] vizardref04_Cover.body) vizardref04_Cover.J4.t := by
  refine piece_sound (keepT_sound [1, 5, 6] [] (fun i => []) (wC_sound vizardref04_Cover.hΓ Tryd.hm vizardref04_Cover.J4.plan _ vizardref04_Cover.J4.pok)) ?_
  intro Q E fr H h
  unfold vizardref04_Cover.J4.t at h
  obtain ⟨hl, h⟩ := lenIs_elim h
  obtain ⟨high0, q1, h⟩ := slI_elim h
  obtain ⟨l0, l1, l2, q5, h⟩ := slSl_elim h
  obtain ⟨at0, q6, h⟩ := slI_elim h
  obtain ⟨bits0, q7, h⟩ := slI_elim h
  refine ⟨(mkF 43 [(1, (.int .u32 high0)), (5, (.slice l0 l1 l2)), (6, (.int .i64 at0)), (7, (.int .i64 bits0))]), fun a ha => ha.mk (Nat.le_of_eq hl.symm) (List.forall_mem_cons.2 ⟨q1, List.forall_mem_cons.2 ⟨q5, List.forall_mem_cons.2 ⟨q6, List.forall_mem_cons.2 ⟨q7, fun _ h => nomatch h⟩⟩⟩⟩), ?_⟩
  have e := vizardref04_Cover.J4.eq high0 l0 l1 l2 at0 bits0 Q E H
  rw [← e]
  exact h.h
def vizardref04_Cover.W1.t : CT := fun Q E fr H => lenIs 43 fr (slI fr 1 .u32 fun high0 => slSl fr 5 fun l0 l1 l2 => slI fr 6 .i64 fun at0 => vizardref04_Cover.W1 high0 l0 l1 l2 at0 (fun y5_0 y5_1 y5_2 H => Q (.exit 0) (mkF 43 [(5, (.slice y5_0 y5_1 y5_2))]) H) E H)
noncomputable def vizardref04_Cover.W1.plan : Plan := .seq (.go) (.block (.seq (.go) (.seq (.block (.use vizardref04_Cover.W2.t)) (.seq (.go) (.use vizardref04_Cover.J4.t)))))
theorem vizardref04_Cover.W1.pok : PlanOk Tryd.prog vizardref04_Cover.W1.plan (sub [1, 1, 1, 0, 0, 0] vizardref04_Cover.body) := by
  have e : PlanOk Tryd.prog vizardref04_Cover.W1.plan (sub [1, 1, 1, 0, 0, 0] vizardref04_Cover.body) = ((True) ∧ ((True) ∧ ((SoundCode Tryd.prog (sub [1, 1, 1, 0, 0, 0, 1, 0, 1, 0, 0] vizardref04_Cover.body) vizardref04_Cover.W2.t) ∧ ((True) ∧ (SoundCode Tryd.prog (sub [1, 1, 1, 0, 0, 0, 1, 0, 1, 1, 1] vizardref04_Cover.body) vizardref04_Cover.J4.t))))) := by kernel_rfl
  exact e.mpr ⟨trivial, ⟨trivial, ⟨vizardref04_Cover.W2.ok, ⟨trivial, vizardref04_Cover.J4.ok⟩⟩⟩⟩
theorem vizardref04_Cover.W1.eq (high0 : Int) (Q : Ex → Fr → Heap → Prop) (E : Value → Heap → Prop) (RR : Fr → Heap → Prop) (s : Option Addr × Nat × Nat × Int) (H : Heap) :
    (fun (RR : Option Addr × Nat × Nat × Int → Heap → Prop) (s : Option Addr × Nat × Nat × Int) (H : Heap) => vizardref04_Cover.W1.vc high0 s.1 s.2.1 s.2.2.1 s.2.2.2 (fun y5_0 y5_1 y5_2 H => Q (.exit 0) (mkF 43 [(5, (.slice y5_0 y5_1 y5_2))]) H) (fun l0 l1 l2 at0 H => RR (l0, l1, l2, at0) H) E H) (fun s' H' => RR ((fun (s : Option Addr × Nat × Nat × Int) => (mkF 43 [(1, (.int .u32 high0)), (5, (.slice s.1 s.2.1 s.2.2.1)), (6, (.int .i64 s.2.2.2))])) s') H') s H = keepT [1, 5, 6] [] (fun i => if i = 0 then [5] else []) (wC Tryd.prog vizardref04_Cover.Γ vizardref04_Cover.W1.plan (sub [1, 1, 1, 0, 0, 0] vizardref04_Cover.body)) (fun e fr' H' => match e with | .normal => RR fr' H' | .exit id => Q (.exit id) fr' H' | .ret => Q .ret fr' H') E ((fun (s : Option Addr × Nat × Nat × Int) => (mkF 43 [(1, (.int .u32 high0)), (5, (.slice s.1 s.2.1 s.2.2.1)), (6, (.int .i64 s.2.2.2))])) s) H := by
  kernel_rfl
theorem vizardref04_Cover.W1.ok : SoundCode Tryd.prog (sub [1, 1, 1, 0, 0] vizardref04_Cover.body) vizardref04_Cover.W1.t := by
  have e : (sub [1, 1, 1, 0, 0] vizardref04_Cover.body) = .loop (sub [1, 1, 1, 0, 0, 0] vizardref04_Cover.body) := by kernel_rfl
  rw [e]
  refine piece_sound (loopN_sound (keepT_sound [1, 5, 6] [] (fun i => if i = 0 then [5] else []) (wC_sound vizardref04_Cover.hΓ Tryd.hm vizardref04_Cover.W1.plan _ vizardref04_Cover.W1.pok))) ?_
  intro Q E fr H h
  unfold vizardref04_Cover.W1.t at h
  obtain ⟨hl, h⟩ := lenIs_elim h
  obtain ⟨high0, q1, h⟩ := slI_elim h
  obtain ⟨l0, l1, l2, q5, h⟩ := slSl_elim h
  obtain ⟨at0, q6, h⟩ := slI_elim h
  obtain ⟨m, h⟩ := h.h
  refine ⟨(mkF 43 [(1, (.int .u32 high0)), (5, (.slice l0 l1 l2)), (6, (.int .i64 at0))]), fun a ha => ha.mk (Nat.le_of_eq hl.symm) (List.forall_mem_cons.2 ⟨q1, List.forall_mem_cons.2 ⟨q5, List.forall_mem_cons.2 ⟨q6, fun _ h => nomatch h⟩⟩⟩), m, ?_⟩
  have e := loopS_eq (B := (fun (RR : Option Addr × Nat × Nat × Int → Heap → Prop) (s : Option Addr × Nat × Nat × Int) (H : Heap) => vizardref04_Cover.W1.vc high0 s.1 s.2.1 s.2.2.1 s.2.2.2 (fun y5_0 y5_1 y5_2 H => Q (.exit 0) (mkF 43 [(5, (.slice y5_0 y5_1 y5_2))]) H) (fun l0 l1 l2 at0 H => RR (l0, l1, l2, at0) H) E H)) (A := keepT [1, 5, 6] [] (fun i => if i = 0 then [5] else []) (wC Tryd.prog vizardref04_Cover.Γ vizardref04_Cover.W1.plan (sub [1, 1, 1, 0, 0, 0] vizardref04_Cover.body))) (m := (fun (s : Option Addr × Nat × Nat × Int) => (mkF 43 [(1, (.int .u32 high0)), (5, (.slice s.1 s.2.1 s.2.2.1)), (6, (.int .i64 s.2.2.2))]))) (Q := Q) (E := E) (fun RR s H => vizardref04_Cover.W1.eq high0 Q E RR s H) m (l0, l1, l2, at0) H
  exact cast e h
noncomputable def vizardref04_Cover.plan : Plan := .seq (.go) (.seq (.go) (.seq (.go) (.seq (.block (.use vizardref04_Cover.W1.t)) (.go))))
theorem vizardref04_Cover.pok : PlanOk Tryd.prog vizardref04_Cover.plan vizardref04_Cover.body := by
  have e : PlanOk Tryd.prog vizardref04_Cover.plan vizardref04_Cover.body = ((True) ∧ ((True) ∧ ((True) ∧ ((SoundCode Tryd.prog (sub [1, 1, 1, 0, 0] vizardref04_Cover.body) vizardref04_Cover.W1.t) ∧ (True))))) := by kernel_rfl
  exact e.mpr ⟨trivial, ⟨trivial, ⟨trivial, ⟨vizardref04_Cover.W1.ok, trivial⟩⟩⟩⟩
theorem vizardref04_Cover.eq (low0 : Int) (high0 : Int) (K : Value → Heap → Prop) (E : Value → Heap → Prop) (H : Heap) :
    fnT Tryd.prog Tryd.f5 (wC Tryd.prog vizardref04_Cover.Γ vizardref04_Cover.plan vizardref04_Cover.body) [(.int .u32 low0), (.int .u32 high0)] K E H = vizardref04_Cover.vc low0 high0 (fun r0_0 r0_1 r0_2 H => K (.slice r0_0 r0_1 r0_2) H) E H := by
  kernel_rfl
theorem vizardref04_Cover.Fe {args : List Value} {K E : Value → Heap → Prop} {H : Heap} (h : vizardref04_Cover.F args K E H) : ∃ low0 high0, args = [(.int .u32 low0), (.int .u32 high0)] ∧ vizardref04_Cover.c low0 high0 (fun r0_0 r0_1 r0_2 H => K (.slice r0_0 r0_1 r0_2) H) E H := by
  unfold vizardref04_Cover.F at h
  split at h
  · exact ⟨_, _, rfl, h⟩
  · exact h.elim
theorem vizardref04_Cover.ok : CalleeOk Tryd.prog 5 vizardref04_Cover.F :=
  callee_ok vizardref04_Cover.hΓ (fn := Tryd.f5) (c := vizardref04_Cover.body) (T := wC Tryd.prog vizardref04_Cover.Γ vizardref04_Cover.plan vizardref04_Cover.body) (by kernel_rfl) (by kernel_rfl) (by kernel_rfl) (wC_sound vizardref04_Cover.hΓ Tryd.hm vizardref04_Cover.plan _ vizardref04_Cover.pok) fun _ K E H h => by
    obtain ⟨z0, z1, e, h⟩ := vizardref04_Cover.Fe h
    subst e
    have h2 : vizardref04_Cover.vc z0 z1 (fun r0_0 r0_1 r0_2 H => ∃ H', Heap.Le H' H ∧ K (.slice r0_0 r0_1 r0_2) H') E H := h.h
    rw [vizardref04_Cover.eq z0 z1 (Fg K) E H]
    exact h2

/-! vizard/vizardlaw04.PrefixCovers -/
noncomputable def vizardlaw04_PrefixCovers.body : Code := Tryd.f3.body.getD .skip
def vizardlaw04_PrefixCovers.W1.vc (a0 : Option Addr) (a1 : Nat) (a2 : Nat) (b0 : Option Addr) (b1 : Nat) (b2 : Nat) (i0 : Int) (Kx0 : Heap → Prop) (Kr : Bool → Heap → Prop) (RR : Int → Heap → Prop) (E : Value → Heap → Prop) (h0 : Heap) : Prop :=
  (if (decide (i0 < (a1 : Int))) = true then
  nilc a0 fun a3 => (0 : Int) ≤ i0 ∧ i0 < (a1 : Int) ∧
  ldI h0 .u32 ((a3.add (i0.toNat * 2)).add 0) fun x0 => ldI h0 .i64 ((a3.add (i0.toNat * 2)).add 1) fun x1 =>
  nilc b0 fun a4 => (0 : Int) ≤ i0 ∧ i0 < (b1 : Int) ∧
  ldI h0 .u32 ((a4.add (i0.toNat * 2)).add 0) fun x2 => ldI h0 .i64 ((a4.add (i0.toNat * 2)).add 1) fun x3 =>
  (if (!((x0 == x2) && ((x1 == x3) && true))) = true then
  Kr false h0
  else
  RR (IntKind.i64.wrap (i0 + 1)) h0)
  else
  Kx0 h0)
structure vizardlaw04_PrefixCovers.W1 (a0 : Option Addr) (a1 : Nat) (a2 : Nat) (b0 : Option Addr) (b1 : Nat) (b2 : Nat) (i0 : Int) (Kx0 : Heap → Prop) (Kr : Bool → Heap → Prop) (E : Value → Heap → Prop) (H : Heap) : Prop where
  h : Loop (fun (RR : Int → Heap → Prop) (s : Int) (H : Heap) => vizardlaw04_PrefixCovers.W1.vc a0 a1 a2 b0 b1 b2 s Kx0 Kr (fun i0 H => RR (i0) H) E H) (i0) H
def vizardlaw04_PrefixCovers.vc (low0 : Int) (high0 : Int) (K : Bool → Heap → Prop) (E : Value → Heap → Prop) (h0 : Heap) : Prop :=
  prefix_Cover.c low0 high0 (fun x0 x1 x2 h1 =>
  vizardref04_Cover.c low0 high0 (fun x3 x4 x5 h2 =>
  (if ((x1 : Int) != (x4 : Int)) = true then
  K false h2
  else
  vizardlaw04_PrefixCovers.W1 x0 x1 x2 x3 x4 x5 0 (fun h3 =>
  K true h3) K E h2)) E h1) E h0
structure vizardlaw04_PrefixCovers.c (low0 : Int) (high0 : Int) (K : Bool → Heap → Prop) (E : Value → Heap → Prop) (H : Heap) : Prop where
  h : vizardlaw04_PrefixCovers.vc low0 high0 (fun r0_0 H => ∃ H', Heap.Le H' H ∧ K r0_0 H') E H
def vizardlaw04_PrefixCovers.F : FT := fun args K E H => match args with
  | [(.int .u32 low0), (.int .u32 high0)] => vizardlaw04_PrefixCovers.c low0 high0 (fun r0_0 H => K (.bool r0_0) H) E H
  | _ => False
noncomputable def vizardlaw04_PrefixCovers.Γ : FuncId → Option FT := Γof [(4, prefix_Cover.F), (5, vizardref04_Cover.F)]
theorem vizardlaw04_PrefixCovers.hΓ : ∀ f F, vizardlaw04_PrefixCovers.Γ f = some F → CalleeOk Tryd.prog f F := Γof_ok (List.forall_mem_cons.2 ⟨prefix_Cover.ok, List.forall_mem_cons.2 ⟨vizardref04_Cover.ok, fun _ h => nomatch h⟩⟩)
def vizardlaw04_PrefixCovers.W1.t : CT := fun Q E fr H => lenIs 34 fr (slSl fr 5 fun a0 a1 a2 => slSl fr 6 fun b0 b1 b2 => slI fr 7 .i64 fun i0 => vizardlaw04_PrefixCovers.W1 a0 a1 a2 b0 b1 b2 i0 (fun  H => Q (.exit 0) (mkF 34 []) H) (fun y4_0 H => Q .ret (mkF 34 [(4, (.bool y4_0))]) H) E H)
noncomputable def vizardlaw04_PrefixCovers.W1.plan : Plan := .seq (.go) (.seq (.block (.seq (.draw ⟨[0, 1, 2, 3, 4, 5, 6, 7, 8], (dl [(0, []), (1, []), (2, []), (3, []), (4, []), (5, []), (6, []), (7, []), (8, [])] .fin), []⟩) (.go))) (.go))
theorem vizardlaw04_PrefixCovers.W1.pok : PlanOk Tryd.prog vizardlaw04_PrefixCovers.W1.plan (sub [1, 1, 1, 0, 1, 0, 0] vizardlaw04_PrefixCovers.body) := by
  have e : PlanOk Tryd.prog vizardlaw04_PrefixCovers.W1.plan (sub [1, 1, 1, 0, 1, 0, 0] vizardlaw04_PrefixCovers.body) = ((True) ∧ (((True) ∧ (True)) ∧ (True))) := by kernel_rfl
  exact e.mpr ⟨trivial, ⟨⟨trivial, trivial⟩, trivial⟩⟩
theorem vizardlaw04_PrefixCovers.W1.eq (a0 : Option Addr) (a1 : Nat) (a2 : Nat) (b0 : Option Addr) (b1 : Nat) (b2 : Nat) (Q : Ex → Fr → Heap → Prop) (E : Value → Heap → Prop) (RR : Fr → Heap → Prop) (s : Int) (H : Heap) :
    (fun (RR : Int → Heap → Prop) (s : Int) (H : Heap) => vizardlaw04_PrefixCovers.W1.vc a0 a1 a2 b0 b1 b2 s (fun  H => Q (.exit 0) (mkF 34 []) H) (fun y4_0 H => Q .ret (mkF 34 [(4, (.bool y4_0))]) H) (fun i0 H => RR (i0) H) E H) (fun s' H' => RR ((fun (s : Int) => (mkF 34 [(5, (.slice a0 a1 a2)), (6, (.slice b0 b1 b2)), (7, (.int .i64 s))])) s') H') s H = keepT [5, 6, 7] [4] (fun i => if i = 0 then [] else []) (wC Tryd.prog vizardlaw04_PrefixCovers.Γ vizardlaw04_PrefixCovers.W1.plan (sub [1, 1, 1, 0, 1, 0, 0] vizardlaw04_PrefixCovers.body)) (fun e fr' H' => match e with | .normal => RR fr' H' | .exit id => Q (.exit id) fr' H' | .ret => Q .ret fr' H') E ((fun (s : Int) => (mkF 34 [(5, (.slice a0 a1 a2)), (6, (.slice b0 b1 b2)), (7, (.int .i64 s))])) s) H := by
  kernel_rfl
theorem vizardlaw04_PrefixCovers.W1.ok : SoundCode Tryd.prog (sub [1, 1, 1, 0, 1, 0] vizardlaw04_PrefixCovers.body) vizardlaw04_PrefixCovers.W1.t := by
  have e : (sub [1, 1, 1, 0, 1, 0] vizardlaw04_PrefixCovers.body) = .loop (sub [1, 1, 1, 0, 1, 0, 0] vizardlaw04_PrefixCovers.body) := by kernel_rfl
  rw [e]
  refine piece_sound (loopN_sound (keepT_sound [5, 6, 7] [4] (fun i => if i = 0 then [] else []) (wC_sound vizardlaw04_PrefixCovers.hΓ Tryd.hm vizardlaw04_PrefixCovers.W1.plan _ vizardlaw04_PrefixCovers.W1.pok))) ?_
  intro Q E fr H h
  unfold vizardlaw04_PrefixCovers.W1.t at h
  obtain ⟨hl, h⟩ := lenIs_elim h
  obtain ⟨a0, a1, a2, q5, h⟩ := slSl_elim h
  obtain ⟨b0, b1, b2, q6, h⟩ := slSl_elim h
  obtain ⟨i0, q7, h⟩ := slI_elim h
  obtain ⟨m, h⟩ := h.h
  refine ⟨(mkF 34 [(5, (.slice a0 a1 a2)), (6, (.slice b0 b1 b2)), (7, (.int .i64 i0))]), fun a ha => ha.mk (Nat.le_of_eq hl.symm) (List.forall_mem_cons.2 ⟨q5, List.forall_mem_cons.2 ⟨q6, List.forall_mem_cons.2 ⟨q7, fun _ h => nomatch h⟩⟩⟩), m, ?_⟩
  have e := loopS_eq (B := (fun (RR : Int → Heap → Prop) (s : Int) (H : Heap) => vizardlaw04_PrefixCovers.W1.vc a0 a1 a2 b0 b1 b2 s (fun  H => Q (.exit 0) (mkF 34 []) H) (fun y4_0 H => Q .ret (mkF 34 [(4, (.bool y4_0))]) H) (fun i0 H => RR (i0) H) E H)) (A := keepT [5, 6, 7] [4] (fun i => if i = 0 then [] else []) (wC Tryd.prog vizardlaw04_PrefixCovers.Γ vizardlaw04_PrefixCovers.W1.plan (sub [1, 1, 1, 0, 1, 0, 0] vizardlaw04_PrefixCovers.body))) (m := (fun (s : Int) => (mkF 34 [(5, (.slice a0 a1 a2)), (6, (.slice b0 b1 b2)), (7, (.int .i64 s))]))) (Q := Q) (E := E) (fun RR s H => vizardlaw04_PrefixCovers.W1.eq a0 a1 a2 b0 b1 b2 Q E RR s H) m (i0) H
  exact cast e h
noncomputable def vizardlaw04_PrefixCovers.plan : Plan := .seq (.go) (.seq (.go) (.seq (.go) (.seq (.seq (.go) (.block (.use vizardlaw04_PrefixCovers.W1.t))) (.go))))
theorem vizardlaw04_PrefixCovers.pok : PlanOk Tryd.prog vizardlaw04_PrefixCovers.plan vizardlaw04_PrefixCovers.body := by
  have e : PlanOk Tryd.prog vizardlaw04_PrefixCovers.plan vizardlaw04_PrefixCovers.body = ((True) ∧ ((True) ∧ ((True) ∧ (((True) ∧ (SoundCode Tryd.prog (sub [1, 1, 1, 0, 1, 0] vizardlaw04_PrefixCovers.body) vizardlaw04_PrefixCovers.W1.t)) ∧ (True))))) := by kernel_rfl
  exact e.mpr ⟨trivial, ⟨trivial, ⟨trivial, ⟨⟨trivial, vizardlaw04_PrefixCovers.W1.ok⟩, trivial⟩⟩⟩⟩
theorem vizardlaw04_PrefixCovers.eq (low0 : Int) (high0 : Int) (K : Value → Heap → Prop) (E : Value → Heap → Prop) (H : Heap) :
    fnT Tryd.prog Tryd.f3 (wC Tryd.prog vizardlaw04_PrefixCovers.Γ vizardlaw04_PrefixCovers.plan vizardlaw04_PrefixCovers.body) [(.int .u32 low0), (.int .u32 high0)] K E H = vizardlaw04_PrefixCovers.vc low0 high0 (fun r0_0 H => K (.bool r0_0) H) E H := by
  kernel_rfl
theorem vizardlaw04_PrefixCovers.Fe {args : List Value} {K E : Value → Heap → Prop} {H : Heap} (h : vizardlaw04_PrefixCovers.F args K E H) : ∃ low0 high0, args = [(.int .u32 low0), (.int .u32 high0)] ∧ vizardlaw04_PrefixCovers.c low0 high0 (fun r0_0 H => K (.bool r0_0) H) E H := by
  unfold vizardlaw04_PrefixCovers.F at h
  split at h
  · exact ⟨_, _, rfl, h⟩
  · exact h.elim
theorem vizardlaw04_PrefixCovers.ok : CalleeOk Tryd.prog 3 vizardlaw04_PrefixCovers.F :=
  callee_ok vizardlaw04_PrefixCovers.hΓ (fn := Tryd.f3) (c := vizardlaw04_PrefixCovers.body) (T := wC Tryd.prog vizardlaw04_PrefixCovers.Γ vizardlaw04_PrefixCovers.plan vizardlaw04_PrefixCovers.body) (by kernel_rfl) (by kernel_rfl) (by kernel_rfl) (wC_sound vizardlaw04_PrefixCovers.hΓ Tryd.hm vizardlaw04_PrefixCovers.plan _ vizardlaw04_PrefixCovers.pok) fun _ K E H h => by
    obtain ⟨z0, z1, e, h⟩ := vizardlaw04_PrefixCovers.Fe h
    subst e
    have h2 : vizardlaw04_PrefixCovers.vc z0 z1 (fun r0_0 H => ∃ H', Heap.Le H' H ∧ K (.bool r0_0) H') E H := h.h
    rw [vizardlaw04_PrefixCovers.eq z0 z1 (Fg K) E H]
    exact h2
end Go.Sh
