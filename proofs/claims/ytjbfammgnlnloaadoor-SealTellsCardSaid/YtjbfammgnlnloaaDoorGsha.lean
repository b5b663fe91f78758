/- PRINTED by a program (sh.py): what the walk over each function asks, and that it asks just that. -/
import Derived.Test.YtjbfammgnlnloaaDoorRep
namespace Go.Sh
open Go.Proofs
set_option linter.unusedVariables false
set_option maxRecDepth 8000
/-! vizard/sha.first -/
noncomputable def sha_first.body : Code := Tryd.f30.body.getD .skip
def sha_first.vc (K : Int → Int → Int → Int → Int → Int → Int → Int → Heap → Prop) (E : Value → Heap → Prop) (h0 : Heap) : Prop :=
  newB (.cells #[(.int .u32 0), (.int .u32 0), (.int .u32 0), (.int .u32 0), (.int .u32 0), (.int .u32 0), (.int .u32 0), (.int .u32 0)] 52) (fun b0 h1 =>
  (#[(.int .u32 1779033703), (.int .u32 3144134277), (.int .u32 1013904242), (.int .u32 2773480762), (.int .u32 1359893119), (.int .u32 2600822924), (.int .u32 528734635), (.int .u32 1541459225)] : Array Value).size = 8 ∧ stRow (⟨b0, 0, none⟩ : Addr) (#[(.int .u32 1779033703), (.int .u32 3144134277), (.int .u32 1013904242), (.int .u32 2773480762), (.int .u32 1359893119), (.int .u32 2600822924), (.int .u32 528734635), (.int .u32 1541459225)] : Array Value).toList (fun h2 =>
  ldI h2 .u32 ((⟨b0, 0, none⟩ : Addr).add 0) fun r0 => ldI h2 .u32 ((⟨b0, 0, none⟩ : Addr).add 1) fun r1 => ldI h2 .u32 ((⟨b0, 0, none⟩ : Addr).add 2) fun r2 => ldI h2 .u32 ((⟨b0, 0, none⟩ : Addr).add 3) fun r3 => ldI h2 .u32 ((⟨b0, 0, none⟩ : Addr).add 4) fun r4 => ldI h2 .u32 ((⟨b0, 0, none⟩ : Addr).add 5) fun r5 => ldI h2 .u32 ((⟨b0, 0, none⟩ : Addr).add 6) fun r6 => ldI h2 .u32 ((⟨b0, 0, none⟩ : Addr).add 7) fun r7 =>
  K r0 r1 r2 r3 r4 r5 r6 r7 h2) h1) h0
structure sha_first.c (K : Int → Int → Int → Int → Int → Int → Int → Int → Heap → Prop) (E : Value → Heap → Prop) (H : Heap) : Prop where
  h : sha_first.vc  (fun r0_0 r0_1 r0_2 r0_3 r0_4 r0_5 r0_6 r0_7 H => ∃ H', Heap.Le H' H ∧ K r0_0 r0_1 r0_2 r0_3 r0_4 r0_5 r0_6 r0_7 H') E H
def sha_first.F : FT := fun args K E H => match args with
  | [] => sha_first.c  (fun r0_0 r0_1 r0_2 r0_3 r0_4 r0_5 r0_6 r0_7 H => K (.agg #[(.int .u32 r0_0), (.int .u32 r0_1), (.int .u32 r0_2), (.int .u32 r0_3), (.int .u32 r0_4), (.int .u32 r0_5), (.int .u32 r0_6), (.int .u32 r0_7)]) H) E H
  | _ => False
noncomputable def sha_first.Γ : FuncId → Option FT := Γof []
theorem sha_first.hΓ : ∀ f F, sha_first.Γ f = some F → CalleeOk Tryd.prog f F := Γof_ok (fun _ h => nomatch h)
noncomputable def sha_first.plan : Plan := .go
theorem sha_first.pok : PlanOk Tryd.prog sha_first.plan sha_first.body := by
  have e : PlanOk Tryd.prog sha_first.plan sha_first.body = (True) := by kernel_rfl
  exact e.mpr trivial
theorem sha_first.eq (K : Value → Heap → Prop) (E : Value → Heap → Prop) (H : Heap) :
    fnT Tryd.prog Tryd.f30 (wC Tryd.prog sha_first.Γ sha_first.plan sha_first.body) [] K E H = sha_first.vc  (fun r0_0 r0_1 r0_2 r0_3 r0_4 r0_5 r0_6 r0_7 H => K (.agg #[(.int .u32 r0_0), (.int .u32 r0_1), (.int .u32 r0_2), (.int .u32 r0_3), (.int .u32 r0_4), (.int .u32 r0_5), (.int .u32 r0_6), (.int .u32 r0_7)]) H) E H := by
  kernel_rfl
theorem sha_first.Fe {args : List Value} {K E : Value → Heap → Prop} {H : Heap} (h : sha_first.F args K E H) : args = [] ∧ sha_first.c  (fun r0_0 r0_1 r0_2 r0_3 r0_4 r0_5 r0_6 r0_7 H => K (.agg #[(.int .u32 r0_0), (.int .u32 r0_1), (.int .u32 r0_2), (.int .u32 r0_3), (.int .u32 r0_4), (.int .u32 r0_5), (.int .u32 r0_6), (.int .u32 r0_7)]) H) E H := by
  unfold sha_first.F at h
  split at h
  · exact ⟨rfl, h⟩
  · exact h.elim
theorem sha_first.ok : CalleeOk Tryd.prog 30 sha_first.F :=
  callee_ok sha_first.hΓ (fn := Tryd.f30) (c := sha_first.body) (T := wC Tryd.prog sha_first.Γ sha_first.plan sha_first.body) (by kernel_rfl) (by kernel_rfl) (by kernel_rfl) (wC_sound sha_first.hΓ Tryd.hm sha_first.plan _ sha_first.pok) fun _ K E H h => by
    obtain ⟨e, h⟩ := sha_first.Fe h
    subst e
    have h2 : sha_first.vc (fun r0_0 r0_1 r0_2 r0_3 r0_4 r0_5 r0_6 r0_7 H => ∃ H', Heap.Le H' H ∧ K (.agg #[(.int .u32 r0_0), (.int .u32 r0_1), (.int .u32 r0_2), (.int .u32 r0_3), (.int .u32 r0_4), (.int .u32 r0_5), (.int .u32 r0_6), (.int .u32 r0_7)]) H') E H := h.h
    rw [sha_first.eq (Fg K) E H]
    exact h2

/-! vizard/sha.New -/
noncomputable def sha_New.body : Code := Tryd.f13.body.getD .skip
def sha_New.vc (K : Option Addr → Heap → Prop) (E : Value → Heap → Prop) (h0 : Heap) : Prop :=
  sha_first.c (fun x0 x1 x2 x3 x4 x5 x6 x7 h1 =>
  newB (.cells #[(.int .u32 x0), (.int .u32 x1), (.int .u32 x2), (.int .u32 x3), (.int .u32 x4), (.int .u32 x5), (.int .u32 x6), (.int .u32 x7), (.slice none 0 0), (.int .u64 0)] 55) (fun b0 h2 =>
  K (some (⟨b0, 0, none⟩ : Addr)) h2) h1) E h0
structure sha_New.c (K : Option Addr → Heap → Prop) (E : Value → Heap → Prop) (H : Heap) : Prop where
  h : sha_New.vc  (fun r0_0 H => ∃ H', Heap.Le H' H ∧ K r0_0 H') E H
def sha_New.F : FT := fun args K E H => match args with
  | [] => sha_New.c  (fun r0_0 H => K (.pointer r0_0) H) E H
  | _ => False
noncomputable def sha_New.Γ : FuncId → Option FT := Γof [(30, sha_first.F)]
theorem sha_New.hΓ : ∀ f F, sha_New.Γ f = some F → CalleeOk Tryd.prog f F := Γof_ok (List.forall_mem_cons.2 ⟨sha_first.ok, fun _ h => nomatch h⟩)
noncomputable def sha_New.plan : Plan := .go
theorem sha_New.pok : PlanOk Tryd.prog sha_New.plan sha_New.body := by
  have e : PlanOk Tryd.prog sha_New.plan sha_New.body = (True) := by kernel_rfl
  exact e.mpr trivial
theorem sha_New.eq (K : Value → Heap → Prop) (E : Value → Heap → Prop) (H : Heap) :
    fnT Tryd.prog Tryd.f13 (wC Tryd.prog sha_New.Γ sha_New.plan sha_New.body) [] K E H = sha_New.vc  (fun r0_0 H => K (.pointer r0_0) H) E H := by
  kernel_rfl
theorem sha_New.Fe {args : List Value} {K E : Value → Heap → Prop} {H : Heap} (h : sha_New.F args K E H) : args = [] ∧ sha_New.c  (fun r0_0 H => K (.pointer r0_0) H) E H := by
  unfold sha_New.F at h
  split at h
  · exact ⟨rfl, h⟩
  · exact h.elim
theorem sha_New.ok : CalleeOk Tryd.prog 13 sha_New.F :=
  callee_ok sha_New.hΓ (fn := Tryd.f13) (c := sha_New.body) (T := wC Tryd.prog sha_New.Γ sha_New.plan sha_New.body) (by kernel_rfl) (by kernel_rfl) (by kernel_rfl) (wC_sound sha_New.hΓ Tryd.hm sha_New.plan _ sha_New.pok) fun _ K E H h => by
    obtain ⟨e, h⟩ := sha_New.Fe h
    subst e
    have h2 : sha_New.vc (fun r0_0 H => ∃ H', Heap.Le H' H ∧ K (.pointer r0_0) H') E H := h.h
    rw [sha_New.eq (Fg K) E H]
    exact h2

/-! math/bits.RotateLeft32 -/
noncomputable def math_bits_RotateLeft32.body : Code := Tryd.f57.body.getD .skip
def math_bits_RotateLeft32.vc (x0 : Int) (k0 : Int) (K : Int → Heap → Prop) (E : Value → Heap → Prop) (h0 : Heap) : Prop :=
  (0 : Int) ≤ (bits .and .u64 (IntKind.u64.wrap k0) 31) ∧
  (0 : Int) ≤ (IntKind.u64.wrap (32 - (bits .and .u64 (IntKind.u64.wrap k0) 31))) ∧
  K (bits .or .u32 (shlI .u32 x0 (bits .and .u64 (IntKind.u64.wrap k0) 31)) (shrI .u32 x0 (IntKind.u64.wrap (32 - (bits .and .u64 (IntKind.u64.wrap k0) 31))))) h0
structure math_bits_RotateLeft32.c (x0 : Int) (k0 : Int) (K : Int → Heap → Prop) (E : Value → Heap → Prop) (H : Heap) : Prop where
  h : math_bits_RotateLeft32.vc x0 k0 (fun r0_0 H => ∃ H', Heap.Le H' H ∧ K r0_0 H') E H
def math_bits_RotateLeft32.F : FT := fun args K E H => match args with
  | [(.int .u32 x0), (.int .i64 k0)] => math_bits_RotateLeft32.c x0 k0 (fun r0_0 H => K (.int .u32 r0_0) H) E H
  | _ => False
noncomputable def math_bits_RotateLeft32.Γ : FuncId → Option FT := Γof []
theorem math_bits_RotateLeft32.hΓ : ∀ f F, math_bits_RotateLeft32.Γ f = some F → CalleeOk Tryd.prog f F := Γof_ok (fun _ h => nomatch h)
noncomputable def math_bits_RotateLeft32.plan : Plan := .go
theorem math_bits_RotateLeft32.pok : PlanOk Tryd.prog math_bits_RotateLeft32.plan math_bits_RotateLeft32.body := by
  have e : PlanOk Tryd.prog math_bits_RotateLeft32.plan math_bits_RotateLeft32.body = (True) := by kernel_rfl
  exact e.mpr trivial
theorem math_bits_RotateLeft32.eq (x0 : Int) (k0 : Int) (K : Value → Heap → Prop) (E : Value → Heap → Prop) (H : Heap) :
    fnT Tryd.prog Tryd.f57 (wC Tryd.prog math_bits_RotateLeft32.Γ math_bits_RotateLeft32.plan math_bits_RotateLeft32.body) [(.int .u32 x0), (.int .i64 k0)] K E H = math_bits_RotateLeft32.vc x0 k0 (fun r0_0 H => K (.int .u32 r0_0) H) E H := by
  kernel_rfl
theorem math_bits_RotateLeft32.Fe {args : List Value} {K E : Value → Heap → Prop} {H : Heap} (h : math_bits_RotateLeft32.F args K E H) : ∃ x0 k0, args = [(.int .u32 x0), (.int .i64 k0)] ∧ math_bits_RotateLeft32.c x0 k0 (fun r0_0 H => K (.int .u32 r0_0) H) E H := by
  unfold math_bits_RotateLeft32.F at h
  split at h
  · exact ⟨_, _, rfl, h⟩
  · exact h.elim
theorem math_bits_RotateLeft32.ok : CalleeOk Tryd.prog 57 math_bits_RotateLeft32.F :=
  callee_ok math_bits_RotateLeft32.hΓ (fn := Tryd.f57) (c := math_bits_RotateLeft32.body) (T := wC Tryd.prog math_bits_RotateLeft32.Γ math_bits_RotateLeft32.plan math_bits_RotateLeft32.body) (by kernel_rfl) (by kernel_rfl) (by kernel_rfl) (wC_sound math_bits_RotateLeft32.hΓ Tryd.hm math_bits_RotateLeft32.plan _ math_bits_RotateLeft32.pok) fun _ K E H h => by
    obtain ⟨z0, z1, e, h⟩ := math_bits_RotateLeft32.Fe h
    subst e
    have h2 : math_bits_RotateLeft32.vc z0 z1 (fun r0_0 H => ∃ H', Heap.Le H' H ∧ K (.int .u32 r0_0) H') E H := h.h
    rw [math_bits_RotateLeft32.eq z0 z1 (Fg K) E H]
    exact h2

/-! vizard/sha.turn -/
noncomputable def sha_turn.body : Code := Tryd.f46.body.getD .skip
def sha_turn.vc (x0 : Int) (n0 : Int) (K : Int → Heap → Prop) (E : Value → Heap → Prop) (h0 : Heap) : Prop :=
  math_bits_RotateLeft32.c x0 (IntKind.i64.wrap (0 - n0)) K E h0
structure sha_turn.c (x0 : Int) (n0 : Int) (K : Int → Heap → Prop) (E : Value → Heap → Prop) (H : Heap) : Prop where
  h : sha_turn.vc x0 n0 (fun r0_0 H => ∃ H', Heap.Le H' H ∧ K r0_0 H') E H
def sha_turn.F : FT := fun args K E H => match args with
  | [(.int .u32 x0), (.int .i64 n0)] => sha_turn.c x0 n0 (fun r0_0 H => K (.int .u32 r0_0) H) E H
  | _ => False
noncomputable def sha_turn.Γ : FuncId → Option FT := Γof [(57, math_bits_RotateLeft32.F)]
theorem sha_turn.hΓ : ∀ f F, sha_turn.Γ f = some F → CalleeOk Tryd.prog f F := Γof_ok (List.forall_mem_cons.2 ⟨math_bits_RotateLeft32.ok, fun _ h => nomatch h⟩)
noncomputable def sha_turn.plan : Plan := .go
theorem sha_turn.pok : PlanOk Tryd.prog sha_turn.plan sha_turn.body := by
  have e : PlanOk Tryd.prog sha_turn.plan sha_turn.body = (True) := by kernel_rfl
  exact e.mpr trivial
theorem sha_turn.eq (x0 : Int) (n0 : Int) (K : Value → Heap → Prop) (E : Value → Heap → Prop) (H : Heap) :
    fnT Tryd.prog Tryd.f46 (wC Tryd.prog sha_turn.Γ sha_turn.plan sha_turn.body) [(.int .u32 x0), (.int .i64 n0)] K E H = sha_turn.vc x0 n0 (fun r0_0 H => K (.int .u32 r0_0) H) E H := by
  kernel_rfl
theorem sha_turn.Fe {args : List Value} {K E : Value → Heap → Prop} {H : Heap} (h : sha_turn.F args K E H) : ∃ x0 n0, args = [(.int .u32 x0), (.int .i64 n0)] ∧ sha_turn.c x0 n0 (fun r0_0 H => K (.int .u32 r0_0) H) E H := by
  unfold sha_turn.F at h
  split at h
  · exact ⟨_, _, rfl, h⟩
  · exact h.elim
theorem sha_turn.ok : CalleeOk Tryd.prog 46 sha_turn.F :=
  callee_ok sha_turn.hΓ (fn := Tryd.f46) (c := sha_turn.body) (T := wC Tryd.prog sha_turn.Γ sha_turn.plan sha_turn.body) (by kernel_rfl) (by kernel_rfl) (by kernel_rfl) (wC_sound sha_turn.hΓ Tryd.hm sha_turn.plan _ sha_turn.pok) fun _ K E H h => by
    obtain ⟨z0, z1, e, h⟩ := sha_turn.Fe h
    subst e
    have h2 : sha_turn.vc z0 z1 (fun r0_0 H => ∃ H', Heap.Le H' H ∧ K (.int .u32 r0_0) H') E H := h.h
    rw [sha_turn.eq z0 z1 (Fg K) E H]
    exact h2

/-! (*vizard/sha.state).mix -/
noncomputable def sha_state_mix.body : Code := Tryd.f31.body.getD .skip
def sha_state_mix.W1.vc (h0 : Option Addr) (b0 : Option Addr) (b1 : Nat) (b2 : Nat) (w0 : Addr) (x0 : Int) (Kx0 : Heap → Prop) (RR : Int → Heap → Prop) (E : Value → Heap → Prop) (h1 : Heap) : Prop :=
  (if (decide (x0 < 16)) = true then
  nilc b0 fun a0 => (0 : Int) ≤ (IntKind.i64.wrap (4 * x0)) ∧ (IntKind.i64.wrap (4 * x0)) < (b1 : Int) ∧
  ldI h1 .u8 (a0.add ((IntKind.i64.wrap (4 * x0)).toNat * 1)) fun x1 =>
  (0 : Int) ≤ 24 ∧
  nilc b0 fun a1 => (0 : Int) ≤ (IntKind.i64.wrap ((IntKind.i64.wrap (4 * x0)) + 1)) ∧ (IntKind.i64.wrap ((IntKind.i64.wrap (4 * x0)) + 1)) < (b1 : Int) ∧
  ldI h1 .u8 (a1.add ((IntKind.i64.wrap ((IntKind.i64.wrap (4 * x0)) + 1)).toNat * 1)) fun x2 =>
  (0 : Int) ≤ 16 ∧
  nilc b0 fun a2 => (0 : Int) ≤ (IntKind.i64.wrap ((IntKind.i64.wrap (4 * x0)) + 2)) ∧ (IntKind.i64.wrap ((IntKind.i64.wrap (4 * x0)) + 2)) < (b1 : Int) ∧
  ldI h1 .u8 (a2.add ((IntKind.i64.wrap ((IntKind.i64.wrap (4 * x0)) + 2)).toNat * 1)) fun x3 =>
  (0 : Int) ≤ 8 ∧
  nilc b0 fun a3 => (0 : Int) ≤ (IntKind.i64.wrap ((IntKind.i64.wrap (4 * x0)) + 3)) ∧ (IntKind.i64.wrap ((IntKind.i64.wrap (4 * x0)) + 3)) < (b1 : Int) ∧
  ldI h1 .u8 (a3.add ((IntKind.i64.wrap ((IntKind.i64.wrap (4 * x0)) + 3)).toNat * 1)) fun x4 =>
  (0 : Int) ≤ x0 ∧ x0 < ((64 : Nat) : Int) ∧
  stc h1 (w0.add (x0.toNat * 1)) (.int .u32 (bits .or .u32 (bits .or .u32 (bits .or .u32 (shlI .u32 (IntKind.u32.wrap x1) 24) (shlI .u32 (IntKind.u32.wrap x2) 16)) (shlI .u32 (IntKind.u32.wrap x3) 8)) (IntKind.u32.wrap x4))) fun h2 =>
  RR (IntKind.i64.wrap (x0 + 1)) h2
  else
  Kx0 h1)
structure sha_state_mix.W1 (h0 : Option Addr) (b0 : Option Addr) (b1 : Nat) (b2 : Nat) (w0 : Addr) (x0 : Int) (Kx0 : Heap → Prop) (E : Value → Heap → Prop) (H : Heap) : Prop where
  h : Loop (fun (RR : Int → Heap → Prop) (s : Int) (H : Heap) => sha_state_mix.W1.vc h0 b0 b1 b2 w0 s Kx0 (fun x0 H => RR (x0) H) E H) (x0) H
def sha_state_mix.W2.vc (h0 : Option Addr) (w0 : Addr) (t0 : Int) (Kx2 : Heap → Prop) (RR : Int → Heap → Prop) (E : Value → Heap → Prop) (h1 : Heap) : Prop :=
  (if (decide (t0 < 64)) = true then
  (0 : Int) ≤ (IntKind.i64.wrap (t0 - 15)) ∧ (IntKind.i64.wrap (t0 - 15)) < ((64 : Nat) : Int) ∧
  ldI h1 .u32 (w0.add ((IntKind.i64.wrap (t0 - 15)).toNat * 1)) fun x0 =>
  (0 : Int) ≤ (IntKind.i64.wrap (t0 - 2)) ∧ (IntKind.i64.wrap (t0 - 2)) < ((64 : Nat) : Int) ∧
  ldI h1 .u32 (w0.add ((IntKind.i64.wrap (t0 - 2)).toNat * 1)) fun x1 =>
  (0 : Int) ≤ (IntKind.i64.wrap (t0 - 16)) ∧ (IntKind.i64.wrap (t0 - 16)) < ((64 : Nat) : Int) ∧
  ldI h1 .u32 (w0.add ((IntKind.i64.wrap (t0 - 16)).toNat * 1)) fun x2 =>
  (0 : Int) ≤ (IntKind.i64.wrap (t0 - 7)) ∧ (IntKind.i64.wrap (t0 - 7)) < ((64 : Nat) : Int) ∧
  ldI h1 .u32 (w0.add ((IntKind.i64.wrap (t0 - 7)).toNat * 1)) fun x3 =>
  (0 : Int) ≤ 3 ∧
  (0 : Int) ≤ 10 ∧
  sha_turn.c x0 7 (fun x4 h2 =>
  (ldI h2 .u32 (w0.add ((IntKind.i64.wrap (t0 - 7)).toNat * 1)) fun x5 =>
  eqv h2 h2 (some (.int .u32 x3)) (.int .u32 x5)) ∧
  (ldI h2 .u32 (w0.add ((IntKind.i64.wrap (t0 - 16)).toNat * 1)) fun x6 =>
  eqv h2 h2 (some (.int .u32 x2)) (.int .u32 x6)) ∧
  sha_turn.c x0 18 (fun x7 h3 =>
  (ldI h3 .u32 (w0.add ((IntKind.i64.wrap (t0 - 7)).toNat * 1)) fun x8 =>
  eqv h3 h3 (some (.int .u32 x3)) (.int .u32 x8)) ∧
  (ldI h3 .u32 (w0.add ((IntKind.i64.wrap (t0 - 16)).toNat * 1)) fun x9 =>
  eqv h3 h3 (some (.int .u32 x2)) (.int .u32 x9)) ∧
  sha_turn.c x1 17 (fun x10 h4 =>
  (ldI h4 .u32 (w0.add ((IntKind.i64.wrap (t0 - 7)).toNat * 1)) fun x11 =>
  eqv h4 h4 (some (.int .u32 x3)) (.int .u32 x11)) ∧
  (ldI h4 .u32 (w0.add ((IntKind.i64.wrap (t0 - 16)).toNat * 1)) fun x12 =>
  eqv h4 h4 (some (.int .u32 x2)) (.int .u32 x12)) ∧
  sha_turn.c x1 19 (fun x13 h5 =>
  (ldI h5 .u32 (w0.add ((IntKind.i64.wrap (t0 - 7)).toNat * 1)) fun x14 =>
  eqv h5 h5 (some (.int .u32 x3)) (.int .u32 x14)) ∧
  (ldI h5 .u32 (w0.add ((IntKind.i64.wrap (t0 - 16)).toNat * 1)) fun x15 =>
  eqv h5 h5 (some (.int .u32 x2)) (.int .u32 x15)) ∧
  (0 : Int) ≤ t0 ∧ t0 < ((64 : Nat) : Int) ∧
  stc h5 (w0.add (t0.toNat * 1)) (.int .u32 (IntKind.u32.wrap ((IntKind.u32.wrap ((IntKind.u32.wrap (x2 + x3)) + (bits .xor .u32 (bits .xor .u32 x4 x7) (shrI .u32 x0 3)))) + (bits .xor .u32 (bits .xor .u32 x10 x13) (shrI .u32 x1 10))))) fun h6 =>
  RR (IntKind.i64.wrap (t0 + 1)) h6) E h4) E h3) E h2) E h1
  else
  Kx2 h1)
structure sha_state_mix.W2 (h0 : Option Addr) (w0 : Addr) (t0 : Int) (Kx2 : Heap → Prop) (E : Value → Heap → Prop) (H : Heap) : Prop where
  h : Loop (fun (RR : Int → Heap → Prop) (s : Int) (H : Heap) => sha_state_mix.W2.vc h0 w0 s Kx2 (fun t0 H => RR (t0) H) E H) (t0) H
def sha_state_mix.W3.vc (h0 : Option Addr) (w0 : Addr) (v0 : Addr) (x0 : Array Value) (x1 : Int) (Kx4 : Heap → Prop) (RR : Int → Heap → Prop) (E : Value → Heap → Prop) (h1 : Heap) : Prop :=
  (if (decide (x1 < 64)) = true then
  (0 : Int) ≤ x1 ∧ x1 < ((64 : Nat) : Int) ∧ ∃ v1, (x0 : Array Value)[x1.toNat]? = some v1 ∧ ∃ x2, v1 = (.int .u32 x2) ∧
  (0 : Int) ≤ 0 ∧ 0 < ((8 : Nat) : Int) ∧
  ldI h1 .u32 (v0.add (0 * 1)) fun x3 =>
  (0 : Int) ≤ 1 ∧ 1 < ((8 : Nat) : Int) ∧
  ldI h1 .u32 (v0.add (1 * 1)) fun x4 =>
  (0 : Int) ≤ 2 ∧ 2 < ((8 : Nat) : Int) ∧
  ldI h1 .u32 (v0.add (2 * 1)) fun x5 =>
  (0 : Int) ≤ 4 ∧ 4 < ((8 : Nat) : Int) ∧
  ldI h1 .u32 (v0.add (4 * 1)) fun x6 =>
  (0 : Int) ≤ 5 ∧ 5 < ((8 : Nat) : Int) ∧
  ldI h1 .u32 (v0.add (5 * 1)) fun x7 =>
  (0 : Int) ≤ 6 ∧ 6 < ((8 : Nat) : Int) ∧
  ldI h1 .u32 (v0.add (6 * 1)) fun x8 =>
  (0 : Int) ≤ 7 ∧ 7 < ((8 : Nat) : Int) ∧
  ldI h1 .u32 (v0.add (7 * 1)) fun x9 =>
  (0 : Int) ≤ x1 ∧ x1 < ((64 : Nat) : Int) ∧
  ldI h1 .u32 (w0.add (x1.toNat * 1)) fun x10 =>
  sha_turn.c x6 6 (fun x11 h2 =>
  (ldI h2 .u32 (w0.add (x1.toNat * 1)) fun x12 =>
  eqv h2 h2 (some (.int .u32 x10)) (.int .u32 x12)) ∧
  (ldI h2 .u32 (v0.add (7 * 1)) fun x13 =>
  eqv h2 h2 (some (.int .u32 x9)) (.int .u32 x13)) ∧
  sha_turn.c x6 11 (fun x14 h3 =>
  (ldI h3 .u32 (w0.add (x1.toNat * 1)) fun x15 =>
  eqv h3 h3 (some (.int .u32 x10)) (.int .u32 x15)) ∧
  (ldI h3 .u32 (v0.add (7 * 1)) fun x16 =>
  eqv h3 h3 (some (.int .u32 x9)) (.int .u32 x16)) ∧
  sha_turn.c x6 25 (fun x17 h4 =>
  (ldI h4 .u32 (w0.add (x1.toNat * 1)) fun x18 =>
  eqv h4 h4 (some (.int .u32 x10)) (.int .u32 x18)) ∧
  (ldI h4 .u32 (v0.add (7 * 1)) fun x19 =>
  eqv h4 h4 (some (.int .u32 x9)) (.int .u32 x19)) ∧
  sha_turn.c x3 2 (fun x20 h5 =>
  sha_turn.c x3 13 (fun x21 h6 =>
  sha_turn.c x3 22 (fun x22 h7 =>
  (0 : Int) ≤ 3 ∧ 3 < ((8 : Nat) : Int) ∧
  ldI h7 .u32 (v0.add (3 * 1)) fun x23 =>
  (#[(.int .u32 (IntKind.u32.wrap ((IntKind.u32.wrap ((IntKind.u32.wrap ((IntKind.u32.wrap ((IntKind.u32.wrap (x9 + (bits .xor .u32 (bits .xor .u32 x11 x14) x17))) + (bits .or .u32 (bits .and .u32 x6 x7) (bits .and .u32 (bits .xor .u32 (IntKind.max .u32) x6) x8)))) + x2)) + x10)) + (IntKind.u32.wrap ((bits .xor .u32 (bits .xor .u32 x20 x21) x22) + (bits .or .u32 (bits .or .u32 (bits .and .u32 x3 x4) (bits .and .u32 x3 x5)) (bits .and .u32 x4 x5))))))), (.int .u32 x3), (.int .u32 x4), (.int .u32 x5), (.int .u32 (IntKind.u32.wrap (x23 + (IntKind.u32.wrap ((IntKind.u32.wrap ((IntKind.u32.wrap ((IntKind.u32.wrap (x9 + (bits .xor .u32 (bits .xor .u32 x11 x14) x17))) + (bits .or .u32 (bits .and .u32 x6 x7) (bits .and .u32 (bits .xor .u32 (IntKind.max .u32) x6) x8)))) + x2)) + x10))))), (.int .u32 x6), (.int .u32 x7), (.int .u32 x8)] : Array Value).size = 8 ∧ stRow v0 (#[(.int .u32 (IntKind.u32.wrap ((IntKind.u32.wrap ((IntKind.u32.wrap ((IntKind.u32.wrap ((IntKind.u32.wrap (x9 + (bits .xor .u32 (bits .xor .u32 x11 x14) x17))) + (bits .or .u32 (bits .and .u32 x6 x7) (bits .and .u32 (bits .xor .u32 (IntKind.max .u32) x6) x8)))) + x2)) + x10)) + (IntKind.u32.wrap ((bits .xor .u32 (bits .xor .u32 x20 x21) x22) + (bits .or .u32 (bits .or .u32 (bits .and .u32 x3 x4) (bits .and .u32 x3 x5)) (bits .and .u32 x4 x5))))))), (.int .u32 x3), (.int .u32 x4), (.int .u32 x5), (.int .u32 (IntKind.u32.wrap (x23 + (IntKind.u32.wrap ((IntKind.u32.wrap ((IntKind.u32.wrap ((IntKind.u32.wrap (x9 + (bits .xor .u32 (bits .xor .u32 x11 x14) x17))) + (bits .or .u32 (bits .and .u32 x6 x7) (bits .and .u32 (bits .xor .u32 (IntKind.max .u32) x6) x8)))) + x2)) + x10))))), (.int .u32 x6), (.int .u32 x7), (.int .u32 x8)] : Array Value).toList (fun h8 =>
  RR (IntKind.i64.wrap (x1 + 1)) h8) h7) E h6) E h5) E h4) E h3) E h2) E h1
  else
  Kx4 h1)
structure sha_state_mix.W3 (h0 : Option Addr) (w0 : Addr) (v0 : Addr) (x0 : Array Value) (x1 : Int) (Kx4 : Heap → Prop) (E : Value → Heap → Prop) (H : Heap) : Prop where
  h : Loop (fun (RR : Int → Heap → Prop) (s : Int) (H : Heap) => sha_state_mix.W3.vc h0 w0 v0 x0 s Kx4 (fun x1 H => RR (x1) H) E H) (x1) H
def sha_state_mix.W4.vc (h0 : Option Addr) (v0 : Addr) (x0 : Int) (Kx6 : Heap → Prop) (RR : Int → Heap → Prop) (E : Value → Heap → Prop) (h1 : Heap) : Prop :=
  (if (decide (x0 < 8)) = true then
  nilc h0 fun a0 =>
  (0 : Int) ≤ x0 ∧ x0 < ((8 : Nat) : Int) ∧
  ldI h1 .u32 (a0.add (x0.toNat * 1)) fun x1 =>
  (0 : Int) ≤ x0 ∧ x0 < ((8 : Nat) : Int) ∧
  ldI h1 .u32 (v0.add (x0.toNat * 1)) fun x2 =>
  nilc h0 fun a1 =>
  (0 : Int) ≤ x0 ∧ x0 < ((8 : Nat) : Int) ∧
  stc h1 (a1.add (x0.toNat * 1)) (.int .u32 (IntKind.u32.wrap (x1 + x2))) fun h2 =>
  RR (IntKind.i64.wrap (x0 + 1)) h2
  else
  Kx6 h1)
structure sha_state_mix.W4 (h0 : Option Addr) (v0 : Addr) (x0 : Int) (Kx6 : Heap → Prop) (E : Value → Heap → Prop) (H : Heap) : Prop where
  h : Loop (fun (RR : Int → Heap → Prop) (s : Int) (H : Heap) => sha_state_mix.W4.vc h0 v0 s Kx6 (fun x0 H => RR (x0) H) E H) (x0) H
def sha_state_mix.vc (h0 : Option Addr) (b0 : Option Addr) (b1 : Nat) (b2 : Nat) (K : Heap → Prop) (E : Value → Heap → Prop) (h1 : Heap) : Prop :=
  newB (.cells #[(.int .u32 0), (.int .u32 0), (.int .u32 0), (.int .u32 0), (.int .u32 0), (.int .u32 0), (.int .u32 0), (.int .u32 0), (.int .u32 0), (.int .u32 0), (.int .u32 0), (.int .u32 0), (.int .u32 0), (.int .u32 0), (.int .u32 0), (.int .u32 0), (.int .u32 0), (.int .u32 0), (.int .u32 0), (.int .u32 0), (.int .u32 0), (.int .u32 0), (.int .u32 0), (.int .u32 0), (.int .u32 0), (.int .u32 0), (.int .u32 0), (.int .u32 0), (.int .u32 0), (.int .u32 0), (.int .u32 0), (.int .u32 0), (.int .u32 0), (.int .u32 0), (.int .u32 0), (.int .u32 0), (.int .u32 0), (.int .u32 0), (.int .u32 0), (.int .u32 0), (.int .u32 0), (.int .u32 0), (.int .u32 0), (.int .u32 0), (.int .u32 0), (.int .u32 0), (.int .u32 0), (.int .u32 0), (.int .u32 0), (.int .u32 0), (.int .u32 0), (.int .u32 0), (.int .u32 0), (.int .u32 0), (.int .u32 0), (.int .u32 0), (.int .u32 0), (.int .u32 0), (.int .u32 0), (.int .u32 0), (.int .u32 0), (.int .u32 0), (.int .u32 0), (.int .u32 0)] 87) (fun b3 h2 =>
  sha_state_mix.W1 h0 b0 b1 b2 (⟨b3, 0, none⟩ : Addr) 0 (fun h3 =>
  sha_state_mix.W2 h0 (⟨b3, 0, none⟩ : Addr) 16 (fun h4 =>
  nilc h0 fun a0 =>
  ldI h4 .u32 (a0.add 0) fun x0 => ldI h4 .u32 (a0.add 1) fun x1 => ldI h4 .u32 (a0.add 2) fun x2 => ldI h4 .u32 (a0.add 3) fun x3 => ldI h4 .u32 (a0.add 4) fun x4 => ldI h4 .u32 (a0.add 5) fun x5 => ldI h4 .u32 (a0.add 6) fun x6 => ldI h4 .u32 (a0.add 7) fun x7 =>
  newB (.cells #[(.int .u32 0), (.int .u32 0), (.int .u32 0), (.int .u32 0), (.int .u32 0), (.int .u32 0), (.int .u32 0), (.int .u32 0)] 52) (fun b4 h5 =>
  (#[(.int .u32 x0), (.int .u32 x1), (.int .u32 x2), (.int .u32 x3), (.int .u32 x4), (.int .u32 x5), (.int .u32 x6), (.int .u32 x7)] : Array Value).size = 8 ∧ stRow (⟨b4, 0, none⟩ : Addr) (#[(.int .u32 x0), (.int .u32 x1), (.int .u32 x2), (.int .u32 x3), (.int .u32 x4), (.int .u32 x5), (.int .u32 x6), (.int .u32 x7)] : Array Value).toList (fun h6 =>
  ldRow h6 (⟨0, 0, none⟩ : Addr) 64 fun cs0 =>
  sha_state_mix.W3 h0 (⟨b3, 0, none⟩ : Addr) (⟨b4, 0, none⟩ : Addr) cs0.toArray 0 (fun h7 =>
  sha_state_mix.W4 h0 (⟨b4, 0, none⟩ : Addr) 0 K E h7) E h6) h5) h4) E h3) E h2) h1
structure sha_state_mix.c (h0 : Option Addr) (b0 : Option Addr) (b1 : Nat) (b2 : Nat) (K : Heap → Prop) (E : Value → Heap → Prop) (H : Heap) : Prop where
  h : sha_state_mix.vc h0 b0 b1 b2 (fun  H => ∃ H', Heap.Le H' H ∧ K  H') E H
def sha_state_mix.F : FT := fun args K E H => match args with
  | [(.pointer h0), (.slice b0 b1 b2)] => sha_state_mix.c h0 b0 b1 b2 (fun  H => K (.tuple #[]) H) E H
  | _ => False
noncomputable def sha_state_mix.Γ : FuncId → Option FT := Γof [(46, sha_turn.F)]
theorem sha_state_mix.hΓ : ∀ f F, sha_state_mix.Γ f = some F → CalleeOk Tryd.prog f F := Γof_ok (List.forall_mem_cons.2 ⟨sha_turn.ok, fun _ h => nomatch h⟩)
def sha_state_mix.W1.t : CT := fun Q E fr H => lenIs 197 fr (slP fr 0 fun h0 => slSl fr 1 fun b0 b1 b2 => slPA fr 4 fun w0 => slI fr 21 .i64 fun x0 => sha_state_mix.W1 h0 b0 b1 b2 w0 x0 (fun  H => Q (.exit 0) (mkF 197 [(0, (.pointer h0)), (4, (.pointer (some w0)))]) H) E H)
noncomputable def sha_state_mix.W1.plan : Plan := .seq (.go) (.seq (.go) (.seq (.block (.seq (.go) (.draw ⟨[0, 1, 2, 3, 4, 5, 6, 7, 8, 9, 10, 11, 12, 13, 14, 15, 16, 17, 18, 19, 20, 21, 22, 23, 24, 25, 26, 27, 28, 29, 30, 31, 32, 33, 34, 35], (dl [(0, []), (1, []), (2, []), (3, []), (4, []), (5, []), (6, []), (7, []), (8, []), (9, []), (10, []), (11, []), (12, []), (13, []), (14, []), (15, []), (16, []), (17, []), (18, []), (19, []), (20, []), (21, []), (22, []), (23, []), (24, []), (25, []), (26, []), (27, []), (28, []), (29, []), (30, []), (31, []), (32, []), (33, []), (34, []), (35, [34, 33, 0, 1, 2, 3, 4, 5, 6, 7, 8, 9, 10, 11, 12, 13, 14, 15, 16, 17, 18, 19, 20, 21, 22, 23, 24, 25, 26, 27, 28, 29, 30, 31, 32])] .fin), []⟩))) (.go)))
theorem sha_state_mix.W1.pok : PlanOk Tryd.prog sha_state_mix.W1.plan (sub [1, 0, 1, 0, 0] sha_state_mix.body) := by
  have e : PlanOk Tryd.prog sha_state_mix.W1.plan (sub [1, 0, 1, 0, 0] sha_state_mix.body) = ((True) ∧ ((True) ∧ (((True) ∧ (True)) ∧ (True)))) := by kernel_rfl
  exact e.mpr ⟨trivial, ⟨trivial, ⟨⟨trivial, trivial⟩, trivial⟩⟩⟩
theorem sha_state_mix.W1.eq (h0 : Option Addr) (b0 : Option Addr) (b1 : Nat) (b2 : Nat) (w0 : Addr) (Q : Ex → Fr → Heap → Prop) (E : Value → Heap → Prop) (RR : Fr → Heap → Prop) (s : Int) (H : Heap) :
    (fun (RR : Int → Heap → Prop) (s : Int) (H : Heap) => sha_state_mix.W1.vc h0 b0 b1 b2 w0 s (fun  H => Q (.exit 0) (mkF 197 [(0, (.pointer h0)), (4, (.pointer (some w0)))]) H) (fun x0 H => RR (x0) H) E H) (fun s' H' => RR ((fun (s : Int) => (mkF 197 [(0, (.pointer h0)), (1, (.slice b0 b1 b2)), (4, (.pointer (some w0))), (21, (.int .i64 s))])) s') H') s H = keepT [0, 1, 4, 21] [] (fun i => if i = 0 then [0, 4] else []) (wC Tryd.prog sha_state_mix.Γ sha_state_mix.W1.plan (sub [1, 0, 1, 0, 0] sha_state_mix.body)) (fun e fr' H' => match e with | .normal => RR fr' H' | .exit id => Q (.exit id) fr' H' | .ret => Q .ret fr' H') E ((fun (s : Int) => (mkF 197 [(0, (.pointer h0)), (1, (.slice b0 b1 b2)), (4, (.pointer (some w0))), (21, (.int .i64 s))])) s) H := by
  kernel_rfl
theorem sha_state_mix.W1.ok : SoundCode Tryd.prog (sub [1, 0, 1, 0] sha_state_mix.body) sha_state_mix.W1.t := by
  have e : (sub [1, 0, 1, 0] sha_state_mix.body) = .loop (sub [1, 0, 1, 0, 0] sha_state_mix.body) := by kernel_rfl
  rw [e]
  refine piece_sound (loopN_sound (keepT_sound [0, 1, 4, 21] [] (fun i => if i = 0 then [0, 4] else []) (wC_sound sha_state_mix.hΓ Tryd.hm sha_state_mix.W1.plan _ sha_state_mix.W1.pok))) ?_
  intro Q E fr H h
  unfold sha_state_mix.W1.t at h
  obtain ⟨hl, h⟩ := lenIs_elim h
  obtain ⟨h0, q0, h⟩ := slP_elim h
  obtain ⟨b0, b1, b2, q1, h⟩ := slSl_elim h
  obtain ⟨w0, q4, h⟩ := slPA_elim h
  obtain ⟨x0, q21, h⟩ := slI_elim h
  obtain ⟨m, h⟩ := h.h
  refine ⟨(mkF 197 [(0, (.pointer h0)), (1, (.slice b0 b1 b2)), (4, (.pointer (some w0))), (21, (.int .i64 x0))]), fun a ha => ha.mk (Nat.le_of_eq hl.symm) (List.forall_mem_cons.2 ⟨q0, List.forall_mem_cons.2 ⟨q1, List.forall_mem_cons.2 ⟨q4, List.forall_mem_cons.2 ⟨q21, fun _ h => nomatch h⟩⟩⟩⟩), m, ?_⟩
  have e := loopS_eq (B := (fun (RR : Int → Heap → Prop) (s : Int) (H : Heap) => sha_state_mix.W1.vc h0 b0 b1 b2 w0 s (fun  H => Q (.exit 0) (mkF 197 [(0, (.pointer h0)), (4, (.pointer (some w0)))]) H) (fun x0 H => RR (x0) H) E H)) (A := keepT [0, 1, 4, 21] [] (fun i => if i = 0 then [0, 4] else []) (wC Tryd.prog sha_state_mix.Γ sha_state_mix.W1.plan (sub [1, 0, 1, 0, 0] sha_state_mix.body))) (m := (fun (s : Int) => (mkF 197 [(0, (.pointer h0)), (1, (.slice b0 b1 b2)), (4, (.pointer (some w0))), (21, (.int .i64 s))]))) (Q := Q) (E := E) (fun RR s H => sha_state_mix.W1.eq h0 b0 b1 b2 w0 Q E RR s H) m (x0) H
  exact cast e h
def sha_state_mix.W2.t : CT := fun Q E fr H => lenIs 197 fr (slP fr 0 fun h0 => slPA fr 4 fun w0 => slI fr 6 .i64 fun t0 => sha_state_mix.W2 h0 w0 t0 (fun  H => Q (.exit 2) (mkF 197 [(0, (.pointer h0)), (4, (.pointer (some w0)))]) H) E H)
noncomputable def sha_state_mix.W2.plan : Plan := .seq (.go) (.seq (.block (.seq (.draw ⟨[0, 1, 2, 3, 4, 5, 6, 7, 8], (dl [(0, []), (1, []), (2, []), (3, []), (4, []), (5, []), (6, []), (7, []), (8, [])] .fin), [9]⟩) (.draw ⟨[0, 1, 2, 3, 4, 5, 6, 7, 8, 9, 10, 11, 12, 13, 14, 15, 16, 17, 18, 19, 20, 21, 22, 23, 24, 25, 26, 27, 28, 29], (dl [(0, []), (1, []), (2, []), (3, []), (4, []), (5, []), (6, []), (7, []), (8, []), (9, []), (10, []), (12, []), (15, []), (16, []), (19, []), (21, []), (24, []), (25, []), (11, [10]), (13, [12, 11, 10]), (14, []), (17, []), (18, []), (20, [19, 13, 12, 11, 10]), (22, [21, 20, 19, 13, 12, 11, 10]), (23, []), (26, []), (27, []), (28, []), (29, [28, 27, 22, 0, 1, 2, 3, 4, 5, 6, 7, 8, 9, 10, 11, 12, 13, 14, 15, 16, 17, 18, 19, 20, 21, 23, 24, 25, 26])] .fin), []⟩))) (.go))
theorem sha_state_mix.W2.pok : PlanOk Tryd.prog sha_state_mix.W2.plan (sub [1, 1, 0, 1, 0, 0] sha_state_mix.body) := by
  have e : PlanOk Tryd.prog sha_state_mix.W2.plan (sub [1, 1, 0, 1, 0, 0] sha_state_mix.body) = ((True) ∧ (((True) ∧ (True)) ∧ (True))) := by kernel_rfl
  exact e.mpr ⟨trivial, ⟨⟨trivial, trivial⟩, trivial⟩⟩
theorem sha_state_mix.W2.eq (h0 : Option Addr) (w0 : Addr) (Q : Ex → Fr → Heap → Prop) (E : Value → Heap → Prop) (RR : Fr → Heap → Prop) (s : Int) (H : Heap) :
    (fun (RR : Int → Heap → Prop) (s : Int) (H : Heap) => sha_state_mix.W2.vc h0 w0 s (fun  H => Q (.exit 2) (mkF 197 [(0, (.pointer h0)), (4, (.pointer (some w0)))]) H) (fun t0 H => RR (t0) H) E H) (fun s' H' => RR ((fun (s : Int) => (mkF 197 [(0, (.pointer h0)), (4, (.pointer (some w0))), (6, (.int .i64 s))])) s') H') s H = keepT [0, 4, 6] [] (fun i => if i = 2 then [0, 4] else []) (wC Tryd.prog sha_state_mix.Γ sha_state_mix.W2.plan (sub [1, 1, 0, 1, 0, 0] sha_state_mix.body)) (fun e fr' H' => match e with | .normal => RR fr' H' | .exit id => Q (.exit id) fr' H' | .ret => Q .ret fr' H') E ((fun (s : Int) => (mkF 197 [(0, (.pointer h0)), (4, (.pointer (some w0))), (6, (.int .i64 s))])) s) H := by
  kernel_rfl
theorem sha_state_mix.W2.ok : SoundCode Tryd.prog (sub [1, 1, 0, 1, 0] sha_state_mix.body) sha_state_mix.W2.t := by
  have e : (sub [1, 1, 0, 1, 0] sha_state_mix.body) = .loop (sub [1, 1, 0, 1, 0, 0] sha_state_mix.body) := by kernel_rfl
  rw [e]
  refine piece_sound (loopN_sound (keepT_sound [0, 4, 6] [] (fun i => if i = 2 then [0, 4] else []) (wC_sound sha_state_mix.hΓ Tryd.hm sha_state_mix.W2.plan _ sha_state_mix.W2.pok))) ?_
  intro Q E fr H h
  unfold sha_state_mix.W2.t at h
  obtain ⟨hl, h⟩ := lenIs_elim h
  obtain ⟨h0, q0, h⟩ := slP_elim h
  obtain ⟨w0, q4, h⟩ := slPA_elim h
  obtain ⟨t0, q6, h⟩ := slI_elim h
  obtain ⟨m, h⟩ := h.h
  refine ⟨(mkF 197 [(0, (.pointer h0)), (4, (.pointer (some w0))), (6, (.int .i64 t0))]), fun a ha => ha.mk (Nat.le_of_eq hl.symm) (List.forall_mem_cons.2 ⟨q0, List.forall_mem_cons.2 ⟨q4, List.forall_mem_cons.2 ⟨q6, fun _ h => nomatch h⟩⟩⟩), m, ?_⟩
  have e := loopS_eq (B := (fun (RR : Int → Heap → Prop) (s : Int) (H : Heap) => sha_state_mix.W2.vc h0 w0 s (fun  H => Q (.exit 2) (mkF 197 [(0, (.pointer h0)), (4, (.pointer (some w0)))]) H) (fun t0 H => RR (t0) H) E H)) (A := keepT [0, 4, 6] [] (fun i => if i = 2 then [0, 4] else []) (wC Tryd.prog sha_state_mix.Γ sha_state_mix.W2.plan (sub [1, 1, 0, 1, 0, 0] sha_state_mix.body))) (m := (fun (s : Int) => (mkF 197 [(0, (.pointer h0)), (4, (.pointer (some w0))), (6, (.int .i64 s))]))) (Q := Q) (E := E) (fun RR s H => sha_state_mix.W2.eq h0 w0 Q E RR s H) m (t0) H
  exact cast e h
def sha_state_mix.W3.t : CT := fun Q E fr H => lenIs 197 fr (slP fr 0 fun h0 => slPA fr 4 fun w0 => slPA fr 9 fun v0 => slA1 fr 104 fun x0 => slI fr 105 .i64 fun x1 => sha_state_mix.W3 h0 w0 v0 x0 x1 (fun  H => Q (.exit 4) (mkF 197 [(0, (.pointer h0)), (9, (.pointer (some v0)))]) H) E H)
noncomputable def sha_state_mix.W3.plan : Plan := .seq (.go) (.seq (.go) (.seq (.block (.seq (.go) (.seq (.draw ⟨[0, 1, 2, 3, 4, 5, 6, 7, 8, 9, 10, 11, 12, 13, 14, 15, 16], (dl [(0, []), (1, []), (2, []), (3, []), (4, []), (5, []), (6, []), (7, []), (8, []), (9, []), (10, []), (11, []), (12, []), (13, []), (14, []), (15, []), (16, [])] .fin), [17]⟩) (.seq (.draw ⟨[0, 1, 2, 3, 4, 5, 6, 7, 8, 9, 10, 11, 12, 13, 14, 15, 16, 17, 18, 19, 20, 21, 22, 23, 24, 25], (dl [(0, []), (1, []), (2, []), (4, []), (7, []), (11, []), (12, []), (13, []), (14, []), (15, []), (16, []), (17, []), (18, []), (20, []), (22, []), (23, []), (24, []), (3, [2]), (5, [4, 3, 2]), (6, []), (8, [7, 5, 4, 3, 2]), (9, []), (10, []), (19, []), (21, []), (25, [])] .fin), [26]⟩) (.go))))) (.go)))
theorem sha_state_mix.W3.pok : PlanOk Tryd.prog sha_state_mix.W3.plan (sub [1, 1, 1, 1, 0, 1, 0, 0] sha_state_mix.body) := by
  have e : PlanOk Tryd.prog sha_state_mix.W3.plan (sub [1, 1, 1, 1, 0, 1, 0, 0] sha_state_mix.body) = ((True) ∧ ((True) ∧ (((True) ∧ ((True) ∧ ((True) ∧ (True)))) ∧ (True)))) := by kernel_rfl
  exact e.mpr ⟨trivial, ⟨trivial, ⟨⟨trivial, ⟨trivial, ⟨trivial, trivial⟩⟩⟩, trivial⟩⟩⟩
theorem sha_state_mix.W3.eq (h0 : Option Addr) (w0 : Addr) (v0 : Addr) (x0 : Array Value) (Q : Ex → Fr → Heap → Prop) (E : Value → Heap → Prop) (RR : Fr → Heap → Prop) (s : Int) (H : Heap) :
    (fun (RR : Int → Heap → Prop) (s : Int) (H : Heap) => sha_state_mix.W3.vc h0 w0 v0 x0 s (fun  H => Q (.exit 4) (mkF 197 [(0, (.pointer h0)), (9, (.pointer (some v0)))]) H) (fun x1 H => RR (x1) H) E H) (fun s' H' => RR ((fun (s : Int) => (mkF 197 [(0, (.pointer h0)), (4, (.pointer (some w0))), (9, (.pointer (some v0))), (104, (.agg x0)), (105, (.int .i64 s))])) s') H') s H = keepT [0, 4, 9, 104, 105] [] (fun i => if i = 4 then [0, 9] else []) (wC Tryd.prog sha_state_mix.Γ sha_state_mix.W3.plan (sub [1, 1, 1, 1, 0, 1, 0, 0] sha_state_mix.body)) (fun e fr' H' => match e with | .normal => RR fr' H' | .exit id => Q (.exit id) fr' H' | .ret => Q .ret fr' H') E ((fun (s : Int) => (mkF 197 [(0, (.pointer h0)), (4, (.pointer (some w0))), (9, (.pointer (some v0))), (104, (.agg x0)), (105, (.int .i64 s))])) s) H := by
  kernel_rfl
theorem sha_state_mix.W3.ok : SoundCode Tryd.prog (sub [1, 1, 1, 1, 0, 1, 0] sha_state_mix.body) sha_state_mix.W3.t := by
  have e : (sub [1, 1, 1, 1, 0, 1, 0] sha_state_mix.body) = .loop (sub [1, 1, 1, 1, 0, 1, 0, 0] sha_state_mix.body) := by kernel_rfl
  rw [e]
  refine piece_sound (loopN_sound (keepT_sound [0, 4, 9, 104, 105] [] (fun i => if i = 4 then [0, 9] else []) (wC_sound sha_state_mix.hΓ Tryd.hm sha_state_mix.W3.plan _ sha_state_mix.W3.pok))) ?_
  intro Q E fr H h
  unfold sha_state_mix.W3.t at h
  obtain ⟨hl, h⟩ := lenIs_elim h
  obtain ⟨h0, q0, h⟩ := slP_elim h
  obtain ⟨w0, q4, h⟩ := slPA_elim h
  obtain ⟨v0, q9, h⟩ := slPA_elim h
  obtain ⟨x0, q104, h⟩ := slA1_elim h
  obtain ⟨x1, q105, h⟩ := slI_elim h
  obtain ⟨m, h⟩ := h.h
  refine ⟨(mkF 197 [(0, (.pointer h0)), (4, (.pointer (some w0))), (9, (.pointer (some v0))), (104, (.agg x0)), (105, (.int .i64 x1))]), fun a ha => ha.mk (Nat.le_of_eq hl.symm) (List.forall_mem_cons.2 ⟨q0, List.forall_mem_cons.2 ⟨q4, List.forall_mem_cons.2 ⟨q9, List.forall_mem_cons.2 ⟨q104, List.forall_mem_cons.2 ⟨q105, fun _ h => nomatch h⟩⟩⟩⟩⟩), m, ?_⟩
  have e := loopS_eq (B := (fun (RR : Int → Heap → Prop) (s : Int) (H : Heap) => sha_state_mix.W3.vc h0 w0 v0 x0 s (fun  H => Q (.exit 4) (mkF 197 [(0, (.pointer h0)), (9, (.pointer (some v0)))]) H) (fun x1 H => RR (x1) H) E H)) (A := keepT [0, 4, 9, 104, 105] [] (fun i => if i = 4 then [0, 9] else []) (wC Tryd.prog sha_state_mix.Γ sha_state_mix.W3.plan (sub [1, 1, 1, 1, 0, 1, 0, 0] sha_state_mix.body))) (m := (fun (s : Int) => (mkF 197 [(0, (.pointer h0)), (4, (.pointer (some w0))), (9, (.pointer (some v0))), (104, (.agg x0)), (105, (.int .i64 s))]))) (Q := Q) (E := E) (fun RR s H => sha_state_mix.W3.eq h0 w0 v0 x0 Q E RR s H) m (x1) H
  exact cast e h
def sha_state_mix.W4.t : CT := fun Q E fr H => lenIs 197 fr (slP fr 0 fun h0 => slPA fr 9 fun v0 => slI fr 182 .i64 fun x0 => sha_state_mix.W4 h0 v0 x0 (fun  H => Q (.exit 6) (mkF 197 []) H) E H)
noncomputable def sha_state_mix.W4.plan : Plan := .seq (.go) (.seq (.go) (.seq (.block (.seq (.go) (.draw ⟨[0, 1, 2, 3, 4, 5, 6, 7, 8, 9, 10, 11], (dl [(0, []), (1, []), (2, []), (3, []), (4, []), (5, []), (6, []), (7, []), (8, []), (9, []), (10, []), (11, [10, 8, 0, 1, 2, 3, 4, 5, 6, 7, 9])] .fin), []⟩))) (.go)))
theorem sha_state_mix.W4.pok : PlanOk Tryd.prog sha_state_mix.W4.plan (sub [1, 1, 1, 1, 1, 1, 0, 0] sha_state_mix.body) := by
  have e : PlanOk Tryd.prog sha_state_mix.W4.plan (sub [1, 1, 1, 1, 1, 1, 0, 0] sha_state_mix.body) = ((True) ∧ ((True) ∧ (((True) ∧ (True)) ∧ (True)))) := by kernel_rfl
  exact e.mpr ⟨trivial, ⟨trivial, ⟨⟨trivial, trivial⟩, trivial⟩⟩⟩
theorem sha_state_mix.W4.eq (h0 : Option Addr) (v0 : Addr) (Q : Ex → Fr → Heap → Prop) (E : Value → Heap → Prop) (RR : Fr → Heap → Prop) (s : Int) (H : Heap) :
    (fun (RR : Int → Heap → Prop) (s : Int) (H : Heap) => sha_state_mix.W4.vc h0 v0 s (fun  H => Q (.exit 6) (mkF 197 []) H) (fun x0 H => RR (x0) H) E H) (fun s' H' => RR ((fun (s : Int) => (mkF 197 [(0, (.pointer h0)), (9, (.pointer (some v0))), (182, (.int .i64 s))])) s') H') s H = keepT [0, 9, 182] [] (fun i => if i = 6 then [] else []) (wC Tryd.prog sha_state_mix.Γ sha_state_mix.W4.plan (sub [1, 1, 1, 1, 1, 1, 0, 0] sha_state_mix.body)) (fun e fr' H' => match e with | .normal => RR fr' H' | .exit id => Q (.exit id) fr' H' | .ret => Q .ret fr' H') E ((fun (s : Int) => (mkF 197 [(0, (.pointer h0)), (9, (.pointer (some v0))), (182, (.int .i64 s))])) s) H := by
  kernel_rfl
theorem sha_state_mix.W4.ok : SoundCode Tryd.prog (sub [1, 1, 1, 1, 1, 1, 0] sha_state_mix.body) sha_state_mix.W4.t := by
  have e : (sub [1, 1, 1, 1, 1, 1, 0] sha_state_mix.body) = .loop (sub [1, 1, 1, 1, 1, 1, 0, 0] sha_state_mix.body) := by kernel_rfl
  rw [e]
  refine piece_sound (loopN_sound (keepT_sound [0, 9, 182] [] (fun i => if i = 6 then [] else []) (wC_sound sha_state_mix.hΓ Tryd.hm sha_state_mix.W4.plan _ sha_state_mix.W4.pok))) ?_
  intro Q E fr H h
  unfold sha_state_mix.W4.t at h
  obtain ⟨hl, h⟩ := lenIs_elim h
  obtain ⟨h0, q0, h⟩ := slP_elim h
  obtain ⟨v0, q9, h⟩ := slPA_elim h
  obtain ⟨x0, q182, h⟩ := slI_elim h
  obtain ⟨m, h⟩ := h.h
  refine ⟨(mkF 197 [(0, (.pointer h0)), (9, (.pointer (some v0))), (182, (.int .i64 x0))]), fun a ha => ha.mk (Nat.le_of_eq hl.symm) (List.forall_mem_cons.2 ⟨q0, List.forall_mem_cons.2 ⟨q9, List.forall_mem_cons.2 ⟨q182, fun _ h => nomatch h⟩⟩⟩), m, ?_⟩
  have e := loopS_eq (B := (fun (RR : Int → Heap → Prop) (s : Int) (H : Heap) => sha_state_mix.W4.vc h0 v0 s (fun  H => Q (.exit 6) (mkF 197 []) H) (fun x0 H => RR (x0) H) E H)) (A := keepT [0, 9, 182] [] (fun i => if i = 6 then [] else []) (wC Tryd.prog sha_state_mix.Γ sha_state_mix.W4.plan (sub [1, 1, 1, 1, 1, 1, 0, 0] sha_state_mix.body))) (m := (fun (s : Int) => (mkF 197 [(0, (.pointer h0)), (9, (.pointer (some v0))), (182, (.int .i64 s))]))) (Q := Q) (E := E) (fun RR s H => sha_state_mix.W4.eq h0 v0 Q E RR s H) m (x0) H
  exact cast e h
noncomputable def sha_state_mix.plan : Plan := .seq (.go) (.seq (.seq (.go) (.block (.use sha_state_mix.W1.t))) (.seq (.seq (.go) (.block (.use sha_state_mix.W2.t))) (.seq (.go) (.seq (.seq (.go) (.block (.use sha_state_mix.W3.t))) (.seq (.go) (.block (.use sha_state_mix.W4.t)))))))
theorem sha_state_mix.pok : PlanOk Tryd.prog sha_state_mix.plan sha_state_mix.body := by
  have e : PlanOk Tryd.prog sha_state_mix.plan sha_state_mix.body = ((True) ∧ (((True) ∧ (SoundCode Tryd.prog (sub [1, 0, 1, 0] sha_state_mix.body) sha_state_mix.W1.t)) ∧ (((True) ∧ (SoundCode Tryd.prog (sub [1, 1, 0, 1, 0] sha_state_mix.body) sha_state_mix.W2.t)) ∧ ((True) ∧ (((True) ∧ (SoundCode Tryd.prog (sub [1, 1, 1, 1, 0, 1, 0] sha_state_mix.body) sha_state_mix.W3.t)) ∧ ((True) ∧ (SoundCode Tryd.prog (sub [1, 1, 1, 1, 1, 1, 0] sha_state_mix.body) sha_state_mix.W4.t))))))) := by kernel_rfl
  exact e.mpr ⟨trivial, ⟨⟨trivial, sha_state_mix.W1.ok⟩, ⟨⟨trivial, sha_state_mix.W2.ok⟩, ⟨trivial, ⟨⟨trivial, sha_state_mix.W3.ok⟩, ⟨trivial, sha_state_mix.W4.ok⟩⟩⟩⟩⟩⟩
theorem sha_state_mix.eq (h0 : Option Addr) (b0 : Option Addr) (b1 : Nat) (b2 : Nat) (K : Value → Heap → Prop) (E : Value → Heap → Prop) (H : Heap) :
    fnT Tryd.prog Tryd.f31 (wC Tryd.prog sha_state_mix.Γ sha_state_mix.plan sha_state_mix.body) [(.pointer h0), (.slice b0 b1 b2)] K E H = sha_state_mix.vc h0 b0 b1 b2 (fun  H => K (.tuple #[]) H) E H := by
  kernel_rfl
theorem sha_state_mix.Fe {args : List Value} {K E : Value → Heap → Prop} {H : Heap} (h : sha_state_mix.F args K E H) : ∃ h0 b0 b1 b2, args = [(.pointer h0), (.slice b0 b1 b2)] ∧ sha_state_mix.c h0 b0 b1 b2 (fun  H => K (.tuple #[]) H) E H := by
  unfold sha_state_mix.F at h
  split at h
  · exact ⟨_, _, _, _, rfl, h⟩
  · exact h.elim
theorem sha_state_mix.ok : CalleeOk Tryd.prog 31 sha_state_mix.F :=
  callee_ok sha_state_mix.hΓ (fn := Tryd.f31) (c := sha_state_mix.body) (T := wC Tryd.prog sha_state_mix.Γ sha_state_mix.plan sha_state_mix.body) (by kernel_rfl) (by kernel_rfl) (by kernel_rfl) (wC_sound sha_state_mix.hΓ Tryd.hm sha_state_mix.plan _ sha_state_mix.pok) fun _ K E H h => by
    obtain ⟨z0, z1, z2, z3, e, h⟩ := sha_state_mix.Fe h
    subst e
    have h2 : sha_state_mix.vc z0 z1 z2 z3 (fun  H => ∃ H', Heap.Le H' H ∧ K (.tuple #[]) H') E H := h.h
    rw [sha_state_mix.eq z0 z1 z2 z3 (Fg K) E H]
    exact h2

/-! (*vizard/sha.Hash).Write -/
noncomputable def sha_Hash_Write.body : Code := Tryd.f14.body.getD .skip
def sha_Hash_Write.W2.vc (h0 : Option Addr) (Kx0 : Heap → Prop) (RR : Heap → Prop) (E : Value → Heap → Prop) (h1 : Heap) : Prop :=
  nilc h0 fun a0 =>
  ldSl h1 (a0.add 8) fun x0 x1 x2 =>
  (if (decide ((x1 : Int) ≥ 64)) = true then
  nilc h0 fun a1 =>
  nilc h0 fun a2 =>
  ldSl h1 (a2.add 8) fun x3 x4 x5 =>
  (0 : Int) ≤ 64 ∧ 64 ≤ (x5 : Int) ∧
  sha_state_mix.c (some (a1.add 0)) (slA x3 x5 0 1) 64 x5 (fun h2 =>
  nilc h0 fun a3 =>
  ldSl h2 (a3.add 8) fun x6 x7 x8 =>
  (0 : Int) ≤ 64 ∧ 64 ≤ (x7 : Int) ∧ x7 ≤ x8 ∧
  nilc h0 fun a4 =>
  stc h2 (a4.add 8) (.slice (slA x6 x8 64 1) (x7 - 64) (x8 - 64)) fun h3 =>
  RR h3) E h1
  else
  Kx0 h1)
structure sha_Hash_Write.W2 (h0 : Option Addr) (Kx0 : Heap → Prop) (E : Value → Heap → Prop) (H : Heap) : Prop where
  h : Loop (fun (RR : Unit → Heap → Prop) (s : Unit) (H : Heap) => sha_Hash_Write.W2.vc h0 Kx0 (fun  H => RR () H) E H) () H
def sha_Hash_Write.J1.vc (h0 : Option Addr) (Kn : Heap → Prop) (E : Value → Heap → Prop) (h1 : Heap) : Prop :=
  sha_Hash_Write.W2 h0 (fun h2 =>
  nilc h0 fun a0 =>
  ldSl h2 (a0.add 8) fun x0 x1 x2 =>
  (if ((x1 : Int) == 0) = true then
  nilc h0 fun a1 =>
  stc h2 (a1.add 8) (.slice none 0 0) fun h3 =>
  Kn h3
  else
  Kn h2)) E h1
structure sha_Hash_Write.J1 (h0 : Option Addr) (Kn : Heap → Prop) (E : Value → Heap → Prop) (H : Heap) : Prop where
  h : sha_Hash_Write.J1.vc h0 Kn E H
def sha_Hash_Write.vc (h0 : Option Addr) (s0 : ByteArray) (K : Heap → Prop) (E : Value → Heap → Prop) (h1 : Heap) : Prop :=
  nilc h0 fun a0 =>
  ldI h1 .u64 (a0.add 9) fun x0 =>
  nilc h0 fun a1 =>
  stc h1 (a1.add 9) (.int .u64 (IntKind.u64.wrap (x0 + (IntKind.u64.wrap (s0.size : Int))))) fun h2 =>
  nilc h0 fun a2 =>
  ldSl h2 (a2.add 8) fun x1 x2 x3 =>
  appT 5 (.int .u8 0) x1 x2 s0.size x3 1 1 (byteVals s0) (fun p0 n0 c0 h3 =>
  nilc h0 fun a3 =>
  stc h3 (a3.add 8) (.slice p0 n0 c0) fun h4 =>
  sha_Hash_Write.J1 h0 K E h4) h2
structure sha_Hash_Write.c (h0 : Option Addr) (s0 : ByteArray) (K : Heap → Prop) (E : Value → Heap → Prop) (H : Heap) : Prop where
  h : sha_Hash_Write.vc h0 s0 (fun  H => ∃ H', Heap.Le H' H ∧ K  H') E H
def sha_Hash_Write.F : FT := fun args K E H => match args with
  | [(.pointer h0), (.string s0)] => sha_Hash_Write.c h0 s0 (fun  H => K (.tuple #[]) H) E H
  | _ => False
noncomputable def sha_Hash_Write.Γ : FuncId → Option FT := Γof [(31, sha_state_mix.F)]
theorem sha_Hash_Write.hΓ : ∀ f F, sha_Hash_Write.Γ f = some F → CalleeOk Tryd.prog f F := Γof_ok (List.forall_mem_cons.2 ⟨sha_state_mix.ok, fun _ h => nomatch h⟩)
def sha_Hash_Write.W2.t : CT := fun Q E fr H => lenIs 55 fr (slP fr 0 fun h0 => sha_Hash_Write.W2 h0 (fun  H => Q (.exit 0) (mkF 55 [(0, (.pointer h0))]) H) E H)
noncomputable def sha_Hash_Write.W2.plan : Plan := .seq (.go) (.block (.seq (.draw ⟨[0, 1, 2, 3, 4, 5, 6, 7, 8], (dl [(0, []), (1, []), (2, []), (3, []), (4, []), (5, []), (6, []), (7, []), (8, [2, 7, 1, 6, 0, 5, 4, 3])] .fin), []⟩) (.go)))
theorem sha_Hash_Write.W2.pok : PlanOk Tryd.prog sha_Hash_Write.W2.plan (sub [1, 1, 0, 0, 0] sha_Hash_Write.body) := by
  have e : PlanOk Tryd.prog sha_Hash_Write.W2.plan (sub [1, 1, 0, 0, 0] sha_Hash_Write.body) = ((True) ∧ ((True) ∧ (True))) := by kernel_rfl
  exact e.mpr ⟨trivial, ⟨trivial, trivial⟩⟩
theorem sha_Hash_Write.W2.eq (h0 : Option Addr) (Q : Ex → Fr → Heap → Prop) (E : Value → Heap → Prop) (RR : Fr → Heap → Prop) (s : Unit) (H : Heap) :
    (fun (RR : Unit → Heap → Prop) (s : Unit) (H : Heap) => sha_Hash_Write.W2.vc h0 (fun  H => Q (.exit 0) (mkF 55 [(0, (.pointer h0))]) H) (fun  H => RR () H) E H) (fun s' H' => RR ((fun (s : Unit) => (mkF 55 [(0, (.pointer h0))])) s') H') s H = keepT [0] [] (fun i => if i = 0 then [0] else []) (wC Tryd.prog sha_Hash_Write.Γ sha_Hash_Write.W2.plan (sub [1, 1, 0, 0, 0] sha_Hash_Write.body)) (fun e fr' H' => match e with | .normal => RR fr' H' | .exit id => Q (.exit id) fr' H' | .ret => Q .ret fr' H') E ((fun (s : Unit) => (mkF 55 [(0, (.pointer h0))])) s) H := by
  kernel_rfl
theorem sha_Hash_Write.W2.ok : SoundCode Tryd.prog (sub [1, 1, 0, 0] sha_Hash_Write.body) sha_Hash_Write.W2.t := by
  have e : (sub [1, 1, 0, 0] sha_Hash_Write.body) = .loop (sub [1, 1, 0, 0, 0] sha_Hash_Write.body) := by kernel_rfl
  rw [e]
  refine piece_sound (loopN_sound (keepT_sound [0] [] (fun i => if i = 0 then [0] else []) (wC_sound sha_Hash_Write.hΓ Tryd.hm sha_Hash_Write.W2.plan _ sha_Hash_Write.W2.pok))) ?_
  intro Q E fr H h
  unfold sha_Hash_Write.W2.t at h
  obtain ⟨hl, h⟩ := lenIs_elim h
  obtain ⟨h0, q0, h⟩ := slP_elim h
  obtain ⟨m, h⟩ := h.h
  refine ⟨(mkF 55 [(0, (.pointer h0))]), fun a ha => ha.mk (Nat.le_of_eq hl.symm) (List.forall_mem_cons.2 ⟨q0, fun _ h => nomatch h⟩), m, ?_⟩
  have e := loopS_eq (B := (fun (RR : Unit → Heap → Prop) (s : Unit) (H : Heap) => sha_Hash_Write.W2.vc h0 (fun  H => Q (.exit 0) (mkF 55 [(0, (.pointer h0))]) H) (fun  H => RR () H) E H)) (A := keepT [0] [] (fun i => if i = 0 then [0] else []) (wC Tryd.prog sha_Hash_Write.Γ sha_Hash_Write.W2.plan (sub [1, 1, 0, 0, 0] sha_Hash_Write.body))) (m := (fun (s : Unit) => (mkF 55 [(0, (.pointer h0))]))) (Q := Q) (E := E) (fun RR s H => sha_Hash_Write.W2.eq h0 Q E RR s H) m () H
  exact cast e h
def sha_Hash_Write.J1.t : CT := fun Q E fr H => lenIs 55 fr (slP fr 0 fun h0 => sha_Hash_Write.J1 h0 (fun  H => Q .normal (mkF 55 []) H) E H)
noncomputable def sha_Hash_Write.J1.plan : Plan := .seq (.block (.use sha_Hash_Write.W2.t)) (.go)
theorem sha_Hash_Write.J1.pok : PlanOk Tryd.prog sha_Hash_Write.J1.plan (sub [1, 1] sha_Hash_Write.body) := by
  have e : PlanOk Tryd.prog sha_Hash_Write.J1.plan (sub [1, 1] sha_Hash_Write.body) = ((SoundCode Tryd.prog (sub [1, 1, 0, 0] sha_Hash_Write.body) sha_Hash_Write.W2.t) ∧ (True)) := by kernel_rfl
  exact e.mpr ⟨sha_Hash_Write.W2.ok, trivial⟩
theorem sha_Hash_Write.J1.eq (h0 : Option Addr) (Q : Ex → Fr → Heap → Prop) (E : Value → Heap → Prop) (H : Heap) :
    sha_Hash_Write.J1.vc h0 (fun  H => Q .normal (mkF 55 []) H) E H = keepT [] [] (fun i => []) (wC Tryd.prog sha_Hash_Write.Γ sha_Hash_Write.J1.plan (sub [1, 1] sha_Hash_Write.body)) Q E (mkF 55 [(0, (.pointer h0))]) H := by
  kernel_rfl
theorem sha_Hash_Write.J1.ok : SoundCode Tryd.prog (sub [1, 1] sha_Hash_Write.body) sha_Hash_Write.J1.t := by
  refine piece_sound (keepT_sound [] [] (fun i => []) (wC_sound sha_Hash_Write.hΓ Tryd.hm sha_Hash_Write.J1.plan _ sha_Hash_Write.J1.pok)) ?_
  intro Q E fr H h
  unfold sha_Hash_Write.J1.t at h
  obtain ⟨hl, h⟩ := lenIs_elim h
  obtain ⟨h0, q0, h⟩ := slP_elim h
  refine ⟨(mkF 55 [(0, (.pointer h0))]), fun a ha => ha.mk (Nat.le_of_eq hl.symm) (List.forall_mem_cons.2 ⟨q0, fun _ h => nomatch h⟩), ?_⟩
  have e := sha_Hash_Write.J1.eq h0 Q E H
  rw [← e]
  exact h.h
noncomputable def sha_Hash_Write.plan : Plan := .seq (.go) (.seq (.go) (.use sha_Hash_Write.J1.t))
theorem sha_Hash_Write.pok : PlanOk Tryd.prog sha_Hash_Write.plan sha_Hash_Write.body := by
  have e : PlanOk Tryd.prog sha_Hash_Write.plan sha_Hash_Write.body = ((True) ∧ ((True) ∧ (SoundCode Tryd.prog (sub [1, 1] sha_Hash_Write.body) sha_Hash_Write.J1.t))) := by kernel_rfl
  exact e.mpr ⟨trivial, ⟨trivial, sha_Hash_Write.J1.ok⟩⟩
theorem sha_Hash_Write.eq (h0 : Option Addr) (s0 : ByteArray) (K : Value → Heap → Prop) (E : Value → Heap → Prop) (H : Heap) :
    fnT Tryd.prog Tryd.f14 (wC Tryd.prog sha_Hash_Write.Γ sha_Hash_Write.plan sha_Hash_Write.body) [(.pointer h0), (.string s0)] K E H = sha_Hash_Write.vc h0 s0 (fun  H => K (.tuple #[]) H) E H := by
  kernel_rfl
theorem sha_Hash_Write.Fe {args : List Value} {K E : Value → Heap → Prop} {H : Heap} (h : sha_Hash_Write.F args K E H) : ∃ h0 s0, args = [(.pointer h0), (.string s0)] ∧ sha_Hash_Write.c h0 s0 (fun  H => K (.tuple #[]) H) E H := by
  unfold sha_Hash_Write.F at h
  split at h
  · exact ⟨_, _, rfl, h⟩
  · exact h.elim
theorem sha_Hash_Write.ok : CalleeOk Tryd.prog 14 sha_Hash_Write.F :=
  callee_ok sha_Hash_Write.hΓ (fn := Tryd.f14) (c := sha_Hash_Write.body) (T := wC Tryd.prog sha_Hash_Write.Γ sha_Hash_Write.plan sha_Hash_Write.body) (by kernel_rfl) (by kernel_rfl) (by kernel_rfl) (wC_sound sha_Hash_Write.hΓ Tryd.hm sha_Hash_Write.plan _ sha_Hash_Write.pok) fun _ K E H h => by
    obtain ⟨z0, z1, e, h⟩ := sha_Hash_Write.Fe h
    subst e
    have h2 : sha_Hash_Write.vc z0 z1 (fun  H => ∃ H', Heap.Le H' H ∧ K (.tuple #[]) H') E H := h.h
    rw [sha_Hash_Write.eq z0 z1 (Fg K) E H]
    exact h2

/-! (*vizard/sha.Hash).Sum -/
noncomputable def sha_Hash_Sum.body : Code := Tryd.f15.body.getD .skip
def sha_Hash_Sum.W3.vc (h0 : Option Addr) (x0 : Addr) (b0 : Option Addr) (b1 : Nat) (b2 : Nat) (Kx0 : Option Addr → Nat → Nat → Heap → Prop) (RR : Option Addr → Nat → Nat → Heap → Prop) (E : Value → Heap → Prop) (h1 : Heap) : Prop :=
  64 ≠ (0 : Int) ∧
  (if ((Int.tmod (b1 : Int) 64) != 56) = true then
  newB (.cells #[(.int .u8 0)] 5) (fun b3 h2 =>
  rdRow h2 (some (⟨b3, 0, none⟩ : Addr)) (1 * 1) fun cs0 =>
  appT 5 (.int .u8 0) b0 b1 1 b2 1 1 cs0 (fun p0 n0 c0 h3 =>
  RR p0 n0 c0 h3) h2) h1
  else
  Kx0 b0 b1 b2 h1)
structure sha_Hash_Sum.W3 (h0 : Option Addr) (x0 : Addr) (b0 : Option Addr) (b1 : Nat) (b2 : Nat) (Kx0 : Option Addr → Nat → Nat → Heap → Prop) (E : Value → Heap → Prop) (H : Heap) : Prop where
  h : Loop (fun (RR : Option Addr × Nat × Nat → Heap → Prop) (s : Option Addr × Nat × Nat) (H : Heap) => sha_Hash_Sum.W3.vc h0 x0 s.1 s.2.1 s.2.2 Kx0 (fun b0 b1 b2 H => RR (b0, b1, b2) H) E H) (b0, b1, b2) H
def sha_Hash_Sum.J5.vc (h0 : Option Addr) (x0 : Addr) (b0 : Option Addr) (b1 : Nat) (b2 : Nat) (x1 : Int) (Kn : Int → Heap → Prop) (E : Value → Heap → Prop) (h1 : Heap) : Prop :=
  Kn (IntKind.i64.wrap (x1 + 1)) h1
structure sha_Hash_Sum.J5 (h0 : Option Addr) (x0 : Addr) (b0 : Option Addr) (b1 : Nat) (b2 : Nat) (x1 : Int) (Kn : Int → Heap → Prop) (E : Value → Heap → Prop) (H : Heap) : Prop where
  h : sha_Hash_Sum.J5.vc h0 x0 b0 b1 b2 x1 Kn E H
def sha_Hash_Sum.W4.vc (h0 : Option Addr) (x0 : Addr) (b0 : Option Addr) (b1 : Nat) (b2 : Nat) (x1 : Int) (Kx2 : Option Addr → Nat → Nat → Heap → Prop) (RR : Option Addr → Nat → Nat → Int → Heap → Prop) (E : Value → Heap → Prop) (h1 : Heap) : Prop :=
  (if (decide (x1 < 8)) = true then
  nilc h0 fun a0 =>
  ldI h1 .u64 (a0.add 9) fun x2 =>
  (0 : Int) ≤ (IntKind.i64.wrap (56 - (IntKind.i64.wrap (8 * x1)))) ∧
  newB (.cells #[(.int .u8 (IntKind.u8.wrap (shrI .u64 (IntKind.u64.wrap (8 * x2)) (IntKind.i64.wrap (56 - (IntKind.i64.wrap (8 * x1)))))))] 5) (fun b3 h2 =>
  rdRow h2 (some (⟨b3, 0, none⟩ : Addr)) (1 * 1) fun cs0 =>
  appT 5 (.int .u8 0) b0 b1 1 b2 1 1 cs0 (fun p0 n0 c0 h3 =>
  sha_Hash_Sum.J5 h0 x0 p0 n0 c0 x1 (fun x3 h4 =>
  RR p0 n0 c0 x3 h4) E h3) h2) h1
  else
  Kx2 b0 b1 b2 h1)
structure sha_Hash_Sum.W4 (h0 : Option Addr) (x0 : Addr) (b0 : Option Addr) (b1 : Nat) (b2 : Nat) (x1 : Int) (Kx2 : Option Addr → Nat → Nat → Heap → Prop) (E : Value → Heap → Prop) (H : Heap) : Prop where
  h : Loop (fun (RR : Option Addr × Nat × Nat × Int → Heap → Prop) (s : Option Addr × Nat × Nat × Int) (H : Heap) => sha_Hash_Sum.W4.vc h0 x0 s.1 s.2.1 s.2.2.1 s.2.2.2 Kx2 (fun b0 b1 b2 x1 H => RR (b0, b1, b2, x1) H) E H) (b0, b1, b2, x1) H
def sha_Hash_Sum.W6.vc (x0 : Addr) (b0 : Option Addr) (b1 : Nat) (b2 : Nat) (Kx4 : Heap → Prop) (RR : Option Addr → Nat → Nat → Heap → Prop) (E : Value → Heap → Prop) (h0 : Heap) : Prop :=
  (if (decide ((b1 : Int) > 0)) = true then
  (0 : Int) ≤ 64 ∧ 64 ≤ (b2 : Int) ∧
  sha_state_mix.c (some x0) (slA b0 b2 0 1) 64 b2 (fun h1 =>
  (0 : Int) ≤ 64 ∧ 64 ≤ (b1 : Int) ∧ b1 ≤ b2 ∧
  RR (slA b0 b2 64 1) (b1 - 64) (b2 - 64) h1) E h0
  else
  Kx4 h0)
structure sha_Hash_Sum.W6 (x0 : Addr) (b0 : Option Addr) (b1 : Nat) (b2 : Nat) (Kx4 : Heap → Prop) (E : Value → Heap → Prop) (H : Heap) : Prop where
  h : Loop (fun (RR : Option Addr × Nat × Nat → Heap → Prop) (s : Option Addr × Nat × Nat) (H : Heap) => sha_Hash_Sum.W6.vc x0 s.1 s.2.1 s.2.2 Kx4 (fun b0 b1 b2 H => RR (b0, b1, b2) H) E H) (b0, b1, b2) H
def sha_Hash_Sum.J8.vc (out0 : Option Addr) (out1 : Nat) (out2 : Nat) (x0 : Int) (x1 : Int) (x2 : Int) (x3 : Int) (x4 : Int) (x5 : Int) (x6 : Int) (x7 : Int) (x8 : Int) (Kn : Int → Heap → Prop) (E : Value → Heap → Prop) (h0 : Heap) : Prop :=
  Kn (IntKind.i64.wrap (x8 + 1)) h0
structure sha_Hash_Sum.J8 (out0 : Option Addr) (out1 : Nat) (out2 : Nat) (x0 : Int) (x1 : Int) (x2 : Int) (x3 : Int) (x4 : Int) (x5 : Int) (x6 : Int) (x7 : Int) (x8 : Int) (Kn : Int → Heap → Prop) (E : Value → Heap → Prop) (H : Heap) : Prop where
  h : sha_Hash_Sum.J8.vc out0 out1 out2 x0 x1 x2 x3 x4 x5 x6 x7 x8 Kn E H
def sha_Hash_Sum.W7.vc (out0 : Option Addr) (out1 : Nat) (out2 : Nat) (x0 : Int) (x1 : Int) (x2 : Int) (x3 : Int) (x4 : Int) (x5 : Int) (x6 : Int) (x7 : Int) (x8 : Int) (Kx6 : Option Addr → Nat → Nat → Heap → Prop) (RR : Option Addr → Nat → Nat → Int → Heap → Prop) (E : Value → Heap → Prop) (h0 : Heap) : Prop :=
  (if (decide (x8 < 8)) = true then
  (0 : Int) ≤ x8 ∧ x8 < ((8 : Nat) : Int) ∧ ∃ v0, (#[(.int .u32 x0), (.int .u32 x1), (.int .u32 x2), (.int .u32 x3), (.int .u32 x4), (.int .u32 x5), (.int .u32 x6), (.int .u32 x7)] : Array Value)[x8.toNat]? = some v0 ∧ ∃ x9, v0 = (.int .u32 x9) ∧
  (0 : Int) ≤ 24 ∧
  (0 : Int) ≤ 16 ∧
  (0 : Int) ≤ 8 ∧
  newB (.cells #[(.int .u8 (IntKind.u8.wrap (shrI .u32 x9 24))), (.int .u8 (IntKind.u8.wrap (shrI .u32 x9 16))), (.int .u8 (IntKind.u8.wrap (shrI .u32 x9 8))), (.int .u8 (IntKind.u8.wrap x9))] 5) (fun b0 h1 =>
  rdRow h1 (some (⟨b0, 0, none⟩ : Addr)) (4 * 1) fun cs0 =>
  appT 5 (.int .u8 0) out0 out1 4 out2 1 1 cs0 (fun p0 n0 c0 h2 =>
  sha_Hash_Sum.J8 p0 n0 c0 x0 x1 x2 x3 x4 x5 x6 x7 x8 (fun x10 h3 =>
  RR p0 n0 c0 x10 h3) E h2) h1) h0
  else
  Kx6 out0 out1 out2 h0)
structure sha_Hash_Sum.W7 (out0 : Option Addr) (out1 : Nat) (out2 : Nat) (x0 : Int) (x1 : Int) (x2 : Int) (x3 : Int) (x4 : Int) (x5 : Int) (x6 : Int) (x7 : Int) (x8 : Int) (Kx6 : Option Addr → Nat → Nat → Heap → Prop) (E : Value → Heap → Prop) (H : Heap) : Prop where
  h : Loop (fun (RR : Option Addr × Nat × Nat × Int → Heap → Prop) (s : Option Addr × Nat × Nat × Int) (H : Heap) => sha_Hash_Sum.W7.vc s.1 s.2.1 s.2.2.1 x0 x1 x2 x3 x4 x5 x6 x7 s.2.2.2 Kx6 (fun out0 out1 out2 x8 H => RR (out0, out1, out2, x8) H) E H) (out0, out1, out2, x8) H
def sha_Hash_Sum.J2.vc (h0 : Option Addr) (x0 : Addr) (b0 : Option Addr) (b1 : Nat) (b2 : Nat) (Kr : ByteArray → Heap → Prop) (E : Value → Heap → Prop) (h1 : Heap) : Prop :=
  sha_Hash_Sum.W3 h0 x0 b0 b1 b2 (fun b3 b4 b5 h2 =>
  sha_Hash_Sum.W4 h0 x0 b3 b4 b5 0 (fun b6 b7 b8 h3 =>
  sha_Hash_Sum.W6 x0 b6 b7 b8 (fun h4 =>
  ldI h4 .u32 (x0.add 0) fun x1 => ldI h4 .u32 (x0.add 1) fun x2 => ldI h4 .u32 (x0.add 2) fun x3 => ldI h4 .u32 (x0.add 3) fun x4 => ldI h4 .u32 (x0.add 4) fun x5 => ldI h4 .u32 (x0.add 5) fun x6 => ldI h4 .u32 (x0.add 6) fun x7 => ldI h4 .u32 (x0.add 7) fun x8 =>
  sha_Hash_Sum.W7 none 0 0 x1 x2 x3 x4 x5 x6 x7 x8 0 (fun out0 out1 out2 h5 =>
  rdBytes h5 out0 out1 fun x9 =>
  Kr x9 h5) E h4) E h3) E h2) E h1
structure sha_Hash_Sum.J2 (h0 : Option Addr) (x0 : Addr) (b0 : Option Addr) (b1 : Nat) (b2 : Nat) (Kr : ByteArray → Heap → Prop) (E : Value → Heap → Prop) (H : Heap) : Prop where
  h : sha_Hash_Sum.J2.vc h0 x0 b0 b1 b2 Kr E H
def sha_Hash_Sum.J1.vc (h0 : Option Addr) (x0 : Addr) (b0 : Option Addr) (b1 : Nat) (b2 : Nat) (Kr : ByteArray → Heap → Prop) (E : Value → Heap → Prop) (h1 : Heap) : Prop :=
  newB (.cells #[(.int .u8 128)] 5) (fun b3 h2 =>
  rdRow h2 (some (⟨b3, 0, none⟩ : Addr)) (1 * 1) fun cs0 =>
  appT 5 (.int .u8 0) b0 b1 1 b2 1 1 cs0 (fun p0 n0 c0 h3 =>
  sha_Hash_Sum.J2 h0 x0 p0 n0 c0 Kr E h3) h2) h1
structure sha_Hash_Sum.J1 (h0 : Option Addr) (x0 : Addr) (b0 : Option Addr) (b1 : Nat) (b2 : Nat) (Kr : ByteArray → Heap → Prop) (E : Value → Heap → Prop) (H : Heap) : Prop where
  h : sha_Hash_Sum.J1.vc h0 x0 b0 b1 b2 Kr E H
def sha_Hash_Sum.vc (h0 : Option Addr) (K : ByteArray → Heap → Prop) (E : Value → Heap → Prop) (h1 : Heap) : Prop :=
  nilc h0 fun a0 =>
  ldI h1 .u32 ((a0.add 0).add 0) fun x0 => ldI h1 .u32 ((a0.add 0).add 1) fun x1 => ldI h1 .u32 ((a0.add 0).add 2) fun x2 => ldI h1 .u32 ((a0.add 0).add 3) fun x3 => ldI h1 .u32 ((a0.add 0).add 4) fun x4 => ldI h1 .u32 ((a0.add 0).add 5) fun x5 => ldI h1 .u32 ((a0.add 0).add 6) fun x6 => ldI h1 .u32 ((a0.add 0).add 7) fun x7 =>
  newB (.cells #[(.int .u32 0), (.int .u32 0), (.int .u32 0), (.int .u32 0), (.int .u32 0), (.int .u32 0), (.int .u32 0), (.int .u32 0)] 52) (fun b0 h2 =>
  (#[(.int .u32 x0), (.int .u32 x1), (.int .u32 x2), (.int .u32 x3), (.int .u32 x4), (.int .u32 x5), (.int .u32 x6), (.int .u32 x7)] : Array Value).size = 8 ∧ stRow (⟨b0, 0, none⟩ : Addr) (#[(.int .u32 x0), (.int .u32 x1), (.int .u32 x2), (.int .u32 x3), (.int .u32 x4), (.int .u32 x5), (.int .u32 x6), (.int .u32 x7)] : Array Value).toList (fun h3 =>
  newB (.cells #[] 5) (fun b1 h4 =>
  nilc h0 fun a1 =>
  ldSl h4 (a1.add 8) fun x8 x9 x10 =>
  rdRow h4 x8 (x9 * 1) fun cs0 =>
  appT 5 (.int .u8 0) (some (⟨b1, 0, none⟩ : Addr)) 0 x9 0 1 1 cs0 (fun p0 n0 c0 h5 =>
  sha_Hash_Sum.J1 h0 (⟨b0, 0, none⟩ : Addr) p0 n0 c0 K E h5) h4) h3) h2) h1
structure sha_Hash_Sum.c (h0 : Option Addr) (K : ByteArray → Heap → Prop) (E : Value → Heap → Prop) (H : Heap) : Prop where
  h : sha_Hash_Sum.vc h0 (fun r0_0 H => ∃ H', Heap.Le H' H ∧ K r0_0 H') E H
def sha_Hash_Sum.F : FT := fun args K E H => match args with
  | [(.pointer h0)] => sha_Hash_Sum.c h0 (fun r0_0 H => K (.string r0_0) H) E H
  | _ => False
noncomputable def sha_Hash_Sum.Γ : FuncId → Option FT := Γof [(31, sha_state_mix.F)]
theorem sha_Hash_Sum.hΓ : ∀ f F, sha_Hash_Sum.Γ f = some F → CalleeOk Tryd.prog f F := Γof_ok (List.forall_mem_cons.2 ⟨sha_state_mix.ok, fun _ h => nomatch h⟩)
def sha_Hash_Sum.r1 (fr : Fr) (t : Nat) (K : Int → Int → Int → Int → Int → Int → Int → Int → Prop) : Prop :=
  match fr.getD t none with
  | some (.agg ⟨[(.int .u32 x0), (.int .u32 x1), (.int .u32 x2), (.int .u32 x3), (.int .u32 x4), (.int .u32 x5), (.int .u32 x6), (.int .u32 x7)]⟩) => K x0 x1 x2 x3 x4 x5 x6 x7
  | _ => False
theorem sha_Hash_Sum.r1_elim {fr : Fr} {t : Nat} {K : Int → Int → Int → Int → Int → Int → Int → Int → Prop} (h : sha_Hash_Sum.r1 fr t K) : ∃ x0 x1 x2 x3 x4 x5 x6 x7, fr.getD t none = some (.agg #[(.int .u32 x0), (.int .u32 x1), (.int .u32 x2), (.int .u32 x3), (.int .u32 x4), (.int .u32 x5), (.int .u32 x6), (.int .u32 x7)]) ∧ K x0 x1 x2 x3 x4 x5 x6 x7 := by
  unfold sha_Hash_Sum.r1 at h
  split at h
  · rename_i e; exact ⟨_, _, _, _, _, _, _, _, e, h⟩
  · exact h.elim
def sha_Hash_Sum.W3.t : CT := fun Q E fr H => lenIs 75 fr (slP fr 0 fun h0 => slPA fr 3 fun x0 => slSl fr 4 fun b0 b1 b2 => sha_Hash_Sum.W3 h0 x0 b0 b1 b2 (fun y4_0 y4_1 y4_2 H => Q (.exit 0) (mkF 75 [(0, (.pointer h0)), (3, (.pointer (some x0))), (4, (.slice y4_0 y4_1 y4_2))]) H) E H)
noncomputable def sha_Hash_Sum.W3.plan : Plan := .go
theorem sha_Hash_Sum.W3.pok : PlanOk Tryd.prog sha_Hash_Sum.W3.plan (sub [1, 1, 1, 1, 0, 0, 0] sha_Hash_Sum.body) := by
  have e : PlanOk Tryd.prog sha_Hash_Sum.W3.plan (sub [1, 1, 1, 1, 0, 0, 0] sha_Hash_Sum.body) = (True) := by kernel_rfl
  exact e.mpr trivial
theorem sha_Hash_Sum.W3.eq (h0 : Option Addr) (x0 : Addr) (Q : Ex → Fr → Heap → Prop) (E : Value → Heap → Prop) (RR : Fr → Heap → Prop) (s : Option Addr × Nat × Nat) (H : Heap) :
    (fun (RR : Option Addr × Nat × Nat → Heap → Prop) (s : Option Addr × Nat × Nat) (H : Heap) => sha_Hash_Sum.W3.vc h0 x0 s.1 s.2.1 s.2.2 (fun y4_0 y4_1 y4_2 H => Q (.exit 0) (mkF 75 [(0, (.pointer h0)), (3, (.pointer (some x0))), (4, (.slice y4_0 y4_1 y4_2))]) H) (fun b0 b1 b2 H => RR (b0, b1, b2) H) E H) (fun s' H' => RR ((fun (s : Option Addr × Nat × Nat) => (mkF 75 [(0, (.pointer h0)), (3, (.pointer (some x0))), (4, (.slice s.1 s.2.1 s.2.2))])) s') H') s H = keepT [0, 3, 4] [] (fun i => if i = 0 then [0, 3, 4] else []) (wC Tryd.prog sha_Hash_Sum.Γ sha_Hash_Sum.W3.plan (sub [1, 1, 1, 1, 0, 0, 0] sha_Hash_Sum.body)) (fun e fr' H' => match e with | .normal => RR fr' H' | .exit id => Q (.exit id) fr' H' | .ret => Q .ret fr' H') E ((fun (s : Option Addr × Nat × Nat) => (mkF 75 [(0, (.pointer h0)), (3, (.pointer (some x0))), (4, (.slice s.1 s.2.1 s.2.2))])) s) H := by
  kernel_rfl
theorem sha_Hash_Sum.W3.ok : SoundCode Tryd.prog (sub [1, 1, 1, 1, 0, 0] sha_Hash_Sum.body) sha_Hash_Sum.W3.t := by
  have e : (sub [1, 1, 1, 1, 0, 0] sha_Hash_Sum.body) = .loop (sub [1, 1, 1, 1, 0, 0, 0] sha_Hash_Sum.body) := by kernel_rfl
  rw [e]
  refine piece_sound (loopN_sound (keepT_sound [0, 3, 4] [] (fun i => if i = 0 then [0, 3, 4] else []) (wC_sound sha_Hash_Sum.hΓ Tryd.hm sha_Hash_Sum.W3.plan _ sha_Hash_Sum.W3.pok))) ?_
  intro Q E fr H h
  unfold sha_Hash_Sum.W3.t at h
  obtain ⟨hl, h⟩ := lenIs_elim h
  obtain ⟨h0, q0, h⟩ := slP_elim h
  obtain ⟨x0, q3, h⟩ := slPA_elim h
  obtain ⟨b0, b1, b2, q4, h⟩ := slSl_elim h
  obtain ⟨m, h⟩ := h.h
  refine ⟨(mkF 75 [(0, (.pointer h0)), (3, (.pointer (some x0))), (4, (.slice b0 b1 b2))]), fun a ha => ha.mk (Nat.le_of_eq hl.symm) (List.forall_mem_cons.2 ⟨q0, List.forall_mem_cons.2 ⟨q3, List.forall_mem_cons.2 ⟨q4, fun _ h => nomatch h⟩⟩⟩), m, ?_⟩
  have e := loopS_eq (B := (fun (RR : Option Addr × Nat × Nat → Heap → Prop) (s : Option Addr × Nat × Nat) (H : Heap) => sha_Hash_Sum.W3.vc h0 x0 s.1 s.2.1 s.2.2 (fun y4_0 y4_1 y4_2 H => Q (.exit 0) (mkF 75 [(0, (.pointer h0)), (3, (.pointer (some x0))), (4, (.slice y4_0 y4_1 y4_2))]) H) (fun b0 b1 b2 H => RR (b0, b1, b2) H) E H)) (A := keepT [0, 3, 4] [] (fun i => if i = 0 then [0, 3, 4] else []) (wC Tryd.prog sha_Hash_Sum.Γ sha_Hash_Sum.W3.plan (sub [1, 1, 1, 1, 0, 0, 0] sha_Hash_Sum.body))) (m := (fun (s : Option Addr × Nat × Nat) => (mkF 75 [(0, (.pointer h0)), (3, (.pointer (some x0))), (4, (.slice s.1 s.2.1 s.2.2))]))) (Q := Q) (E := E) (fun RR s H => sha_Hash_Sum.W3.eq h0 x0 Q E RR s H) m (b0, b1, b2) H
  exact cast e h
def sha_Hash_Sum.J5.t : CT := fun Q E fr H => lenIs 75 fr (slP fr 0 fun h0 => slPA fr 3 fun x0 => slSl fr 4 fun b0 b1 b2 => slI fr 29 .i64 fun x1 => sha_Hash_Sum.J5 h0 x0 b0 b1 b2 x1 (fun y29_0 H => Q .normal (mkF 75 [(0, (.pointer h0)), (3, (.pointer (some x0))), (4, (.slice b0 b1 b2)), (29, (.int .i64 y29_0))]) H) E H)
noncomputable def sha_Hash_Sum.J5.plan : Plan := .go
theorem sha_Hash_Sum.J5.pok : PlanOk Tryd.prog sha_Hash_Sum.J5.plan (sub [1, 1, 1, 1, 1, 0, 1, 0, 0, 1, 1, 1] sha_Hash_Sum.body) := by
  have e : PlanOk Tryd.prog sha_Hash_Sum.J5.plan (sub [1, 1, 1, 1, 1, 0, 1, 0, 0, 1, 1, 1] sha_Hash_Sum.body) = (True) := by kernel_rfl
  exact e.mpr trivial
theorem sha_Hash_Sum.J5.eq (h0 : Option Addr) (x0 : Addr) (b0 : Option Addr) (b1 : Nat) (b2 : Nat) (x1 : Int) (Q : Ex → Fr → Heap → Prop) (E : Value → Heap → Prop) (H : Heap) :
    sha_Hash_Sum.J5.vc h0 x0 b0 b1 b2 x1 (fun y29_0 H => Q .normal (mkF 75 [(0, (.pointer h0)), (3, (.pointer (some x0))), (4, (.slice b0 b1 b2)), (29, (.int .i64 y29_0))]) H) E H = keepT [0, 3, 4, 29] [] (fun i => []) (wC Tryd.prog sha_Hash_Sum.Γ sha_Hash_Sum.J5.plan (sub [1, 1, 1, 1, 1, 0, 1, 0, 0, 1, 1, 1] sha_Hash_Sum.body)) Q E (mkF 75 [(0, (.pointer h0)), (3, (.pointer (some x0))), (4, (.slice b0 b1 b2)), (29, (.int .i64 x1))]) H := by
  kernel_rfl
theorem sha_Hash_Sum.J5.ok : SoundCode Tryd.prog (sub [1, 1, 1, 1, 1, 0, 1, 0, 0, 1, 1, 1] sha_Hash_Sum.body) sha_Hash_Sum.J5.t := by
  refine piece_sound (keepT_sound [0, 3, 4, 29] [] (fun i => []) (wC_sound sha_Hash_Sum.hΓ Tryd.hm sha_Hash_Sum.J5.plan _ sha_Hash_Sum.J5.pok)) ?_
  intro Q E fr H h
  unfold sha_Hash_Sum.J5.t at h
  obtain ⟨hl, h⟩ := lenIs_elim h
  obtain ⟨h0, q0, h⟩ := slP_elim h
  obtain ⟨x0, q3, h⟩ := slPA_elim h
  obtain ⟨b0, b1, b2, q4, h⟩ := slSl_elim h
  obtain ⟨x1, q29, h⟩ := slI_elim h
  refine ⟨(mkF 75 [(0, (.pointer h0)), (3, (.pointer (some x0))), (4, (.slice b0 b1 b2)), (29, (.int .i64 x1))]), fun a ha => ha.mk (Nat.le_of_eq hl.symm) (List.forall_mem_cons.2 ⟨q0, List.forall_mem_cons.2 ⟨q3, List.forall_mem_cons.2 ⟨q4, List.forall_mem_cons.2 ⟨q29, fun _ h => nomatch h⟩⟩⟩⟩), ?_⟩
  have e := sha_Hash_Sum.J5.eq h0 x0 b0 b1 b2 x1 Q E H
  rw [← e]
  exact h.h
def sha_Hash_Sum.W4.t : CT := fun Q E fr H => lenIs 75 fr (slP fr 0 fun h0 => slPA fr 3 fun x0 => slSl fr 4 fun b0 b1 b2 => slI fr 29 .i64 fun x1 => sha_Hash_Sum.W4 h0 x0 b0 b1 b2 x1 (fun y4_0 y4_1 y4_2 H => Q (.exit 2) (mkF 75 [(3, (.pointer (some x0))), (4, (.slice y4_0 y4_1 y4_2))]) H) E H)
noncomputable def sha_Hash_Sum.W4.plan : Plan := .seq (.go) (.seq (.go) (.seq (.go) (.use sha_Hash_Sum.J5.t)))
theorem sha_Hash_Sum.W4.pok : PlanOk Tryd.prog sha_Hash_Sum.W4.plan (sub [1, 1, 1, 1, 1, 0, 1, 0, 0] sha_Hash_Sum.body) := by
  have e : PlanOk Tryd.prog sha_Hash_Sum.W4.plan (sub [1, 1, 1, 1, 1, 0, 1, 0, 0] sha_Hash_Sum.body) = ((True) ∧ ((True) ∧ ((True) ∧ (SoundCode Tryd.prog (sub [1, 1, 1, 1, 1, 0, 1, 0, 0, 1, 1, 1] sha_Hash_Sum.body) sha_Hash_Sum.J5.t)))) := by kernel_rfl
  exact e.mpr ⟨trivial, ⟨trivial, ⟨trivial, sha_Hash_Sum.J5.ok⟩⟩⟩
theorem sha_Hash_Sum.W4.eq (h0 : Option Addr) (x0 : Addr) (Q : Ex → Fr → Heap → Prop) (E : Value → Heap → Prop) (RR : Fr → Heap → Prop) (s : Option Addr × Nat × Nat × Int) (H : Heap) :
    (fun (RR : Option Addr × Nat × Nat × Int → Heap → Prop) (s : Option Addr × Nat × Nat × Int) (H : Heap) => sha_Hash_Sum.W4.vc h0 x0 s.1 s.2.1 s.2.2.1 s.2.2.2 (fun y4_0 y4_1 y4_2 H => Q (.exit 2) (mkF 75 [(3, (.pointer (some x0))), (4, (.slice y4_0 y4_1 y4_2))]) H) (fun b0 b1 b2 x1 H => RR (b0, b1, b2, x1) H) E H) (fun s' H' => RR ((fun (s : Option Addr × Nat × Nat × Int) => (mkF 75 [(0, (.pointer h0)), (3, (.pointer (some x0))), (4, (.slice s.1 s.2.1 s.2.2.1)), (29, (.int .i64 s.2.2.2))])) s') H') s H = keepT [0, 3, 4, 29] [] (fun i => if i = 2 then [3, 4] else []) (wC Tryd.prog sha_Hash_Sum.Γ sha_Hash_Sum.W4.plan (sub [1, 1, 1, 1, 1, 0, 1, 0, 0] sha_Hash_Sum.body)) (fun e fr' H' => match e with | .normal => RR fr' H' | .exit id => Q (.exit id) fr' H' | .ret => Q .ret fr' H') E ((fun (s : Option Addr × Nat × Nat × Int) => (mkF 75 [(0, (.pointer h0)), (3, (.pointer (some x0))), (4, (.slice s.1 s.2.1 s.2.2.1)), (29, (.int .i64 s.2.2.2))])) s) H := by
  kernel_rfl
theorem sha_Hash_Sum.W4.ok : SoundCode Tryd.prog (sub [1, 1, 1, 1, 1, 0, 1, 0] sha_Hash_Sum.body) sha_Hash_Sum.W4.t := by
  have e : (sub [1, 1, 1, 1, 1, 0, 1, 0] sha_Hash_Sum.body) = .loop (sub [1, 1, 1, 1, 1, 0, 1, 0, 0] sha_Hash_Sum.body) := by kernel_rfl
  rw [e]
  refine piece_sound (loopN_sound (keepT_sound [0, 3, 4, 29] [] (fun i => if i = 2 then [3, 4] else []) (wC_sound sha_Hash_Sum.hΓ Tryd.hm sha_Hash_Sum.W4.plan _ sha_Hash_Sum.W4.pok))) ?_
  intro Q E fr H h
  unfold sha_Hash_Sum.W4.t at h
  obtain ⟨hl, h⟩ := lenIs_elim h
  obtain ⟨h0, q0, h⟩ := slP_elim h
  obtain ⟨x0, q3, h⟩ := slPA_elim h
  obtain ⟨b0, b1, b2, q4, h⟩ := slSl_elim h
  obtain ⟨x1, q29, h⟩ := slI_elim h
  obtain ⟨m, h⟩ := h.h
  refine ⟨(mkF 75 [(0, (.pointer h0)), (3, (.pointer (some x0))), (4, (.slice b0 b1 b2)), (29, (.int .i64 x1))]), fun a ha => ha.mk (Nat.le_of_eq hl.symm) (List.forall_mem_cons.2 ⟨q0, List.forall_mem_cons.2 ⟨q3, List.forall_mem_cons.2 ⟨q4, List.forall_mem_cons.2 ⟨q29, fun _ h => nomatch h⟩⟩⟩⟩), m, ?_⟩
  have e := loopS_eq (B := (fun (RR : Option Addr × Nat × Nat × Int → Heap → Prop) (s : Option Addr × Nat × Nat × Int) (H : Heap) => sha_Hash_Sum.W4.vc h0 x0 s.1 s.2.1 s.2.2.1 s.2.2.2 (fun y4_0 y4_1 y4_2 H => Q (.exit 2) (mkF 75 [(3, (.pointer (some x0))), (4, (.slice y4_0 y4_1 y4_2))]) H) (fun b0 b1 b2 x1 H => RR (b0, b1, b2, x1) H) E H)) (A := keepT [0, 3, 4, 29] [] (fun i => if i = 2 then [3, 4] else []) (wC Tryd.prog sha_Hash_Sum.Γ sha_Hash_Sum.W4.plan (sub [1, 1, 1, 1, 1, 0, 1, 0, 0] sha_Hash_Sum.body))) (m := (fun (s : Option Addr × Nat × Nat × Int) => (mkF 75 [(0, (.pointer h0)), (3, (.pointer (some x0))), (4, (.slice s.1 s.2.1 s.2.2.1)), (29, (.int .i64 s.2.2.2))]))) (Q := Q) (E := E) (fun RR s H => sha_Hash_Sum.W4.eq h0 x0 Q E RR s H) m (b0, b1, b2, x1) H
  exact cast e h
def sha_Hash_Sum.W6.t : CT := fun Q E fr H => lenIs 75 fr (slPA fr 3 fun x0 => slSl fr 4 fun b0 b1 b2 => sha_Hash_Sum.W6 x0 b0 b1 b2 (fun  H => Q (.exit 4) (mkF 75 [(3, (.pointer (some x0)))]) H) E H)
noncomputable def sha_Hash_Sum.W6.plan : Plan := .go
theorem sha_Hash_Sum.W6.pok : PlanOk Tryd.prog sha_Hash_Sum.W6.plan (sub [1, 1, 1, 1, 1, 1, 0, 0, 0] sha_Hash_Sum.body) := by
  have e : PlanOk Tryd.prog sha_Hash_Sum.W6.plan (sub [1, 1, 1, 1, 1, 1, 0, 0, 0] sha_Hash_Sum.body) = (True) := by kernel_rfl
  exact e.mpr trivial
theorem sha_Hash_Sum.W6.eq (x0 : Addr) (Q : Ex → Fr → Heap → Prop) (E : Value → Heap → Prop) (RR : Fr → Heap → Prop) (s : Option Addr × Nat × Nat) (H : Heap) :
    (fun (RR : Option Addr × Nat × Nat → Heap → Prop) (s : Option Addr × Nat × Nat) (H : Heap) => sha_Hash_Sum.W6.vc x0 s.1 s.2.1 s.2.2 (fun  H => Q (.exit 4) (mkF 75 [(3, (.pointer (some x0)))]) H) (fun b0 b1 b2 H => RR (b0, b1, b2) H) E H) (fun s' H' => RR ((fun (s : Option Addr × Nat × Nat) => (mkF 75 [(3, (.pointer (some x0))), (4, (.slice s.1 s.2.1 s.2.2))])) s') H') s H = keepT [3, 4] [] (fun i => if i = 4 then [3] else []) (wC Tryd.prog sha_Hash_Sum.Γ sha_Hash_Sum.W6.plan (sub [1, 1, 1, 1, 1, 1, 0, 0, 0] sha_Hash_Sum.body)) (fun e fr' H' => match e with | .normal => RR fr' H' | .exit id => Q (.exit id) fr' H' | .ret => Q .ret fr' H') E ((fun (s : Option Addr × Nat × Nat) => (mkF 75 [(3, (.pointer (some x0))), (4, (.slice s.1 s.2.1 s.2.2))])) s) H := by
  kernel_rfl
theorem sha_Hash_Sum.W6.ok : SoundCode Tryd.prog (sub [1, 1, 1, 1, 1, 1, 0, 0] sha_Hash_Sum.body) sha_Hash_Sum.W6.t := by
  have e : (sub [1, 1, 1, 1, 1, 1, 0, 0] sha_Hash_Sum.body) = .loop (sub [1, 1, 1, 1, 1, 1, 0, 0, 0] sha_Hash_Sum.body) := by kernel_rfl
  rw [e]
  refine piece_sound (loopN_sound (keepT_sound [3, 4] [] (fun i => if i = 4 then [3] else []) (wC_sound sha_Hash_Sum.hΓ Tryd.hm sha_Hash_Sum.W6.plan _ sha_Hash_Sum.W6.pok))) ?_
  intro Q E fr H h
  unfold sha_Hash_Sum.W6.t at h
  obtain ⟨hl, h⟩ := lenIs_elim h
  obtain ⟨x0, q3, h⟩ := slPA_elim h
  obtain ⟨b0, b1, b2, q4, h⟩ := slSl_elim h
  obtain ⟨m, h⟩ := h.h
  refine ⟨(mkF 75 [(3, (.pointer (some x0))), (4, (.slice b0 b1 b2))]), fun a ha => ha.mk (Nat.le_of_eq hl.symm) (List.forall_mem_cons.2 ⟨q3, List.forall_mem_cons.2 ⟨q4, fun _ h => nomatch h⟩⟩), m, ?_⟩
  have e := loopS_eq (B := (fun (RR : Option Addr × Nat × Nat → Heap → Prop) (s : Option Addr × Nat × Nat) (H : Heap) => sha_Hash_Sum.W6.vc x0 s.1 s.2.1 s.2.2 (fun  H => Q (.exit 4) (mkF 75 [(3, (.pointer (some x0)))]) H) (fun b0 b1 b2 H => RR (b0, b1, b2) H) E H)) (A := keepT [3, 4] [] (fun i => if i = 4 then [3] else []) (wC Tryd.prog sha_Hash_Sum.Γ sha_Hash_Sum.W6.plan (sub [1, 1, 1, 1, 1, 1, 0, 0, 0] sha_Hash_Sum.body))) (m := (fun (s : Option Addr × Nat × Nat) => (mkF 75 [(3, (.pointer (some x0))), (4, (.slice s.1 s.2.1 s.2.2))]))) (Q := Q) (E := E) (fun RR s H => sha_Hash_Sum.W6.eq x0 Q E RR s H) m (b0, b1, b2) H
  exact cast e h
def sha_Hash_Sum.J8.t : CT := fun Q E fr H => lenIs 75 fr (slSl fr 6 fun out0 out1 out2 => sha_Hash_Sum.r1 fr 54 fun x0 x1 x2 x3 x4 x5 x6 x7 => slI fr 55 .i64 fun x8 => sha_Hash_Sum.J8 out0 out1 out2 x0 x1 x2 x3 x4 x5 x6 x7 x8 (fun y55_0 H => Q .normal (mkF 75 [(6, (.slice out0 out1 out2)), (54, (.agg #[(.int .u32 x0), (.int .u32 x1), (.int .u32 x2), (.int .u32 x3), (.int .u32 x4), (.int .u32 x5), (.int .u32 x6), (.int .u32 x7)])), (55, (.int .i64 y55_0))]) H) E H)
noncomputable def sha_Hash_Sum.J8.plan : Plan := .go
theorem sha_Hash_Sum.J8.pok : PlanOk Tryd.prog sha_Hash_Sum.J8.plan (sub [1, 1, 1, 1, 1, 1, 1, 1, 0, 1, 0, 0, 1, 1, 1] sha_Hash_Sum.body) := by
  have e : PlanOk Tryd.prog sha_Hash_Sum.J8.plan (sub [1, 1, 1, 1, 1, 1, 1, 1, 0, 1, 0, 0, 1, 1, 1] sha_Hash_Sum.body) = (True) := by kernel_rfl
  exact e.mpr trivial
theorem sha_Hash_Sum.J8.eq (out0 : Option Addr) (out1 : Nat) (out2 : Nat) (x0 : Int) (x1 : Int) (x2 : Int) (x3 : Int) (x4 : Int) (x5 : Int) (x6 : Int) (x7 : Int) (x8 : Int) (Q : Ex → Fr → Heap → Prop) (E : Value → Heap → Prop) (H : Heap) :
    sha_Hash_Sum.J8.vc out0 out1 out2 x0 x1 x2 x3 x4 x5 x6 x7 x8 (fun y55_0 H => Q .normal (mkF 75 [(6, (.slice out0 out1 out2)), (54, (.agg #[(.int .u32 x0), (.int .u32 x1), (.int .u32 x2), (.int .u32 x3), (.int .u32 x4), (.int .u32 x5), (.int .u32 x6), (.int .u32 x7)])), (55, (.int .i64 y55_0))]) H) E H = keepT [6, 54, 55] [] (fun i => []) (wC Tryd.prog sha_Hash_Sum.Γ sha_Hash_Sum.J8.plan (sub [1, 1, 1, 1, 1, 1, 1, 1, 0, 1, 0, 0, 1, 1, 1] sha_Hash_Sum.body)) Q E (mkF 75 [(6, (.slice out0 out1 out2)), (54, (.agg #[(.int .u32 x0), (.int .u32 x1), (.int .u32 x2), (.int .u32 x3), (.int .u32 x4), (.int .u32 x5), (.int .u32 x6), (.int .u32 x7)])), (55, (.int .i64 x8))]) H := by
  kernel_rfl
theorem sha_Hash_Sum.J8.ok : SoundCode Tryd.prog (sub [1, 1, 1, 1, 1, 1, 1, 1, 0, 1, 0, 0, 1, 1, 1] sha_Hash_Sum.body) sha_Hash_Sum.J8.t := by
  refine piece_sound (keepT_sound [6, 54, 55] [] (fun i => []) (wC_sound sha_Hash_Sum.hΓ Tryd.hm sha_Hash_Sum.J8.plan _ sha_Hash_Sum.J8.pok)) ?_
  intro Q E fr H h
  unfold sha_Hash_Sum.J8.t at h
  obtain ⟨hl, h⟩ := lenIs_elim h
  obtain ⟨out0, out1, out2, q6, h⟩ := slSl_elim h
  obtain ⟨x0, x1, x2, x3, x4, x5, x6, x7, q54, h⟩ := sha_Hash_Sum.r1_elim h
  obtain ⟨x8, q55, h⟩ := slI_elim h
  refine ⟨(mkF 75 [(6, (.slice out0 out1 out2)), (54, (.agg #[(.int .u32 x0), (.int .u32 x1), (.int .u32 x2), (.int .u32 x3), (.int .u32 x4), (.int .u32 x5), (.int .u32 x6), (.int .u32 x7)])), (55, (.int .i64 x8))]), fun a ha => ha.mk (Nat.le_of_eq hl.symm) (List.forall_mem_cons.2 ⟨q6, List.forall_mem_cons.2 ⟨q54, List.forall_mem_cons.2 ⟨q55, fun _ h => nomatch h⟩⟩⟩), ?_⟩
  have e := sha_Hash_Sum.J8.eq out0 out1 out2 x0 x1 x2 x3 x4 x5 x6 x7 x8 Q E H
  rw [← e]
  exact h.h
def sha_Hash_Sum.W7.t : CT := fun Q E fr H => lenIs 75 fr (slSl fr 6 fun out0 out1 out2 => sha_Hash_Sum.r1 fr 54 fun x0 x1 x2 x3 x4 x5 x6 x7 => slI fr 55 .i64 fun x8 => sha_Hash_Sum.W7 out0 out1 out2 x0 x1 x2 x3 x4 x5 x6 x7 x8 (fun y6_0 y6_1 y6_2 H => Q (.exit 6) (mkF 75 [(6, (.slice y6_0 y6_1 y6_2))]) H) E H)
noncomputable def sha_Hash_Sum.W7.plan : Plan := .seq (.go) (.seq (.go) (.seq (.go) (.use sha_Hash_Sum.J8.t)))
theorem sha_Hash_Sum.W7.pok : PlanOk Tryd.prog sha_Hash_Sum.W7.plan (sub [1, 1, 1, 1, 1, 1, 1, 1, 0, 1, 0, 0] sha_Hash_Sum.body) := by
  have e : PlanOk Tryd.prog sha_Hash_Sum.W7.plan (sub [1, 1, 1, 1, 1, 1, 1, 1, 0, 1, 0, 0] sha_Hash_Sum.body) = ((True) ∧ ((True) ∧ ((True) ∧ (SoundCode Tryd.prog (sub [1, 1, 1, 1, 1, 1, 1, 1, 0, 1, 0, 0, 1, 1, 1] sha_Hash_Sum.body) sha_Hash_Sum.J8.t)))) := by kernel_rfl
  exact e.mpr ⟨trivial, ⟨trivial, ⟨trivial, sha_Hash_Sum.J8.ok⟩⟩⟩
theorem sha_Hash_Sum.W7.eq (x0 : Int) (x1 : Int) (x2 : Int) (x3 : Int) (x4 : Int) (x5 : Int) (x6 : Int) (x7 : Int) (Q : Ex → Fr → Heap → Prop) (E : Value → Heap → Prop) (RR : Fr → Heap → Prop) (s : Option Addr × Nat × Nat × Int) (H : Heap) :
    (fun (RR : Option Addr × Nat × Nat × Int → Heap → Prop) (s : Option Addr × Nat × Nat × Int) (H : Heap) => sha_Hash_Sum.W7.vc s.1 s.2.1 s.2.2.1 x0 x1 x2 x3 x4 x5 x6 x7 s.2.2.2 (fun y6_0 y6_1 y6_2 H => Q (.exit 6) (mkF 75 [(6, (.slice y6_0 y6_1 y6_2))]) H) (fun out0 out1 out2 x8 H => RR (out0, out1, out2, x8) H) E H) (fun s' H' => RR ((fun (s : Option Addr × Nat × Nat × Int) => (mkF 75 [(6, (.slice s.1 s.2.1 s.2.2.1)), (54, (.agg #[(.int .u32 x0), (.int .u32 x1), (.int .u32 x2), (.int .u32 x3), (.int .u32 x4), (.int .u32 x5), (.int .u32 x6), (.int .u32 x7)])), (55, (.int .i64 s.2.2.2))])) s') H') s H = keepT [6, 54, 55] [] (fun i => if i = 6 then [6] else []) (wC Tryd.prog sha_Hash_Sum.Γ sha_Hash_Sum.W7.plan (sub [1, 1, 1, 1, 1, 1, 1, 1, 0, 1, 0, 0] sha_Hash_Sum.body)) (fun e fr' H' => match e with | .normal => RR fr' H' | .exit id => Q (.exit id) fr' H' | .ret => Q .ret fr' H') E ((fun (s : Option Addr × Nat × Nat × Int) => (mkF 75 [(6, (.slice s.1 s.2.1 s.2.2.1)), (54, (.agg #[(.int .u32 x0), (.int .u32 x1), (.int .u32 x2), (.int .u32 x3), (.int .u32 x4), (.int .u32 x5), (.int .u32 x6), (.int .u32 x7)])), (55, (.int .i64 s.2.2.2))])) s) H := by
  kernel_rfl
theorem sha_Hash_Sum.W7.ok : SoundCode Tryd.prog (sub [1, 1, 1, 1, 1, 1, 1, 1, 0, 1, 0] sha_Hash_Sum.body) sha_Hash_Sum.W7.t := by
  have e : (sub [1, 1, 1, 1, 1, 1, 1, 1, 0, 1, 0] sha_Hash_Sum.body) = .loop (sub [1, 1, 1, 1, 1, 1, 1, 1, 0, 1, 0, 0] sha_Hash_Sum.body) := by kernel_rfl
  rw [e]
  refine piece_sound (loopN_sound (keepT_sound [6, 54, 55] [] (fun i => if i = 6 then [6] else []) (wC_sound sha_Hash_Sum.hΓ Tryd.hm sha_Hash_Sum.W7.plan _ sha_Hash_Sum.W7.pok))) ?_
  intro Q E fr H h
  unfold sha_Hash_Sum.W7.t at h
  obtain ⟨hl, h⟩ := lenIs_elim h
  obtain ⟨out0, out1, out2, q6, h⟩ := slSl_elim h
  obtain ⟨x0, x1, x2, x3, x4, x5, x6, x7, q54, h⟩ := sha_Hash_Sum.r1_elim h
  obtain ⟨x8, q55, h⟩ := slI_elim h
  obtain ⟨m, h⟩ := h.h
  refine ⟨(mkF 75 [(6, (.slice out0 out1 out2)), (54, (.agg #[(.int .u32 x0), (.int .u32 x1), (.int .u32 x2), (.int .u32 x3), (.int .u32 x4), (.int .u32 x5), (.int .u32 x6), (.int .u32 x7)])), (55, (.int .i64 x8))]), fun a ha => ha.mk (Nat.le_of_eq hl.symm) (List.forall_mem_cons.2 ⟨q6, List.forall_mem_cons.2 ⟨q54, List.forall_mem_cons.2 ⟨q55, fun _ h => nomatch h⟩⟩⟩), m, ?_⟩
  have e := loopS_eq (B := (fun (RR : Option Addr × Nat × Nat × Int → Heap → Prop) (s : Option Addr × Nat × Nat × Int) (H : Heap) => sha_Hash_Sum.W7.vc s.1 s.2.1 s.2.2.1 x0 x1 x2 x3 x4 x5 x6 x7 s.2.2.2 (fun y6_0 y6_1 y6_2 H => Q (.exit 6) (mkF 75 [(6, (.slice y6_0 y6_1 y6_2))]) H) (fun out0 out1 out2 x8 H => RR (out0, out1, out2, x8) H) E H)) (A := keepT [6, 54, 55] [] (fun i => if i = 6 then [6] else []) (wC Tryd.prog sha_Hash_Sum.Γ sha_Hash_Sum.W7.plan (sub [1, 1, 1, 1, 1, 1, 1, 1, 0, 1, 0, 0] sha_Hash_Sum.body))) (m := (fun (s : Option Addr × Nat × Nat × Int) => (mkF 75 [(6, (.slice s.1 s.2.1 s.2.2.1)), (54, (.agg #[(.int .u32 x0), (.int .u32 x1), (.int .u32 x2), (.int .u32 x3), (.int .u32 x4), (.int .u32 x5), (.int .u32 x6), (.int .u32 x7)])), (55, (.int .i64 s.2.2.2))]))) (Q := Q) (E := E) (fun RR s H => sha_Hash_Sum.W7.eq x0 x1 x2 x3 x4 x5 x6 x7 Q E RR s H) m (out0, out1, out2, x8) H
  exact cast e h
def sha_Hash_Sum.J2.t : CT := fun Q E fr H => lenIs 75 fr (slP fr 0 fun h0 => slPA fr 3 fun x0 => slSl fr 4 fun b0 b1 b2 => sha_Hash_Sum.J2 h0 x0 b0 b1 b2 (fun y2_0 H => Q .ret (mkF 75 [(2, (.string y2_0))]) H) E H)
noncomputable def sha_Hash_Sum.J2.plan : Plan := .seq (.block (.use sha_Hash_Sum.W3.t)) (.seq (.seq (.go) (.block (.use sha_Hash_Sum.W4.t))) (.seq (.block (.use sha_Hash_Sum.W6.t)) (.seq (.go) (.seq (.seq (.go) (.block (.use sha_Hash_Sum.W7.t))) (.go)))))
theorem sha_Hash_Sum.J2.pok : PlanOk Tryd.prog sha_Hash_Sum.J2.plan (sub [1, 1, 1, 1] sha_Hash_Sum.body) := by
  have e : PlanOk Tryd.prog sha_Hash_Sum.J2.plan (sub [1, 1, 1, 1] sha_Hash_Sum.body) = ((SoundCode Tryd.prog (sub [1, 1, 1, 1, 0, 0] sha_Hash_Sum.body) sha_Hash_Sum.W3.t) ∧ (((True) ∧ (SoundCode Tryd.prog (sub [1, 1, 1, 1, 1, 0, 1, 0] sha_Hash_Sum.body) sha_Hash_Sum.W4.t)) ∧ ((SoundCode Tryd.prog (sub [1, 1, 1, 1, 1, 1, 0, 0] sha_Hash_Sum.body) sha_Hash_Sum.W6.t) ∧ ((True) ∧ (((True) ∧ (SoundCode Tryd.prog (sub [1, 1, 1, 1, 1, 1, 1, 1, 0, 1, 0] sha_Hash_Sum.body) sha_Hash_Sum.W7.t)) ∧ (True)))))) := by kernel_rfl
  exact e.mpr ⟨sha_Hash_Sum.W3.ok, ⟨⟨trivial, sha_Hash_Sum.W4.ok⟩, ⟨sha_Hash_Sum.W6.ok, ⟨trivial, ⟨⟨trivial, sha_Hash_Sum.W7.ok⟩, trivial⟩⟩⟩⟩⟩
theorem sha_Hash_Sum.J2.eq (h0 : Option Addr) (x0 : Addr) (b0 : Option Addr) (b1 : Nat) (b2 : Nat) (Q : Ex → Fr → Heap → Prop) (E : Value → Heap → Prop) (H : Heap) :
    sha_Hash_Sum.J2.vc h0 x0 b0 b1 b2 (fun y2_0 H => Q .ret (mkF 75 [(2, (.string y2_0))]) H) E H = keepT [] [2] (fun i => []) (wC Tryd.prog sha_Hash_Sum.Γ sha_Hash_Sum.J2.plan (sub [1, 1, 1, 1] sha_Hash_Sum.body)) Q E (mkF 75 [(0, (.pointer h0)), (3, (.pointer (some x0))), (4, (.slice b0 b1 b2))]) H := by
  kernel_rfl
theorem sha_Hash_Sum.J2.ok : SoundCode Tryd.prog (sub [1, 1, 1, 1] sha_Hash_Sum.body) sha_Hash_Sum.J2.t := by
  refine piece_sound (keepT_sound [] [2] (fun i => []) (wC_sound sha_Hash_Sum.hΓ Tryd.hm sha_Hash_Sum.J2.plan _ sha_Hash_Sum.J2.pok)) ?_
  intro Q E fr H h
  unfold sha_Hash_Sum.J2.t at h
  obtain ⟨hl, h⟩ := lenIs_elim h
  obtain ⟨h0, q0, h⟩ := slP_elim h
  obtain ⟨x0, q3, h⟩ := slPA_elim h
  obtain ⟨b0, b1, b2, q4, h⟩ := slSl_elim h
  refine ⟨(mkF 75 [(0, (.pointer h0)), (3, (.pointer (some x0))), (4, (.slice b0 b1 b2))]), fun a ha => ha.mk (Nat.le_of_eq hl.symm) (List.forall_mem_cons.2 ⟨q0, List.forall_mem_cons.2 ⟨q3, List.forall_mem_cons.2 ⟨q4, fun _ h => nomatch h⟩⟩⟩), ?_⟩
  have e := sha_Hash_Sum.J2.eq h0 x0 b0 b1 b2 Q E H
  rw [← e]
  exact h.h
def sha_Hash_Sum.J1.t : CT := fun Q E fr H => lenIs 75 fr (slP fr 0 fun h0 => slPA fr 3 fun x0 => slSl fr 4 fun b0 b1 b2 => sha_Hash_Sum.J1 h0 x0 b0 b1 b2 (fun y2_0 H => Q .ret (mkF 75 [(2, (.string y2_0))]) H) E H)
noncomputable def sha_Hash_Sum.J1.plan : Plan := .seq (.go) (.use sha_Hash_Sum.J2.t)
theorem sha_Hash_Sum.J1.pok : PlanOk Tryd.prog sha_Hash_Sum.J1.plan (sub [1, 1, 1] sha_Hash_Sum.body) := by
  have e : PlanOk Tryd.prog sha_Hash_Sum.J1.plan (sub [1, 1, 1] sha_Hash_Sum.body) = ((True) ∧ (SoundCode Tryd.prog (sub [1, 1, 1, 1] sha_Hash_Sum.body) sha_Hash_Sum.J2.t)) := by kernel_rfl
  exact e.mpr ⟨trivial, sha_Hash_Sum.J2.ok⟩
theorem sha_Hash_Sum.J1.eq (h0 : Option Addr) (x0 : Addr) (b0 : Option Addr) (b1 : Nat) (b2 : Nat) (Q : Ex → Fr → Heap → Prop) (E : Value → Heap → Prop) (H : Heap) :
    sha_Hash_Sum.J1.vc h0 x0 b0 b1 b2 (fun y2_0 H => Q .ret (mkF 75 [(2, (.string y2_0))]) H) E H = keepT [] [2] (fun i => []) (wC Tryd.prog sha_Hash_Sum.Γ sha_Hash_Sum.J1.plan (sub [1, 1, 1] sha_Hash_Sum.body)) Q E (mkF 75 [(0, (.pointer h0)), (3, (.pointer (some x0))), (4, (.slice b0 b1 b2))]) H := by
  kernel_rfl
theorem sha_Hash_Sum.J1.ok : SoundCode Tryd.prog (sub [1, 1, 1] sha_Hash_Sum.body) sha_Hash_Sum.J1.t := by
  refine piece_sound (keepT_sound [] [2] (fun i => []) (wC_sound sha_Hash_Sum.hΓ Tryd.hm sha_Hash_Sum.J1.plan _ sha_Hash_Sum.J1.pok)) ?_
  intro Q E fr H h
  unfold sha_Hash_Sum.J1.t at h
  obtain ⟨hl, h⟩ := lenIs_elim h
  obtain ⟨h0, q0, h⟩ := slP_elim h
  obtain ⟨x0, q3, h⟩ := slPA_elim h
  obtain ⟨b0, b1, b2, q4, h⟩ := slSl_elim h
  refine ⟨(mkF 75 [(0, (.pointer h0)), (3, (.pointer (some x0))), (4, (.slice b0 b1 b2))]), fun a ha => ha.mk (Nat.le_of_eq hl.symm) (List.forall_mem_cons.2 ⟨q0, List.forall_mem_cons.2 ⟨q3, List.forall_mem_cons.2 ⟨q4, fun _ h => nomatch h⟩⟩⟩), ?_⟩
  have e := sha_Hash_Sum.J1.eq h0 x0 b0 b1 b2 Q E H
  rw [← e]
  exact h.h
noncomputable def sha_Hash_Sum.plan : Plan := .seq (.go) (.seq (.go) (.seq (.go) (.use sha_Hash_Sum.J1.t)))
theorem sha_Hash_Sum.pok : PlanOk Tryd.prog sha_Hash_Sum.plan sha_Hash_Sum.body := by
  have e : PlanOk Tryd.prog sha_Hash_Sum.plan sha_Hash_Sum.body = ((True) ∧ ((True) ∧ ((True) ∧ (SoundCode Tryd.prog (sub [1, 1, 1] sha_Hash_Sum.body) sha_Hash_Sum.J1.t)))) := by kernel_rfl
  exact e.mpr ⟨trivial, ⟨trivial, ⟨trivial, sha_Hash_Sum.J1.ok⟩⟩⟩
theorem sha_Hash_Sum.eq (h0 : Option Addr) (K : Value → Heap → Prop) (E : Value → Heap → Prop) (H : Heap) :
    fnT Tryd.prog Tryd.f15 (wC Tryd.prog sha_Hash_Sum.Γ sha_Hash_Sum.plan sha_Hash_Sum.body) [(.pointer h0)] K E H = sha_Hash_Sum.vc h0 (fun r0_0 H => K (.string r0_0) H) E H := by
  kernel_rfl
theorem sha_Hash_Sum.Fe {args : List Value} {K E : Value → Heap → Prop} {H : Heap} (h : sha_Hash_Sum.F args K E H) : ∃ h0, args = [(.pointer h0)] ∧ sha_Hash_Sum.c h0 (fun r0_0 H => K (.string r0_0) H) E H := by
  unfold sha_Hash_Sum.F at h
  split at h
  · exact ⟨_, rfl, h⟩
  · exact h.elim
theorem sha_Hash_Sum.ok : CalleeOk Tryd.prog 15 sha_Hash_Sum.F :=
  callee_ok sha_Hash_Sum.hΓ (fn := Tryd.f15) (c := sha_Hash_Sum.body) (T := wC Tryd.prog sha_Hash_Sum.Γ sha_Hash_Sum.plan sha_Hash_Sum.body) (by kernel_rfl) (by kernel_rfl) (by kernel_rfl) (wC_sound sha_Hash_Sum.hΓ Tryd.hm sha_Hash_Sum.plan _ sha_Hash_Sum.pok) fun _ K E H h => by
    obtain ⟨z0, e, h⟩ := sha_Hash_Sum.Fe h
    subst e
    have h2 : sha_Hash_Sum.vc z0 (fun r0_0 H => ∃ H', Heap.Le H' H ∧ K (.string r0_0) H') E H := h.h
    rw [sha_Hash_Sum.eq z0 (Fg K) E H]
    exact h2

/-! vizard/sha.Sum -/
noncomputable def sha_Sum.body : Code := Tryd.f16.body.getD .skip
def sha_Sum.vc (s0 : ByteArray) (K : ByteArray → Heap → Prop) (E : Value → Heap → Prop) (h0 : Heap) : Prop :=
  sha_New.c (fun x0 h1 =>
  sha_Hash_Write.c x0 s0 (fun h2 =>
  sha_Hash_Sum.c x0 K E h2) E h1) E h0
structure sha_Sum.c (s0 : ByteArray) (K : ByteArray → Heap → Prop) (E : Value → Heap → Prop) (H : Heap) : Prop where
  h : sha_Sum.vc s0 (fun r0_0 H => ∃ H', Heap.Le H' H ∧ K r0_0 H') E H
def sha_Sum.F : FT := fun args K E H => match args with
  | [(.string s0)] => sha_Sum.c s0 (fun r0_0 H => K (.string r0_0) H) E H
  | _ => False
noncomputable def sha_Sum.Γ : FuncId → Option FT := Γof [(13, sha_New.F), (14, sha_Hash_Write.F), (15, sha_Hash_Sum.F)]
theorem sha_Sum.hΓ : ∀ f F, sha_Sum.Γ f = some F → CalleeOk Tryd.prog f F := Γof_ok (List.forall_mem_cons.2 ⟨sha_New.ok, List.forall_mem_cons.2 ⟨sha_Hash_Write.ok, List.forall_mem_cons.2 ⟨sha_Hash_Sum.ok, fun _ h => nomatch h⟩⟩⟩)
noncomputable def sha_Sum.plan : Plan := .go
theorem sha_Sum.pok : PlanOk Tryd.prog sha_Sum.plan sha_Sum.body := by
  have e : PlanOk Tryd.prog sha_Sum.plan sha_Sum.body = (True) := by kernel_rfl
  exact e.mpr trivial
theorem sha_Sum.eq (s0 : ByteArray) (K : Value → Heap → Prop) (E : Value → Heap → Prop) (H : Heap) :
    fnT Tryd.prog Tryd.f16 (wC Tryd.prog sha_Sum.Γ sha_Sum.plan sha_Sum.body) [(.string s0)] K E H = sha_Sum.vc s0 (fun r0_0 H => K (.string r0_0) H) E H := by
  kernel_rfl
theorem sha_Sum.Fe {args : List Value} {K E : Value → Heap → Prop} {H : Heap} (h : sha_Sum.F args K E H) : ∃ s0, args = [(.string s0)] ∧ sha_Sum.c s0 (fun r0_0 H => K (.string r0_0) H) E H := by
  unfold sha_Sum.F at h
  split at h
  · exact ⟨_, rfl, h⟩
  · exact h.elim
theorem sha_Sum.ok : CalleeOk Tryd.prog 16 sha_Sum.F :=
  callee_ok sha_Sum.hΓ (fn := Tryd.f16) (c := sha_Sum.body) (T := wC Tryd.prog sha_Sum.Γ sha_Sum.plan sha_Sum.body) (by kernel_rfl) (by kernel_rfl) (by kernel_rfl) (wC_sound sha_Sum.hΓ Tryd.hm sha_Sum.plan _ sha_Sum.pok) fun _ K E H h => by
    obtain ⟨z0, e, h⟩ := sha_Sum.Fe h
    subst e
    have h2 : sha_Sum.vc z0 (fun r0_0 H => ∃ H', Heap.Le H' H ∧ K (.string r0_0) H') E H := h.h
    rw [sha_Sum.eq z0 (Fg K) E H]
    exact h2

/-! vizard/sha.pad -/
noncomputable def sha_pad.body : Code := Tryd.f36.body.getD .skip
def sha_pad.W1.vc (by0 : Int) (b0 : Option Addr) (b1 : Nat) (b2 : Nat) (x0 : Int) (x1 : Int) (Kx0 : Heap → Prop) (RR : Int → Heap → Prop) (E : Value → Heap → Prop) (h0 : Heap) : Prop :=
  (if (decide (x1 < x0)) = true then
  nilc b0 fun a0 => (0 : Int) ≤ x1 ∧ x1 < (b1 : Int) ∧
  ldI h0 .u8 (a0.add (x1.toNat * 1)) fun x2 =>
  nilc b0 fun a1 => (0 : Int) ≤ x1 ∧ x1 < (b1 : Int) ∧
  stc h0 (a1.add (x1.toNat * 1)) (.int .u8 (bits .xor .u8 x2 by0)) fun h1 =>
  RR (IntKind.i64.wrap (x1 + 1)) h1
  else
  Kx0 h0)
structure sha_pad.W1 (by0 : Int) (b0 : Option Addr) (b1 : Nat) (b2 : Nat) (x0 : Int) (x1 : Int) (Kx0 : Heap → Prop) (E : Value → Heap → Prop) (H : Heap) : Prop where
  h : Loop (fun (RR : Int → Heap → Prop) (s : Int) (H : Heap) => sha_pad.W1.vc by0 b0 b1 b2 x0 s Kx0 (fun x1 H => RR (x1) H) E H) (x1) H
def sha_pad.vc (key0 : ByteArray) (by0 : Int) (K : ByteArray → Heap → Prop) (E : Value → Heap → Prop) (h0 : Heap) : Prop :=
  strings_Repeat.c (⟨#[0]⟩ : ByteArray) (IntKind.i64.wrap (64 - (key0.size : Int))) (fun x0 h1 =>
  key0.size + x0.size ≤ 9223372036854775807 ∧
  ∀ j0, newB (.cells ((byteVals (key0 ++ x0)).toArray ++ Array.replicate j0 (.int .u8 0)) 5 ((key0 ++ x0).size + j0, (key0 ++ x0).size + j0 + 1)) (fun b0 h2 =>
  sha_pad.W1 by0 (some (⟨b0, 0, none⟩ : Addr)) (key0 ++ x0).size ((key0 ++ x0).size + j0) ((key0 ++ x0).size : Int) 0 (fun h3 =>
  rdBytes h3 (some (⟨b0, 0, none⟩ : Addr)) (key0 ++ x0).size fun x1 =>
  K x1 h3) E h2) h1) E h0
structure sha_pad.c (key0 : ByteArray) (by0 : Int) (K : ByteArray → Heap → Prop) (E : Value → Heap → Prop) (H : Heap) : Prop where
  h : sha_pad.vc key0 by0 (fun r0_0 H => ∃ H', Heap.Le H' H ∧ K r0_0 H') E H
def sha_pad.F : FT := fun args K E H => match args with
  | [(.string key0), (.int .u8 by0)] => sha_pad.c key0 by0 (fun r0_0 H => K (.string r0_0) H) E H
  | _ => False
noncomputable def sha_pad.Γ : FuncId → Option FT := Γof [(49, strings_Repeat.F)]
theorem sha_pad.hΓ : ∀ f F, sha_pad.Γ f = some F → CalleeOk Tryd.prog f F := Γof_ok (List.forall_mem_cons.2 ⟨strings_Repeat.ok, fun _ h => nomatch h⟩)
def sha_pad.W1.t : CT := fun Q E fr H => lenIs 29 fr (slI fr 1 .u8 fun by0 => slSl fr 5 fun b0 b1 b2 => slI fr 15 .i64 fun x0 => slI fr 16 .i64 fun x1 => sha_pad.W1 by0 b0 b1 b2 x0 x1 (fun  H => Q (.exit 0) (mkF 29 [(5, (.slice b0 b1 b2))]) H) E H)
noncomputable def sha_pad.W1.plan : Plan := .go
theorem sha_pad.W1.pok : PlanOk Tryd.prog sha_pad.W1.plan (sub [1, 1, 0, 1, 0, 0] sha_pad.body) := by
  have e : PlanOk Tryd.prog sha_pad.W1.plan (sub [1, 1, 0, 1, 0, 0] sha_pad.body) = (True) := by kernel_rfl
  exact e.mpr trivial
theorem sha_pad.W1.eq (by0 : Int) (b0 : Option Addr) (b1 : Nat) (b2 : Nat) (x0 : Int) (Q : Ex → Fr → Heap → Prop) (E : Value → Heap → Prop) (RR : Fr → Heap → Prop) (s : Int) (H : Heap) :
    (fun (RR : Int → Heap → Prop) (s : Int) (H : Heap) => sha_pad.W1.vc by0 b0 b1 b2 x0 s (fun  H => Q (.exit 0) (mkF 29 [(5, (.slice b0 b1 b2))]) H) (fun x1 H => RR (x1) H) E H) (fun s' H' => RR ((fun (s : Int) => (mkF 29 [(1, (.int .u8 by0)), (5, (.slice b0 b1 b2)), (15, (.int .i64 x0)), (16, (.int .i64 s))])) s') H') s H = keepT [1, 5, 15, 16] [] (fun i => if i = 0 then [5] else []) (wC Tryd.prog sha_pad.Γ sha_pad.W1.plan (sub [1, 1, 0, 1, 0, 0] sha_pad.body)) (fun e fr' H' => match e with | .normal => RR fr' H' | .exit id => Q (.exit id) fr' H' | .ret => Q .ret fr' H') E ((fun (s : Int) => (mkF 29 [(1, (.int .u8 by0)), (5, (.slice b0 b1 b2)), (15, (.int .i64 x0)), (16, (.int .i64 s))])) s) H := by
  kernel_rfl
theorem sha_pad.W1.ok : SoundCode Tryd.prog (sub [1, 1, 0, 1, 0] sha_pad.body) sha_pad.W1.t := by
  have e : (sub [1, 1, 0, 1, 0] sha_pad.body) = .loop (sub [1, 1, 0, 1, 0, 0] sha_pad.body) := by kernel_rfl
  rw [e]
  refine piece_sound (loopN_sound (keepT_sound [1, 5, 15, 16] [] (fun i => if i = 0 then [5] else []) (wC_sound sha_pad.hΓ Tryd.hm sha_pad.W1.plan _ sha_pad.W1.pok))) ?_
  intro Q E fr H h
  unfold sha_pad.W1.t at h
  obtain ⟨hl, h⟩ := lenIs_elim h
  obtain ⟨by0, q1, h⟩ := slI_elim h
  obtain ⟨b0, b1, b2, q5, h⟩ := slSl_elim h
  obtain ⟨x0, q15, h⟩ := slI_elim h
  obtain ⟨x1, q16, h⟩ := slI_elim h
  obtain ⟨m, h⟩ := h.h
  refine ⟨(mkF 29 [(1, (.int .u8 by0)), (5, (.slice b0 b1 b2)), (15, (.int .i64 x0)), (16, (.int .i64 x1))]), fun a ha => ha.mk (Nat.le_of_eq hl.symm) (List.forall_mem_cons.2 ⟨q1, List.forall_mem_cons.2 ⟨q5, List.forall_mem_cons.2 ⟨q15, List.forall_mem_cons.2 ⟨q16, fun _ h => nomatch h⟩⟩⟩⟩), m, ?_⟩
  have e := loopS_eq (B := (fun (RR : Int → Heap → Prop) (s : Int) (H : Heap) => sha_pad.W1.vc by0 b0 b1 b2 x0 s (fun  H => Q (.exit 0) (mkF 29 [(5, (.slice b0 b1 b2))]) H) (fun x1 H => RR (x1) H) E H)) (A := keepT [1, 5, 15, 16] [] (fun i => if i = 0 then [5] else []) (wC Tryd.prog sha_pad.Γ sha_pad.W1.plan (sub [1, 1, 0, 1, 0, 0] sha_pad.body))) (m := (fun (s : Int) => (mkF 29 [(1, (.int .u8 by0)), (5, (.slice b0 b1 b2)), (15, (.int .i64 x0)), (16, (.int .i64 s))]))) (Q := Q) (E := E) (fun RR s H => sha_pad.W1.eq by0 b0 b1 b2 x0 Q E RR s H) m (x1) H
  exact cast e h
noncomputable def sha_pad.plan : Plan := .seq (.go) (.seq (.go) (.seq (.seq (.go) (.block (.use sha_pad.W1.t))) (.go)))
theorem sha_pad.pok : PlanOk Tryd.prog sha_pad.plan sha_pad.body := by
  have e : PlanOk Tryd.prog sha_pad.plan sha_pad.body = ((True) ∧ ((True) ∧ (((True) ∧ (SoundCode Tryd.prog (sub [1, 1, 0, 1, 0] sha_pad.body) sha_pad.W1.t)) ∧ (True)))) := by kernel_rfl
  exact e.mpr ⟨trivial, ⟨trivial, ⟨⟨trivial, sha_pad.W1.ok⟩, trivial⟩⟩⟩
theorem sha_pad.eq (key0 : ByteArray) (by0 : Int) (K : Value → Heap → Prop) (E : Value → Heap → Prop) (H : Heap) :
    fnT Tryd.prog Tryd.f36 (wC Tryd.prog sha_pad.Γ sha_pad.plan sha_pad.body) [(.string key0), (.int .u8 by0)] K E H = sha_pad.vc key0 by0 (fun r0_0 H => K (.string r0_0) H) E H := by
  kernel_rfl
theorem sha_pad.Fe {args : List Value} {K E : Value → Heap → Prop} {H : Heap} (h : sha_pad.F args K E H) : ∃ key0 by0, args = [(.string key0), (.int .u8 by0)] ∧ sha_pad.c key0 by0 (fun r0_0 H => K (.string r0_0) H) E H := by
  unfold sha_pad.F at h
  split at h
  · exact ⟨_, _, rfl, h⟩
  · exact h.elim
theorem sha_pad.ok : CalleeOk Tryd.prog 36 sha_pad.F :=
  callee_ok sha_pad.hΓ (fn := Tryd.f36) (c := sha_pad.body) (T := wC Tryd.prog sha_pad.Γ sha_pad.plan sha_pad.body) (by kernel_rfl) (by kernel_rfl) (by kernel_rfl) (wC_sound sha_pad.hΓ Tryd.hm sha_pad.plan _ sha_pad.pok) fun _ K E H h => by
    obtain ⟨z0, z1, e, h⟩ := sha_pad.Fe h
    subst e
    have h2 : sha_pad.vc z0 z1 (fun r0_0 H => ∃ H', Heap.Le H' H ∧ K (.string r0_0) H') E H := h.h
    rw [sha_pad.eq z0 z1 (Fg K) E H]
    exact h2

/-! vizard/sha.Hmac -/
noncomputable def sha_Hmac.body : Code := Tryd.f18.body.getD .skip
def sha_Hmac.J1.vc (key0 : ByteArray) (s0 : ByteArray) (Kr : ByteArray → Heap → Prop) (E : Value → Heap → Prop) (h0 : Heap) : Prop :=
  sha_pad.c key0 92 (fun x0 h1 =>
  sha_pad.c key0 54 (fun x1 h2 =>
  x1.size + s0.size ≤ 9223372036854775807 ∧
  sha_Sum.c (x1 ++ s0) (fun x2 h3 =>
  x0.size + x2.size ≤ 9223372036854775807 ∧
  sha_Sum.c (x0 ++ x2) Kr E h3) E h2) E h1) E h0
structure sha_Hmac.J1 (key0 : ByteArray) (s0 : ByteArray) (Kr : ByteArray → Heap → Prop) (E : Value → Heap → Prop) (H : Heap) : Prop where
  h : sha_Hmac.J1.vc key0 s0 Kr E H
def sha_Hmac.vc (key0 : ByteArray) (s0 : ByteArray) (K : ByteArray → Heap → Prop) (E : Value → Heap → Prop) (h0 : Heap) : Prop :=
  (if (decide ((key0.size : Int) > 64)) = true then
  sha_Sum.c key0 (fun x0 h1 =>
  sha_Hmac.J1 x0 s0 K E h1) E h0
  else
  sha_Hmac.J1 key0 s0 K E h0)
structure sha_Hmac.c (key0 : ByteArray) (s0 : ByteArray) (K : ByteArray → Heap → Prop) (E : Value → Heap → Prop) (H : Heap) : Prop where
  h : sha_Hmac.vc key0 s0 (fun r0_0 H => ∃ H', Heap.Le H' H ∧ K r0_0 H') E H
def sha_Hmac.F : FT := fun args K E H => match args with
  | [(.string key0), (.string s0)] => sha_Hmac.c key0 s0 (fun r0_0 H => K (.string r0_0) H) E H
  | _ => False
noncomputable def sha_Hmac.Γ : FuncId → Option FT := Γof [(16, sha_Sum.F), (36, sha_pad.F)]
theorem sha_Hmac.hΓ : ∀ f F, sha_Hmac.Γ f = some F → CalleeOk Tryd.prog f F := Γof_ok (List.forall_mem_cons.2 ⟨sha_Sum.ok, List.forall_mem_cons.2 ⟨sha_pad.ok, fun _ h => nomatch h⟩⟩)
def sha_Hmac.J1.t : CT := fun Q E fr H => lenIs 19 fr (slS fr 0 fun key0 => slS fr 1 fun s0 => sha_Hmac.J1 key0 s0 (fun y4_0 H => Q .ret (mkF 19 [(4, (.string y4_0))]) H) E H)
noncomputable def sha_Hmac.J1.plan : Plan := .go
theorem sha_Hmac.J1.pok : PlanOk Tryd.prog sha_Hmac.J1.plan (sub [1, 1] sha_Hmac.body) := by
  have e : PlanOk Tryd.prog sha_Hmac.J1.plan (sub [1, 1] sha_Hmac.body) = (True) := by kernel_rfl
  exact e.mpr trivial
theorem sha_Hmac.J1.eq (key0 : ByteArray) (s0 : ByteArray) (Q : Ex → Fr → Heap → Prop) (E : Value → Heap → Prop) (H : Heap) :
    sha_Hmac.J1.vc key0 s0 (fun y4_0 H => Q .ret (mkF 19 [(4, (.string y4_0))]) H) E H = keepT [] [4] (fun i => []) (wC Tryd.prog sha_Hmac.Γ sha_Hmac.J1.plan (sub [1, 1] sha_Hmac.body)) Q E (mkF 19 [(0, (.string key0)), (1, (.string s0))]) H := by
  kernel_rfl
theorem sha_Hmac.J1.ok : SoundCode Tryd.prog (sub [1, 1] sha_Hmac.body) sha_Hmac.J1.t := by
  refine piece_sound (keepT_sound [] [4] (fun i => []) (wC_sound sha_Hmac.hΓ Tryd.hm sha_Hmac.J1.plan _ sha_Hmac.J1.pok)) ?_
  intro Q E fr H h
  unfold sha_Hmac.J1.t at h
  obtain ⟨hl, h⟩ := lenIs_elim h
  obtain ⟨key0, q0, h⟩ := slS_elim h
  obtain ⟨s0, q1, h⟩ := slS_elim h
  refine ⟨(mkF 19 [(0, (.string key0)), (1, (.string s0))]), fun a ha => ha.mk (Nat.le_of_eq hl.symm) (List.forall_mem_cons.2 ⟨q0, List.forall_mem_cons.2 ⟨q1, fun _ h => nomatch h⟩⟩), ?_⟩
  have e := sha_Hmac.J1.eq key0 s0 Q E H
  rw [← e]
  exact h.h
noncomputable def sha_Hmac.plan : Plan := .seq (.go) (.seq (.go) (.use sha_Hmac.J1.t))
theorem sha_Hmac.pok : PlanOk Tryd.prog sha_Hmac.plan sha_Hmac.body := by
  have e : PlanOk Tryd.prog sha_Hmac.plan sha_Hmac.body = ((True) ∧ ((True) ∧ (SoundCode Tryd.prog (sub [1, 1] sha_Hmac.body) sha_Hmac.J1.t))) := by kernel_rfl
  exact e.mpr ⟨trivial, ⟨trivial, sha_Hmac.J1.ok⟩⟩
theorem sha_Hmac.eq (key0 : ByteArray) (s0 : ByteArray) (K : Value → Heap → Prop) (E : Value → Heap → Prop) (H : Heap) :
    fnT Tryd.prog Tryd.f18 (wC Tryd.prog sha_Hmac.Γ sha_Hmac.plan sha_Hmac.body) [(.string key0), (.string s0)] K E H = sha_Hmac.vc key0 s0 (fun r0_0 H => K (.string r0_0) H) E H := by
  kernel_rfl
theorem sha_Hmac.Fe {args : List Value} {K E : Value → Heap → Prop} {H : Heap} (h : sha_Hmac.F args K E H) : ∃ key0 s0, args = [(.string key0), (.string s0)] ∧ sha_Hmac.c key0 s0 (fun r0_0 H => K (.string r0_0) H) E H := by
  unfold sha_Hmac.F at h
  split at h
  · exact ⟨_, _, rfl, h⟩
  · exact h.elim
theorem sha_Hmac.ok : CalleeOk Tryd.prog 18 sha_Hmac.F :=
  callee_ok sha_Hmac.hΓ (fn := Tryd.f18) (c := sha_Hmac.body) (T := wC Tryd.prog sha_Hmac.Γ sha_Hmac.plan sha_Hmac.body) (by kernel_rfl) (by kernel_rfl) (by kernel_rfl) (wC_sound sha_Hmac.hΓ Tryd.hm sha_Hmac.plan _ sha_Hmac.pok) fun _ K E H h => by
    obtain ⟨z0, z1, e, h⟩ := sha_Hmac.Fe h
    subst e
    have h2 : sha_Hmac.vc z0 z1 (fun r0_0 H => ∃ H', Heap.Le H' H ∧ K (.string r0_0) H') E H := h.h
    rw [sha_Hmac.eq z0 z1 (Fg K) E H]
    exact h2

/-! vizard/vizardlaw05.works -/
noncomputable def vizardlaw05_works.body : Code := Tryd.f12.body.getD .skip
def vizardlaw05_works.vc (K : Bool → Heap → Prop) (E : Value → Heap → Prop) (h0 : Heap) : Prop :=
  sha_Sum.c (⟨#[97, 98, 99]⟩ : ByteArray) (fun x0 h1 =>
  (if (x0.toList == (⟨#[186, 120, 22, 191, 143, 1, 207, 234, 65, 65, 64, 222, 93, 174, 34, 35, 176, 3, 97, 163, 150, 23, 122, 156, 180, 16, 255, 97, 242, 0, 21, 173]⟩ : ByteArray).toList) = true then
  sha_Hmac.c (⟨#[107]⟩ : ByteArray) (⟨#[115]⟩ : ByteArray) (fun x1 h2 =>
  K ((x1.size : Int) == 32) h2) E h1
  else
  K false h1)) E h0
structure vizardlaw05_works.c (K : Bool → Heap → Prop) (E : Value → Heap → Prop) (H : Heap) : Prop where
  h : vizardlaw05_works.vc  (fun r0_0 H => ∃ H', Heap.Le H' H ∧ K r0_0 H') E H
def vizardlaw05_works.F : FT := fun args K E H => match args with
  | [] => vizardlaw05_works.c  (fun r0_0 H => K (.bool r0_0) H) E H
  | _ => False
noncomputable def vizardlaw05_works.Γ : FuncId → Option FT := Γof [(16, sha_Sum.F), (18, sha_Hmac.F)]
theorem vizardlaw05_works.hΓ : ∀ f F, vizardlaw05_works.Γ f = some F → CalleeOk Tryd.prog f F := Γof_ok (List.forall_mem_cons.2 ⟨sha_Sum.ok, List.forall_mem_cons.2 ⟨sha_Hmac.ok, fun _ h => nomatch h⟩⟩)
noncomputable def vizardlaw05_works.plan : Plan := .go
theorem vizardlaw05_works.pok : PlanOk Tryd.prog vizardlaw05_works.plan vizardlaw05_works.body := by
  have e : PlanOk Tryd.prog vizardlaw05_works.plan vizardlaw05_works.body = (True) := by kernel_rfl
  exact e.mpr trivial
theorem vizardlaw05_works.eq (K : Value → Heap → Prop) (E : Value → Heap → Prop) (H : Heap) :
    fnT Tryd.prog Tryd.f12 (wC Tryd.prog vizardlaw05_works.Γ vizardlaw05_works.plan vizardlaw05_works.body) [] K E H = vizardlaw05_works.vc  (fun r0_0 H => K (.bool r0_0) H) E H := by
  kernel_rfl
theorem vizardlaw05_works.Fe {args : List Value} {K E : Value → Heap → Prop} {H : Heap} (h : vizardlaw05_works.F args K E H) : args = [] ∧ vizardlaw05_works.c  (fun r0_0 H => K (.bool r0_0) H) E H := by
  unfold vizardlaw05_works.F at h
  split at h
  · exact ⟨rfl, h⟩
  · exact h.elim
theorem vizardlaw05_works.ok : CalleeOk Tryd.prog 12 vizardlaw05_works.F :=
  callee_ok vizardlaw05_works.hΓ (fn := Tryd.f12) (c := vizardlaw05_works.body) (T := wC Tryd.prog vizardlaw05_works.Γ vizardlaw05_works.plan vizardlaw05_works.body) (by kernel_rfl) (by kernel_rfl) (by kernel_rfl) (wC_sound vizardlaw05_works.hΓ Tryd.hm vizardlaw05_works.plan _ vizardlaw05_works.pok) fun _ K E H h => by
    obtain ⟨e, h⟩ := vizardlaw05_works.Fe h
    subst e
    have h2 : vizardlaw05_works.vc (fun r0_0 H => ∃ H', Heap.Le H' H ∧ K (.bool r0_0) H') E H := h.h
    rw [vizardlaw05_works.eq (Fg K) E H]
    exact h2

/-! vizard/vizardlaw05.ShaParts -/
noncomputable def vizardlaw05_ShaParts.body : Code := Tryd.f3.body.getD .skip
def vizardlaw05_ShaParts.J3.vc (l0 : Option Addr) (l1 : Nat) (l2 : Nat) (h0 : Option Addr) (all0 : ByteArray) (i0 : Int) (x0 : Bool) (Kn : Heap → Prop) (Kr : Bool → Heap → Prop) (E : Value → Heap → Prop) (h1 : Heap) : Prop :=
  (if x0 = true then
  Kr false h1
  else
  Kn h1)
structure vizardlaw05_ShaParts.J3 (l0 : Option Addr) (l1 : Nat) (l2 : Nat) (h0 : Option Addr) (all0 : ByteArray) (i0 : Int) (x0 : Bool) (Kn : Heap → Prop) (Kr : Bool → Heap → Prop) (E : Value → Heap → Prop) (H : Heap) : Prop where
  h : vizardlaw05_ShaParts.J3.vc l0 l1 l2 h0 all0 i0 x0 Kn Kr E H
def vizardlaw05_ShaParts.J4.vc (l0 : Option Addr) (l1 : Nat) (l2 : Nat) (h0 : Option Addr) (all0 : ByteArray) (i0 : Int) (Kn : Int → Heap → Prop) (E : Value → Heap → Prop) (h1 : Heap) : Prop :=
  Kn (IntKind.i64.wrap (i0 + 1)) h1
structure vizardlaw05_ShaParts.J4 (l0 : Option Addr) (l1 : Nat) (l2 : Nat) (h0 : Option Addr) (all0 : ByteArray) (i0 : Int) (Kn : Int → Heap → Prop) (E : Value → Heap → Prop) (H : Heap) : Prop where
  h : vizardlaw05_ShaParts.J4.vc l0 l1 l2 h0 all0 i0 Kn E H
def vizardlaw05_ShaParts.J2.vc (l0 : Option Addr) (l1 : Nat) (l2 : Nat) (h0 : Option Addr) (all0 : ByteArray) (i0 : Int) (Kn : ByteArray → Int → Heap → Prop) (Kr : Bool → Heap → Prop) (E : Value → Heap → Prop) (h1 : Heap) : Prop :=
  nilc l0 fun a0 => (0 : Int) ≤ i0 ∧ i0 < (l1 : Int) ∧
  ldS h1 (a0.add (i0.toNat * 1)) fun x0 =>
  (if (decide ((x0.size : Int) > 500)) = true then
  Kr true h1
  else
  nilc l0 fun a1 => (0 : Int) ≤ i0 ∧ i0 < (l1 : Int) ∧
  ldS h1 (a1.add (i0.toNat * 1)) fun x1 =>
  sha_Hash_Write.c h0 x1 (fun h2 =>
  nilc l0 fun a2 => (0 : Int) ≤ i0 ∧ i0 < (l1 : Int) ∧
  ldS h2 (a2.add (i0.toNat * 1)) fun x2 =>
  all0.size + x2.size ≤ 9223372036854775807 ∧
  3 ≠ (0 : Int) ∧
  (if ((Int.tmod i0 3) == 0) = true then
  sha_Hash_Sum.c h0 (fun x3 h3 =>
  sha_Sum.c (all0 ++ x2) (fun x4 h4 =>
  vizardlaw05_ShaParts.J3 l0 l1 l2 h0 (all0 ++ x2) i0 (!(x3.toList == x4.toList)) (fun h5 =>
  vizardlaw05_ShaParts.J4 l0 l1 l2 h0 (all0 ++ x2) i0 (fun i1 h6 =>
  Kn (all0 ++ x2) i1 h6) E h5) Kr E h4) E h3) E h2
  else
  vizardlaw05_ShaParts.J3 l0 l1 l2 h0 (all0 ++ x2) i0 false (fun h8 =>
  vizardlaw05_ShaParts.J4 l0 l1 l2 h0 (all0 ++ x2) i0 (fun i2 h9 =>
  Kn (all0 ++ x2) i2 h9) E h8) Kr E h2)) E h1)
structure vizardlaw05_ShaParts.J2 (l0 : Option Addr) (l1 : Nat) (l2 : Nat) (h0 : Option Addr) (all0 : ByteArray) (i0 : Int) (Kn : ByteArray → Int → Heap → Prop) (Kr : Bool → Heap → Prop) (E : Value → Heap → Prop) (H : Heap) : Prop where
  h : vizardlaw05_ShaParts.J2.vc l0 l1 l2 h0 all0 i0 Kn Kr E H
def vizardlaw05_ShaParts.W1.vc (l0 : Option Addr) (l1 : Nat) (l2 : Nat) (h0 : Option Addr) (all0 : ByteArray) (i0 : Int) (Kx0 : ByteArray → Heap → Prop) (Kr : Bool → Heap → Prop) (RR : ByteArray → Int → Heap → Prop) (E : Value → Heap → Prop) (h1 : Heap) : Prop :=
  (if (decide (i0 < (l1 : Int))) = true then
  (if (decide (i0 < 40)) = true then
  vizardlaw05_ShaParts.J2 l0 l1 l2 h0 all0 i0 RR Kr E h1
  else
  Kx0 all0 h1)
  else
  Kx0 all0 h1)
structure vizardlaw05_ShaParts.W1 (l0 : Option Addr) (l1 : Nat) (l2 : Nat) (h0 : Option Addr) (all0 : ByteArray) (i0 : Int) (Kx0 : ByteArray → Heap → Prop) (Kr : Bool → Heap → Prop) (E : Value → Heap → Prop) (H : Heap) : Prop where
  h : Loop (fun (RR : ByteArray × Int → Heap → Prop) (s : ByteArray × Int) (H : Heap) => vizardlaw05_ShaParts.W1.vc l0 l1 l2 h0 s.1 s.2 Kx0 Kr (fun all0 i0 H => RR (all0, i0) H) E H) (all0, i0) H
def vizardlaw05_ShaParts.vc (l0 : Option Addr) (l1 : Nat) (l2 : Nat) (K : Bool → Heap → Prop) (E : Value → Heap → Prop) (h0 : Heap) : Prop :=
  vizardlaw05_works.c (fun x0 h1 =>
  (if (!x0) = true then
  K false h1
  else
  sha_New.c (fun x1 h2 =>
  (if (Option.isNone x1) = true then
  K false h2
  else
  vizardlaw05_ShaParts.W1 l0 l1 l2 x1 (⟨#[]⟩ : ByteArray) 0 (fun all0 h3 =>
  sha_Hash_Sum.c x1 (fun x2 h4 =>
  sha_Sum.c all0 (fun x3 h5 =>
  K (x2.toList == x3.toList) h5) E h4) E h3) K E h2)) E h1)) E h0
structure vizardlaw05_ShaParts.c (l0 : Option Addr) (l1 : Nat) (l2 : Nat) (K : Bool → Heap → Prop) (E : Value → Heap → Prop) (H : Heap) : Prop where
  h : vizardlaw05_ShaParts.vc l0 l1 l2 (fun r0_0 H => ∃ H', Heap.Le H' H ∧ K r0_0 H') E H
def vizardlaw05_ShaParts.F : FT := fun args K E H => match args with
  | [(.slice l0 l1 l2)] => vizardlaw05_ShaParts.c l0 l1 l2 (fun r0_0 H => K (.bool r0_0) H) E H
  | _ => False
noncomputable def vizardlaw05_ShaParts.Γ : FuncId → Option FT := Γof [(12, vizardlaw05_works.F), (13, sha_New.F), (14, sha_Hash_Write.F), (15, sha_Hash_Sum.F), (16, sha_Sum.F)]
theorem vizardlaw05_ShaParts.hΓ : ∀ f F, vizardlaw05_ShaParts.Γ f = some F → CalleeOk Tryd.prog f F := Γof_ok (List.forall_mem_cons.2 ⟨vizardlaw05_works.ok, List.forall_mem_cons.2 ⟨sha_New.ok, List.forall_mem_cons.2 ⟨sha_Hash_Write.ok, List.forall_mem_cons.2 ⟨sha_Hash_Sum.ok, List.forall_mem_cons.2 ⟨sha_Sum.ok, fun _ h => nomatch h⟩⟩⟩⟩⟩)
def vizardlaw05_ShaParts.J3.t : CT := fun Q E fr H => lenIs 54 fr (slSl fr 0 fun l0 l1 l2 => slP fr 3 fun h0 => slS fr 4 fun all0 => slI fr 5 .i64 fun i0 => slB fr 48 fun x0 => vizardlaw05_ShaParts.J3 l0 l1 l2 h0 all0 i0 x0 (fun  H => Q .normal (mkF 54 [(0, (.slice l0 l1 l2)), (3, (.pointer h0)), (4, (.string all0)), (5, (.int .i64 i0))]) H) (fun y2_0 H => Q .ret (mkF 54 [(2, (.bool y2_0))]) H) E H)
noncomputable def vizardlaw05_ShaParts.J3.plan : Plan := .go
theorem vizardlaw05_ShaParts.J3.pok : PlanOk Tryd.prog vizardlaw05_ShaParts.J3.plan (sub [1, 1, 1, 1, 1, 0, 1, 0, 0, 1, 0, 0, 1, 1, 1, 1] vizardlaw05_ShaParts.body) := by
  have e : PlanOk Tryd.prog vizardlaw05_ShaParts.J3.plan (sub [1, 1, 1, 1, 1, 0, 1, 0, 0, 1, 0, 0, 1, 1, 1, 1] vizardlaw05_ShaParts.body) = (True) := by kernel_rfl
  exact e.mpr trivial
theorem vizardlaw05_ShaParts.J3.eq (l0 : Option Addr) (l1 : Nat) (l2 : Nat) (h0 : Option Addr) (all0 : ByteArray) (i0 : Int) (x0 : Bool) (Q : Ex → Fr → Heap → Prop) (E : Value → Heap → Prop) (H : Heap) :
    vizardlaw05_ShaParts.J3.vc l0 l1 l2 h0 all0 i0 x0 (fun  H => Q .normal (mkF 54 [(0, (.slice l0 l1 l2)), (3, (.pointer h0)), (4, (.string all0)), (5, (.int .i64 i0))]) H) (fun y2_0 H => Q .ret (mkF 54 [(2, (.bool y2_0))]) H) E H = keepT [0, 3, 4, 5] [2] (fun i => []) (wC Tryd.prog vizardlaw05_ShaParts.Γ vizardlaw05_ShaParts.J3.plan (sub [1, 1, 1, 1, 1, 0, 1, 0, 0, 1, 0, 0, 1, 1, 1, 1] vizardlaw05_ShaParts.body)) Q E (mkF 54 [(0, (.slice l0 l1 l2)), (3, (.pointer h0)), (4, (.string all0)), (5, (.int .i64 i0)), (48, (.bool x0))]) H := by
  kernel_rfl
theorem vizardlaw05_ShaParts.J3.ok : SoundCode Tryd.prog (sub [1, 1, 1, 1, 1, 0, 1, 0, 0, 1, 0, 0, 1, 1, 1, 1] vizardlaw05_ShaParts.body) vizardlaw05_ShaParts.J3.t := by
  refine piece_sound (keepT_sound [0, 3, 4, 5] [2] (fun i => []) (wC_sound vizardlaw05_ShaParts.hΓ Tryd.hm vizardlaw05_ShaParts.J3.plan _ vizardlaw05_ShaParts.J3.pok)) ?_
  intro Q E fr H h
  unfold vizardlaw05_ShaParts.J3.t at h
  obtain ⟨hl, h⟩ := lenIs_elim h
  obtain ⟨l0, l1, l2, q0, h⟩ := slSl_elim h
  obtain ⟨h0, q3, h⟩ := slP_elim h
  obtain ⟨all0, q4, h⟩ := slS_elim h
  obtain ⟨i0, q5, h⟩ := slI_elim h
  obtain ⟨x0, q48, h⟩ := slB_elim h
  refine ⟨(mkF 54 [(0, (.slice l0 l1 l2)), (3, (.pointer h0)), (4, (.string all0)), (5, (.int .i64 i0)), (48, (.bool x0))]), fun a ha => ha.mk (Nat.le_of_eq hl.symm) (List.forall_mem_cons.2 ⟨q0, List.forall_mem_cons.2 ⟨q3, List.forall_mem_cons.2 ⟨q4, List.forall_mem_cons.2 ⟨q5, List.forall_mem_cons.2 ⟨q48, fun _ h => nomatch h⟩⟩⟩⟩⟩), ?_⟩
  have e := vizardlaw05_ShaParts.J3.eq l0 l1 l2 h0 all0 i0 x0 Q E H
  rw [← e]
  exact h.h
def vizardlaw05_ShaParts.J4.t : CT := fun Q E fr H => lenIs 54 fr (slSl fr 0 fun l0 l1 l2 => slP fr 3 fun h0 => slS fr 4 fun all0 => slI fr 5 .i64 fun i0 => vizardlaw05_ShaParts.J4 l0 l1 l2 h0 all0 i0 (fun y5_0 H => Q .normal (mkF 54 [(0, (.slice l0 l1 l2)), (3, (.pointer h0)), (4, (.string all0)), (5, (.int .i64 y5_0))]) H) E H)
noncomputable def vizardlaw05_ShaParts.J4.plan : Plan := .go
theorem vizardlaw05_ShaParts.J4.pok : PlanOk Tryd.prog vizardlaw05_ShaParts.J4.plan (sub [1, 1, 1, 1, 1, 0, 1, 0, 0, 1, 1] vizardlaw05_ShaParts.body) := by
  have e : PlanOk Tryd.prog vizardlaw05_ShaParts.J4.plan (sub [1, 1, 1, 1, 1, 0, 1, 0, 0, 1, 1] vizardlaw05_ShaParts.body) = (True) := by kernel_rfl
  exact e.mpr trivial
theorem vizardlaw05_ShaParts.J4.eq (l0 : Option Addr) (l1 : Nat) (l2 : Nat) (h0 : Option Addr) (all0 : ByteArray) (i0 : Int) (Q : Ex → Fr → Heap → Prop) (E : Value → Heap → Prop) (H : Heap) :
    vizardlaw05_ShaParts.J4.vc l0 l1 l2 h0 all0 i0 (fun y5_0 H => Q .normal (mkF 54 [(0, (.slice l0 l1 l2)), (3, (.pointer h0)), (4, (.string all0)), (5, (.int .i64 y5_0))]) H) E H = keepT [0, 3, 4, 5] [] (fun i => []) (wC Tryd.prog vizardlaw05_ShaParts.Γ vizardlaw05_ShaParts.J4.plan (sub [1, 1, 1, 1, 1, 0, 1, 0, 0, 1, 1] vizardlaw05_ShaParts.body)) Q E (mkF 54 [(0, (.slice l0 l1 l2)), (3, (.pointer h0)), (4, (.string all0)), (5, (.int .i64 i0))]) H := by
  kernel_rfl
theorem vizardlaw05_ShaParts.J4.ok : SoundCode Tryd.prog (sub [1, 1, 1, 1, 1, 0, 1, 0, 0, 1, 1] vizardlaw05_ShaParts.body) vizardlaw05_ShaParts.J4.t := by
  refine piece_sound (keepT_sound [0, 3, 4, 5] [] (fun i => []) (wC_sound vizardlaw05_ShaParts.hΓ Tryd.hm vizardlaw05_ShaParts.J4.plan _ vizardlaw05_ShaParts.J4.pok)) ?_
  intro Q E fr H h
  unfold vizardlaw05_ShaParts.J4.t at h
  obtain ⟨hl, h⟩ := lenIs_elim h
  obtain ⟨l0, l1, l2, q0, h⟩ := slSl_elim h
  obtain ⟨h0, q3, h⟩ := slP_elim h
  obtain ⟨all0, q4, h⟩ := slS_elim h
  obtain ⟨i0, q5, h⟩ := slI_elim h
  refine ⟨(mkF 54 [(0, (.slice l0 l1 l2)), (3, (.pointer h0)), (4, (.string all0)), (5, (.int .i64 i0))]), fun a ha => ha.mk (Nat.le_of_eq hl.symm) (List.forall_mem_cons.2 ⟨q0, List.forall_mem_cons.2 ⟨q3, List.forall_mem_cons.2 ⟨q4, List.forall_mem_cons.2 ⟨q5, fun _ h => nomatch h⟩⟩⟩⟩), ?_⟩
  have e := vizardlaw05_ShaParts.J4.eq l0 l1 l2 h0 all0 i0 Q E H
  rw [← e]
  exact h.h
def vizardlaw05_ShaParts.J2.t : CT := fun Q E fr H => lenIs 54 fr (slSl fr 0 fun l0 l1 l2 => slP fr 3 fun h0 => slS fr 4 fun all0 => slI fr 5 .i64 fun i0 => vizardlaw05_ShaParts.J2 l0 l1 l2 h0 all0 i0 (fun y4_0 y5_0 H => Q .normal (mkF 54 [(0, (.slice l0 l1 l2)), (3, (.pointer h0)), (4, (.string y4_0)), (5, (.int .i64 y5_0))]) H) (fun y2_0 H => Q .ret (mkF 54 [(2, (.bool y2_0))]) H) E H)
noncomputable def vizardlaw05_ShaParts.J2.plan : Plan := .seq (.block (.seq (.go) (.seq (.go) (.seq (.go) (.seq (.go) (.use vizardlaw05_ShaParts.J3.t)))))) (.use vizardlaw05_ShaParts.J4.t)
theorem vizardlaw05_ShaParts.J2.pok : PlanOk Tryd.prog vizardlaw05_ShaParts.J2.plan (sub [1, 1, 1, 1, 1, 0, 1, 0, 0, 1] vizardlaw05_ShaParts.body) := by
  have e : PlanOk Tryd.prog vizardlaw05_ShaParts.J2.plan (sub [1, 1, 1, 1, 1, 0, 1, 0, 0, 1] vizardlaw05_ShaParts.body) = (((True) ∧ ((True) ∧ ((True) ∧ ((True) ∧ (SoundCode Tryd.prog (sub [1, 1, 1, 1, 1, 0, 1, 0, 0, 1, 0, 0, 1, 1, 1, 1] vizardlaw05_ShaParts.body) vizardlaw05_ShaParts.J3.t))))) ∧ (SoundCode Tryd.prog (sub [1, 1, 1, 1, 1, 0, 1, 0, 0, 1, 1] vizardlaw05_ShaParts.body) vizardlaw05_ShaParts.J4.t)) := by kernel_rfl
  exact e.mpr ⟨⟨trivial, ⟨trivial, ⟨trivial, ⟨trivial, vizardlaw05_ShaParts.J3.ok⟩⟩⟩⟩, vizardlaw05_ShaParts.J4.ok⟩
theorem vizardlaw05_ShaParts.J2.eq (l0 : Option Addr) (l1 : Nat) (l2 : Nat) (h0 : Option Addr) (all0 : ByteArray) (i0 : Int) (Q : Ex → Fr → Heap → Prop) (E : Value → Heap → Prop) (H : Heap) :
    vizardlaw05_ShaParts.J2.vc l0 l1 l2 h0 all0 i0 (fun y4_0 y5_0 H => Q .normal (mkF 54 [(0, (.slice l0 l1 l2)), (3, (.pointer h0)), (4, (.string y4_0)), (5, (.int .i64 y5_0))]) H) (fun y2_0 H => Q .ret (mkF 54 [(2, (.bool y2_0))]) H) E H = keepT [0, 3, 4, 5] [2] (fun i => []) (wC Tryd.prog vizardlaw05_ShaParts.Γ vizardlaw05_ShaParts.J2.plan (sub [1, 1, 1, 1, 1, 0, 1, 0, 0, 1] vizardlaw05_ShaParts.body)) Q E (mkF 54 [(0, (.slice l0 l1 l2)), (3, (.pointer h0)), (4, (.string all0)), (5, (.int .i64 i0))]) H := by
  kernel_rfl
theorem vizardlaw05_ShaParts.J2.ok : SoundCode Tryd.prog (sub [1, 1, 1, 1, 1, 0, 1, 0, 0, 1] vizardlaw05_ShaParts.body) vizardlaw05_ShaParts.J2.t := by
  refine piece_sound (keepT_sound [0, 3, 4, 5] [2] (fun i => []) (wC_sound vizardlaw05_ShaParts.hΓ Tryd.hm vizardlaw05_ShaParts.J2.plan _ vizardlaw05_ShaParts.J2.pok)) ?_
  intro Q E fr H h
  unfold vizardlaw05_ShaParts.J2.t at h
  obtain ⟨hl, h⟩ := lenIs_elim h
  obtain ⟨l0, l1, l2, q0, h⟩ := slSl_elim h
  obtain ⟨h0, q3, h⟩ := slP_elim h
  obtain ⟨all0, q4, h⟩ := slS_elim h
  obtain ⟨i0, q5, h⟩ := slI_elim h
  refine ⟨(mkF 54 [(0, (.slice l0 l1 l2)), (3, (.pointer h0)), (4, (.string all0)), (5, (.int .i64 i0))]), fun a ha => ha.mk (Nat.le_of_eq hl.symm) (List.forall_mem_cons.2 ⟨q0, List.forall_mem_cons.2 ⟨q3, List.forall_mem_cons.2 ⟨q4, List.forall_mem_cons.2 ⟨q5, fun _ h => nomatch h⟩⟩⟩⟩), ?_⟩
  have e := vizardlaw05_ShaParts.J2.eq l0 l1 l2 h0 all0 i0 Q E H
  rw [← e]
  exact h.h
def vizardlaw05_ShaParts.W1.t : CT := fun Q E fr H => lenIs 54 fr (slSl fr 0 fun l0 l1 l2 => slP fr 3 fun h0 => slS fr 4 fun all0 => slI fr 5 .i64 fun i0 => vizardlaw05_ShaParts.W1 l0 l1 l2 h0 all0 i0 (fun y4_0 H => Q (.exit 0) (mkF 54 [(3, (.pointer h0)), (4, (.string y4_0))]) H) (fun y2_0 H => Q .ret (mkF 54 [(2, (.bool y2_0))]) H) E H)
noncomputable def vizardlaw05_ShaParts.W1.plan : Plan := .seq (.go) (.use vizardlaw05_ShaParts.J2.t)
theorem vizardlaw05_ShaParts.W1.pok : PlanOk Tryd.prog vizardlaw05_ShaParts.W1.plan (sub [1, 1, 1, 1, 1, 0, 1, 0, 0] vizardlaw05_ShaParts.body) := by
  have e : PlanOk Tryd.prog vizardlaw05_ShaParts.W1.plan (sub [1, 1, 1, 1, 1, 0, 1, 0, 0] vizardlaw05_ShaParts.body) = ((True) ∧ (SoundCode Tryd.prog (sub [1, 1, 1, 1, 1, 0, 1, 0, 0, 1] vizardlaw05_ShaParts.body) vizardlaw05_ShaParts.J2.t)) := by kernel_rfl
  exact e.mpr ⟨trivial, vizardlaw05_ShaParts.J2.ok⟩
theorem vizardlaw05_ShaParts.W1.eq (l0 : Option Addr) (l1 : Nat) (l2 : Nat) (h0 : Option Addr) (Q : Ex → Fr → Heap → Prop) (E : Value → Heap → Prop) (RR : Fr → Heap → Prop) (s : ByteArray × Int) (H : Heap) :
    (fun (RR : ByteArray × Int → Heap → Prop) (s : ByteArray × Int) (H : Heap) => vizardlaw05_ShaParts.W1.vc l0 l1 l2 h0 s.1 s.2 (fun y4_0 H => Q (.exit 0) (mkF 54 [(3, (.pointer h0)), (4, (.string y4_0))]) H) (fun y2_0 H => Q .ret (mkF 54 [(2, (.bool y2_0))]) H) (fun all0 i0 H => RR (all0, i0) H) E H) (fun s' H' => RR ((fun (s : ByteArray × Int) => (mkF 54 [(0, (.slice l0 l1 l2)), (3, (.pointer h0)), (4, (.string s.1)), (5, (.int .i64 s.2))])) s') H') s H = keepT [0, 3, 4, 5] [2] (fun i => if i = 0 then [3, 4] else []) (wC Tryd.prog vizardlaw05_ShaParts.Γ vizardlaw05_ShaParts.W1.plan (sub [1, 1, 1, 1, 1, 0, 1, 0, 0] vizardlaw05_ShaParts.body)) (fun e fr' H' => match e with | .normal => RR fr' H' | .exit id => Q (.exit id) fr' H' | .ret => Q .ret fr' H') E ((fun (s : ByteArray × Int) => (mkF 54 [(0, (.slice l0 l1 l2)), (3, (.pointer h0)), (4, (.string s.1)), (5, (.int .i64 s.2))])) s) H := by
  kernel_rfl
theorem vizardlaw05_ShaParts.W1.ok : SoundCode Tryd.prog (sub [1, 1, 1, 1, 1, 0, 1, 0] vizardlaw05_ShaParts.body) vizardlaw05_ShaParts.W1.t := by
  have e : (sub [1, 1, 1, 1, 1, 0, 1, 0] vizardlaw05_ShaParts.body) = .loop (sub [1, 1, 1, 1, 1, 0, 1, 0, 0] vizardlaw05_ShaParts.body) := by kernel_rfl
  rw [e]
  refine piece_sound (loopN_sound (keepT_sound [0, 3, 4, 5] [2] (fun i => if i = 0 then [3, 4] else []) (wC_sound vizardlaw05_ShaParts.hΓ Tryd.hm vizardlaw05_ShaParts.W1.plan _ vizardlaw05_ShaParts.W1.pok))) ?_
  intro Q E fr H h
  unfold vizardlaw05_ShaParts.W1.t at h
  obtain ⟨hl, h⟩ := lenIs_elim h
  obtain ⟨l0, l1, l2, q0, h⟩ := slSl_elim h
  obtain ⟨h0, q3, h⟩ := slP_elim h
  obtain ⟨all0, q4, h⟩ := slS_elim h
  obtain ⟨i0, q5, h⟩ := slI_elim h
  obtain ⟨m, h⟩ := h.h
  refine ⟨(mkF 54 [(0, (.slice l0 l1 l2)), (3, (.pointer h0)), (4, (.string all0)), (5, (.int .i64 i0))]), fun a ha => ha.mk (Nat.le_of_eq hl.symm) (List.forall_mem_cons.2 ⟨q0, List.forall_mem_cons.2 ⟨q3, List.forall_mem_cons.2 ⟨q4, List.forall_mem_cons.2 ⟨q5, fun _ h => nomatch h⟩⟩⟩⟩), m, ?_⟩
  have e := loopS_eq (B := (fun (RR : ByteArray × Int → Heap → Prop) (s : ByteArray × Int) (H : Heap) => vizardlaw05_ShaParts.W1.vc l0 l1 l2 h0 s.1 s.2 (fun y4_0 H => Q (.exit 0) (mkF 54 [(3, (.pointer h0)), (4, (.string y4_0))]) H) (fun y2_0 H => Q .ret (mkF 54 [(2, (.bool y2_0))]) H) (fun all0 i0 H => RR (all0, i0) H) E H)) (A := keepT [0, 3, 4, 5] [2] (fun i => if i = 0 then [3, 4] else []) (wC Tryd.prog vizardlaw05_ShaParts.Γ vizardlaw05_ShaParts.W1.plan (sub [1, 1, 1, 1, 1, 0, 1, 0, 0] vizardlaw05_ShaParts.body))) (m := (fun (s : ByteArray × Int) => (mkF 54 [(0, (.slice l0 l1 l2)), (3, (.pointer h0)), (4, (.string s.1)), (5, (.int .i64 s.2))]))) (Q := Q) (E := E) (fun RR s H => vizardlaw05_ShaParts.W1.eq l0 l1 l2 h0 Q E RR s H) m (all0, i0) H
  exact cast e h
noncomputable def vizardlaw05_ShaParts.plan : Plan := .seq (.go) (.seq (.go) (.seq (.go) (.seq (.go) (.seq (.go) (.seq (.seq (.go) (.block (.use vizardlaw05_ShaParts.W1.t))) (.go))))))
theorem vizardlaw05_ShaParts.pok : PlanOk Tryd.prog vizardlaw05_ShaParts.plan vizardlaw05_ShaParts.body := by
  have e : PlanOk Tryd.prog vizardlaw05_ShaParts.plan vizardlaw05_ShaParts.body = ((True) ∧ ((True) ∧ ((True) ∧ ((True) ∧ ((True) ∧ (((True) ∧ (SoundCode Tryd.prog (sub [1, 1, 1, 1, 1, 0, 1, 0] vizardlaw05_ShaParts.body) vizardlaw05_ShaParts.W1.t)) ∧ (True))))))) := by kernel_rfl
  exact e.mpr ⟨trivial, ⟨trivial, ⟨trivial, ⟨trivial, ⟨trivial, ⟨⟨trivial, vizardlaw05_ShaParts.W1.ok⟩, trivial⟩⟩⟩⟩⟩⟩
theorem vizardlaw05_ShaParts.eq (l0 : Option Addr) (l1 : Nat) (l2 : Nat) (K : Value → Heap → Prop) (E : Value → Heap → Prop) (H : Heap) :
    fnT Tryd.prog Tryd.f3 (wC Tryd.prog vizardlaw05_ShaParts.Γ vizardlaw05_ShaParts.plan vizardlaw05_ShaParts.body) [(.slice l0 l1 l2)] K E H = vizardlaw05_ShaParts.vc l0 l1 l2 (fun r0_0 H => K (.bool r0_0) H) E H := by
  kernel_rfl
theorem vizardlaw05_ShaParts.Fe {args : List Value} {K E : Value → Heap → Prop} {H : Heap} (h : vizardlaw05_ShaParts.F args K E H) : ∃ l0 l1 l2, args = [(.slice l0 l1 l2)] ∧ vizardlaw05_ShaParts.c l0 l1 l2 (fun r0_0 H => K (.bool r0_0) H) E H := by
  unfold vizardlaw05_ShaParts.F at h
  split at h
  · exact ⟨_, _, _, rfl, h⟩
  · exact h.elim
theorem vizardlaw05_ShaParts.ok : CalleeOk Tryd.prog 3 vizardlaw05_ShaParts.F :=
  callee_ok vizardlaw05_ShaParts.hΓ (fn := Tryd.f3) (c := vizardlaw05_ShaParts.body) (T := wC Tryd.prog vizardlaw05_ShaParts.Γ vizardlaw05_ShaParts.plan vizardlaw05_ShaParts.body) (by kernel_rfl) (by kernel_rfl) (by kernel_rfl) (wC_sound vizardlaw05_ShaParts.hΓ Tryd.hm vizardlaw05_ShaParts.plan _ vizardlaw05_ShaParts.pok) fun _ K E H h => by
    obtain ⟨z0, z1, z2, e, h⟩ := vizardlaw05_ShaParts.Fe h
    subst e
    have h2 : vizardlaw05_ShaParts.vc z0 z1 z2 (fun r0_0 H => ∃ H', Heap.Le H' H ∧ K (.bool r0_0) H') E H := h.h
    rw [vizardlaw05_ShaParts.eq z0 z1 z2 (Fg K) E H]
    exact h2

/-! vizard/vizardlaw05.ShaOwn -/
noncomputable def vizardlaw05_ShaOwn.body : Code := Tryd.f4.body.getD .skip
def vizardlaw05_ShaOwn.J2.vc (l0 : Option Addr) (l1 : Nat) (l2 : Nat) (m0 : Option Addr) (m1 : Nat) (m2 : Nat) (a0 : Option Addr) (b0 : Option Addr) (x0 : ByteArray) (y0 : ByteArray) (i0 : Int) (x1 : Bool) (Kn : ByteArray → Heap → Prop) (E : Value → Heap → Prop) (h0 : Heap) : Prop :=
  (if x1 = true then
  nilc l0 fun a1 => (0 : Int) ≤ i0 ∧ i0 < (l1 : Int) ∧
  ldS h0 (a1.add (i0.toNat * 1)) fun x2 =>
  sha_Hash_Write.c a0 x2 (fun h1 =>
  nilc l0 fun a2 => (0 : Int) ≤ i0 ∧ i0 < (l1 : Int) ∧
  ldS h1 (a2.add (i0.toNat * 1)) fun x3 =>
  x0.size + x3.size ≤ 9223372036854775807 ∧
  Kn (x0 ++ x3) h1) E h0
  else
  Kn x0 h0)
structure vizardlaw05_ShaOwn.J2 (l0 : Option Addr) (l1 : Nat) (l2 : Nat) (m0 : Option Addr) (m1 : Nat) (m2 : Nat) (a0 : Option Addr) (b0 : Option Addr) (x0 : ByteArray) (y0 : ByteArray) (i0 : Int) (x1 : Bool) (Kn : ByteArray → Heap → Prop) (E : Value → Heap → Prop) (H : Heap) : Prop where
  h : vizardlaw05_ShaOwn.J2.vc l0 l1 l2 m0 m1 m2 a0 b0 x0 y0 i0 x1 Kn E H
def vizardlaw05_ShaOwn.J4.vc (l0 : Option Addr) (l1 : Nat) (l2 : Nat) (m0 : Option Addr) (m1 : Nat) (m2 : Nat) (a0 : Option Addr) (b0 : Option Addr) (x0 : ByteArray) (y0 : ByteArray) (i0 : Int) (x1 : Bool) (Kn : ByteArray → Heap → Prop) (E : Value → Heap → Prop) (h0 : Heap) : Prop :=
  (if x1 = true then
  nilc m0 fun a1 => (0 : Int) ≤ i0 ∧ i0 < (m1 : Int) ∧
  ldS h0 (a1.add (i0.toNat * 1)) fun x2 =>
  sha_Hash_Write.c b0 x2 (fun h1 =>
  nilc m0 fun a2 => (0 : Int) ≤ i0 ∧ i0 < (m1 : Int) ∧
  ldS h1 (a2.add (i0.toNat * 1)) fun x3 =>
  y0.size + x3.size ≤ 9223372036854775807 ∧
  Kn (y0 ++ x3) h1) E h0
  else
  Kn y0 h0)
structure vizardlaw05_ShaOwn.J4 (l0 : Option Addr) (l1 : Nat) (l2 : Nat) (m0 : Option Addr) (m1 : Nat) (m2 : Nat) (a0 : Option Addr) (b0 : Option Addr) (x0 : ByteArray) (y0 : ByteArray) (i0 : Int) (x1 : Bool) (Kn : ByteArray → Heap → Prop) (E : Value → Heap → Prop) (H : Heap) : Prop where
  h : vizardlaw05_ShaOwn.J4.vc l0 l1 l2 m0 m1 m2 a0 b0 x0 y0 i0 x1 Kn E H
def vizardlaw05_ShaOwn.J3.vc (l0 : Option Addr) (l1 : Nat) (l2 : Nat) (m0 : Option Addr) (m1 : Nat) (m2 : Nat) (a0 : Option Addr) (b0 : Option Addr) (x0 : ByteArray) (y0 : ByteArray) (i0 : Int) (Kn : ByteArray → Heap → Prop) (E : Value → Heap → Prop) (h0 : Heap) : Prop :=
  (if (decide (i0 < (m1 : Int))) = true then
  nilc m0 fun a1 => (0 : Int) ≤ i0 ∧ i0 < (m1 : Int) ∧
  ldS h0 (a1.add (i0.toNat * 1)) fun x1 =>
  vizardlaw05_ShaOwn.J4 l0 l1 l2 m0 m1 m2 a0 b0 x0 y0 i0 (decide ((x1.size : Int) < 500)) Kn E h0
  else
  vizardlaw05_ShaOwn.J4 l0 l1 l2 m0 m1 m2 a0 b0 x0 y0 i0 false Kn E h0)
structure vizardlaw05_ShaOwn.J3 (l0 : Option Addr) (l1 : Nat) (l2 : Nat) (m0 : Option Addr) (m1 : Nat) (m2 : Nat) (a0 : Option Addr) (b0 : Option Addr) (x0 : ByteArray) (y0 : ByteArray) (i0 : Int) (Kn : ByteArray → Heap → Prop) (E : Value → Heap → Prop) (H : Heap) : Prop where
  h : vizardlaw05_ShaOwn.J3.vc l0 l1 l2 m0 m1 m2 a0 b0 x0 y0 i0 Kn E H
def vizardlaw05_ShaOwn.J5.vc (l0 : Option Addr) (l1 : Nat) (l2 : Nat) (m0 : Option Addr) (m1 : Nat) (m2 : Nat) (a0 : Option Addr) (b0 : Option Addr) (x0 : ByteArray) (y0 : ByteArray) (i0 : Int) (Kn : Int → Heap → Prop) (E : Value → Heap → Prop) (h0 : Heap) : Prop :=
  Kn (IntKind.i64.wrap (i0 + 1)) h0
structure vizardlaw05_ShaOwn.J5 (l0 : Option Addr) (l1 : Nat) (l2 : Nat) (m0 : Option Addr) (m1 : Nat) (m2 : Nat) (a0 : Option Addr) (b0 : Option Addr) (x0 : ByteArray) (y0 : ByteArray) (i0 : Int) (Kn : Int → Heap → Prop) (E : Value → Heap → Prop) (H : Heap) : Prop where
  h : vizardlaw05_ShaOwn.J5.vc l0 l1 l2 m0 m1 m2 a0 b0 x0 y0 i0 Kn E H
def vizardlaw05_ShaOwn.W1.vc (l0 : Option Addr) (l1 : Nat) (l2 : Nat) (m0 : Option Addr) (m1 : Nat) (m2 : Nat) (a0 : Option Addr) (b0 : Option Addr) (x0 : ByteArray) (y0 : ByteArray) (i0 : Int) (Kx0 : ByteArray → ByteArray → Heap → Prop) (RR : ByteArray → ByteArray → Int → Heap → Prop) (E : Value → Heap → Prop) (h0 : Heap) : Prop :=
  (if (decide (i0 < 12)) = true then
  (if (decide (i0 < (l1 : Int))) = true then
  nilc l0 fun a1 => (0 : Int) ≤ i0 ∧ i0 < (l1 : Int) ∧
  ldS h0 (a1.add (i0.toNat * 1)) fun x1 =>
  vizardlaw05_ShaOwn.J2 l0 l1 l2 m0 m1 m2 a0 b0 x0 y0 i0 (decide ((x1.size : Int) < 500)) (fun x2 h1 =>
  vizardlaw05_ShaOwn.J3 l0 l1 l2 m0 m1 m2 a0 b0 x2 y0 i0 (fun y1 h2 =>
  vizardlaw05_ShaOwn.J5 l0 l1 l2 m0 m1 m2 a0 b0 x2 y1 i0 (fun i1 h3 =>
  RR x2 y1 i1 h3) E h2) E h1) E h0
  else
  vizardlaw05_ShaOwn.J2 l0 l1 l2 m0 m1 m2 a0 b0 x0 y0 i0 false (fun x3 h4 =>
  vizardlaw05_ShaOwn.J3 l0 l1 l2 m0 m1 m2 a0 b0 x3 y0 i0 (fun y2 h5 =>
  vizardlaw05_ShaOwn.J5 l0 l1 l2 m0 m1 m2 a0 b0 x3 y2 i0 (fun i2 h6 =>
  RR x3 y2 i2 h6) E h5) E h4) E h0)
  else
  Kx0 x0 y0 h0)
structure vizardlaw05_ShaOwn.W1 (l0 : Option Addr) (l1 : Nat) (l2 : Nat) (m0 : Option Addr) (m1 : Nat) (m2 : Nat) (a0 : Option Addr) (b0 : Option Addr) (x0 : ByteArray) (y0 : ByteArray) (i0 : Int) (Kx0 : ByteArray → ByteArray → Heap → Prop) (E : Value → Heap → Prop) (H : Heap) : Prop where
  h : Loop (fun (RR : ByteArray × ByteArray × Int → Heap → Prop) (s : ByteArray × ByteArray × Int) (H : Heap) => vizardlaw05_ShaOwn.W1.vc l0 l1 l2 m0 m1 m2 a0 b0 s.1 s.2.1 s.2.2 Kx0 (fun x0 y0 i0 H => RR (x0, y0, i0) H) E H) (x0, y0, i0) H
def vizardlaw05_ShaOwn.vc (l0 : Option Addr) (l1 : Nat) (l2 : Nat) (m0 : Option Addr) (m1 : Nat) (m2 : Nat) (K : Bool → Heap → Prop) (E : Value → Heap → Prop) (h0 : Heap) : Prop :=
  vizardlaw05_works.c (fun x0 h1 =>
  (if (!x0) = true then
  K false h1
  else
  sha_New.c (fun x1 h2 =>
  sha_New.c (fun x2 h3 =>
  vizardlaw05_ShaOwn.W1 l0 l1 l2 m0 m1 m2 x1 x2 (⟨#[]⟩ : ByteArray) (⟨#[]⟩ : ByteArray) 0 (fun x3 y0 h4 =>
  sha_Hash_Sum.c x1 (fun x4 h5 =>
  sha_Sum.c x3 (fun x5 h6 =>
  (if (x4.toList == x5.toList) = true then
  sha_Hash_Sum.c x2 (fun x6 h7 =>
  sha_Sum.c y0 (fun x7 h8 =>
  (if (x6.toList == x7.toList) = true then
  sha_Hash_Sum.c x1 (fun x8 h9 =>
  sha_Sum.c x3 (fun x9 h10 =>
  (if (x8.toList == x9.toList) = true then
  sha_Hash_Sum.c x1 (fun x10 h11 =>
  K ((x10.size : Int) == 32) h11) E h10
  else
  K false h10)) E h9) E h8
  else
  K false h8)) E h7) E h6
  else
  K false h6)) E h5) E h4) E h3) E h2) E h1)) E h0
structure vizardlaw05_ShaOwn.c (l0 : Option Addr) (l1 : Nat) (l2 : Nat) (m0 : Option Addr) (m1 : Nat) (m2 : Nat) (K : Bool → Heap → Prop) (E : Value → Heap → Prop) (H : Heap) : Prop where
  h : vizardlaw05_ShaOwn.vc l0 l1 l2 m0 m1 m2 (fun r0_0 H => ∃ H', Heap.Le H' H ∧ K r0_0 H') E H
def vizardlaw05_ShaOwn.F : FT := fun args K E H => match args with
  | [(.slice l0 l1 l2), (.slice m0 m1 m2)] => vizardlaw05_ShaOwn.c l0 l1 l2 m0 m1 m2 (fun r0_0 H => K (.bool r0_0) H) E H
  | _ => False
noncomputable def vizardlaw05_ShaOwn.Γ : FuncId → Option FT := Γof [(12, vizardlaw05_works.F), (13, sha_New.F), (14, sha_Hash_Write.F), (15, sha_Hash_Sum.F), (16, sha_Sum.F)]
theorem vizardlaw05_ShaOwn.hΓ : ∀ f F, vizardlaw05_ShaOwn.Γ f = some F → CalleeOk Tryd.prog f F := Γof_ok (List.forall_mem_cons.2 ⟨vizardlaw05_works.ok, List.forall_mem_cons.2 ⟨sha_New.ok, List.forall_mem_cons.2 ⟨sha_Hash_Write.ok, List.forall_mem_cons.2 ⟨sha_Hash_Sum.ok, List.forall_mem_cons.2 ⟨sha_Sum.ok, fun _ h => nomatch h⟩⟩⟩⟩⟩)
def vizardlaw05_ShaOwn.J2.t : CT := fun Q E fr H => lenIs 91 fr (slSl fr 0 fun l0 l1 l2 => slSl fr 1 fun m0 m1 m2 => slP fr 5 fun a0 => slP fr 6 fun b0 => slS fr 7 fun x0 => slS fr 8 fun y0 => slI fr 9 .i64 fun i0 => slB fr 29 fun x1 => vizardlaw05_ShaOwn.J2 l0 l1 l2 m0 m1 m2 a0 b0 x0 y0 i0 x1 (fun y7_0 H => Q .normal (mkF 91 [(0, (.slice l0 l1 l2)), (1, (.slice m0 m1 m2)), (5, (.pointer a0)), (6, (.pointer b0)), (7, (.string y7_0)), (8, (.string y0)), (9, (.int .i64 i0))]) H) E H)
noncomputable def vizardlaw05_ShaOwn.J2.plan : Plan := .go
theorem vizardlaw05_ShaOwn.J2.pok : PlanOk Tryd.prog vizardlaw05_ShaOwn.J2.plan (sub [1, 1, 1, 1, 0, 1, 0, 0, 1, 0, 0, 0, 1] vizardlaw05_ShaOwn.body) := by
  have e : PlanOk Tryd.prog vizardlaw05_ShaOwn.J2.plan (sub [1, 1, 1, 1, 0, 1, 0, 0, 1, 0, 0, 0, 1] vizardlaw05_ShaOwn.body) = (True) := by kernel_rfl
  exact e.mpr trivial
theorem vizardlaw05_ShaOwn.J2.eq (l0 : Option Addr) (l1 : Nat) (l2 : Nat) (m0 : Option Addr) (m1 : Nat) (m2 : Nat) (a0 : Option Addr) (b0 : Option Addr) (x0 : ByteArray) (y0 : ByteArray) (i0 : Int) (x1 : Bool) (Q : Ex → Fr → Heap → Prop) (E : Value → Heap → Prop) (H : Heap) :
    vizardlaw05_ShaOwn.J2.vc l0 l1 l2 m0 m1 m2 a0 b0 x0 y0 i0 x1 (fun y7_0 H => Q .normal (mkF 91 [(0, (.slice l0 l1 l2)), (1, (.slice m0 m1 m2)), (5, (.pointer a0)), (6, (.pointer b0)), (7, (.string y7_0)), (8, (.string y0)), (9, (.int .i64 i0))]) H) E H = keepT [0, 1, 5, 6, 7, 8, 9] [] (fun i => []) (wC Tryd.prog vizardlaw05_ShaOwn.Γ vizardlaw05_ShaOwn.J2.plan (sub [1, 1, 1, 1, 0, 1, 0, 0, 1, 0, 0, 0, 1] vizardlaw05_ShaOwn.body)) Q E (mkF 91 [(0, (.slice l0 l1 l2)), (1, (.slice m0 m1 m2)), (5, (.pointer a0)), (6, (.pointer b0)), (7, (.string x0)), (8, (.string y0)), (9, (.int .i64 i0)), (29, (.bool x1))]) H := by
  kernel_rfl
theorem vizardlaw05_ShaOwn.J2.ok : SoundCode Tryd.prog (sub [1, 1, 1, 1, 0, 1, 0, 0, 1, 0, 0, 0, 1] vizardlaw05_ShaOwn.body) vizardlaw05_ShaOwn.J2.t := by
  refine piece_sound (keepT_sound [0, 1, 5, 6, 7, 8, 9] [] (fun i => []) (wC_sound vizardlaw05_ShaOwn.hΓ Tryd.hm vizardlaw05_ShaOwn.J2.plan _ vizardlaw05_ShaOwn.J2.pok)) ?_
  intro Q E fr H h
  unfold vizardlaw05_ShaOwn.J2.t at h
  obtain ⟨hl, h⟩ := lenIs_elim h
  obtain ⟨l0, l1, l2, q0, h⟩ := slSl_elim h
  obtain ⟨m0, m1, m2, q1, h⟩ := slSl_elim h
  obtain ⟨a0, q5, h⟩ := slP_elim h
  obtain ⟨b0, q6, h⟩ := slP_elim h
  obtain ⟨x0, q7, h⟩ := slS_elim h
  obtain ⟨y0, q8, h⟩ := slS_elim h
  obtain ⟨i0, q9, h⟩ := slI_elim h
  obtain ⟨x1, q29, h⟩ := slB_elim h
  refine ⟨(mkF 91 [(0, (.slice l0 l1 l2)), (1, (.slice m0 m1 m2)), (5, (.pointer a0)), (6, (.pointer b0)), (7, (.string x0)), (8, (.string y0)), (9, (.int .i64 i0)), (29, (.bool x1))]), fun a ha => ha.mk (Nat.le_of_eq hl.symm) (List.forall_mem_cons.2 ⟨q0, List.forall_mem_cons.2 ⟨q1, List.forall_mem_cons.2 ⟨q5, List.forall_mem_cons.2 ⟨q6, List.forall_mem_cons.2 ⟨q7, List.forall_mem_cons.2 ⟨q8, List.forall_mem_cons.2 ⟨q9, List.forall_mem_cons.2 ⟨q29, fun _ h => nomatch h⟩⟩⟩⟩⟩⟩⟩⟩), ?_⟩
  have e := vizardlaw05_ShaOwn.J2.eq l0 l1 l2 m0 m1 m2 a0 b0 x0 y0 i0 x1 Q E H
  rw [← e]
  exact h.h
def vizardlaw05_ShaOwn.J4.t : CT := fun Q E fr H => lenIs 91 fr (slSl fr 0 fun l0 l1 l2 => slSl fr 1 fun m0 m1 m2 => slP fr 5 fun a0 => slP fr 6 fun b0 => slS fr 7 fun x0 => slS fr 8 fun y0 => slI fr 9 .i64 fun i0 => slB fr 53 fun x1 => vizardlaw05_ShaOwn.J4 l0 l1 l2 m0 m1 m2 a0 b0 x0 y0 i0 x1 (fun y8_0 H => Q .normal (mkF 91 [(0, (.slice l0 l1 l2)), (1, (.slice m0 m1 m2)), (5, (.pointer a0)), (6, (.pointer b0)), (7, (.string x0)), (8, (.string y8_0)), (9, (.int .i64 i0))]) H) E H)
noncomputable def vizardlaw05_ShaOwn.J4.plan : Plan := .go
theorem vizardlaw05_ShaOwn.J4.pok : PlanOk Tryd.prog vizardlaw05_ShaOwn.J4.plan (sub [1, 1, 1, 1, 0, 1, 0, 0, 1, 0, 0, 1, 1] vizardlaw05_ShaOwn.body) := by
  have e : PlanOk Tryd.prog vizardlaw05_ShaOwn.J4.plan (sub [1, 1, 1, 1, 0, 1, 0, 0, 1, 0, 0, 1, 1] vizardlaw05_ShaOwn.body) = (True) := by kernel_rfl
  exact e.mpr trivial
theorem vizardlaw05_ShaOwn.J4.eq (l0 : Option Addr) (l1 : Nat) (l2 : Nat) (m0 : Option Addr) (m1 : Nat) (m2 : Nat) (a0 : Option Addr) (b0 : Option Addr) (x0 : ByteArray) (y0 : ByteArray) (i0 : Int) (x1 : Bool) (Q : Ex → Fr → Heap → Prop) (E : Value → Heap → Prop) (H : Heap) :
    vizardlaw05_ShaOwn.J4.vc l0 l1 l2 m0 m1 m2 a0 b0 x0 y0 i0 x1 (fun y8_0 H => Q .normal (mkF 91 [(0, (.slice l0 l1 l2)), (1, (.slice m0 m1 m2)), (5, (.pointer a0)), (6, (.pointer b0)), (7, (.string x0)), (8, (.string y8_0)), (9, (.int .i64 i0))]) H) E H = keepT [0, 1, 5, 6, 7, 8, 9] [] (fun i => []) (wC Tryd.prog vizardlaw05_ShaOwn.Γ vizardlaw05_ShaOwn.J4.plan (sub [1, 1, 1, 1, 0, 1, 0, 0, 1, 0, 0, 1, 1] vizardlaw05_ShaOwn.body)) Q E (mkF 91 [(0, (.slice l0 l1 l2)), (1, (.slice m0 m1 m2)), (5, (.pointer a0)), (6, (.pointer b0)), (7, (.string x0)), (8, (.string y0)), (9, (.int .i64 i0)), (53, (.bool x1))]) H := by
  kernel_rfl
theorem vizardlaw05_ShaOwn.J4.ok : SoundCode Tryd.prog (sub [1, 1, 1, 1, 0, 1, 0, 0, 1, 0, 0, 1, 1] vizardlaw05_ShaOwn.body) vizardlaw05_ShaOwn.J4.t := by
  refine piece_sound (keepT_sound [0, 1, 5, 6, 7, 8, 9] [] (fun i => []) (wC_sound vizardlaw05_ShaOwn.hΓ Tryd.hm vizardlaw05_ShaOwn.J4.plan _ vizardlaw05_ShaOwn.J4.pok)) ?_
  intro Q E fr H h
  unfold vizardlaw05_ShaOwn.J4.t at h
  obtain ⟨hl, h⟩ := lenIs_elim h
  obtain ⟨l0, l1, l2, q0, h⟩ := slSl_elim h
  obtain ⟨m0, m1, m2, q1, h⟩ := slSl_elim h
  obtain ⟨a0, q5, h⟩ := slP_elim h
  obtain ⟨b0, q6, h⟩ := slP_elim h
  obtain ⟨x0, q7, h⟩ := slS_elim h
  obtain ⟨y0, q8, h⟩ := slS_elim h
  obtain ⟨i0, q9, h⟩ := slI_elim h
  obtain ⟨x1, q53, h⟩ := slB_elim h
  refine ⟨(mkF 91 [(0, (.slice l0 l1 l2)), (1, (.slice m0 m1 m2)), (5, (.pointer a0)), (6, (.pointer b0)), (7, (.string x0)), (8, (.string y0)), (9, (.int .i64 i0)), (53, (.bool x1))]), fun a ha => ha.mk (Nat.le_of_eq hl.symm) (List.forall_mem_cons.2 ⟨q0, List.forall_mem_cons.2 ⟨q1, List.forall_mem_cons.2 ⟨q5, List.forall_mem_cons.2 ⟨q6, List.forall_mem_cons.2 ⟨q7, List.forall_mem_cons.2 ⟨q8, List.forall_mem_cons.2 ⟨q9, List.forall_mem_cons.2 ⟨q53, fun _ h => nomatch h⟩⟩⟩⟩⟩⟩⟩⟩), ?_⟩
  have e := vizardlaw05_ShaOwn.J4.eq l0 l1 l2 m0 m1 m2 a0 b0 x0 y0 i0 x1 Q E H
  rw [← e]
  exact h.h
def vizardlaw05_ShaOwn.J3.t : CT := fun Q E fr H => lenIs 91 fr (slSl fr 0 fun l0 l1 l2 => slSl fr 1 fun m0 m1 m2 => slP fr 5 fun a0 => slP fr 6 fun b0 => slS fr 7 fun x0 => slS fr 8 fun y0 => slI fr 9 .i64 fun i0 => vizardlaw05_ShaOwn.J3 l0 l1 l2 m0 m1 m2 a0 b0 x0 y0 i0 (fun y8_0 H => Q .normal (mkF 91 [(0, (.slice l0 l1 l2)), (1, (.slice m0 m1 m2)), (5, (.pointer a0)), (6, (.pointer b0)), (7, (.string x0)), (8, (.string y8_0)), (9, (.int .i64 i0))]) H) E H)
noncomputable def vizardlaw05_ShaOwn.J3.plan : Plan := .seq (.go) (.use vizardlaw05_ShaOwn.J4.t)
theorem vizardlaw05_ShaOwn.J3.pok : PlanOk Tryd.prog vizardlaw05_ShaOwn.J3.plan (sub [1, 1, 1, 1, 0, 1, 0, 0, 1, 0, 0, 1] vizardlaw05_ShaOwn.body) := by
  have e : PlanOk Tryd.prog vizardlaw05_ShaOwn.J3.plan (sub [1, 1, 1, 1, 0, 1, 0, 0, 1, 0, 0, 1] vizardlaw05_ShaOwn.body) = ((True) ∧ (SoundCode Tryd.prog (sub [1, 1, 1, 1, 0, 1, 0, 0, 1, 0, 0, 1, 1] vizardlaw05_ShaOwn.body) vizardlaw05_ShaOwn.J4.t)) := by kernel_rfl
  exact e.mpr ⟨trivial, vizardlaw05_ShaOwn.J4.ok⟩
theorem vizardlaw05_ShaOwn.J3.eq (l0 : Option Addr) (l1 : Nat) (l2 : Nat) (m0 : Option Addr) (m1 : Nat) (m2 : Nat) (a0 : Option Addr) (b0 : Option Addr) (x0 : ByteArray) (y0 : ByteArray) (i0 : Int) (Q : Ex → Fr → Heap → Prop) (E : Value → Heap → Prop) (H : Heap) :
    vizardlaw05_ShaOwn.J3.vc l0 l1 l2 m0 m1 m2 a0 b0 x0 y0 i0 (fun y8_0 H => Q .normal (mkF 91 [(0, (.slice l0 l1 l2)), (1, (.slice m0 m1 m2)), (5, (.pointer a0)), (6, (.pointer b0)), (7, (.string x0)), (8, (.string y8_0)), (9, (.int .i64 i0))]) H) E H = keepT [0, 1, 5, 6, 7, 8, 9] [] (fun i => []) (wC Tryd.prog vizardlaw05_ShaOwn.Γ vizardlaw05_ShaOwn.J3.plan (sub [1, 1, 1, 1, 0, 1, 0, 0, 1, 0, 0, 1] vizardlaw05_ShaOwn.body)) Q E (mkF 91 [(0, (.slice l0 l1 l2)), (1, (.slice m0 m1 m2)), (5, (.pointer a0)), (6, (.pointer b0)), (7, (.string x0)), (8, (.string y0)), (9, (.int .i64 i0))]) H := by
  kernel_rfl
theorem vizardlaw05_ShaOwn.J3.ok : SoundCode Tryd.prog (sub [1, 1, 1, 1, 0, 1, 0, 0, 1, 0, 0, 1] vizardlaw05_ShaOwn.body) vizardlaw05_ShaOwn.J3.t := by
  refine piece_sound (keepT_sound [0, 1, 5, 6, 7, 8, 9] [] (fun i => []) (wC_sound vizardlaw05_ShaOwn.hΓ Tryd.hm vizardlaw05_ShaOwn.J3.plan _ vizardlaw05_ShaOwn.J3.pok)) ?_
  intro Q E fr H h
  unfold vizardlaw05_ShaOwn.J3.t at h
  obtain ⟨hl, h⟩ := lenIs_elim h
  obtain ⟨l0, l1, l2, q0, h⟩ := slSl_elim h
  obtain ⟨m0, m1, m2, q1, h⟩ := slSl_elim h
  obtain ⟨a0, q5, h⟩ := slP_elim h
  obtain ⟨b0, q6, h⟩ := slP_elim h
  obtain ⟨x0, q7, h⟩ := slS_elim h
  obtain ⟨y0, q8, h⟩ := slS_elim h
  obtain ⟨i0, q9, h⟩ := slI_elim h
  refine ⟨(mkF 91 [(0, (.slice l0 l1 l2)), (1, (.slice m0 m1 m2)), (5, (.pointer a0)), (6, (.pointer b0)), (7, (.string x0)), (8, (.string y0)), (9, (.int .i64 i0))]), fun a ha => ha.mk (Nat.le_of_eq hl.symm) (List.forall_mem_cons.2 ⟨q0, List.forall_mem_cons.2 ⟨q1, List.forall_mem_cons.2 ⟨q5, List.forall_mem_cons.2 ⟨q6, List.forall_mem_cons.2 ⟨q7, List.forall_mem_cons.2 ⟨q8, List.forall_mem_cons.2 ⟨q9, fun _ h => nomatch h⟩⟩⟩⟩⟩⟩⟩), ?_⟩
  have e := vizardlaw05_ShaOwn.J3.eq l0 l1 l2 m0 m1 m2 a0 b0 x0 y0 i0 Q E H
  rw [← e]
  exact h.h
def vizardlaw05_ShaOwn.J5.t : CT := fun Q E fr H => lenIs 91 fr (slSl fr 0 fun l0 l1 l2 => slSl fr 1 fun m0 m1 m2 => slP fr 5 fun a0 => slP fr 6 fun b0 => slS fr 7 fun x0 => slS fr 8 fun y0 => slI fr 9 .i64 fun i0 => vizardlaw05_ShaOwn.J5 l0 l1 l2 m0 m1 m2 a0 b0 x0 y0 i0 (fun y9_0 H => Q .normal (mkF 91 [(0, (.slice l0 l1 l2)), (1, (.slice m0 m1 m2)), (5, (.pointer a0)), (6, (.pointer b0)), (7, (.string x0)), (8, (.string y0)), (9, (.int .i64 y9_0))]) H) E H)
noncomputable def vizardlaw05_ShaOwn.J5.plan : Plan := .go
theorem vizardlaw05_ShaOwn.J5.pok : PlanOk Tryd.prog vizardlaw05_ShaOwn.J5.plan (sub [1, 1, 1, 1, 0, 1, 0, 0, 1, 1] vizardlaw05_ShaOwn.body) := by
  have e : PlanOk Tryd.prog vizardlaw05_ShaOwn.J5.plan (sub [1, 1, 1, 1, 0, 1, 0, 0, 1, 1] vizardlaw05_ShaOwn.body) = (True) := by kernel_rfl
  exact e.mpr trivial
theorem vizardlaw05_ShaOwn.J5.eq (l0 : Option Addr) (l1 : Nat) (l2 : Nat) (m0 : Option Addr) (m1 : Nat) (m2 : Nat) (a0 : Option Addr) (b0 : Option Addr) (x0 : ByteArray) (y0 : ByteArray) (i0 : Int) (Q : Ex → Fr → Heap → Prop) (E : Value → Heap → Prop) (H : Heap) :
    vizardlaw05_ShaOwn.J5.vc l0 l1 l2 m0 m1 m2 a0 b0 x0 y0 i0 (fun y9_0 H => Q .normal (mkF 91 [(0, (.slice l0 l1 l2)), (1, (.slice m0 m1 m2)), (5, (.pointer a0)), (6, (.pointer b0)), (7, (.string x0)), (8, (.string y0)), (9, (.int .i64 y9_0))]) H) E H = keepT [0, 1, 5, 6, 7, 8, 9] [] (fun i => []) (wC Tryd.prog vizardlaw05_ShaOwn.Γ vizardlaw05_ShaOwn.J5.plan (sub [1, 1, 1, 1, 0, 1, 0, 0, 1, 1] vizardlaw05_ShaOwn.body)) Q E (mkF 91 [(0, (.slice l0 l1 l2)), (1, (.slice m0 m1 m2)), (5, (.pointer a0)), (6, (.pointer b0)), (7, (.string x0)), (8, (.string y0)), (9, (.int .i64 i0))]) H := by
  kernel_rfl
theorem vizardlaw05_ShaOwn.J5.ok : SoundCode Tryd.prog (sub [1, 1, 1, 1, 0, 1, 0, 0, 1, 1] vizardlaw05_ShaOwn.body) vizardlaw05_ShaOwn.J5.t := by
  refine piece_sound (keepT_sound [0, 1, 5, 6, 7, 8, 9] [] (fun i => []) (wC_sound vizardlaw05_ShaOwn.hΓ Tryd.hm vizardlaw05_ShaOwn.J5.plan _ vizardlaw05_ShaOwn.J5.pok)) ?_
  intro Q E fr H h
  unfold vizardlaw05_ShaOwn.J5.t at h
  obtain ⟨hl, h⟩ := lenIs_elim h
  obtain ⟨l0, l1, l2, q0, h⟩ := slSl_elim h
  obtain ⟨m0, m1, m2, q1, h⟩ := slSl_elim h
  obtain ⟨a0, q5, h⟩ := slP_elim h
  obtain ⟨b0, q6, h⟩ := slP_elim h
  obtain ⟨x0, q7, h⟩ := slS_elim h
  obtain ⟨y0, q8, h⟩ := slS_elim h
  obtain ⟨i0, q9, h⟩ := slI_elim h
  refine ⟨(mkF 91 [(0, (.slice l0 l1 l2)), (1, (.slice m0 m1 m2)), (5, (.pointer a0)), (6, (.pointer b0)), (7, (.string x0)), (8, (.string y0)), (9, (.int .i64 i0))]), fun a ha => ha.mk (Nat.le_of_eq hl.symm) (List.forall_mem_cons.2 ⟨q0, List.forall_mem_cons.2 ⟨q1, List.forall_mem_cons.2 ⟨q5, List.forall_mem_cons.2 ⟨q6, List.forall_mem_cons.2 ⟨q7, List.forall_mem_cons.2 ⟨q8, List.forall_mem_cons.2 ⟨q9, fun _ h => nomatch h⟩⟩⟩⟩⟩⟩⟩), ?_⟩
  have e := vizardlaw05_ShaOwn.J5.eq l0 l1 l2 m0 m1 m2 a0 b0 x0 y0 i0 Q E H
  rw [← e]
  exact h.h
def vizardlaw05_ShaOwn.W1.t : CT := fun Q E fr H => lenIs 91 fr (slSl fr 0 fun l0 l1 l2 => slSl fr 1 fun m0 m1 m2 => slP fr 5 fun a0 => slP fr 6 fun b0 => slS fr 7 fun x0 => slS fr 8 fun y0 => slI fr 9 .i64 fun i0 => vizardlaw05_ShaOwn.W1 l0 l1 l2 m0 m1 m2 a0 b0 x0 y0 i0 (fun y7_0 y8_0 H => Q (.exit 0) (mkF 91 [(5, (.pointer a0)), (6, (.pointer b0)), (7, (.string y7_0)), (8, (.string y8_0))]) H) E H)
noncomputable def vizardlaw05_ShaOwn.W1.plan : Plan := .seq (.go) (.seq (.block (.seq (.seq (.go) (.use vizardlaw05_ShaOwn.J2.t)) (.use vizardlaw05_ShaOwn.J3.t))) (.use vizardlaw05_ShaOwn.J5.t))
theorem vizardlaw05_ShaOwn.W1.pok : PlanOk Tryd.prog vizardlaw05_ShaOwn.W1.plan (sub [1, 1, 1, 1, 0, 1, 0, 0] vizardlaw05_ShaOwn.body) := by
  have e : PlanOk Tryd.prog vizardlaw05_ShaOwn.W1.plan (sub [1, 1, 1, 1, 0, 1, 0, 0] vizardlaw05_ShaOwn.body) = ((True) ∧ ((((True) ∧ (SoundCode Tryd.prog (sub [1, 1, 1, 1, 0, 1, 0, 0, 1, 0, 0, 0, 1] vizardlaw05_ShaOwn.body) vizardlaw05_ShaOwn.J2.t)) ∧ (SoundCode Tryd.prog (sub [1, 1, 1, 1, 0, 1, 0, 0, 1, 0, 0, 1] vizardlaw05_ShaOwn.body) vizardlaw05_ShaOwn.J3.t)) ∧ (SoundCode Tryd.prog (sub [1, 1, 1, 1, 0, 1, 0, 0, 1, 1] vizardlaw05_ShaOwn.body) vizardlaw05_ShaOwn.J5.t))) := by kernel_rfl
  exact e.mpr ⟨trivial, ⟨⟨⟨trivial, vizardlaw05_ShaOwn.J2.ok⟩, vizardlaw05_ShaOwn.J3.ok⟩, vizardlaw05_ShaOwn.J5.ok⟩⟩
theorem vizardlaw05_ShaOwn.W1.eq (l0 : Option Addr) (l1 : Nat) (l2 : Nat) (m0 : Option Addr) (m1 : Nat) (m2 : Nat) (a0 : Option Addr) (b0 : Option Addr) (Q : Ex → Fr → Heap → Prop) (E : Value → Heap → Prop) (RR : Fr → Heap → Prop) (s : ByteArray × ByteArray × Int) (H : Heap) :
    (fun (RR : ByteArray × ByteArray × Int → Heap → Prop) (s : ByteArray × ByteArray × Int) (H : Heap) => vizardlaw05_ShaOwn.W1.vc l0 l1 l2 m0 m1 m2 a0 b0 s.1 s.2.1 s.2.2 (fun y7_0 y8_0 H => Q (.exit 0) (mkF 91 [(5, (.pointer a0)), (6, (.pointer b0)), (7, (.string y7_0)), (8, (.string y8_0))]) H) (fun x0 y0 i0 H => RR (x0, y0, i0) H) E H) (fun s' H' => RR ((fun (s : ByteArray × ByteArray × Int) => (mkF 91 [(0, (.slice l0 l1 l2)), (1, (.slice m0 m1 m2)), (5, (.pointer a0)), (6, (.pointer b0)), (7, (.string s.1)), (8, (.string s.2.1)), (9, (.int .i64 s.2.2))])) s') H') s H = keepT [0, 1, 5, 6, 7, 8, 9] [] (fun i => if i = 0 then [5, 6, 7, 8] else []) (wC Tryd.prog vizardlaw05_ShaOwn.Γ vizardlaw05_ShaOwn.W1.plan (sub [1, 1, 1, 1, 0, 1, 0, 0] vizardlaw05_ShaOwn.body)) (fun e fr' H' => match e with | .normal => RR fr' H' | .exit id => Q (.exit id) fr' H' | .ret => Q .ret fr' H') E ((fun (s : ByteArray × ByteArray × Int) => (mkF 91 [(0, (.slice l0 l1 l2)), (1, (.slice m0 m1 m2)), (5, (.pointer a0)), (6, (.pointer b0)), (7, (.string s.1)), (8, (.string s.2.1)), (9, (.int .i64 s.2.2))])) s) H := by
  kernel_rfl
theorem vizardlaw05_ShaOwn.W1.ok : SoundCode Tryd.prog (sub [1, 1, 1, 1, 0, 1, 0] vizardlaw05_ShaOwn.body) vizardlaw05_ShaOwn.W1.t := by
  have e : (sub [1, 1, 1, 1, 0, 1, 0] vizardlaw05_ShaOwn.body) = .loop (sub [1, 1, 1, 1, 0, 1, 0, 0] vizardlaw05_ShaOwn.body) := by kernel_rfl
  rw [e]
  refine piece_sound (loopN_sound (keepT_sound [0, 1, 5, 6, 7, 8, 9] [] (fun i => if i = 0 then [5, 6, 7, 8] else []) (wC_sound vizardlaw05_ShaOwn.hΓ Tryd.hm vizardlaw05_ShaOwn.W1.plan _ vizardlaw05_ShaOwn.W1.pok))) ?_
  intro Q E fr H h
  unfold vizardlaw05_ShaOwn.W1.t at h
  obtain ⟨hl, h⟩ := lenIs_elim h
  obtain ⟨l0, l1, l2, q0, h⟩ := slSl_elim h
  obtain ⟨m0, m1, m2, q1, h⟩ := slSl_elim h
  obtain ⟨a0, q5, h⟩ := slP_elim h
  obtain ⟨b0, q6, h⟩ := slP_elim h
  obtain ⟨x0, q7, h⟩ := slS_elim h
  obtain ⟨y0, q8, h⟩ := slS_elim h
  obtain ⟨i0, q9, h⟩ := slI_elim h
  obtain ⟨m, h⟩ := h.h
  refine ⟨(mkF 91 [(0, (.slice l0 l1 l2)), (1, (.slice m0 m1 m2)), (5, (.pointer a0)), (6, (.pointer b0)), (7, (.string x0)), (8, (.string y0)), (9, (.int .i64 i0))]), fun a ha => ha.mk (Nat.le_of_eq hl.symm) (List.forall_mem_cons.2 ⟨q0, List.forall_mem_cons.2 ⟨q1, List.forall_mem_cons.2 ⟨q5, List.forall_mem_cons.2 ⟨q6, List.forall_mem_cons.2 ⟨q7, List.forall_mem_cons.2 ⟨q8, List.forall_mem_cons.2 ⟨q9, fun _ h => nomatch h⟩⟩⟩⟩⟩⟩⟩), m, ?_⟩
  have e := loopS_eq (B := (fun (RR : ByteArray × ByteArray × Int → Heap → Prop) (s : ByteArray × ByteArray × Int) (H : Heap) => vizardlaw05_ShaOwn.W1.vc l0 l1 l2 m0 m1 m2 a0 b0 s.1 s.2.1 s.2.2 (fun y7_0 y8_0 H => Q (.exit 0) (mkF 91 [(5, (.pointer a0)), (6, (.pointer b0)), (7, (.string y7_0)), (8, (.string y8_0))]) H) (fun x0 y0 i0 H => RR (x0, y0, i0) H) E H)) (A := keepT [0, 1, 5, 6, 7, 8, 9] [] (fun i => if i = 0 then [5, 6, 7, 8] else []) (wC Tryd.prog vizardlaw05_ShaOwn.Γ vizardlaw05_ShaOwn.W1.plan (sub [1, 1, 1, 1, 0, 1, 0, 0] vizardlaw05_ShaOwn.body))) (m := (fun (s : ByteArray × ByteArray × Int) => (mkF 91 [(0, (.slice l0 l1 l2)), (1, (.slice m0 m1 m2)), (5, (.pointer a0)), (6, (.pointer b0)), (7, (.string s.1)), (8, (.string s.2.1)), (9, (.int .i64 s.2.2))]))) (Q := Q) (E := E) (fun RR s H => vizardlaw05_ShaOwn.W1.eq l0 l1 l2 m0 m1 m2 a0 b0 Q E RR s H) m (x0, y0, i0) H
  exact cast e h
noncomputable def vizardlaw05_ShaOwn.plan : Plan := .seq (.go) (.seq (.go) (.seq (.go) (.seq (.go) (.seq (.seq (.go) (.block (.use vizardlaw05_ShaOwn.W1.t))) (.go)))))
theorem vizardlaw05_ShaOwn.pok : PlanOk Tryd.prog vizardlaw05_ShaOwn.plan vizardlaw05_ShaOwn.body := by
  have e : PlanOk Tryd.prog vizardlaw05_ShaOwn.plan vizardlaw05_ShaOwn.body = ((True) ∧ ((True) ∧ ((True) ∧ ((True) ∧ (((True) ∧ (SoundCode Tryd.prog (sub [1, 1, 1, 1, 0, 1, 0] vizardlaw05_ShaOwn.body) vizardlaw05_ShaOwn.W1.t)) ∧ (True)))))) := by kernel_rfl
  exact e.mpr ⟨trivial, ⟨trivial, ⟨trivial, ⟨trivial, ⟨⟨trivial, vizardlaw05_ShaOwn.W1.ok⟩, trivial⟩⟩⟩⟩⟩
theorem vizardlaw05_ShaOwn.eq (l0 : Option Addr) (l1 : Nat) (l2 : Nat) (m0 : Option Addr) (m1 : Nat) (m2 : Nat) (K : Value → Heap → Prop) (E : Value → Heap → Prop) (H : Heap) :
    fnT Tryd.prog Tryd.f4 (wC Tryd.prog vizardlaw05_ShaOwn.Γ vizardlaw05_ShaOwn.plan vizardlaw05_ShaOwn.body) [(.slice l0 l1 l2), (.slice m0 m1 m2)] K E H = vizardlaw05_ShaOwn.vc l0 l1 l2 m0 m1 m2 (fun r0_0 H => K (.bool r0_0) H) E H := by
  kernel_rfl
theorem vizardlaw05_ShaOwn.Fe {args : List Value} {K E : Value → Heap → Prop} {H : Heap} (h : vizardlaw05_ShaOwn.F args K E H) : ∃ l0 l1 l2 m0 m1 m2, args = [(.slice l0 l1 l2), (.slice m0 m1 m2)] ∧ vizardlaw05_ShaOwn.c l0 l1 l2 m0 m1 m2 (fun r0_0 H => K (.bool r0_0) H) E H := by
  unfold vizardlaw05_ShaOwn.F at h
  split at h
  · exact ⟨_, _, _, _, _, _, rfl, h⟩
  · exact h.elim
theorem vizardlaw05_ShaOwn.ok : CalleeOk Tryd.prog 4 vizardlaw05_ShaOwn.F :=
  callee_ok vizardlaw05_ShaOwn.hΓ (fn := Tryd.f4) (c := vizardlaw05_ShaOwn.body) (T := wC Tryd.prog vizardlaw05_ShaOwn.Γ vizardlaw05_ShaOwn.plan vizardlaw05_ShaOwn.body) (by kernel_rfl) (by kernel_rfl) (by kernel_rfl) (wC_sound vizardlaw05_ShaOwn.hΓ Tryd.hm vizardlaw05_ShaOwn.plan _ vizardlaw05_ShaOwn.pok) fun _ K E H h => by
    obtain ⟨z0, z1, z2, z3, z4, z5, e, h⟩ := vizardlaw05_ShaOwn.Fe h
    subst e
    have h2 : vizardlaw05_ShaOwn.vc z0 z1 z2 z3 z4 z5 (fun r0_0 H => ∃ H', Heap.Le H' H ∧ K (.bool r0_0) H') E H := h.h
    rw [vizardlaw05_ShaOwn.eq z0 z1 z2 z3 z4 z5 (Fg K) E H]
    exact h2
end Go.Sh
