/- PRINTED by a program (sh.py): what the walk over each function asks, and that it asks just that. -/
import Derived.Test.YtjbfammgnlnloaaDoorOnceC
namespace Go.Sh
open Go.Proofs
set_option linter.unusedVariables false
set_option maxRecDepth 8000
/-! vizard/seal.New -/
noncomputable def seal_New.body : Code := Tryd.f23.body.getD .skip
def seal_New.vc (secret0 : ByteArray) (K : Option Addr → Heap → Prop) (E : Value → Heap → Prop) (h0 : Heap) : Prop :=
  newB (.cells #[(.string secret0), (.int .u32 0), (.int .i32 0), (.int .u32 0), (.int .u32 0), (.int .u32 0), (.int .u32 0), (.int .u32 0), (.int .u32 0), (.int .u32 0), (.int .u32 0), (.int .u32 0), (.slice none 0 0), (.int .u64 0), (.int .u32 0), (.int .u32 0), (.int .u32 0), (.int .u32 0), (.int .u32 0), (.int .u32 0), (.int .u32 0), (.int .u32 0), (.slice none 0 0), (.int .u64 0), (.int .u32 0), (.int .u32 0), (.int .u32 0), (.int .u32 0), (.int .u32 0), (.int .u32 0), (.int .u32 0), (.int .u32 0), (.slice none 0 0), (.int .u64 0), (.int .u32 0), (.int .u32 0), (.int .u32 0), (.int .u32 0), (.int .u32 0), (.int .u32 0), (.int .u32 0), (.int .u32 0), (.slice none 0 0), (.int .u64 0), (.int .i64 0), (.int .i64 0)] 80) (fun b0 h1 =>
  K (some (⟨b0, 0, none⟩ : Addr)) h1) h0
structure seal_New.c (secret0 : ByteArray) (K : Option Addr → Heap → Prop) (E : Value → Heap → Prop) (H : Heap) : Prop where
  h : seal_New.vc secret0 (fun r0_0 H => ∃ H', Heap.Le H' H ∧ K r0_0 H') E H
def seal_New.F : FT := fun args K E H => match args with
  | [(.string secret0)] => seal_New.c secret0 (fun r0_0 H => K (.pointer r0_0) H) E H
  | _ => False
noncomputable def seal_New.Γ : FuncId → Option FT := Γof []
theorem seal_New.hΓ : ∀ f F, seal_New.Γ f = some F → CalleeOk Tryd.prog f F := Γof_ok (fun _ h => nomatch h)
noncomputable def seal_New.plan : Plan := .go
theorem seal_New.pok : PlanOk Tryd.prog seal_New.plan seal_New.body := by
  have e : PlanOk Tryd.prog seal_New.plan seal_New.body = (True) := by kernel_rfl
  exact e.mpr trivial
theorem seal_New.eq (secret0 : ByteArray) (K : Value → Heap → Prop) (E : Value → Heap → Prop) (H : Heap) :
    fnT Tryd.prog Tryd.f23 (wC Tryd.prog seal_New.Γ seal_New.plan seal_New.body) [(.string secret0)] K E H = seal_New.vc secret0 (fun r0_0 H => K (.pointer r0_0) H) E H := by
  kernel_rfl
theorem seal_New.Fe {args : List Value} {K E : Value → Heap → Prop} {H : Heap} (h : seal_New.F args K E H) : ∃ secret0, args = [(.string secret0)] ∧ seal_New.c secret0 (fun r0_0 H => K (.pointer r0_0) H) E H := by
  unfold seal_New.F at h
  split at h
  · exact ⟨_, rfl, h⟩
  · exact h.elim
theorem seal_New.ok : CalleeOk Tryd.prog 23 seal_New.F :=
  callee_ok seal_New.hΓ (fn := Tryd.f23) (c := seal_New.body) (T := wC Tryd.prog seal_New.Γ seal_New.plan seal_New.body) (by kernel_rfl) (by kernel_rfl) (by kernel_rfl) (wC_sound seal_New.hΓ Tryd.hm seal_New.plan _ seal_New.pok) fun _ K E H h => by
    obtain ⟨z0, e, h⟩ := seal_New.Fe h
    subst e
    have h2 : seal_New.vc z0 (fun r0_0 H => ∃ H', Heap.Le H' H ∧ K (.pointer r0_0) H') E H := h.h
    rw [seal_New.eq z0 (Fg K) E H]
    exact h2

/-! (*sync/atomic.Int64).Add -/
noncomputable def sync_atomic_Int64_Add.body : Code := Tryd.f40.body.getD .skip
def sync_atomic_Int64_Add.vc (x0 : Option Addr) (delta0 : Int) (K : Int → Heap → Prop) (E : Value → Heap → Prop) (h0 : Heap) : Prop :=
  nilc x0 fun a0 =>
  sync_atomic_AddInt64.c (some (a0.add 0)) delta0 K E h0
structure sync_atomic_Int64_Add.c (x0 : Option Addr) (delta0 : Int) (K : Int → Heap → Prop) (E : Value → Heap → Prop) (H : Heap) : Prop where
  h : sync_atomic_Int64_Add.vc x0 delta0 (fun r0_0 H => ∃ H', Heap.Le H' H ∧ K r0_0 H') E H
def sync_atomic_Int64_Add.F : FT := fun args K E H => match args with
  | [(.pointer x0), (.int .i64 delta0)] => sync_atomic_Int64_Add.c x0 delta0 (fun r0_0 H => K (.int .i64 r0_0) H) E H
  | _ => False
noncomputable def sync_atomic_Int64_Add.Γ : FuncId → Option FT := Γof [(52, sync_atomic_AddInt64.F)]
theorem sync_atomic_Int64_Add.hΓ : ∀ f F, sync_atomic_Int64_Add.Γ f = some F → CalleeOk Tryd.prog f F := Γof_ok (List.forall_mem_cons.2 ⟨sync_atomic_AddInt64.ok, fun _ h => nomatch h⟩)
noncomputable def sync_atomic_Int64_Add.plan : Plan := .go
theorem sync_atomic_Int64_Add.pok : PlanOk Tryd.prog sync_atomic_Int64_Add.plan sync_atomic_Int64_Add.body := by
  have e : PlanOk Tryd.prog sync_atomic_Int64_Add.plan sync_atomic_Int64_Add.body = (True) := by kernel_rfl
  exact e.mpr trivial
theorem sync_atomic_Int64_Add.eq (x0 : Option Addr) (delta0 : Int) (K : Value → Heap → Prop) (E : Value → Heap → Prop) (H : Heap) :
    fnT Tryd.prog Tryd.f40 (wC Tryd.prog sync_atomic_Int64_Add.Γ sync_atomic_Int64_Add.plan sync_atomic_Int64_Add.body) [(.pointer x0), (.int .i64 delta0)] K E H = sync_atomic_Int64_Add.vc x0 delta0 (fun r0_0 H => K (.int .i64 r0_0) H) E H := by
  kernel_rfl
theorem sync_atomic_Int64_Add.Fe {args : List Value} {K E : Value → Heap → Prop} {H : Heap} (h : sync_atomic_Int64_Add.F args K E H) : ∃ x0 delta0, args = [(.pointer x0), (.int .i64 delta0)] ∧ sync_atomic_Int64_Add.c x0 delta0 (fun r0_0 H => K (.int .i64 r0_0) H) E H := by
  unfold sync_atomic_Int64_Add.F at h
  split at h
  · exact ⟨_, _, rfl, h⟩
  · exact h.elim
theorem sync_atomic_Int64_Add.ok : CalleeOk Tryd.prog 40 sync_atomic_Int64_Add.F :=
  callee_ok sync_atomic_Int64_Add.hΓ (fn := Tryd.f40) (c := sync_atomic_Int64_Add.body) (T := wC Tryd.prog sync_atomic_Int64_Add.Γ sync_atomic_Int64_Add.plan sync_atomic_Int64_Add.body) (by kernel_rfl) (by kernel_rfl) (by kernel_rfl) (wC_sound sync_atomic_Int64_Add.hΓ Tryd.hm sync_atomic_Int64_Add.plan _ sync_atomic_Int64_Add.pok) fun _ K E H h => by
    obtain ⟨z0, z1, e, h⟩ := sync_atomic_Int64_Add.Fe h
    subst e
    have h2 : sync_atomic_Int64_Add.vc z0 z1 (fun r0_0 H => ∃ H', Heap.Le H' H ∧ K (.int .i64 r0_0) H') E H := h.h
    rw [sync_atomic_Int64_Add.eq z0 z1 (Fg K) E H]
    exact h2

/-! (*vizard/seal.Key).parts -/
noncomputable def seal_Key_parts.body : Code := Tryd.f53.body.getD .skip
def seal_Key_parts.vc (k0 : Option Addr) (K : Heap → Prop) (E : Value → Heap → Prop) (h0 : Heap) : Prop :=
  newB (.cells #[(.pointer k0)] 36) (fun b0 h1 =>
  ldP h1 (⟨b0, 0, none⟩ : Addr) fun x0 =>
  nilc x0 fun a0 =>
  sync_Once_Do.c (some (a0.add 1)) (.func (.func 67) #[] #[(.pointer (some (⟨b0, 0, none⟩ : Addr)))]) K E h1) h0
structure seal_Key_parts.c (k0 : Option Addr) (K : Heap → Prop) (E : Value → Heap → Prop) (H : Heap) : Prop where
  h : seal_Key_parts.vc k0 (fun  H => ∃ H', Heap.Le H' H ∧ K  H') E H
def seal_Key_parts.F : FT := fun args K E H => match args with
  | [(.pointer k0)] => seal_Key_parts.c k0 (fun  H => K (.tuple #[]) H) E H
  | _ => False
noncomputable def seal_Key_parts.Γ : FuncId → Option FT := Γof [(66, sync_Once_Do.F)]
theorem seal_Key_parts.hΓ : ∀ f F, seal_Key_parts.Γ f = some F → CalleeOk Tryd.prog f F := Γof_ok (List.forall_mem_cons.2 ⟨sync_Once_Do.ok, fun _ h => nomatch h⟩)
noncomputable def seal_Key_parts.plan : Plan := .go
theorem seal_Key_parts.pok : PlanOk Tryd.prog seal_Key_parts.plan seal_Key_parts.body := by
  have e : PlanOk Tryd.prog seal_Key_parts.plan seal_Key_parts.body = (True) := by kernel_rfl
  exact e.mpr trivial
theorem seal_Key_parts.eq (k0 : Option Addr) (K : Value → Heap → Prop) (E : Value → Heap → Prop) (H : Heap) :
    fnT Tryd.prog Tryd.f53 (wC Tryd.prog seal_Key_parts.Γ seal_Key_parts.plan seal_Key_parts.body) [(.pointer k0)] K E H = seal_Key_parts.vc k0 (fun  H => K (.tuple #[]) H) E H := by
  kernel_rfl
theorem seal_Key_parts.Fe {args : List Value} {K E : Value → Heap → Prop} {H : Heap} (h : seal_Key_parts.F args K E H) : ∃ k0, args = [(.pointer k0)] ∧ seal_Key_parts.c k0 (fun  H => K (.tuple #[]) H) E H := by
  unfold seal_Key_parts.F at h
  split at h
  · exact ⟨_, rfl, h⟩
  · exact h.elim
theorem seal_Key_parts.ok : CalleeOk Tryd.prog 53 seal_Key_parts.F :=
  callee_ok seal_Key_parts.hΓ (fn := Tryd.f53) (c := seal_Key_parts.body) (T := wC Tryd.prog seal_Key_parts.Γ seal_Key_parts.plan seal_Key_parts.body) (by kernel_rfl) (by kernel_rfl) (by kernel_rfl) (wC_sound seal_Key_parts.hΓ Tryd.hm seal_Key_parts.plan _ seal_Key_parts.pok) fun _ K E H h => by
    obtain ⟨z0, e, h⟩ := seal_Key_parts.Fe h
    subst e
    have h2 : seal_Key_parts.vc z0 (fun  H => ∃ H', Heap.Le H' H ∧ K (.tuple #[]) H') E H := h.h
    rw [seal_Key_parts.eq z0 (Fg K) E H]
    exact h2

/-! vizard/seal.bytes -/
noncomputable def seal_bytes.body : Code := Tryd.f55.body.getD .skip
def seal_bytes.W1.vc (n0 : Int) (count0 : Int) (b0 : Option Addr) (b1 : Nat) (b2 : Nat) (x0 : Int) (x1 : Int) (Kx0 : Heap → Prop) (RR : Int → Heap → Prop) (E : Value → Heap → Prop) (h0 : Heap) : Prop :=
  (if (decide (x1 < x0)) = true then
  (0 : Int) ≤ (IntKind.i64.wrap (8 * (IntKind.i64.wrap ((IntKind.i64.wrap (count0 - 1)) - x1)))) ∧
  nilc b0 fun a0 => (0 : Int) ≤ x1 ∧ x1 < (b1 : Int) ∧
  stc h0 (a0.add (x1.toNat * 1)) (.int .u8 (IntKind.u8.wrap (shrI .u64 n0 (IntKind.i64.wrap (8 * (IntKind.i64.wrap ((IntKind.i64.wrap (count0 - 1)) - x1))))))) fun h1 =>
  RR (IntKind.i64.wrap (x1 + 1)) h1
  else
  Kx0 h0)
structure seal_bytes.W1 (n0 : Int) (count0 : Int) (b0 : Option Addr) (b1 : Nat) (b2 : Nat) (x0 : Int) (x1 : Int) (Kx0 : Heap → Prop) (E : Value → Heap → Prop) (H : Heap) : Prop where
  h : Loop (fun (RR : Int → Heap → Prop) (s : Int) (H : Heap) => seal_bytes.W1.vc n0 count0 b0 b1 b2 x0 s Kx0 (fun x1 H => RR (x1) H) E H) (x1) H
def seal_bytes.vc (n0 : Int) (count0 : Int) (K : ByteArray → Heap → Prop) (E : Value → Heap → Prop) (h0 : Heap) : Prop :=
  (0 : Int) ≤ count0 ∧ (count0 : Int) ≤ count0 ∧ (count0 : Int) ≤ 9223372036854775807 ∧ (count0 : Int) * 1 ≤ 281474976710656 ∧ newB (.cells (zerosOf (.int .u8 0) count0.toNat).toArray 5) (fun b0 h1 =>
  seal_bytes.W1 n0 count0 (some (⟨b0, 0, none⟩ : Addr)) count0.toNat count0.toNat (count0.toNat : Int) 0 (fun h2 =>
  rdBytes h2 (some (⟨b0, 0, none⟩ : Addr)) count0.toNat fun x0 =>
  K x0 h2) E h1) h0
structure seal_bytes.c (n0 : Int) (count0 : Int) (K : ByteArray → Heap → Prop) (E : Value → Heap → Prop) (H : Heap) : Prop where
  h : seal_bytes.vc n0 count0 (fun r0_0 H => ∃ H', Heap.Le H' H ∧ K r0_0 H') E H
def seal_bytes.F : FT := fun args K E H => match args with
  | [(.int .u64 n0), (.int .i64 count0)] => seal_bytes.c n0 count0 (fun r0_0 H => K (.string r0_0) H) E H
  | _ => False
noncomputable def seal_bytes.Γ : FuncId → Option FT := Γof []
theorem seal_bytes.hΓ : ∀ f F, seal_bytes.Γ f = some F → CalleeOk Tryd.prog f F := Γof_ok (fun _ h => nomatch h)
def seal_bytes.W1.t : CT := fun Q E fr H => lenIs 28 fr (slI fr 0 .u64 fun n0 => slI fr 1 .i64 fun count0 => slSl fr 5 fun b0 b1 b2 => slI fr 10 .i64 fun x0 => slI fr 11 .i64 fun x1 => seal_bytes.W1 n0 count0 b0 b1 b2 x0 x1 (fun  H => Q (.exit 0) (mkF 28 [(5, (.slice b0 b1 b2))]) H) E H)
noncomputable def seal_bytes.W1.plan : Plan := .go
theorem seal_bytes.W1.pok : PlanOk Tryd.prog seal_bytes.W1.plan (sub [1, 1, 0, 1, 0, 0] seal_bytes.body) := by
  have e : PlanOk Tryd.prog seal_bytes.W1.plan (sub [1, 1, 0, 1, 0, 0] seal_bytes.body) = (True) := by kernel_rfl
  exact e.mpr trivial
theorem seal_bytes.W1.eq (n0 : Int) (count0 : Int) (b0 : Option Addr) (b1 : Nat) (b2 : Nat) (x0 : Int) (Q : Ex → Fr → Heap → Prop) (E : Value → Heap → Prop) (RR : Fr → Heap → Prop) (s : Int) (H : Heap) :
    (fun (RR : Int → Heap → Prop) (s : Int) (H : Heap) => seal_bytes.W1.vc n0 count0 b0 b1 b2 x0 s (fun  H => Q (.exit 0) (mkF 28 [(5, (.slice b0 b1 b2))]) H) (fun x1 H => RR (x1) H) E H) (fun s' H' => RR ((fun (s : Int) => (mkF 28 [(0, (.int .u64 n0)), (1, (.int .i64 count0)), (5, (.slice b0 b1 b2)), (10, (.int .i64 x0)), (11, (.int .i64 s))])) s') H') s H = keepT [0, 1, 5, 10, 11] [] (fun i => if i = 0 then [5] else []) (wC Tryd.prog seal_bytes.Γ seal_bytes.W1.plan (sub [1, 1, 0, 1, 0, 0] seal_bytes.body)) (fun e fr' H' => match e with | .normal => RR fr' H' | .exit id => Q (.exit id) fr' H' | .ret => Q .ret fr' H') E ((fun (s : Int) => (mkF 28 [(0, (.int .u64 n0)), (1, (.int .i64 count0)), (5, (.slice b0 b1 b2)), (10, (.int .i64 x0)), (11, (.int .i64 s))])) s) H := by
  kernel_rfl
theorem seal_bytes.W1.ok : SoundCode Tryd.prog (sub [1, 1, 0, 1, 0] seal_bytes.body) seal_bytes.W1.t := by
  have e : (sub [1, 1, 0, 1, 0] seal_bytes.body) = .loop (sub [1, 1, 0, 1, 0, 0] seal_bytes.body) := by kernel_rfl
  rw [e]
  refine piece_sound (loopN_sound (keepT_sound [0, 1, 5, 10, 11] [] (fun i => if i = 0 then [5] else []) (wC_sound seal_bytes.hΓ Tryd.hm seal_bytes.W1.plan _ seal_bytes.W1.pok))) ?_
  intro Q E fr H h
  unfold seal_bytes.W1.t at h
  obtain ⟨hl, h⟩ := lenIs_elim h
  obtain ⟨n0, q0, h⟩ := slI_elim h
  obtain ⟨count0, q1, h⟩ := slI_elim h
  obtain ⟨b0, b1, b2, q5, h⟩ := slSl_elim h
  obtain ⟨x0, q10, h⟩ := slI_elim h
  obtain ⟨x1, q11, h⟩ := slI_elim h
  obtain ⟨m, h⟩ := h.h
  refine ⟨(mkF 28 [(0, (.int .u64 n0)), (1, (.int .i64 count0)), (5, (.slice b0 b1 b2)), (10, (.int .i64 x0)), (11, (.int .i64 x1))]), fun a ha => ha.mk (Nat.le_of_eq hl.symm) (List.forall_mem_cons.2 ⟨q0, List.forall_mem_cons.2 ⟨q1, List.forall_mem_cons.2 ⟨q5, List.forall_mem_cons.2 ⟨q10, List.forall_mem_cons.2 ⟨q11, fun _ h => nomatch h⟩⟩⟩⟩⟩), m, ?_⟩
  have e := loopS_eq (B := (fun (RR : Int → Heap → Prop) (s : Int) (H : Heap) => seal_bytes.W1.vc n0 count0 b0 b1 b2 x0 s (fun  H => Q (.exit 0) (mkF 28 [(5, (.slice b0 b1 b2))]) H) (fun x1 H => RR (x1) H) E H)) (A := keepT [0, 1, 5, 10, 11] [] (fun i => if i = 0 then [5] else []) (wC Tryd.prog seal_bytes.Γ seal_bytes.W1.plan (sub [1, 1, 0, 1, 0, 0] seal_bytes.body))) (m := (fun (s : Int) => (mkF 28 [(0, (.int .u64 n0)), (1, (.int .i64 count0)), (5, (.slice b0 b1 b2)), (10, (.int .i64 x0)), (11, (.int .i64 s))]))) (Q := Q) (E := E) (fun RR s H => seal_bytes.W1.eq n0 count0 b0 b1 b2 x0 Q E RR s H) m (x1) H
  exact cast e h
noncomputable def seal_bytes.plan : Plan := .seq (.go) (.seq (.go) (.seq (.seq (.go) (.block (.use seal_bytes.W1.t))) (.go)))
theorem seal_bytes.pok : PlanOk Tryd.prog seal_bytes.plan seal_bytes.body := by
  have e : PlanOk Tryd.prog seal_bytes.plan seal_bytes.body = ((True) ∧ ((True) ∧ (((True) ∧ (SoundCode Tryd.prog (sub [1, 1, 0, 1, 0] seal_bytes.body) seal_bytes.W1.t)) ∧ (True)))) := by kernel_rfl
  exact e.mpr ⟨trivial, ⟨trivial, ⟨⟨trivial, seal_bytes.W1.ok⟩, trivial⟩⟩⟩
theorem seal_bytes.eq (n0 : Int) (count0 : Int) (K : Value → Heap → Prop) (E : Value → Heap → Prop) (H : Heap) :
    fnT Tryd.prog Tryd.f55 (wC Tryd.prog seal_bytes.Γ seal_bytes.plan seal_bytes.body) [(.int .u64 n0), (.int .i64 count0)] K E H = seal_bytes.vc n0 count0 (fun r0_0 H => K (.string r0_0) H) E H := by
  kernel_rfl
theorem seal_bytes.Fe {args : List Value} {K E : Value → Heap → Prop} {H : Heap} (h : seal_bytes.F args K E H) : ∃ n0 count0, args = [(.int .u64 n0), (.int .i64 count0)] ∧ seal_bytes.c n0 count0 (fun r0_0 H => K (.string r0_0) H) E H := by
  unfold seal_bytes.F at h
  split at h
  · exact ⟨_, _, rfl, h⟩
  · exact h.elim
theorem seal_bytes.ok : CalleeOk Tryd.prog 55 seal_bytes.F :=
  callee_ok seal_bytes.hΓ (fn := Tryd.f55) (c := seal_bytes.body) (T := wC Tryd.prog seal_bytes.Γ seal_bytes.plan seal_bytes.body) (by kernel_rfl) (by kernel_rfl) (by kernel_rfl) (wC_sound seal_bytes.hΓ Tryd.hm seal_bytes.plan _ seal_bytes.pok) fun _ K E H h => by
    obtain ⟨z0, z1, e, h⟩ := seal_bytes.Fe h
    subst e
    have h2 : seal_bytes.vc z0 z1 (fun r0_0 H => ∃ H', Heap.Le H' H ∧ K (.string r0_0) H') E H := h.h
    rw [seal_bytes.eq z0 z1 (Fg K) E H]
    exact h2

/-! (vizard/seal.mac).code -/
noncomputable def seal_mac_code.body : Code := Tryd.f54.body.getD .skip
def seal_mac_code.vc (m0 : Int) (m1 : Int) (m2 : Int) (m3 : Int) (m4 : Int) (m5 : Int) (m6 : Int) (m7 : Int) (m8 : Option Addr) (m9 : Nat) (m10 : Nat) (m11 : Int) (m12 : Int) (m13 : Int) (m14 : Int) (m15 : Int) (m16 : Int) (m17 : Int) (m18 : Int) (m19 : Int) (m20 : Option Addr) (m21 : Nat) (m22 : Nat) (m23 : Int) (s0 : ByteArray) (K : ByteArray → Heap → Prop) (E : Value → Heap → Prop) (h0 : Heap) : Prop :=
  newB (.cells #[(.int .u32 m0), (.int .u32 m1), (.int .u32 m2), (.int .u32 m3), (.int .u32 m4), (.int .u32 m5), (.int .u32 m6), (.int .u32 m7), (.slice m8 m9 m10), (.int .u64 m11), (.int .u32 m12), (.int .u32 m13), (.int .u32 m14), (.int .u32 m15), (.int .u32 m16), (.int .u32 m17), (.int .u32 m18), (.int .u32 m19), (.slice m20 m21 m22), (.int .u64 m23)] 75) (fun b0 h1 =>
  sha_Hash_Write.c (some ((⟨b0, 0, none⟩ : Addr).add 0)) s0 (fun h2 =>
  sha_Hash_Sum.c (some ((⟨b0, 0, none⟩ : Addr).add 0)) (fun x0 h3 =>
  sha_Hash_Write.c (some ((⟨b0, 0, none⟩ : Addr).add 10)) x0 (fun h4 =>
  sha_Hash_Sum.c (some ((⟨b0, 0, none⟩ : Addr).add 10)) K E h4) E h3) E h2) E h1) h0
structure seal_mac_code.c (m0 : Int) (m1 : Int) (m2 : Int) (m3 : Int) (m4 : Int) (m5 : Int) (m6 : Int) (m7 : Int) (m8 : Option Addr) (m9 : Nat) (m10 : Nat) (m11 : Int) (m12 : Int) (m13 : Int) (m14 : Int) (m15 : Int) (m16 : Int) (m17 : Int) (m18 : Int) (m19 : Int) (m20 : Option Addr) (m21 : Nat) (m22 : Nat) (m23 : Int) (s0 : ByteArray) (K : ByteArray → Heap → Prop) (E : Value → Heap → Prop) (H : Heap) : Prop where
  h : seal_mac_code.vc m0 m1 m2 m3 m4 m5 m6 m7 m8 m9 m10 m11 m12 m13 m14 m15 m16 m17 m18 m19 m20 m21 m22 m23 s0 (fun r0_0 H => ∃ H', Heap.Le H' H ∧ K r0_0 H') E H
def seal_mac_code.F : FT := fun args K E H => match args with
  | [(.agg ⟨[(.int .u32 m0), (.int .u32 m1), (.int .u32 m2), (.int .u32 m3), (.int .u32 m4), (.int .u32 m5), (.int .u32 m6), (.int .u32 m7), (.slice m8 m9 m10), (.int .u64 m11), (.int .u32 m12), (.int .u32 m13), (.int .u32 m14), (.int .u32 m15), (.int .u32 m16), (.int .u32 m17), (.int .u32 m18), (.int .u32 m19), (.slice m20 m21 m22), (.int .u64 m23)]⟩), (.string s0)] => seal_mac_code.c m0 m1 m2 m3 m4 m5 m6 m7 m8 m9 m10 m11 m12 m13 m14 m15 m16 m17 m18 m19 m20 m21 m22 m23 s0 (fun r0_0 H => K (.string r0_0) H) E H
  | _ => False
noncomputable def seal_mac_code.Γ : FuncId → Option FT := Γof [(14, sha_Hash_Write.F), (15, sha_Hash_Sum.F)]
theorem seal_mac_code.hΓ : ∀ f F, seal_mac_code.Γ f = some F → CalleeOk Tryd.prog f F := Γof_ok (List.forall_mem_cons.2 ⟨sha_Hash_Write.ok, List.forall_mem_cons.2 ⟨sha_Hash_Sum.ok, fun _ h => nomatch h⟩⟩)
noncomputable def seal_mac_code.plan : Plan := .go
theorem seal_mac_code.pok : PlanOk Tryd.prog seal_mac_code.plan seal_mac_code.body := by
  have e : PlanOk Tryd.prog seal_mac_code.plan seal_mac_code.body = (True) := by kernel_rfl
  exact e.mpr trivial
theorem seal_mac_code.eq (m0 : Int) (m1 : Int) (m2 : Int) (m3 : Int) (m4 : Int) (m5 : Int) (m6 : Int) (m7 : Int) (m8 : Option Addr) (m9 : Nat) (m10 : Nat) (m11 : Int) (m12 : Int) (m13 : Int) (m14 : Int) (m15 : Int) (m16 : Int) (m17 : Int) (m18 : Int) (m19 : Int) (m20 : Option Addr) (m21 : Nat) (m22 : Nat) (m23 : Int) (s0 : ByteArray) (K : Value → Heap → Prop) (E : Value → Heap → Prop) (H : Heap) :
    fnT Tryd.prog Tryd.f54 (wC Tryd.prog seal_mac_code.Γ seal_mac_code.plan seal_mac_code.body) [(.agg #[(.int .u32 m0), (.int .u32 m1), (.int .u32 m2), (.int .u32 m3), (.int .u32 m4), (.int .u32 m5), (.int .u32 m6), (.int .u32 m7), (.slice m8 m9 m10), (.int .u64 m11), (.int .u32 m12), (.int .u32 m13), (.int .u32 m14), (.int .u32 m15), (.int .u32 m16), (.int .u32 m17), (.int .u32 m18), (.int .u32 m19), (.slice m20 m21 m22), (.int .u64 m23)]), (.string s0)] K E H = seal_mac_code.vc m0 m1 m2 m3 m4 m5 m6 m7 m8 m9 m10 m11 m12 m13 m14 m15 m16 m17 m18 m19 m20 m21 m22 m23 s0 (fun r0_0 H => K (.string r0_0) H) E H := by
  kernel_rfl
theorem seal_mac_code.Fe {args : List Value} {K E : Value → Heap → Prop} {H : Heap} (h : seal_mac_code.F args K E H) : ∃ m0 m1 m2 m3 m4 m5 m6 m7 m8 m9 m10 m11 m12 m13 m14 m15 m16 m17 m18 m19 m20 m21 m22 m23 s0, args = [(.agg #[(.int .u32 m0), (.int .u32 m1), (.int .u32 m2), (.int .u32 m3), (.int .u32 m4), (.int .u32 m5), (.int .u32 m6), (.int .u32 m7), (.slice m8 m9 m10), (.int .u64 m11), (.int .u32 m12), (.int .u32 m13), (.int .u32 m14), (.int .u32 m15), (.int .u32 m16), (.int .u32 m17), (.int .u32 m18), (.int .u32 m19), (.slice m20 m21 m22), (.int .u64 m23)]), (.string s0)] ∧ seal_mac_code.c m0 m1 m2 m3 m4 m5 m6 m7 m8 m9 m10 m11 m12 m13 m14 m15 m16 m17 m18 m19 m20 m21 m22 m23 s0 (fun r0_0 H => K (.string r0_0) H) E H := by
  unfold seal_mac_code.F at h
  split at h
  · exact ⟨_, _, _, _, _, _, _, _, _, _, _, _, _, _, _, _, _, _, _, _, _, _, _, _, _, rfl, h⟩
  · exact h.elim
theorem seal_mac_code.ok : CalleeOk Tryd.prog 54 seal_mac_code.F :=
  callee_ok seal_mac_code.hΓ (fn := Tryd.f54) (c := seal_mac_code.body) (T := wC Tryd.prog seal_mac_code.Γ seal_mac_code.plan seal_mac_code.body) (by kernel_rfl) (by kernel_rfl) (by kernel_rfl) (wC_sound seal_mac_code.hΓ Tryd.hm seal_mac_code.plan _ seal_mac_code.pok) fun _ K E H h => by
    obtain ⟨z0, z1, z2, z3, z4, z5, z6, z7, z8, z9, z10, z11, z12, z13, z14, z15, z16, z17, z18, z19, z20, z21, z22, z23, z24, e, h⟩ := seal_mac_code.Fe h
    subst e
    have h2 : seal_mac_code.vc z0 z1 z2 z3 z4 z5 z6 z7 z8 z9 z10 z11 z12 z13 z14 z15 z16 z17 z18 z19 z20 z21 z22 z23 z24 (fun r0_0 H => ∃ H', Heap.Le H' H ∧ K (.string r0_0) H') E H := h.h
    rw [seal_mac_code.eq z0 z1 z2 z3 z4 z5 z6 z7 z8 z9 z10 z11 z12 z13 z14 z15 z16 z17 z18 z19 z20 z21 z22 z23 z24 (Fg K) E H]
    exact h2

/-! (*vizard/seal.Key).hide -/
noncomputable def seal_Key_hide.body : Code := Tryd.f41.body.getD .skip
def seal_Key_hide.W2.vc (k0 : Option Addr) (number0 : Int) (b0 : Option Addr) (b1 : Nat) (b2 : Nat) (i0 : Int) (stream0 : ByteArray) (x0 : Int) (x1 : Int) (Kx2 : Heap → Prop) (RR : Int → Heap → Prop) (E : Value → Heap → Prop) (h0 : Heap) : Prop :=
  (if (decide (x1 < x0)) = true then
  nilc b0 fun a0 => (0 : Int) ≤ (IntKind.i64.wrap (i0 + x1)) ∧ (IntKind.i64.wrap (i0 + x1)) < (b1 : Int) ∧
  ldI h0 .u8 (a0.add ((IntKind.i64.wrap (i0 + x1)).toNat * 1)) fun x2 =>
  (0 : Int) ≤ x1 ∧ x1 < (stream0.size : Int) ∧
  nilc b0 fun a1 => (0 : Int) ≤ (IntKind.i64.wrap (i0 + x1)) ∧ (IntKind.i64.wrap (i0 + x1)) < (b1 : Int) ∧
  stc h0 (a1.add ((IntKind.i64.wrap (i0 + x1)).toNat * 1)) (.int .u8 (bits .xor .u8 x2 (bt stream0 x1))) fun h1 =>
  RR (IntKind.i64.wrap (x1 + 1)) h1
  else
  Kx2 h0)
structure seal_Key_hide.W2 (k0 : Option Addr) (number0 : Int) (b0 : Option Addr) (b1 : Nat) (b2 : Nat) (i0 : Int) (stream0 : ByteArray) (x0 : Int) (x1 : Int) (Kx2 : Heap → Prop) (E : Value → Heap → Prop) (H : Heap) : Prop where
  h : Loop (fun (RR : Int → Heap → Prop) (s : Int) (H : Heap) => seal_Key_hide.W2.vc k0 number0 b0 b1 b2 i0 stream0 x0 s Kx2 (fun x1 H => RR (x1) H) E H) (x1) H
def seal_Key_hide.W1.vc (k0 : Option Addr) (number0 : Int) (b0 : Option Addr) (b1 : Nat) (b2 : Nat) (i0 : Int) (Kx0 : Heap → Prop) (RR : Int → Heap → Prop) (E : Value → Heap → Prop) (h0 : Heap) : Prop :=
  (if (decide (i0 < (b1 : Int))) = true then
  nilc k0 fun a0 =>
  ldI h0 .u32 ((a0.add 4).add 0) fun x0 => ldI h0 .u32 ((a0.add 4).add 1) fun x1 => ldI h0 .u32 ((a0.add 4).add 2) fun x2 => ldI h0 .u32 ((a0.add 4).add 3) fun x3 => ldI h0 .u32 ((a0.add 4).add 4) fun x4 => ldI h0 .u32 ((a0.add 4).add 5) fun x5 => ldI h0 .u32 ((a0.add 4).add 6) fun x6 => ldI h0 .u32 ((a0.add 4).add 7) fun x7 => ldSl h0 ((a0.add 4).add 8) fun x8 x9 x10 => ldI h0 .u64 ((a0.add 4).add 9) fun x11 => ldI h0 .u32 ((a0.add 4).add 10) fun x12 => ldI h0 .u32 ((a0.add 4).add 11) fun x13 => ldI h0 .u32 ((a0.add 4).add 12) fun x14 => ldI h0 .u32 ((a0.add 4).add 13) fun x15 => ldI h0 .u32 ((a0.add 4).add 14) fun x16 => ldI h0 .u32 ((a0.add 4).add 15) fun x17 => ldI h0 .u32 ((a0.add 4).add 16) fun x18 => ldI h0 .u32 ((a0.add 4).add 17) fun x19 => ldSl h0 ((a0.add 4).add 18) fun x20 x21 x22 => ldI h0 .u64 ((a0.add 4).add 19) fun x23 =>
  32 ≠ (0 : Int) ∧
  seal_bytes.c (IntKind.u64.wrap number0) 8 (fun x24 h1 =>
  (eqv h1 h1 (some (.int .u64 (IntKind.u64.wrap (IntKind.i64.wrap (Int.tdiv i0 32))))) (.int .u64 (IntKind.u64.wrap (IntKind.i64.wrap (Int.tdiv i0 32))))) ∧
  (ldI h1 .u32 ((a0.add 4).add 0) fun x25 => ldI h1 .u32 ((a0.add 4).add 1) fun x26 => ldI h1 .u32 ((a0.add 4).add 2) fun x27 => ldI h1 .u32 ((a0.add 4).add 3) fun x28 => ldI h1 .u32 ((a0.add 4).add 4) fun x29 => ldI h1 .u32 ((a0.add 4).add 5) fun x30 => ldI h1 .u32 ((a0.add 4).add 6) fun x31 => ldI h1 .u32 ((a0.add 4).add 7) fun x32 => ldSl h1 ((a0.add 4).add 8) fun x33 x34 x35 => ldI h1 .u64 ((a0.add 4).add 9) fun x36 => ldI h1 .u32 ((a0.add 4).add 10) fun x37 => ldI h1 .u32 ((a0.add 4).add 11) fun x38 => ldI h1 .u32 ((a0.add 4).add 12) fun x39 => ldI h1 .u32 ((a0.add 4).add 13) fun x40 => ldI h1 .u32 ((a0.add 4).add 14) fun x41 => ldI h1 .u32 ((a0.add 4).add 15) fun x42 => ldI h1 .u32 ((a0.add 4).add 16) fun x43 => ldI h1 .u32 ((a0.add 4).add 17) fun x44 => ldSl h1 ((a0.add 4).add 18) fun x45 x46 x47 => ldI h1 .u64 ((a0.add 4).add 19) fun x48 =>
  eqv h1 h1 (some (.agg #[(.int .u32 x0), (.int .u32 x1), (.int .u32 x2), (.int .u32 x3), (.int .u32 x4), (.int .u32 x5), (.int .u32 x6), (.int .u32 x7), (.slice x8 x9 x10), (.int .u64 x11), (.int .u32 x12), (.int .u32 x13), (.int .u32 x14), (.int .u32 x15), (.int .u32 x16), (.int .u32 x17), (.int .u32 x18), (.int .u32 x19), (.slice x20 x21 x22), (.int .u64 x23)])) (.agg #[(.int .u32 x25), (.int .u32 x26), (.int .u32 x27), (.int .u32 x28), (.int .u32 x29), (.int .u32 x30), (.int .u32 x31), (.int .u32 x32), (.slice x33 x34 x35), (.int .u64 x36), (.int .u32 x37), (.int .u32 x38), (.int .u32 x39), (.int .u32 x40), (.int .u32 x41), (.int .u32 x42), (.int .u32 x43), (.int .u32 x44), (.slice x45 x46 x47), (.int .u64 x48)])) ∧
  seal_bytes.c (IntKind.u64.wrap (IntKind.i64.wrap (Int.tdiv i0 32))) 4 (fun x49 h2 =>
  (ldI h2 .u32 ((a0.add 4).add 0) fun x50 => ldI h2 .u32 ((a0.add 4).add 1) fun x51 => ldI h2 .u32 ((a0.add 4).add 2) fun x52 => ldI h2 .u32 ((a0.add 4).add 3) fun x53 => ldI h2 .u32 ((a0.add 4).add 4) fun x54 => ldI h2 .u32 ((a0.add 4).add 5) fun x55 => ldI h2 .u32 ((a0.add 4).add 6) fun x56 => ldI h2 .u32 ((a0.add 4).add 7) fun x57 => ldSl h2 ((a0.add 4).add 8) fun x58 x59 x60 => ldI h2 .u64 ((a0.add 4).add 9) fun x61 => ldI h2 .u32 ((a0.add 4).add 10) fun x62 => ldI h2 .u32 ((a0.add 4).add 11) fun x63 => ldI h2 .u32 ((a0.add 4).add 12) fun x64 => ldI h2 .u32 ((a0.add 4).add 13) fun x65 => ldI h2 .u32 ((a0.add 4).add 14) fun x66 => ldI h2 .u32 ((a0.add 4).add 15) fun x67 => ldI h2 .u32 ((a0.add 4).add 16) fun x68 => ldI h2 .u32 ((a0.add 4).add 17) fun x69 => ldSl h2 ((a0.add 4).add 18) fun x70 x71 x72 => ldI h2 .u64 ((a0.add 4).add 19) fun x73 =>
  eqv h2 h2 (some (.agg #[(.int .u32 x0), (.int .u32 x1), (.int .u32 x2), (.int .u32 x3), (.int .u32 x4), (.int .u32 x5), (.int .u32 x6), (.int .u32 x7), (.slice x8 x9 x10), (.int .u64 x11), (.int .u32 x12), (.int .u32 x13), (.int .u32 x14), (.int .u32 x15), (.int .u32 x16), (.int .u32 x17), (.int .u32 x18), (.int .u32 x19), (.slice x20 x21 x22), (.int .u64 x23)])) (.agg #[(.int .u32 x50), (.int .u32 x51), (.int .u32 x52), (.int .u32 x53), (.int .u32 x54), (.int .u32 x55), (.int .u32 x56), (.int .u32 x57), (.slice x58 x59 x60), (.int .u64 x61), (.int .u32 x62), (.int .u32 x63), (.int .u32 x64), (.int .u32 x65), (.int .u32 x66), (.int .u32 x67), (.int .u32 x68), (.int .u32 x69), (.slice x70 x71 x72), (.int .u64 x73)])) ∧
  x24.size + x49.size ≤ 9223372036854775807 ∧
  seal_mac_code.c x0 x1 x2 x3 x4 x5 x6 x7 x8 x9 x10 x11 x12 x13 x14 x15 x16 x17 x18 x19 x20 x21 x22 x23 (x24 ++ x49) (fun x74 h3 =>
  seal_Key_hide.W2 k0 number0 b0 b1 b2 i0 x74 (if (IntKind.i64.wrap ((b1 : Int) - i0)) < 32 then (IntKind.i64.wrap ((b1 : Int) - i0)) else 32) 0 (fun h4 =>
  RR (IntKind.i64.wrap (i0 + 32)) h4) E h3) E h2) E h1) E h0
  else
  Kx0 h0)
structure seal_Key_hide.W1 (k0 : Option Addr) (number0 : Int) (b0 : Option Addr) (b1 : Nat) (b2 : Nat) (i0 : Int) (Kx0 : Heap → Prop) (E : Value → Heap → Prop) (H : Heap) : Prop where
  h : Loop (fun (RR : Int → Heap → Prop) (s : Int) (H : Heap) => seal_Key_hide.W1.vc k0 number0 b0 b1 b2 s Kx0 (fun i0 H => RR (i0) H) E H) (i0) H
def seal_Key_hide.vc (k0 : Option Addr) (number0 : Int) (data0 : ByteArray) (K : ByteArray → Heap → Prop) (E : Value → Heap → Prop) (h0 : Heap) : Prop :=
  seal_Key_parts.c k0 (fun h1 =>
  ∀ j0, newB (.cells ((byteVals data0).toArray ++ Array.replicate j0 (.int .u8 0)) 5 (data0.size + j0, data0.size + j0 + 1)) (fun b0 h2 =>
  seal_Key_hide.W1 k0 number0 (some (⟨b0, 0, none⟩ : Addr)) data0.size (data0.size + j0) 0 (fun h3 =>
  rdBytes h3 (some (⟨b0, 0, none⟩ : Addr)) data0.size fun x0 =>
  K x0 h3) E h2) h1) E h0
structure seal_Key_hide.c (k0 : Option Addr) (number0 : Int) (data0 : ByteArray) (K : ByteArray → Heap → Prop) (E : Value → Heap → Prop) (H : Heap) : Prop where
  h : seal_Key_hide.vc k0 number0 data0 (fun r0_0 H => ∃ H', Heap.Le H' H ∧ K r0_0 H') E H
def seal_Key_hide.F : FT := fun args K E H => match args with
  | [(.pointer k0), (.int .i64 number0), (.string data0)] => seal_Key_hide.c k0 number0 data0 (fun r0_0 H => K (.string r0_0) H) E H
  | _ => False
noncomputable def seal_Key_hide.Γ : FuncId → Option FT := Γof [(53, seal_Key_parts.F), (54, seal_mac_code.F), (55, seal_bytes.F)]
theorem seal_Key_hide.hΓ : ∀ f F, seal_Key_hide.Γ f = some F → CalleeOk Tryd.prog f F := Γof_ok (List.forall_mem_cons.2 ⟨seal_Key_parts.ok, List.forall_mem_cons.2 ⟨seal_mac_code.ok, List.forall_mem_cons.2 ⟨seal_bytes.ok, fun _ h => nomatch h⟩⟩⟩)
def seal_Key_hide.W2.t : CT := fun Q E fr H => lenIs 56 fr (slP fr 0 fun k0 => slI fr 1 .i64 fun number0 => slSl fr 7 fun b0 b1 b2 => slI fr 8 .i64 fun i0 => slS fr 9 fun stream0 => slI fr 38 .i64 fun x0 => slI fr 39 .i64 fun x1 => seal_Key_hide.W2 k0 number0 b0 b1 b2 i0 stream0 x0 x1 (fun  H => Q (.exit 2) (mkF 56 [(0, (.pointer k0)), (1, (.int .i64 number0)), (7, (.slice b0 b1 b2)), (8, (.int .i64 i0))]) H) E H)
noncomputable def seal_Key_hide.W2.plan : Plan := .seq (.go) (.seq (.go) (.seq (.block (.seq (.go) (.draw ⟨[0, 1, 2, 3, 4, 5, 6, 7, 8, 9, 10, 11], (dl [(0, []), (1, []), (2, []), (3, []), (4, []), (5, []), (6, []), (7, []), (8, []), (9, []), (10, []), (11, [10, 9, 0, 1, 2, 3, 4, 5, 6, 7, 8])] .fin), []⟩))) (.go)))
theorem seal_Key_hide.W2.pok : PlanOk Tryd.prog seal_Key_hide.W2.plan (sub [1, 1, 1, 0, 1, 0, 0, 1, 0, 0, 1, 1, 0, 0] seal_Key_hide.body) := by
  have e : PlanOk Tryd.prog seal_Key_hide.W2.plan (sub [1, 1, 1, 0, 1, 0, 0, 1, 0, 0, 1, 1, 0, 0] seal_Key_hide.body) = ((True) ∧ ((True) ∧ (((True) ∧ (True)) ∧ (True)))) := by kernel_rfl
  exact e.mpr ⟨trivial, ⟨trivial, ⟨⟨trivial, trivial⟩, trivial⟩⟩⟩
theorem seal_Key_hide.W2.eq (k0 : Option Addr) (number0 : Int) (b0 : Option Addr) (b1 : Nat) (b2 : Nat) (i0 : Int) (stream0 : ByteArray) (x0 : Int) (Q : Ex → Fr → Heap → Prop) (E : Value → Heap → Prop) (RR : Fr → Heap → Prop) (s : Int) (H : Heap) :
    (fun (RR : Int → Heap → Prop) (s : Int) (H : Heap) => seal_Key_hide.W2.vc k0 number0 b0 b1 b2 i0 stream0 x0 s (fun  H => Q (.exit 2) (mkF 56 [(0, (.pointer k0)), (1, (.int .i64 number0)), (7, (.slice b0 b1 b2)), (8, (.int .i64 i0))]) H) (fun x1 H => RR (x1) H) E H) (fun s' H' => RR ((fun (s : Int) => (mkF 56 [(0, (.pointer k0)), (1, (.int .i64 number0)), (7, (.slice b0 b1 b2)), (8, (.int .i64 i0)), (9, (.string stream0)), (38, (.int .i64 x0)), (39, (.int .i64 s))])) s') H') s H = keepT [0, 1, 7, 8, 9, 38, 39] [] (fun i => if i = 2 then [0, 1, 7, 8] else []) (wC Tryd.prog seal_Key_hide.Γ seal_Key_hide.W2.plan (sub [1, 1, 1, 0, 1, 0, 0, 1, 0, 0, 1, 1, 0, 0] seal_Key_hide.body)) (fun e fr' H' => match e with | .normal => RR fr' H' | .exit id => Q (.exit id) fr' H' | .ret => Q .ret fr' H') E ((fun (s : Int) => (mkF 56 [(0, (.pointer k0)), (1, (.int .i64 number0)), (7, (.slice b0 b1 b2)), (8, (.int .i64 i0)), (9, (.string stream0)), (38, (.int .i64 x0)), (39, (.int .i64 s))])) s) H := by
  kernel_rfl
theorem seal_Key_hide.W2.ok : SoundCode Tryd.prog (sub [1, 1, 1, 0, 1, 0, 0, 1, 0, 0, 1, 1, 0] seal_Key_hide.body) seal_Key_hide.W2.t := by
  have e : (sub [1, 1, 1, 0, 1, 0, 0, 1, 0, 0, 1, 1, 0] seal_Key_hide.body) = .loop (sub [1, 1, 1, 0, 1, 0, 0, 1, 0, 0, 1, 1, 0, 0] seal_Key_hide.body) := by kernel_rfl
  rw [e]
  refine piece_sound (loopN_sound (keepT_sound [0, 1, 7, 8, 9, 38, 39] [] (fun i => if i = 2 then [0, 1, 7, 8] else []) (wC_sound seal_Key_hide.hΓ Tryd.hm seal_Key_hide.W2.plan _ seal_Key_hide.W2.pok))) ?_
  intro Q E fr H h
  unfold seal_Key_hide.W2.t at h
  obtain ⟨hl, h⟩ := lenIs_elim h
  obtain ⟨k0, q0, h⟩ := slP_elim h
  obtain ⟨number0, q1, h⟩ := slI_elim h
  obtain ⟨b0, b1, b2, q7, h⟩ := slSl_elim h
  obtain ⟨i0, q8, h⟩ := slI_elim h
  obtain ⟨stream0, q9, h⟩ := slS_elim h
  obtain ⟨x0, q38, h⟩ := slI_elim h
  obtain ⟨x1, q39, h⟩ := slI_elim h
  obtain ⟨m, h⟩ := h.h
  refine ⟨(mkF 56 [(0, (.pointer k0)), (1, (.int .i64 number0)), (7, (.slice b0 b1 b2)), (8, (.int .i64 i0)), (9, (.string stream0)), (38, (.int .i64 x0)), (39, (.int .i64 x1))]), fun a ha => ha.mk (Nat.le_of_eq hl.symm) (List.forall_mem_cons.2 ⟨q0, List.forall_mem_cons.2 ⟨q1, List.forall_mem_cons.2 ⟨q7, List.forall_mem_cons.2 ⟨q8, List.forall_mem_cons.2 ⟨q9, List.forall_mem_cons.2 ⟨q38, List.forall_mem_cons.2 ⟨q39, fun _ h => nomatch h⟩⟩⟩⟩⟩⟩⟩), m, ?_⟩
  have e := loopS_eq (B := (fun (RR : Int → Heap → Prop) (s : Int) (H : Heap) => seal_Key_hide.W2.vc k0 number0 b0 b1 b2 i0 stream0 x0 s (fun  H => Q (.exit 2) (mkF 56 [(0, (.pointer k0)), (1, (.int .i64 number0)), (7, (.slice b0 b1 b2)), (8, (.int .i64 i0))]) H) (fun x1 H => RR (x1) H) E H)) (A := keepT [0, 1, 7, 8, 9, 38, 39] [] (fun i => if i = 2 then [0, 1, 7, 8] else []) (wC Tryd.prog seal_Key_hide.Γ seal_Key_hide.W2.plan (sub [1, 1, 1, 0, 1, 0, 0, 1, 0, 0, 1, 1, 0, 0] seal_Key_hide.body))) (m := (fun (s : Int) => (mkF 56 [(0, (.pointer k0)), (1, (.int .i64 number0)), (7, (.slice b0 b1 b2)), (8, (.int .i64 i0)), (9, (.string stream0)), (38, (.int .i64 x0)), (39, (.int .i64 s))]))) (Q := Q) (E := E) (fun RR s H => seal_Key_hide.W2.eq k0 number0 b0 b1 b2 i0 stream0 x0 Q E RR s H) m (x1) H
  exact cast e h
def seal_Key_hide.W1.t : CT := fun Q E fr H => lenIs 56 fr (slP fr 0 fun k0 => slI fr 1 .i64 fun number0 => slSl fr 7 fun b0 b1 b2 => slI fr 8 .i64 fun i0 => seal_Key_hide.W1 k0 number0 b0 b1 b2 i0 (fun  H => Q (.exit 0) (mkF 56 [(7, (.slice b0 b1 b2))]) H) E H)
noncomputable def seal_Key_hide.W1.plan : Plan := .seq (.go) (.seq (.block (.seq (.draw ⟨[0, 1, 2, 3, 4, 5, 6, 7, 8, 9, 10, 11, 12], (dl [(0, []), (1, []), (2, []), (3, []), (4, []), (5, []), (7, []), (8, []), (9, []), (6, [5, 4]), (10, [9, 6, 8, 5, 7, 4]), (11, []), (12, [3, 11, 10, 2, 6, 9, 1, 5, 8, 0, 4, 7])] .fin), [13]⟩) (.seq (.go) (.block (.use seal_Key_hide.W2.t))))) (.go))
theorem seal_Key_hide.W1.pok : PlanOk Tryd.prog seal_Key_hide.W1.plan (sub [1, 1, 1, 0, 1, 0, 0] seal_Key_hide.body) := by
  have e : PlanOk Tryd.prog seal_Key_hide.W1.plan (sub [1, 1, 1, 0, 1, 0, 0] seal_Key_hide.body) = ((True) ∧ (((True) ∧ ((True) ∧ (SoundCode Tryd.prog (sub [1, 1, 1, 0, 1, 0, 0, 1, 0, 0, 1, 1, 0] seal_Key_hide.body) seal_Key_hide.W2.t))) ∧ (True))) := by kernel_rfl
  exact e.mpr ⟨trivial, ⟨⟨trivial, ⟨trivial, seal_Key_hide.W2.ok⟩⟩, trivial⟩⟩
theorem seal_Key_hide.W1.eq (k0 : Option Addr) (number0 : Int) (b0 : Option Addr) (b1 : Nat) (b2 : Nat) (Q : Ex → Fr → Heap → Prop) (E : Value → Heap → Prop) (RR : Fr → Heap → Prop) (s : Int) (H : Heap) :
    (fun (RR : Int → Heap → Prop) (s : Int) (H : Heap) => seal_Key_hide.W1.vc k0 number0 b0 b1 b2 s (fun  H => Q (.exit 0) (mkF 56 [(7, (.slice b0 b1 b2))]) H) (fun i0 H => RR (i0) H) E H) (fun s' H' => RR ((fun (s : Int) => (mkF 56 [(0, (.pointer k0)), (1, (.int .i64 number0)), (7, (.slice b0 b1 b2)), (8, (.int .i64 s))])) s') H') s H = keepT [0, 1, 7, 8] [] (fun i => if i = 0 then [7] else []) (wC Tryd.prog seal_Key_hide.Γ seal_Key_hide.W1.plan (sub [1, 1, 1, 0, 1, 0, 0] seal_Key_hide.body)) (fun e fr' H' => match e with | .normal => RR fr' H' | .exit id => Q (.exit id) fr' H' | .ret => Q .ret fr' H') E ((fun (s : Int) => (mkF 56 [(0, (.pointer k0)), (1, (.int .i64 number0)), (7, (.slice b0 b1 b2)), (8, (.int .i64 s))])) s) H := by
  kernel_rfl
theorem seal_Key_hide.W1.ok : SoundCode Tryd.prog (sub [1, 1, 1, 0, 1, 0] seal_Key_hide.body) seal_Key_hide.W1.t := by
  have e : (sub [1, 1, 1, 0, 1, 0] seal_Key_hide.body) = .loop (sub [1, 1, 1, 0, 1, 0, 0] seal_Key_hide.body) := by kernel_rfl
  rw [e]
  refine piece_sound (loopN_sound (keepT_sound [0, 1, 7, 8] [] (fun i => if i = 0 then [7] else []) (wC_sound seal_Key_hide.hΓ Tryd.hm seal_Key_hide.W1.plan _ seal_Key_hide.W1.pok))) ?_
  intro Q E fr H h
  unfold seal_Key_hide.W1.t at h
  obtain ⟨hl, h⟩ := lenIs_elim h
  obtain ⟨k0, q0, h⟩ := slP_elim h
  obtain ⟨number0, q1, h⟩ := slI_elim h
  obtain ⟨b0, b1, b2, q7, h⟩ := slSl_elim h
  obtain ⟨i0, q8, h⟩ := slI_elim h
  obtain ⟨m, h⟩ := h.h
  refine ⟨(mkF 56 [(0, (.pointer k0)), (1, (.int .i64 number0)), (7, (.slice b0 b1 b2)), (8, (.int .i64 i0))]), fun a ha => ha.mk (Nat.le_of_eq hl.symm) (List.forall_mem_cons.2 ⟨q0, List.forall_mem_cons.2 ⟨q1, List.forall_mem_cons.2 ⟨q7, List.forall_mem_cons.2 ⟨q8, fun _ h => nomatch h⟩⟩⟩⟩), m, ?_⟩
  have e := loopS_eq (B := (fun (RR : Int → Heap → Prop) (s : Int) (H : Heap) => seal_Key_hide.W1.vc k0 number0 b0 b1 b2 s (fun  H => Q (.exit 0) (mkF 56 [(7, (.slice b0 b1 b2))]) H) (fun i0 H => RR (i0) H) E H)) (A := keepT [0, 1, 7, 8] [] (fun i => if i = 0 then [7] else []) (wC Tryd.prog seal_Key_hide.Γ seal_Key_hide.W1.plan (sub [1, 1, 1, 0, 1, 0, 0] seal_Key_hide.body))) (m := (fun (s : Int) => (mkF 56 [(0, (.pointer k0)), (1, (.int .i64 number0)), (7, (.slice b0 b1 b2)), (8, (.int .i64 s))]))) (Q := Q) (E := E) (fun RR s H => seal_Key_hide.W1.eq k0 number0 b0 b1 b2 Q E RR s H) m (i0) H
  exact cast e h
noncomputable def seal_Key_hide.plan : Plan := .seq (.go) (.seq (.go) (.seq (.go) (.seq (.seq (.go) (.block (.use seal_Key_hide.W1.t))) (.go))))
theorem seal_Key_hide.pok : PlanOk Tryd.prog seal_Key_hide.plan seal_Key_hide.body := by
  have e : PlanOk Tryd.prog seal_Key_hide.plan seal_Key_hide.body = ((True) ∧ ((True) ∧ ((True) ∧ (((True) ∧ (SoundCode Tryd.prog (sub [1, 1, 1, 0, 1, 0] seal_Key_hide.body) seal_Key_hide.W1.t)) ∧ (True))))) := by kernel_rfl
  exact e.mpr ⟨trivial, ⟨trivial, ⟨trivial, ⟨⟨trivial, seal_Key_hide.W1.ok⟩, trivial⟩⟩⟩⟩
theorem seal_Key_hide.eq (k0 : Option Addr) (number0 : Int) (data0 : ByteArray) (K : Value → Heap → Prop) (E : Value → Heap → Prop) (H : Heap) :
    fnT Tryd.prog Tryd.f41 (wC Tryd.prog seal_Key_hide.Γ seal_Key_hide.plan seal_Key_hide.body) [(.pointer k0), (.int .i64 number0), (.string data0)] K E H = seal_Key_hide.vc k0 number0 data0 (fun r0_0 H => K (.string r0_0) H) E H := by
  kernel_rfl
theorem seal_Key_hide.Fe {args : List Value} {K E : Value → Heap → Prop} {H : Heap} (h : seal_Key_hide.F args K E H) : ∃ k0 number0 data0, args = [(.pointer k0), (.int .i64 number0), (.string data0)] ∧ seal_Key_hide.c k0 number0 data0 (fun r0_0 H => K (.string r0_0) H) E H := by
  unfold seal_Key_hide.F at h
  split at h
  · exact ⟨_, _, _, rfl, h⟩
  · exact h.elim
theorem seal_Key_hide.ok : CalleeOk Tryd.prog 41 seal_Key_hide.F :=
  callee_ok seal_Key_hide.hΓ (fn := Tryd.f41) (c := seal_Key_hide.body) (T := wC Tryd.prog seal_Key_hide.Γ seal_Key_hide.plan seal_Key_hide.body) (by kernel_rfl) (by kernel_rfl) (by kernel_rfl) (wC_sound seal_Key_hide.hΓ Tryd.hm seal_Key_hide.plan _ seal_Key_hide.pok) fun _ K E H h => by
    obtain ⟨z0, z1, z2, e, h⟩ := seal_Key_hide.Fe h
    subst e
    have h2 : seal_Key_hide.vc z0 z1 z2 (fun r0_0 H => ∃ H', Heap.Le H' H ∧ K (.string r0_0) H') E H := h.h
    rw [seal_Key_hide.eq z0 z1 z2 (Fg K) E H]
    exact h2

/-! (*vizard/seal.Key).mark -/
noncomputable def seal_Key_mark.body : Code := Tryd.f42.body.getD .skip
def seal_Key_mark.vc (k0 : Option Addr) (number0 : Int) (head0 : ByteArray) (hidden0 : ByteArray) (K : ByteArray → Heap → Prop) (E : Value → Heap → Prop) (h0 : Heap) : Prop :=
  seal_Key_parts.c k0 (fun h1 =>
  nilc k0 fun a0 =>
  ldI h1 .u32 ((a0.add 24).add 0) fun x0 => ldI h1 .u32 ((a0.add 24).add 1) fun x1 => ldI h1 .u32 ((a0.add 24).add 2) fun x2 => ldI h1 .u32 ((a0.add 24).add 3) fun x3 => ldI h1 .u32 ((a0.add 24).add 4) fun x4 => ldI h1 .u32 ((a0.add 24).add 5) fun x5 => ldI h1 .u32 ((a0.add 24).add 6) fun x6 => ldI h1 .u32 ((a0.add 24).add 7) fun x7 => ldSl h1 ((a0.add 24).add 8) fun x8 x9 x10 => ldI h1 .u64 ((a0.add 24).add 9) fun x11 => ldI h1 .u32 ((a0.add 24).add 10) fun x12 => ldI h1 .u32 ((a0.add 24).add 11) fun x13 => ldI h1 .u32 ((a0.add 24).add 12) fun x14 => ldI h1 .u32 ((a0.add 24).add 13) fun x15 => ldI h1 .u32 ((a0.add 24).add 14) fun x16 => ldI h1 .u32 ((a0.add 24).add 15) fun x17 => ldI h1 .u32 ((a0.add 24).add 16) fun x18 => ldI h1 .u32 ((a0.add 24).add 17) fun x19 => ldSl h1 ((a0.add 24).add 18) fun x20 x21 x22 => ldI h1 .u64 ((a0.add 24).add 19) fun x23 =>
  seal_bytes.c (IntKind.u64.wrap number0) 8 (fun x24 h2 =>
  (ldI h2 .u32 ((a0.add 24).add 0) fun x25 => ldI h2 .u32 ((a0.add 24).add 1) fun x26 => ldI h2 .u32 ((a0.add 24).add 2) fun x27 => ldI h2 .u32 ((a0.add 24).add 3) fun x28 => ldI h2 .u32 ((a0.add 24).add 4) fun x29 => ldI h2 .u32 ((a0.add 24).add 5) fun x30 => ldI h2 .u32 ((a0.add 24).add 6) fun x31 => ldI h2 .u32 ((a0.add 24).add 7) fun x32 => ldSl h2 ((a0.add 24).add 8) fun x33 x34 x35 => ldI h2 .u64 ((a0.add 24).add 9) fun x36 => ldI h2 .u32 ((a0.add 24).add 10) fun x37 => ldI h2 .u32 ((a0.add 24).add 11) fun x38 => ldI h2 .u32 ((a0.add 24).add 12) fun x39 => ldI h2 .u32 ((a0.add 24).add 13) fun x40 => ldI h2 .u32 ((a0.add 24).add 14) fun x41 => ldI h2 .u32 ((a0.add 24).add 15) fun x42 => ldI h2 .u32 ((a0.add 24).add 16) fun x43 => ldI h2 .u32 ((a0.add 24).add 17) fun x44 => ldSl h2 ((a0.add 24).add 18) fun x45 x46 x47 => ldI h2 .u64 ((a0.add 24).add 19) fun x48 =>
  eqv h2 h2 (some (.agg #[(.int .u32 x0), (.int .u32 x1), (.int .u32 x2), (.int .u32 x3), (.int .u32 x4), (.int .u32 x5), (.int .u32 x6), (.int .u32 x7), (.slice x8 x9 x10), (.int .u64 x11), (.int .u32 x12), (.int .u32 x13), (.int .u32 x14), (.int .u32 x15), (.int .u32 x16), (.int .u32 x17), (.int .u32 x18), (.int .u32 x19), (.slice x20 x21 x22), (.int .u64 x23)])) (.agg #[(.int .u32 x25), (.int .u32 x26), (.int .u32 x27), (.int .u32 x28), (.int .u32 x29), (.int .u32 x30), (.int .u32 x31), (.int .u32 x32), (.slice x33 x34 x35), (.int .u64 x36), (.int .u32 x37), (.int .u32 x38), (.int .u32 x39), (.int .u32 x40), (.int .u32 x41), (.int .u32 x42), (.int .u32 x43), (.int .u32 x44), (.slice x45 x46 x47), (.int .u64 x48)])) ∧
  varint_Text.c head0 (fun x49 h3 =>
  (ldI h3 .u32 ((a0.add 24).add 0) fun x50 => ldI h3 .u32 ((a0.add 24).add 1) fun x51 => ldI h3 .u32 ((a0.add 24).add 2) fun x52 => ldI h3 .u32 ((a0.add 24).add 3) fun x53 => ldI h3 .u32 ((a0.add 24).add 4) fun x54 => ldI h3 .u32 ((a0.add 24).add 5) fun x55 => ldI h3 .u32 ((a0.add 24).add 6) fun x56 => ldI h3 .u32 ((a0.add 24).add 7) fun x57 => ldSl h3 ((a0.add 24).add 8) fun x58 x59 x60 => ldI h3 .u64 ((a0.add 24).add 9) fun x61 => ldI h3 .u32 ((a0.add 24).add 10) fun x62 => ldI h3 .u32 ((a0.add 24).add 11) fun x63 => ldI h3 .u32 ((a0.add 24).add 12) fun x64 => ldI h3 .u32 ((a0.add 24).add 13) fun x65 => ldI h3 .u32 ((a0.add 24).add 14) fun x66 => ldI h3 .u32 ((a0.add 24).add 15) fun x67 => ldI h3 .u32 ((a0.add 24).add 16) fun x68 => ldI h3 .u32 ((a0.add 24).add 17) fun x69 => ldSl h3 ((a0.add 24).add 18) fun x70 x71 x72 => ldI h3 .u64 ((a0.add 24).add 19) fun x73 =>
  eqv h3 h3 (some (.agg #[(.int .u32 x0), (.int .u32 x1), (.int .u32 x2), (.int .u32 x3), (.int .u32 x4), (.int .u32 x5), (.int .u32 x6), (.int .u32 x7), (.slice x8 x9 x10), (.int .u64 x11), (.int .u32 x12), (.int .u32 x13), (.int .u32 x14), (.int .u32 x15), (.int .u32 x16), (.int .u32 x17), (.int .u32 x18), (.int .u32 x19), (.slice x20 x21 x22), (.int .u64 x23)])) (.agg #[(.int .u32 x50), (.int .u32 x51), (.int .u32 x52), (.int .u32 x53), (.int .u32 x54), (.int .u32 x55), (.int .u32 x56), (.int .u32 x57), (.slice x58 x59 x60), (.int .u64 x61), (.int .u32 x62), (.int .u32 x63), (.int .u32 x64), (.int .u32 x65), (.int .u32 x66), (.int .u32 x67), (.int .u32 x68), (.int .u32 x69), (.slice x70 x71 x72), (.int .u64 x73)])) ∧
  x24.size + x49.size ≤ 9223372036854775807 ∧
  (x24 ++ x49).size + hidden0.size ≤ 9223372036854775807 ∧
  seal_mac_code.c x0 x1 x2 x3 x4 x5 x6 x7 x8 x9 x10 x11 x12 x13 x14 x15 x16 x17 x18 x19 x20 x21 x22 x23 ((x24 ++ x49) ++ hidden0) (fun x74 h4 =>
  (0 : Int) ≤ 16 ∧ 16 ≤ (x74.size : Int) ∧
  K (x74.extract 0 16) h4) E h3) E h2) E h1) E h0
structure seal_Key_mark.c (k0 : Option Addr) (number0 : Int) (head0 : ByteArray) (hidden0 : ByteArray) (K : ByteArray → Heap → Prop) (E : Value → Heap → Prop) (H : Heap) : Prop where
  h : seal_Key_mark.vc k0 number0 head0 hidden0 (fun r0_0 H => ∃ H', Heap.Le H' H ∧ K r0_0 H') E H
def seal_Key_mark.F : FT := fun args K E H => match args with
  | [(.pointer k0), (.int .i64 number0), (.string head0), (.string hidden0)] => seal_Key_mark.c k0 number0 head0 hidden0 (fun r0_0 H => K (.string r0_0) H) E H
  | _ => False
noncomputable def seal_Key_mark.Γ : FuncId → Option FT := Γof [(38, varint_Text.F), (53, seal_Key_parts.F), (54, seal_mac_code.F), (55, seal_bytes.F)]
theorem seal_Key_mark.hΓ : ∀ f F, seal_Key_mark.Γ f = some F → CalleeOk Tryd.prog f F := Γof_ok (List.forall_mem_cons.2 ⟨varint_Text.ok, List.forall_mem_cons.2 ⟨seal_Key_parts.ok, List.forall_mem_cons.2 ⟨seal_mac_code.ok, List.forall_mem_cons.2 ⟨seal_bytes.ok, fun _ h => nomatch h⟩⟩⟩⟩)
noncomputable def seal_Key_mark.plan : Plan := .seq (.go) (.seq (.go) (.seq (.draw ⟨[0, 1, 2, 3, 4, 5, 6, 7, 8, 9, 10, 11, 12, 13], (dl [(0, []), (1, []), (2, []), (3, []), (4, []), (5, []), (7, []), (10, []), (6, [5, 4]), (8, [7, 6, 5, 4]), (9, []), (11, []), (12, [3, 11, 8, 2, 9, 10, 7, 6, 1, 5, 0, 4]), (13, [])] .fin), [14]⟩) (.go)))
theorem seal_Key_mark.pok : PlanOk Tryd.prog seal_Key_mark.plan seal_Key_mark.body := by
  have e : PlanOk Tryd.prog seal_Key_mark.plan seal_Key_mark.body = ((True) ∧ ((True) ∧ ((True) ∧ (True)))) := by kernel_rfl
  exact e.mpr ⟨trivial, ⟨trivial, ⟨trivial, trivial⟩⟩⟩
theorem seal_Key_mark.eq (k0 : Option Addr) (number0 : Int) (head0 : ByteArray) (hidden0 : ByteArray) (K : Value → Heap → Prop) (E : Value → Heap → Prop) (H : Heap) :
    fnT Tryd.prog Tryd.f42 (wC Tryd.prog seal_Key_mark.Γ seal_Key_mark.plan seal_Key_mark.body) [(.pointer k0), (.int .i64 number0), (.string head0), (.string hidden0)] K E H = seal_Key_mark.vc k0 number0 head0 hidden0 (fun r0_0 H => K (.string r0_0) H) E H := by
  kernel_rfl
theorem seal_Key_mark.Fe {args : List Value} {K E : Value → Heap → Prop} {H : Heap} (h : seal_Key_mark.F args K E H) : ∃ k0 number0 head0 hidden0, args = [(.pointer k0), (.int .i64 number0), (.string head0), (.string hidden0)] ∧ seal_Key_mark.c k0 number0 head0 hidden0 (fun r0_0 H => K (.string r0_0) H) E H := by
  unfold seal_Key_mark.F at h
  split at h
  · exact ⟨_, _, _, _, rfl, h⟩
  · exact h.elim
theorem seal_Key_mark.ok : CalleeOk Tryd.prog 42 seal_Key_mark.F :=
  callee_ok seal_Key_mark.hΓ (fn := Tryd.f42) (c := seal_Key_mark.body) (T := wC Tryd.prog seal_Key_mark.Γ seal_Key_mark.plan seal_Key_mark.body) (by kernel_rfl) (by kernel_rfl) (by kernel_rfl) (wC_sound seal_Key_mark.hΓ Tryd.hm seal_Key_mark.plan _ seal_Key_mark.pok) fun _ K E H h => by
    obtain ⟨z0, z1, z2, z3, e, h⟩ := seal_Key_mark.Fe h
    subst e
    have h2 : seal_Key_mark.vc z0 z1 z2 z3 (fun r0_0 H => ∃ H', Heap.Le H' H ∧ K (.string r0_0) H') E H := h.h
    rw [seal_Key_mark.eq z0 z1 z2 z3 (Fg K) E H]
    exact h2

/-! (*vizard/seal.Key).Seal -/
noncomputable def seal_Key_Seal.body : Code := Tryd.f24.body.getD .skip
def seal_Key_Seal.vc (k0 : Option Addr) (number0 : Int) (head0 : ByteArray) (data0 : ByteArray) (K : ByteArray → Heap → Prop) (E : Value → Heap → Prop) (h0 : Heap) : Prop :=
  nilc k0 fun a0 =>
  sync_atomic_Int64_Add.c (some (a0.add 44)) 1 (fun x0 h1 =>
  seal_Key_hide.c k0 number0 data0 (fun x1 h2 =>
  seal_Key_mark.c k0 number0 head0 x1 (fun x2 h3 =>
  x1.size + x2.size ≤ 9223372036854775807 ∧
  K (x1 ++ x2) h3) E h2) E h1) E h0
structure seal_Key_Seal.c (k0 : Option Addr) (number0 : Int) (head0 : ByteArray) (data0 : ByteArray) (K : ByteArray → Heap → Prop) (E : Value → Heap → Prop) (H : Heap) : Prop where
  h : seal_Key_Seal.vc k0 number0 head0 data0 (fun r0_0 H => ∃ H', Heap.Le H' H ∧ K r0_0 H') E H
def seal_Key_Seal.F : FT := fun args K E H => match args with
  | [(.pointer k0), (.int .i64 number0), (.string head0), (.string data0)] => seal_Key_Seal.c k0 number0 head0 data0 (fun r0_0 H => K (.string r0_0) H) E H
  | _ => False
noncomputable def seal_Key_Seal.Γ : FuncId → Option FT := Γof [(40, sync_atomic_Int64_Add.F), (41, seal_Key_hide.F), (42, seal_Key_mark.F)]
theorem seal_Key_Seal.hΓ : ∀ f F, seal_Key_Seal.Γ f = some F → CalleeOk Tryd.prog f F := Γof_ok (List.forall_mem_cons.2 ⟨sync_atomic_Int64_Add.ok, List.forall_mem_cons.2 ⟨seal_Key_hide.ok, List.forall_mem_cons.2 ⟨seal_Key_mark.ok, fun _ h => nomatch h⟩⟩⟩)
noncomputable def seal_Key_Seal.plan : Plan := .go
theorem seal_Key_Seal.pok : PlanOk Tryd.prog seal_Key_Seal.plan seal_Key_Seal.body := by
  have e : PlanOk Tryd.prog seal_Key_Seal.plan seal_Key_Seal.body = (True) := by kernel_rfl
  exact e.mpr trivial
theorem seal_Key_Seal.eq (k0 : Option Addr) (number0 : Int) (head0 : ByteArray) (data0 : ByteArray) (K : Value → Heap → Prop) (E : Value → Heap → Prop) (H : Heap) :
    fnT Tryd.prog Tryd.f24 (wC Tryd.prog seal_Key_Seal.Γ seal_Key_Seal.plan seal_Key_Seal.body) [(.pointer k0), (.int .i64 number0), (.string head0), (.string data0)] K E H = seal_Key_Seal.vc k0 number0 head0 data0 (fun r0_0 H => K (.string r0_0) H) E H := by
  kernel_rfl
theorem seal_Key_Seal.Fe {args : List Value} {K E : Value → Heap → Prop} {H : Heap} (h : seal_Key_Seal.F args K E H) : ∃ k0 number0 head0 data0, args = [(.pointer k0), (.int .i64 number0), (.string head0), (.string data0)] ∧ seal_Key_Seal.c k0 number0 head0 data0 (fun r0_0 H => K (.string r0_0) H) E H := by
  unfold seal_Key_Seal.F at h
  split at h
  · exact ⟨_, _, _, _, rfl, h⟩
  · exact h.elim
theorem seal_Key_Seal.ok : CalleeOk Tryd.prog 24 seal_Key_Seal.F :=
  callee_ok seal_Key_Seal.hΓ (fn := Tryd.f24) (c := seal_Key_Seal.body) (T := wC Tryd.prog seal_Key_Seal.Γ seal_Key_Seal.plan seal_Key_Seal.body) (by kernel_rfl) (by kernel_rfl) (by kernel_rfl) (wC_sound seal_Key_Seal.hΓ Tryd.hm seal_Key_Seal.plan _ seal_Key_Seal.pok) fun _ K E H h => by
    obtain ⟨z0, z1, z2, z3, e, h⟩ := seal_Key_Seal.Fe h
    subst e
    have h2 : seal_Key_Seal.vc z0 z1 z2 z3 (fun r0_0 H => ∃ H', Heap.Le H' H ∧ K (.string r0_0) H') E H := h.h
    rw [seal_Key_Seal.eq z0 z1 z2 z3 (Fg K) E H]
    exact h2

/-! (*vizard/seal.Key).Open -/
noncomputable def seal_Key_Open.body : Code := Tryd.f26.body.getD .skip
def seal_Key_Open.vc (k0 : Option Addr) (number0 : Int) (head0 : ByteArray) (sealed0 : ByteArray) (K : ByteArray → Int → Heap → Prop) (E : Value → Heap → Prop) (h0 : Heap) : Prop :=
  (if (decide ((IntKind.i64.wrap ((sealed0.size : Int) - 16)) < 0)) = true then
  K (⟨#[]⟩ : ByteArray) 1 h0
  else
  (0 : Int) ≤ (IntKind.i64.wrap ((sealed0.size : Int) - 16)) ∧ (IntKind.i64.wrap ((sealed0.size : Int) - 16)) ≤ (sealed0.size : Int) ∧
  (0 : Int) ≤ (IntKind.i64.wrap ((sealed0.size : Int) - 16)) ∧ (IntKind.i64.wrap ((sealed0.size : Int) - 16)) ≤ (sealed0.size : Int) ∧ sealed0.size ≤ sealed0.size ∧
  seal_Key_mark.c k0 number0 head0 (sealed0.extract 0 (IntKind.i64.wrap ((sealed0.size : Int) - 16)).toNat) (fun x0 h1 =>
  (if (!(x0.toList == (sealed0.extract (IntKind.i64.wrap ((sealed0.size : Int) - 16)).toNat sealed0.size).toList)) = true then
  K (⟨#[]⟩ : ByteArray) 10 h1
  else
  nilc k0 fun a0 =>
  sync_atomic_Int64_Add.c (some (a0.add 45)) 1 (fun x1 h2 =>
  seal_Key_hide.c k0 number0 (sealed0.extract 0 (IntKind.i64.wrap ((sealed0.size : Int) - 16)).toNat) (fun x2 h3 =>
  K x2 0 h3) E h2) E h1)) E h0)
structure seal_Key_Open.c (k0 : Option Addr) (number0 : Int) (head0 : ByteArray) (sealed0 : ByteArray) (K : ByteArray → Int → Heap → Prop) (E : Value → Heap → Prop) (H : Heap) : Prop where
  h : seal_Key_Open.vc k0 number0 head0 sealed0 (fun r0_0 r1_0 H => ∃ H', Heap.Le H' H ∧ K r0_0 r1_0 H') E H
def seal_Key_Open.F : FT := fun args K E H => match args with
  | [(.pointer k0), (.int .i64 number0), (.string head0), (.string sealed0)] => seal_Key_Open.c k0 number0 head0 sealed0 (fun r0_0 r1_0 H => K (.tuple #[(.string r0_0), (.int .i64 r1_0)]) H) E H
  | _ => False
noncomputable def seal_Key_Open.Γ : FuncId → Option FT := Γof [(40, sync_atomic_Int64_Add.F), (41, seal_Key_hide.F), (42, seal_Key_mark.F)]
theorem seal_Key_Open.hΓ : ∀ f F, seal_Key_Open.Γ f = some F → CalleeOk Tryd.prog f F := Γof_ok (List.forall_mem_cons.2 ⟨sync_atomic_Int64_Add.ok, List.forall_mem_cons.2 ⟨seal_Key_hide.ok, List.forall_mem_cons.2 ⟨seal_Key_mark.ok, fun _ h => nomatch h⟩⟩⟩)
noncomputable def seal_Key_Open.plan : Plan := .seq (.go) (.seq (.go) (.seq (.go) (.seq (.go) (.seq (.seq (.draw ⟨[0, 1, 2, 3, 4, 5, 6, 7, 8], (dl [(0, []), (1, []), (2, []), (3, []), (5, []), (6, []), (7, []), (4, [0, 1, 2, 3]), (8, [])] .fin), []⟩) (.go)) (.go)))))
theorem seal_Key_Open.pok : PlanOk Tryd.prog seal_Key_Open.plan seal_Key_Open.body := by
  have e : PlanOk Tryd.prog seal_Key_Open.plan seal_Key_Open.body = ((True) ∧ ((True) ∧ ((True) ∧ ((True) ∧ (((True) ∧ (True)) ∧ (True)))))) := by kernel_rfl
  exact e.mpr ⟨trivial, ⟨trivial, ⟨trivial, ⟨trivial, ⟨⟨trivial, trivial⟩, trivial⟩⟩⟩⟩⟩
theorem seal_Key_Open.eq (k0 : Option Addr) (number0 : Int) (head0 : ByteArray) (sealed0 : ByteArray) (K : Value → Heap → Prop) (E : Value → Heap → Prop) (H : Heap) :
    fnT Tryd.prog Tryd.f26 (wC Tryd.prog seal_Key_Open.Γ seal_Key_Open.plan seal_Key_Open.body) [(.pointer k0), (.int .i64 number0), (.string head0), (.string sealed0)] K E H = seal_Key_Open.vc k0 number0 head0 sealed0 (fun r0_0 r1_0 H => K (.tuple #[(.string r0_0), (.int .i64 r1_0)]) H) E H := by
  kernel_rfl
theorem seal_Key_Open.Fe {args : List Value} {K E : Value → Heap → Prop} {H : Heap} (h : seal_Key_Open.F args K E H) : ∃ k0 number0 head0 sealed0, args = [(.pointer k0), (.int .i64 number0), (.string head0), (.string sealed0)] ∧ seal_Key_Open.c k0 number0 head0 sealed0 (fun r0_0 r1_0 H => K (.tuple #[(.string r0_0), (.int .i64 r1_0)]) H) E H := by
  unfold seal_Key_Open.F at h
  split at h
  · exact ⟨_, _, _, _, rfl, h⟩
  · exact h.elim
theorem seal_Key_Open.ok : CalleeOk Tryd.prog 26 seal_Key_Open.F :=
  callee_ok seal_Key_Open.hΓ (fn := Tryd.f26) (c := seal_Key_Open.body) (T := wC Tryd.prog seal_Key_Open.Γ seal_Key_Open.plan seal_Key_Open.body) (by kernel_rfl) (by kernel_rfl) (by kernel_rfl) (wC_sound seal_Key_Open.hΓ Tryd.hm seal_Key_Open.plan _ seal_Key_Open.pok) fun _ K E H h => by
    obtain ⟨z0, z1, z2, z3, e, h⟩ := seal_Key_Open.Fe h
    subst e
    have h2 : seal_Key_Open.vc z0 z1 z2 z3 (fun r0_0 r1_0 H => ∃ H', Heap.Le H' H ∧ K (.tuple #[(.string r0_0), (.int .i64 r1_0)]) H') E H := h.h
    rw [seal_Key_Open.eq z0 z1 z2 z3 (Fg K) E H]
    exact h2

/-! vizard/vizardlaw06.works -/
noncomputable def vizardlaw06_works.body : Code := Tryd.f22.body.getD .skip
def vizardlaw06_works.vc (K : Bool → Heap → Prop) (E : Value → Heap → Prop) (h0 : Heap) : Prop :=
  seal_New.c (⟨#[115, 101, 99, 114, 101, 116]⟩ : ByteArray) (fun x0 h1 =>
  (if (Option.isNone x0) = true then
  K false h1
  else
  seal_Key_Seal.c x0 7 (⟨#[104]⟩ : ByteArray) (⟨#[97, 98, 99]⟩ : ByteArray) (fun x1 h2 =>
  seal_Key_Open.c x0 7 (⟨#[104]⟩ : ByteArray) x1 (fun x2 x3 h3 =>
  seal_Key_Open.c x0 8 (⟨#[104]⟩ : ByteArray) x1 (fun x4 x5 h4 =>
  (if ((x1.size : Int) == 19) = true then
  (if (x2.toList == (⟨#[97, 98, 99]⟩ : ByteArray).toList) = true then
  (if (x3 == 0) = true then
  K (x5 == 10) h4
  else
  K false h4)
  else
  K false h4)
  else
  K false h4)) E h3) E h2) E h1)) E h0
structure vizardlaw06_works.c (K : Bool → Heap → Prop) (E : Value → Heap → Prop) (H : Heap) : Prop where
  h : vizardlaw06_works.vc  (fun r0_0 H => ∃ H', Heap.Le H' H ∧ K r0_0 H') E H
def vizardlaw06_works.F : FT := fun args K E H => match args with
  | [] => vizardlaw06_works.c  (fun r0_0 H => K (.bool r0_0) H) E H
  | _ => False
noncomputable def vizardlaw06_works.Γ : FuncId → Option FT := Γof [(23, seal_New.F), (24, seal_Key_Seal.F), (26, seal_Key_Open.F)]
theorem vizardlaw06_works.hΓ : ∀ f F, vizardlaw06_works.Γ f = some F → CalleeOk Tryd.prog f F := Γof_ok (List.forall_mem_cons.2 ⟨seal_New.ok, List.forall_mem_cons.2 ⟨seal_Key_Seal.ok, List.forall_mem_cons.2 ⟨seal_Key_Open.ok, fun _ h => nomatch h⟩⟩⟩)
noncomputable def vizardlaw06_works.plan : Plan := .go
theorem vizardlaw06_works.pok : PlanOk Tryd.prog vizardlaw06_works.plan vizardlaw06_works.body := by
  have e : PlanOk Tryd.prog vizardlaw06_works.plan vizardlaw06_works.body = (True) := by kernel_rfl
  exact e.mpr trivial
theorem vizardlaw06_works.eq (K : Value → Heap → Prop) (E : Value → Heap → Prop) (H : Heap) :
    fnT Tryd.prog Tryd.f22 (wC Tryd.prog vizardlaw06_works.Γ vizardlaw06_works.plan vizardlaw06_works.body) [] K E H = vizardlaw06_works.vc  (fun r0_0 H => K (.bool r0_0) H) E H := by
  kernel_rfl
theorem vizardlaw06_works.Fe {args : List Value} {K E : Value → Heap → Prop} {H : Heap} (h : vizardlaw06_works.F args K E H) : args = [] ∧ vizardlaw06_works.c  (fun r0_0 H => K (.bool r0_0) H) E H := by
  unfold vizardlaw06_works.F at h
  split at h
  · exact ⟨rfl, h⟩
  · exact h.elim
theorem vizardlaw06_works.ok : CalleeOk Tryd.prog 22 vizardlaw06_works.F :=
  callee_ok vizardlaw06_works.hΓ (fn := Tryd.f22) (c := vizardlaw06_works.body) (T := wC Tryd.prog vizardlaw06_works.Γ vizardlaw06_works.plan vizardlaw06_works.body) (by kernel_rfl) (by kernel_rfl) (by kernel_rfl) (wC_sound vizardlaw06_works.hΓ Tryd.hm vizardlaw06_works.plan _ vizardlaw06_works.pok) fun _ K E H h => by
    obtain ⟨e, h⟩ := vizardlaw06_works.Fe h
    subst e
    have h2 : vizardlaw06_works.vc (fun r0_0 H => ∃ H', Heap.Le H' H ∧ K (.bool r0_0) H') E H := h.h
    rw [vizardlaw06_works.eq (Fg K) E H]
    exact h2

/-! vizard/vizardref06.Eight -/
noncomputable def vizardref06_Eight.body : Code := Tryd.f43.body.getD .skip
def vizardref06_Eight.J2.vc (b0 : Option Addr) (b1 : Nat) (b2 : Nat) (u0 : Int) (i0 : Int) (Kn : Int → Heap → Prop) (E : Value → Heap → Prop) (h0 : Heap) : Prop :=
  256 ≠ (0 : Int) ∧
  Kn (IntKind.u64.wrap (Int.tdiv u0 256)) h0
structure vizardref06_Eight.J2 (b0 : Option Addr) (b1 : Nat) (b2 : Nat) (u0 : Int) (i0 : Int) (Kn : Int → Heap → Prop) (E : Value → Heap → Prop) (H : Heap) : Prop where
  h : vizardref06_Eight.J2.vc b0 b1 b2 u0 i0 Kn E H
def vizardref06_Eight.J3.vc (b0 : Option Addr) (b1 : Nat) (b2 : Nat) (u0 : Int) (i0 : Int) (Kn : Int → Heap → Prop) (E : Value → Heap → Prop) (h0 : Heap) : Prop :=
  Kn (IntKind.i64.wrap (i0 + 1)) h0
structure vizardref06_Eight.J3 (b0 : Option Addr) (b1 : Nat) (b2 : Nat) (u0 : Int) (i0 : Int) (Kn : Int → Heap → Prop) (E : Value → Heap → Prop) (H : Heap) : Prop where
  h : vizardref06_Eight.J3.vc b0 b1 b2 u0 i0 Kn E H
def vizardref06_Eight.W1.vc (b0 : Option Addr) (b1 : Nat) (b2 : Nat) (u0 : Int) (i0 : Int) (Kx0 : Option Addr → Nat → Nat → Heap → Prop) (RR : Option Addr → Nat → Nat → Int → Int → Heap → Prop) (E : Value → Heap → Prop) (h0 : Heap) : Prop :=
  (if (decide (i0 < 8)) = true then
  256 ≠ (0 : Int) ∧
  newB (.cells #[(.int .u8 (IntKind.u8.wrap (Int.tmod u0 256)))] 5) (fun b3 h1 =>
  rdRow h1 b0 (b1 * 1) fun cs0 =>
  appT 5 (.int .u8 0) (some (⟨b3, 0, none⟩ : Addr)) 1 b1 1 1 1 cs0 (fun p0 n0 c0 h2 =>
  vizardref06_Eight.J2 p0 n0 c0 u0 i0 (fun u1 h3 =>
  vizardref06_Eight.J3 p0 n0 c0 u1 i0 (fun i1 h4 =>
  RR p0 n0 c0 u1 i1 h4) E h3) E h2) h1) h0
  else
  Kx0 b0 b1 b2 h0)
structure vizardref06_Eight.W1 (b0 : Option Addr) (b1 : Nat) (b2 : Nat) (u0 : Int) (i0 : Int) (Kx0 : Option Addr → Nat → Nat → Heap → Prop) (E : Value → Heap → Prop) (H : Heap) : Prop where
  h : Loop (fun (RR : Option Addr × Nat × Nat × Int × Int → Heap → Prop) (s : Option Addr × Nat × Nat × Int × Int) (H : Heap) => vizardref06_Eight.W1.vc s.1 s.2.1 s.2.2.1 s.2.2.2.1 s.2.2.2.2 Kx0 (fun b0 b1 b2 u0 i0 H => RR (b0, b1, b2, u0, i0) H) E H) (b0, b1, b2, u0, i0) H
def vizardref06_Eight.vc (n0 : Int) (K : ByteArray → Heap → Prop) (E : Value → Heap → Prop) (h0 : Heap) : Prop :=
  vizardref06_Eight.W1 none 0 0 (IntKind.u64.wrap n0) 0 (fun b0 b1 b2 h1 =>
  rdBytes h1 b0 b1 fun x0 =>
  K x0 h1) E h0
structure vizardref06_Eight.c (n0 : Int) (K : ByteArray → Heap → Prop) (E : Value → Heap → Prop) (H : Heap) : Prop where
  h : vizardref06_Eight.vc n0 (fun r0_0 H => ∃ H', Heap.Le H' H ∧ K r0_0 H') E H
def vizardref06_Eight.F : FT := fun args K E H => match args with
  | [(.int .i64 n0)] => vizardref06_Eight.c n0 (fun r0_0 H => K (.string r0_0) H) E H
  | _ => False
noncomputable def vizardref06_Eight.Γ : FuncId → Option FT := Γof []
theorem vizardref06_Eight.hΓ : ∀ f F, vizardref06_Eight.Γ f = some F → CalleeOk Tryd.prog f F := Γof_ok (fun _ h => nomatch h)
def vizardref06_Eight.J2.t : CT := fun Q E fr H => lenIs 22 fr (slSl fr 3 fun b0 b1 b2 => slI fr 4 .u64 fun u0 => slI fr 5 .i64 fun i0 => vizardref06_Eight.J2 b0 b1 b2 u0 i0 (fun y4_0 H => Q .normal (mkF 22 [(3, (.slice b0 b1 b2)), (4, (.int .u64 y4_0)), (5, (.int .i64 i0))]) H) E H)
noncomputable def vizardref06_Eight.J2.plan : Plan := .go
theorem vizardref06_Eight.J2.pok : PlanOk Tryd.prog vizardref06_Eight.J2.plan (sub [1, 1, 1, 0, 1, 0, 0, 1, 0, 0, 1] vizardref06_Eight.body) := by
  have e : PlanOk Tryd.prog vizardref06_Eight.J2.plan (sub [1, 1, 1, 0, 1, 0, 0, 1, 0, 0, 1] vizardref06_Eight.body) = (True) := by kernel_rfl
  exact e.mpr trivial
theorem vizardref06_Eight.J2.eq (b0 : Option Addr) (b1 : Nat) (b2 : Nat) (u0 : Int) (i0 : Int) (Q : Ex → Fr → Heap → Prop) (E : Value → Heap → Prop) (H : Heap) :
    vizardref06_Eight.J2.vc b0 b1 b2 u0 i0 (fun y4_0 H => Q .normal (mkF 22 [(3, (.slice b0 b1 b2)), (4, (.int .u64 y4_0)), (5, (.int .i64 i0))]) H) E H = keepT [3, 4, 5] [] (fun i => []) (wC Tryd.prog vizardref06_Eight.Γ vizardref06_Eight.J2.plan (sub [1, 1, 1, 0, 1, 0, 0, 1, 0, 0, 1] vizardref06_Eight.body)) Q E (mkF 22 [(3, (.slice b0 b1 b2)), (4, (.int .u64 u0)), (5, (.int .i64 i0))]) H := by
  kernel_rfl
theorem vizardref06_Eight.J2.ok : SoundCode Tryd.prog (sub [1, 1, 1, 0, 1, 0, 0, 1, 0, 0, 1] vizardref06_Eight.body) vizardref06_Eight.J2.t := by
  refine piece_sound (keepT_sound [3, 4, 5] [] (fun i => []) (wC_sound vizardref06_Eight.hΓ Tryd.hm vizardref06_Eight.J2.plan _ vizardref06_Eight.J2.pok)) ?_
  intro Q E fr H h
  unfold vizardref06_Eight.J2.t at h
  obtain ⟨hl, h⟩ := lenIs_elim h
  obtain ⟨b0, b1, b2, q3, h⟩ := slSl_elim h
  obtain ⟨u0, q4, h⟩ := slI_elim h
  obtain ⟨i0, q5, h⟩ := slI_elim h
  refine ⟨(mkF 22 [(3, (.slice b0 b1 b2)), (4, (.int .u64 u0)), (5, (.int .i64 i0))]), fun a ha => ha.mk (Nat.le_of_eq hl.symm) (List.forall_mem_cons.2 ⟨q3, List.forall_mem_cons.2 ⟨q4, List.forall_mem_cons.2 ⟨q5, fun _ h => nomatch h⟩⟩⟩), ?_⟩
  have e := vizardref06_Eight.J2.eq b0 b1 b2 u0 i0 Q E H
  rw [← e]
  exact h.h
def vizardref06_Eight.J3.t : CT := fun Q E fr H => lenIs 22 fr (slSl fr 3 fun b0 b1 b2 => slI fr 4 .u64 fun u0 => slI fr 5 .i64 fun i0 => vizardref06_Eight.J3 b0 b1 b2 u0 i0 (fun y5_0 H => Q .normal (mkF 22 [(3, (.slice b0 b1 b2)), (4, (.int .u64 u0)), (5, (.int .i64 y5_0))]) H) E H)
noncomputable def vizardref06_Eight.J3.plan : Plan := .go
theorem vizardref06_Eight.J3.pok : PlanOk Tryd.prog vizardref06_Eight.J3.plan (sub [1, 1, 1, 0, 1, 0, 0, 1, 1] vizardref06_Eight.body) := by
  have e : PlanOk Tryd.prog vizardref06_Eight.J3.plan (sub [1, 1, 1, 0, 1, 0, 0, 1, 1] vizardref06_Eight.body) = (True) := by kernel_rfl
  exact e.mpr trivial
theorem vizardref06_Eight.J3.eq (b0 : Option Addr) (b1 : Nat) (b2 : Nat) (u0 : Int) (i0 : Int) (Q : Ex → Fr → Heap → Prop) (E : Value → Heap → Prop) (H : Heap) :
    vizardref06_Eight.J3.vc b0 b1 b2 u0 i0 (fun y5_0 H => Q .normal (mkF 22 [(3, (.slice b0 b1 b2)), (4, (.int .u64 u0)), (5, (.int .i64 y5_0))]) H) E H = keepT [3, 4, 5] [] (fun i => []) (wC Tryd.prog vizardref06_Eight.Γ vizardref06_Eight.J3.plan (sub [1, 1, 1, 0, 1, 0, 0, 1, 1] vizardref06_Eight.body)) Q E (mkF 22 [(3, (.slice b0 b1 b2)), (4, (.int .u64 u0)), (5, (.int .i64 i0))]) H := by
  kernel_rfl
theorem vizardref06_Eight.J3.ok : SoundCode Tryd.prog (sub [1, 1, 1, 0, 1, 0, 0, 1, 1] vizardref06_Eight.body) vizardref06_Eight.J3.t := by
  refine piece_sound (keepT_sound [3, 4, 5] [] (fun i => []) (wC_sound vizardref06_Eight.hΓ Tryd.hm vizardref06_Eight.J3.plan _ vizardref06_Eight.J3.pok)) ?_
  intro Q E fr H h
  unfold vizardref06_Eight.J3.t at h
  obtain ⟨hl, h⟩ := lenIs_elim h
  obtain ⟨b0, b1, b2, q3, h⟩ := slSl_elim h
  obtain ⟨u0, q4, h⟩ := slI_elim h
  obtain ⟨i0, q5, h⟩ := slI_elim h
  refine ⟨(mkF 22 [(3, (.slice b0 b1 b2)), (4, (.int .u64 u0)), (5, (.int .i64 i0))]), fun a ha => ha.mk (Nat.le_of_eq hl.symm) (List.forall_mem_cons.2 ⟨q3, List.forall_mem_cons.2 ⟨q4, List.forall_mem_cons.2 ⟨q5, fun _ h => nomatch h⟩⟩⟩), ?_⟩
  have e := vizardref06_Eight.J3.eq b0 b1 b2 u0 i0 Q E H
  rw [← e]
  exact h.h
def vizardref06_Eight.W1.t : CT := fun Q E fr H => lenIs 22 fr (slSl fr 3 fun b0 b1 b2 => slI fr 4 .u64 fun u0 => slI fr 5 .i64 fun i0 => vizardref06_Eight.W1 b0 b1 b2 u0 i0 (fun y3_0 y3_1 y3_2 H => Q (.exit 0) (mkF 22 [(3, (.slice y3_0 y3_1 y3_2))]) H) E H)
noncomputable def vizardref06_Eight.W1.plan : Plan := .seq (.go) (.seq (.block (.seq (.go) (.use vizardref06_Eight.J2.t))) (.use vizardref06_Eight.J3.t))
theorem vizardref06_Eight.W1.pok : PlanOk Tryd.prog vizardref06_Eight.W1.plan (sub [1, 1, 1, 0, 1, 0, 0] vizardref06_Eight.body) := by
  have e : PlanOk Tryd.prog vizardref06_Eight.W1.plan (sub [1, 1, 1, 0, 1, 0, 0] vizardref06_Eight.body) = ((True) ∧ (((True) ∧ (SoundCode Tryd.prog (sub [1, 1, 1, 0, 1, 0, 0, 1, 0, 0, 1] vizardref06_Eight.body) vizardref06_Eight.J2.t)) ∧ (SoundCode Tryd.prog (sub [1, 1, 1, 0, 1, 0, 0, 1, 1] vizardref06_Eight.body) vizardref06_Eight.J3.t))) := by kernel_rfl
  exact e.mpr ⟨trivial, ⟨⟨trivial, vizardref06_Eight.J2.ok⟩, vizardref06_Eight.J3.ok⟩⟩
theorem vizardref06_Eight.W1.eq (Q : Ex → Fr → Heap → Prop) (E : Value → Heap → Prop) (RR : Fr → Heap → Prop) (s : Option Addr × Nat × Nat × Int × Int) (H : Heap) :
    (fun (RR : Option Addr × Nat × Nat × Int × Int → Heap → Prop) (s : Option Addr × Nat × Nat × Int × Int) (H : Heap) => vizardref06_Eight.W1.vc s.1 s.2.1 s.2.2.1 s.2.2.2.1 s.2.2.2.2 (fun y3_0 y3_1 y3_2 H => Q (.exit 0) (mkF 22 [(3, (.slice y3_0 y3_1 y3_2))]) H) (fun b0 b1 b2 u0 i0 H => RR (b0, b1, b2, u0, i0) H) E H) (fun s' H' => RR ((fun (s : Option Addr × Nat × Nat × Int × Int) => (mkF 22 [(3, (.slice s.1 s.2.1 s.2.2.1)), (4, (.int .u64 s.2.2.2.1)), (5, (.int .i64 s.2.2.2.2))])) s') H') s H = keepT [3, 4, 5] [] (fun i => if i = 0 then [3] else []) (wC Tryd.prog vizardref06_Eight.Γ vizardref06_Eight.W1.plan (sub [1, 1, 1, 0, 1, 0, 0] vizardref06_Eight.body)) (fun e fr' H' => match e with | .normal => RR fr' H' | .exit id => Q (.exit id) fr' H' | .ret => Q .ret fr' H') E ((fun (s : Option Addr × Nat × Nat × Int × Int) => (mkF 22 [(3, (.slice s.1 s.2.1 s.2.2.1)), (4, (.int .u64 s.2.2.2.1)), (5, (.int .i64 s.2.2.2.2))])) s) H := by
  kernel_rfl
theorem vizardref06_Eight.W1.ok : SoundCode Tryd.prog (sub [1, 1, 1, 0, 1, 0] vizardref06_Eight.body) vizardref06_Eight.W1.t := by
  have e : (sub [1, 1, 1, 0, 1, 0] vizardref06_Eight.body) = .loop (sub [1, 1, 1, 0, 1, 0, 0] vizardref06_Eight.body) := by kernel_rfl
  rw [e]
  refine piece_sound (loopN_sound (keepT_sound [3, 4, 5] [] (fun i => if i = 0 then [3] else []) (wC_sound vizardref06_Eight.hΓ Tryd.hm vizardref06_Eight.W1.plan _ vizardref06_Eight.W1.pok))) ?_
  intro Q E fr H h
  unfold vizardref06_Eight.W1.t at h
  obtain ⟨hl, h⟩ := lenIs_elim h
  obtain ⟨b0, b1, b2, q3, h⟩ := slSl_elim h
  obtain ⟨u0, q4, h⟩ := slI_elim h
  obtain ⟨i0, q5, h⟩ := slI_elim h
  obtain ⟨m, h⟩ := h.h
  refine ⟨(mkF 22 [(3, (.slice b0 b1 b2)), (4, (.int .u64 u0)), (5, (.int .i64 i0))]), fun a ha => ha.mk (Nat.le_of_eq hl.symm) (List.forall_mem_cons.2 ⟨q3, List.forall_mem_cons.2 ⟨q4, List.forall_mem_cons.2 ⟨q5, fun _ h => nomatch h⟩⟩⟩), m, ?_⟩
  have e := loopS_eq (B := (fun (RR : Option Addr × Nat × Nat × Int × Int → Heap → Prop) (s : Option Addr × Nat × Nat × Int × Int) (H : Heap) => vizardref06_Eight.W1.vc s.1 s.2.1 s.2.2.1 s.2.2.2.1 s.2.2.2.2 (fun y3_0 y3_1 y3_2 H => Q (.exit 0) (mkF 22 [(3, (.slice y3_0 y3_1 y3_2))]) H) (fun b0 b1 b2 u0 i0 H => RR (b0, b1, b2, u0, i0) H) E H)) (A := keepT [3, 4, 5] [] (fun i => if i = 0 then [3] else []) (wC Tryd.prog vizardref06_Eight.Γ vizardref06_Eight.W1.plan (sub [1, 1, 1, 0, 1, 0, 0] vizardref06_Eight.body))) (m := (fun (s : Option Addr × Nat × Nat × Int × Int) => (mkF 22 [(3, (.slice s.1 s.2.1 s.2.2.1)), (4, (.int .u64 s.2.2.2.1)), (5, (.int .i64 s.2.2.2.2))]))) (Q := Q) (E := E) (fun RR s H => vizardref06_Eight.W1.eq  Q E RR s H) m (b0, b1, b2, u0, i0) H
  exact cast e h
noncomputable def vizardref06_Eight.plan : Plan := .seq (.go) (.seq (.go) (.seq (.go) (.seq (.seq (.go) (.block (.use vizardref06_Eight.W1.t))) (.go))))
theorem vizardref06_Eight.pok : PlanOk Tryd.prog vizardref06_Eight.plan vizardref06_Eight.body := by
  have e : PlanOk Tryd.prog vizardref06_Eight.plan vizardref06_Eight.body = ((True) ∧ ((True) ∧ ((True) ∧ (((True) ∧ (SoundCode Tryd.prog (sub [1, 1, 1, 0, 1, 0] vizardref06_Eight.body) vizardref06_Eight.W1.t)) ∧ (True))))) := by kernel_rfl
  exact e.mpr ⟨trivial, ⟨trivial, ⟨trivial, ⟨⟨trivial, vizardref06_Eight.W1.ok⟩, trivial⟩⟩⟩⟩
theorem vizardref06_Eight.eq (n0 : Int) (K : Value → Heap → Prop) (E : Value → Heap → Prop) (H : Heap) :
    fnT Tryd.prog Tryd.f43 (wC Tryd.prog vizardref06_Eight.Γ vizardref06_Eight.plan vizardref06_Eight.body) [(.int .i64 n0)] K E H = vizardref06_Eight.vc n0 (fun r0_0 H => K (.string r0_0) H) E H := by
  kernel_rfl
theorem vizardref06_Eight.Fe {args : List Value} {K E : Value → Heap → Prop} {H : Heap} (h : vizardref06_Eight.F args K E H) : ∃ n0, args = [(.int .i64 n0)] ∧ vizardref06_Eight.c n0 (fun r0_0 H => K (.string r0_0) H) E H := by
  unfold vizardref06_Eight.F at h
  split at h
  · exact ⟨_, rfl, h⟩
  · exact h.elim
theorem vizardref06_Eight.ok : CalleeOk Tryd.prog 43 vizardref06_Eight.F :=
  callee_ok vizardref06_Eight.hΓ (fn := Tryd.f43) (c := vizardref06_Eight.body) (T := wC Tryd.prog vizardref06_Eight.Γ vizardref06_Eight.plan vizardref06_Eight.body) (by kernel_rfl) (by kernel_rfl) (by kernel_rfl) (wC_sound vizardref06_Eight.hΓ Tryd.hm vizardref06_Eight.plan _ vizardref06_Eight.pok) fun _ K E H h => by
    obtain ⟨z0, e, h⟩ := vizardref06_Eight.Fe h
    subst e
    have h2 : vizardref06_Eight.vc z0 (fun r0_0 H => ∃ H', Heap.Le H' H ∧ K (.string r0_0) H') E H := h.h
    rw [vizardref06_Eight.eq z0 (Fg K) E H]
    exact h2

/-! vizard/vizardref06.Tag -/
noncomputable def vizardref06_Tag.body : Code := Tryd.f25.body.getD .skip
def vizardref06_Tag.vc (secret0 : ByteArray) (number0 : Int) (head0 : ByteArray) (hidden0 : ByteArray) (K : ByteArray → Heap → Prop) (E : Value → Heap → Prop) (h0 : Heap) : Prop :=
  vizardref05_Derive.c secret0 (⟨#[116, 97, 103]⟩ : ByteArray) (⟨#[]⟩ : ByteArray) (fun x0 h1 =>
  vizardref06_Eight.c number0 (fun x1 h2 =>
  vizardref01_Text.c head0 (fun x2 h3 =>
  x1.size + x2.size ≤ 9223372036854775807 ∧
  (x1 ++ x2).size + hidden0.size ≤ 9223372036854775807 ∧
  vizardref05_Hmac.c x0 ((x1 ++ x2) ++ hidden0) (fun x3 h4 =>
  (0 : Int) ≤ 16 ∧ 16 ≤ (x3.size : Int) ∧
  K (x3.extract 0 16) h4) E h3) E h2) E h1) E h0
structure vizardref06_Tag.c (secret0 : ByteArray) (number0 : Int) (head0 : ByteArray) (hidden0 : ByteArray) (K : ByteArray → Heap → Prop) (E : Value → Heap → Prop) (H : Heap) : Prop where
  h : vizardref06_Tag.vc secret0 number0 head0 hidden0 (fun r0_0 H => ∃ H', Heap.Le H' H ∧ K r0_0 H') E H
def vizardref06_Tag.F : FT := fun args K E H => match args with
  | [(.string secret0), (.int .i64 number0), (.string head0), (.string hidden0)] => vizardref06_Tag.c secret0 number0 head0 hidden0 (fun r0_0 H => K (.string r0_0) H) E H
  | _ => False
noncomputable def vizardref06_Tag.Γ : FuncId → Option FT := Γof [(19, vizardref05_Hmac.F), (21, vizardref05_Derive.F), (39, vizardref01_Text.F), (43, vizardref06_Eight.F)]
theorem vizardref06_Tag.hΓ : ∀ f F, vizardref06_Tag.Γ f = some F → CalleeOk Tryd.prog f F := Γof_ok (List.forall_mem_cons.2 ⟨vizardref05_Hmac.ok, List.forall_mem_cons.2 ⟨vizardref05_Derive.ok, List.forall_mem_cons.2 ⟨vizardref01_Text.ok, List.forall_mem_cons.2 ⟨vizardref06_Eight.ok, fun _ h => nomatch h⟩⟩⟩⟩)
noncomputable def vizardref06_Tag.plan : Plan := .go
theorem vizardref06_Tag.pok : PlanOk Tryd.prog vizardref06_Tag.plan vizardref06_Tag.body := by
  have e : PlanOk Tryd.prog vizardref06_Tag.plan vizardref06_Tag.body = (True) := by kernel_rfl
  exact e.mpr trivial
theorem vizardref06_Tag.eq (secret0 : ByteArray) (number0 : Int) (head0 : ByteArray) (hidden0 : ByteArray) (K : Value → Heap → Prop) (E : Value → Heap → Prop) (H : Heap) :
    fnT Tryd.prog Tryd.f25 (wC Tryd.prog vizardref06_Tag.Γ vizardref06_Tag.plan vizardref06_Tag.body) [(.string secret0), (.int .i64 number0), (.string head0), (.string hidden0)] K E H = vizardref06_Tag.vc secret0 number0 head0 hidden0 (fun r0_0 H => K (.string r0_0) H) E H := by
  kernel_rfl
theorem vizardref06_Tag.Fe {args : List Value} {K E : Value → Heap → Prop} {H : Heap} (h : vizardref06_Tag.F args K E H) : ∃ secret0 number0 head0 hidden0, args = [(.string secret0), (.int .i64 number0), (.string head0), (.string hidden0)] ∧ vizardref06_Tag.c secret0 number0 head0 hidden0 (fun r0_0 H => K (.string r0_0) H) E H := by
  unfold vizardref06_Tag.F at h
  split at h
  · exact ⟨_, _, _, _, rfl, h⟩
  · exact h.elim
theorem vizardref06_Tag.ok : CalleeOk Tryd.prog 25 vizardref06_Tag.F :=
  callee_ok vizardref06_Tag.hΓ (fn := Tryd.f25) (c := vizardref06_Tag.body) (T := wC Tryd.prog vizardref06_Tag.Γ vizardref06_Tag.plan vizardref06_Tag.body) (by kernel_rfl) (by kernel_rfl) (by kernel_rfl) (wC_sound vizardref06_Tag.hΓ Tryd.hm vizardref06_Tag.plan _ vizardref06_Tag.pok) fun _ K E H h => by
    obtain ⟨z0, z1, z2, z3, e, h⟩ := vizardref06_Tag.Fe h
    subst e
    have h2 : vizardref06_Tag.vc z0 z1 z2 z3 (fun r0_0 H => ∃ H', Heap.Le H' H ∧ K (.string r0_0) H') E H := h.h
    rw [vizardref06_Tag.eq z0 z1 z2 z3 (Fg K) E H]
    exact h2

/-! vizard/vizardlaw06.SealTells -/
noncomputable def vizardlaw06_SealTells.body : Code := Tryd.f7.body.getD .skip
def vizardlaw06_SealTells.J1.vc (secret0 : ByteArray) (n0 : Int) (head0 : ByteArray) (data0 : ByteArray) (at0 : Int) (by0 : Int) (x0 : Bool) (Kn : Heap → Prop) (Kr : Bool → Heap → Prop) (E : Value → Heap → Prop) (h0 : Heap) : Prop :=
  (if x0 = true then
  Kr true h0
  else
  Kn h0)
structure vizardlaw06_SealTells.J1 (secret0 : ByteArray) (n0 : Int) (head0 : ByteArray) (data0 : ByteArray) (at0 : Int) (by0 : Int) (x0 : Bool) (Kn : Heap → Prop) (Kr : Bool → Heap → Prop) (E : Value → Heap → Prop) (H : Heap) : Prop where
  h : vizardlaw06_SealTells.J1.vc secret0 n0 head0 data0 at0 by0 x0 Kn Kr E H
def vizardlaw06_SealTells.J3.vc (secret0 : ByteArray) (n0 : Int) (head0 : ByteArray) (by0 : Int) (k0 : Option Addr) (s0 : ByteArray) (x0 : Bool) (Kn : Heap → Prop) (Kr : Bool → Heap → Prop) (E : Value → Heap → Prop) (h0 : Heap) : Prop :=
  (if x0 = true then
  Kr false h0
  else
  Kn h0)
structure vizardlaw06_SealTells.J3 (secret0 : ByteArray) (n0 : Int) (head0 : ByteArray) (by0 : Int) (k0 : Option Addr) (s0 : ByteArray) (x0 : Bool) (Kn : Heap → Prop) (Kr : Bool → Heap → Prop) (E : Value → Heap → Prop) (H : Heap) : Prop where
  h : vizardlaw06_SealTells.J3.vc secret0 n0 head0 by0 k0 s0 x0 Kn Kr E H
def vizardlaw06_SealTells.J6.vc (secret0 : ByteArray) (n0 : Int) (head0 : ByteArray) (s0 : ByteArray) (tag0 : ByteArray) (Kr : Bool → Heap → Prop) (E : Value → Heap → Prop) (h0 : Heap) : Prop :=
  secret0.size + (⟨#[120]⟩ : ByteArray).size ≤ 9223372036854775807 ∧
  (0 : Int) ≤ (IntKind.i64.wrap ((s0.size : Int) - 16)) ∧ (IntKind.i64.wrap ((s0.size : Int) - 16)) ≤ (s0.size : Int) ∧
  vizardref06_Tag.c (secret0 ++ (⟨#[120]⟩ : ByteArray)) n0 head0 (s0.extract 0 (IntKind.i64.wrap ((s0.size : Int) - 16)).toNat) (fun x0 h1 =>
  (if (!(x0.toList == tag0.toList)) = true then
  secret0.size + (⟨#[120]⟩ : ByteArray).size ≤ 9223372036854775807 ∧
  seal_New.c (secret0 ++ (⟨#[120]⟩ : ByteArray)) (fun x1 h2 =>
  seal_Key_Open.c x1 n0 head0 s0 (fun x2 x3 h3 =>
  Kr (x3 == 10) h3) E h2) E h1
  else
  Kr true h1)) E h0
structure vizardlaw06_SealTells.J6 (secret0 : ByteArray) (n0 : Int) (head0 : ByteArray) (s0 : ByteArray) (tag0 : ByteArray) (Kr : Bool → Heap → Prop) (E : Value → Heap → Prop) (H : Heap) : Prop where
  h : vizardlaw06_SealTells.J6.vc secret0 n0 head0 s0 tag0 Kr E H
def vizardlaw06_SealTells.J5.vc (secret0 : ByteArray) (n0 : Int) (head0 : ByteArray) (k0 : Option Addr) (s0 : ByteArray) (tag0 : ByteArray) (Kr : Bool → Heap → Prop) (E : Value → Heap → Prop) (h0 : Heap) : Prop :=
  head0.size + (⟨#[120]⟩ : ByteArray).size ≤ 9223372036854775807 ∧
  (0 : Int) ≤ (IntKind.i64.wrap ((s0.size : Int) - 16)) ∧ (IntKind.i64.wrap ((s0.size : Int) - 16)) ≤ (s0.size : Int) ∧
  vizardref06_Tag.c secret0 n0 (head0 ++ (⟨#[120]⟩ : ByteArray)) (s0.extract 0 (IntKind.i64.wrap ((s0.size : Int) - 16)).toNat) (fun x0 h1 =>
  (if (!(x0.toList == tag0.toList)) = true then
  head0.size + (⟨#[120]⟩ : ByteArray).size ≤ 9223372036854775807 ∧
  seal_Key_Open.c k0 n0 (head0 ++ (⟨#[120]⟩ : ByteArray)) s0 (fun x1 x2 h2 =>
  (if (x2 != 10) = true then
  Kr false h2
  else
  vizardlaw06_SealTells.J6 secret0 n0 head0 s0 tag0 Kr E h2)) E h1
  else
  vizardlaw06_SealTells.J6 secret0 n0 head0 s0 tag0 Kr E h1)) E h0
structure vizardlaw06_SealTells.J5 (secret0 : ByteArray) (n0 : Int) (head0 : ByteArray) (k0 : Option Addr) (s0 : ByteArray) (tag0 : ByteArray) (Kr : Bool → Heap → Prop) (E : Value → Heap → Prop) (H : Heap) : Prop where
  h : vizardlaw06_SealTells.J5.vc secret0 n0 head0 k0 s0 tag0 Kr E H
def vizardlaw06_SealTells.J4.vc (secret0 : ByteArray) (n0 : Int) (head0 : ByteArray) (by0 : Int) (k0 : Option Addr) (s0 : ByteArray) (Kr : Bool → Heap → Prop) (E : Value → Heap → Prop) (h0 : Heap) : Prop :=
  (0 : Int) ≤ (IntKind.i64.wrap ((s0.size : Int) - 16)) ∧ (IntKind.i64.wrap ((s0.size : Int) - 16)) ≤ (s0.size : Int) ∧ s0.size ≤ s0.size ∧
  (0 : Int) ≤ (IntKind.i64.wrap ((s0.size : Int) - 16)) ∧ (IntKind.i64.wrap ((s0.size : Int) - 16)) ≤ (s0.size : Int) ∧
  vizardref06_Tag.c secret0 (bits .xor .i64 n0 (IntKind.i64.wrap by0)) head0 (s0.extract 0 (IntKind.i64.wrap ((s0.size : Int) - 16)).toNat) (fun x0 h1 =>
  (if (!(x0.toList == (s0.extract (IntKind.i64.wrap ((s0.size : Int) - 16)).toNat s0.size).toList)) = true then
  seal_Key_Open.c k0 (bits .xor .i64 n0 (IntKind.i64.wrap by0)) head0 s0 (fun x1 x2 h2 =>
  (if (x2 != 10) = true then
  Kr false h2
  else
  vizardlaw06_SealTells.J5 secret0 n0 head0 k0 s0 (s0.extract (IntKind.i64.wrap ((s0.size : Int) - 16)).toNat s0.size) Kr E h2)) E h1
  else
  vizardlaw06_SealTells.J5 secret0 n0 head0 k0 s0 (s0.extract (IntKind.i64.wrap ((s0.size : Int) - 16)).toNat s0.size) Kr E h1)) E h0
structure vizardlaw06_SealTells.J4 (secret0 : ByteArray) (n0 : Int) (head0 : ByteArray) (by0 : Int) (k0 : Option Addr) (s0 : ByteArray) (Kr : Bool → Heap → Prop) (E : Value → Heap → Prop) (H : Heap) : Prop where
  h : vizardlaw06_SealTells.J4.vc secret0 n0 head0 by0 k0 s0 Kr E H
def vizardlaw06_SealTells.J2.vc (secret0 : ByteArray) (n0 : Int) (head0 : ByteArray) (data0 : ByteArray) (at0 : Int) (by0 : Int) (Kr : Bool → Heap → Prop) (E : Value → Heap → Prop) (h0 : Heap) : Prop :=
  seal_New.c secret0 (fun x0 h1 =>
  seal_Key_Seal.c x0 n0 head0 data0 (fun x1 h2 =>
  (if (decide ((x1.size : Int) < 16)) = true then
  Kr false h2
  else
  ∀ j0, newB (.cells ((byteVals x1).toArray ++ Array.replicate j0 (.int .u8 0)) 5 (x1.size + j0, x1.size + j0 + 1)) (fun b0 h3 =>
  (IntKind.u64.wrap (x1.size : Int)) ≠ (0 : Int) ∧
  nilc (some (⟨b0, 0, none⟩ : Addr)) fun a0 => (0 : Int) ≤ (IntKind.i64.wrap (Int.tmod (IntKind.u64.wrap at0) (IntKind.u64.wrap (x1.size : Int)))) ∧ (IntKind.i64.wrap (Int.tmod (IntKind.u64.wrap at0) (IntKind.u64.wrap (x1.size : Int)))) < (x1.size : Int) ∧
  ldI h3 .u8 (a0.add ((IntKind.i64.wrap (Int.tmod (IntKind.u64.wrap at0) (IntKind.u64.wrap (x1.size : Int)))).toNat * 1)) fun x2 =>
  nilc (some (⟨b0, 0, none⟩ : Addr)) fun a1 => (0 : Int) ≤ (IntKind.i64.wrap (Int.tmod (IntKind.u64.wrap at0) (IntKind.u64.wrap (x1.size : Int)))) ∧ (IntKind.i64.wrap (Int.tmod (IntKind.u64.wrap at0) (IntKind.u64.wrap (x1.size : Int)))) < (x1.size : Int) ∧
  stc h3 (a1.add ((IntKind.i64.wrap (Int.tmod (IntKind.u64.wrap at0) (IntKind.u64.wrap (x1.size : Int)))).toNat * 1)) (.int .u8 (bits .xor .u8 x2 by0)) fun h4 =>
  (0 : Int) ≤ (IntKind.i64.wrap ((x1.size : Int) - 16)) ∧ (IntKind.i64.wrap ((x1.size : Int) - 16)) ≤ ((x1.size + j0) : Int) ∧
  rdBytes h4 (slA (some (⟨b0, 0, none⟩ : Addr)) (x1.size + j0) 0 1) (IntKind.i64.wrap ((x1.size : Int) - 16)).toNat fun x3 =>
  (0 : Int) ≤ (IntKind.i64.wrap ((x1.size : Int) - 16)) ∧ (IntKind.i64.wrap ((x1.size : Int) - 16)) ≤ (x1.size : Int) ∧ x1.size ≤ (x1.size + j0) ∧
  rdBytes h4 (slA (some (⟨b0, 0, none⟩ : Addr)) (x1.size + j0) (IntKind.i64.wrap ((x1.size : Int) - 16)).toNat 1) (x1.size - (IntKind.i64.wrap ((x1.size : Int) - 16)).toNat) fun x4 =>
  vizardref06_Tag.c secret0 n0 head0 x3 (fun x5 h5 =>
  (rdBytes h5 (slA (some (⟨b0, 0, none⟩ : Addr)) (x1.size + j0) (IntKind.i64.wrap ((x1.size : Int) - 16)).toNat 1) (x1.size - (IntKind.i64.wrap ((x1.size : Int) - 16)).toNat) fun x6 =>
  eqv h5 h5 (some (.string x4)) (.string x6)) ∧
  (eqv h5 h5 (some (.int .i64 (x1.size : Int))) (.int .i64 (x1.size : Int))) ∧
  (if (!(x5.toList == x4.toList)) = true then
  rdBytes h5 (some (⟨b0, 0, none⟩ : Addr)) x1.size fun x7 =>
  seal_Key_Open.c x0 n0 head0 x7 (fun x8 x9 h6 =>
  (if (x9 != 10) = true then
  vizardlaw06_SealTells.J3 secret0 n0 head0 by0 x0 x1 true (fun h7 =>
  vizardlaw06_SealTells.J4 secret0 n0 head0 by0 x0 x1 Kr E h7) Kr E h6
  else
  vizardlaw06_SealTells.J3 secret0 n0 head0 by0 x0 x1 (!(x8.toList == (⟨#[]⟩ : ByteArray).toList)) (fun h10 =>
  vizardlaw06_SealTells.J4 secret0 n0 head0 by0 x0 x1 Kr E h10) Kr E h6)) E h5
  else
  vizardlaw06_SealTells.J4 secret0 n0 head0 by0 x0 x1 Kr E h5)) E h4) h2)) E h1) E h0
structure vizardlaw06_SealTells.J2 (secret0 : ByteArray) (n0 : Int) (head0 : ByteArray) (data0 : ByteArray) (at0 : Int) (by0 : Int) (Kr : Bool → Heap → Prop) (E : Value → Heap → Prop) (H : Heap) : Prop where
  h : vizardlaw06_SealTells.J2.vc secret0 n0 head0 data0 at0 by0 Kr E H
def vizardlaw06_SealTells.vc (secret0 : ByteArray) (n0 : Int) (head0 : ByteArray) (data0 : ByteArray) (at0 : Int) (by0 : Int) (K : Bool → Heap → Prop) (E : Value → Heap → Prop) (h0 : Heap) : Prop :=
  vizardlaw06_works.c (fun x0 h1 =>
  (if (!x0) = true then
  K false h1
  else
  (if (decide ((secret0.size : Int) > 500)) = true then
  vizardlaw06_SealTells.J1 secret0 n0 head0 data0 at0 by0 true (fun h2 =>
  vizardlaw06_SealTells.J2 secret0 n0 head0 data0 at0 by0 K E h2) K E h1
  else
  (if (decide ((head0.size : Int) > 500)) = true then
  vizardlaw06_SealTells.J1 secret0 n0 head0 data0 at0 by0 true (fun h5 =>
  vizardlaw06_SealTells.J2 secret0 n0 head0 data0 at0 by0 K E h5) K E h1
  else
  (if (decide ((data0.size : Int) > 500)) = true then
  vizardlaw06_SealTells.J1 secret0 n0 head0 data0 at0 by0 true (fun h8 =>
  vizardlaw06_SealTells.J2 secret0 n0 head0 data0 at0 by0 K E h8) K E h1
  else
  vizardlaw06_SealTells.J1 secret0 n0 head0 data0 at0 by0 (by0 == 0) (fun h11 =>
  vizardlaw06_SealTells.J2 secret0 n0 head0 data0 at0 by0 K E h11) K E h1))))) E h0
structure vizardlaw06_SealTells.c (secret0 : ByteArray) (n0 : Int) (head0 : ByteArray) (data0 : ByteArray) (at0 : Int) (by0 : Int) (K : Bool → Heap → Prop) (E : Value → Heap → Prop) (H : Heap) : Prop where
  h : vizardlaw06_SealTells.vc secret0 n0 head0 data0 at0 by0 (fun r0_0 H => ∃ H', Heap.Le H' H ∧ K r0_0 H') E H
def vizardlaw06_SealTells.F : FT := fun args K E H => match args with
  | [(.string secret0), (.int .i64 n0), (.string head0), (.string data0), (.int .i64 at0), (.int .u8 by0)] => vizardlaw06_SealTells.c secret0 n0 head0 data0 at0 by0 (fun r0_0 H => K (.bool r0_0) H) E H
  | _ => False
noncomputable def vizardlaw06_SealTells.Γ : FuncId → Option FT := Γof [(22, vizardlaw06_works.F), (23, seal_New.F), (24, seal_Key_Seal.F), (25, vizardref06_Tag.F), (26, seal_Key_Open.F)]
theorem vizardlaw06_SealTells.hΓ : ∀ f F, vizardlaw06_SealTells.Γ f = some F → CalleeOk Tryd.prog f F := Γof_ok (List.forall_mem_cons.2 ⟨vizardlaw06_works.ok, List.forall_mem_cons.2 ⟨seal_New.ok, List.forall_mem_cons.2 ⟨seal_Key_Seal.ok, List.forall_mem_cons.2 ⟨vizardref06_Tag.ok, List.forall_mem_cons.2 ⟨seal_Key_Open.ok, fun _ h => nomatch h⟩⟩⟩⟩⟩)
def vizardlaw06_SealTells.J1.t : CT := fun Q E fr H => lenIs 184 fr (slS fr 0 fun secret0 => slI fr 1 .i64 fun n0 => slS fr 2 fun head0 => slS fr 3 fun data0 => slI fr 4 .i64 fun at0 => slI fr 5 .u8 fun by0 => slB fr 44 fun x0 => vizardlaw06_SealTells.J1 secret0 n0 head0 data0 at0 by0 x0 (fun  H => Q .normal (mkF 184 [(0, (.string secret0)), (1, (.int .i64 n0)), (2, (.string head0)), (3, (.string data0)), (4, (.int .i64 at0)), (5, (.int .u8 by0))]) H) (fun y12_0 H => Q .ret (mkF 184 [(12, (.bool y12_0))]) H) E H)
noncomputable def vizardlaw06_SealTells.J1.plan : Plan := .go
theorem vizardlaw06_SealTells.J1.pok : PlanOk Tryd.prog vizardlaw06_SealTells.J1.plan (sub [1, 1, 0, 1] vizardlaw06_SealTells.body) := by
  have e : PlanOk Tryd.prog vizardlaw06_SealTells.J1.plan (sub [1, 1, 0, 1] vizardlaw06_SealTells.body) = (True) := by kernel_rfl
  exact e.mpr trivial
theorem vizardlaw06_SealTells.J1.eq (secret0 : ByteArray) (n0 : Int) (head0 : ByteArray) (data0 : ByteArray) (at0 : Int) (by0 : Int) (x0 : Bool) (Q : Ex → Fr → Heap → Prop) (E : Value → Heap → Prop) (H : Heap) :
    vizardlaw06_SealTells.J1.vc secret0 n0 head0 data0 at0 by0 x0 (fun  H => Q .normal (mkF 184 [(0, (.string secret0)), (1, (.int .i64 n0)), (2, (.string head0)), (3, (.string data0)), (4, (.int .i64 at0)), (5, (.int .u8 by0))]) H) (fun y12_0 H => Q .ret (mkF 184 [(12, (.bool y12_0))]) H) E H = keepT [0, 1, 2, 3, 4, 5] [12] (fun i => []) (wC Tryd.prog vizardlaw06_SealTells.Γ vizardlaw06_SealTells.J1.plan (sub [1, 1, 0, 1] vizardlaw06_SealTells.body)) Q E (mkF 184 [(0, (.string secret0)), (1, (.int .i64 n0)), (2, (.string head0)), (3, (.string data0)), (4, (.int .i64 at0)), (5, (.int .u8 by0)), (44, (.bool x0))]) H := by
  kernel_rfl
theorem vizardlaw06_SealTells.J1.ok : SoundCode Tryd.prog (sub [1, 1, 0, 1] vizardlaw06_SealTells.body) vizardlaw06_SealTells.J1.t := by
  refine piece_sound (keepT_sound [0, 1, 2, 3, 4, 5] [12] (fun i => []) (wC_sound vizardlaw06_SealTells.hΓ Tryd.hm vizardlaw06_SealTells.J1.plan _ vizardlaw06_SealTells.J1.pok)) ?_
  intro Q E fr H h
  unfold vizardlaw06_SealTells.J1.t at h
  obtain ⟨hl, h⟩ := lenIs_elim h
  obtain ⟨secret0, q0, h⟩ := slS_elim h
  obtain ⟨n0, q1, h⟩ := slI_elim h
  obtain ⟨head0, q2, h⟩ := slS_elim h
  obtain ⟨data0, q3, h⟩ := slS_elim h
  obtain ⟨at0, q4, h⟩ := slI_elim h
  obtain ⟨by0, q5, h⟩ := slI_elim h
  obtain ⟨x0, q44, h⟩ := slB_elim h
  refine ⟨(mkF 184 [(0, (.string secret0)), (1, (.int .i64 n0)), (2, (.string head0)), (3, (.string data0)), (4, (.int .i64 at0)), (5, (.int .u8 by0)), (44, (.bool x0))]), fun a ha => ha.mk (Nat.le_of_eq hl.symm) (List.forall_mem_cons.2 ⟨q0, List.forall_mem_cons.2 ⟨q1, List.forall_mem_cons.2 ⟨q2, List.forall_mem_cons.2 ⟨q3, List.forall_mem_cons.2 ⟨q4, List.forall_mem_cons.2 ⟨q5, List.forall_mem_cons.2 ⟨q44, fun _ h => nomatch h⟩⟩⟩⟩⟩⟩⟩), ?_⟩
  have e := vizardlaw06_SealTells.J1.eq secret0 n0 head0 data0 at0 by0 x0 Q E H
  rw [← e]
  exact h.h
def vizardlaw06_SealTells.J3.t : CT := fun Q E fr H => lenIs 184 fr (slS fr 0 fun secret0 => slI fr 1 .i64 fun n0 => slS fr 2 fun head0 => slI fr 5 .u8 fun by0 => slP fr 13 fun k0 => slS fr 14 fun s0 => slB fr 104 fun x0 => vizardlaw06_SealTells.J3 secret0 n0 head0 by0 k0 s0 x0 (fun  H => Q .normal (mkF 184 [(0, (.string secret0)), (1, (.int .i64 n0)), (2, (.string head0)), (5, (.int .u8 by0)), (13, (.pointer k0)), (14, (.string s0))]) H) (fun y12_0 H => Q .ret (mkF 184 [(12, (.bool y12_0))]) H) E H)
noncomputable def vizardlaw06_SealTells.J3.plan : Plan := .go
theorem vizardlaw06_SealTells.J3.pok : PlanOk Tryd.prog vizardlaw06_SealTells.J3.plan (sub [1, 1, 1, 1, 1, 1, 1, 1, 1, 0, 1, 0, 1, 1] vizardlaw06_SealTells.body) := by
  have e : PlanOk Tryd.prog vizardlaw06_SealTells.J3.plan (sub [1, 1, 1, 1, 1, 1, 1, 1, 1, 0, 1, 0, 1, 1] vizardlaw06_SealTells.body) = (True) := by kernel_rfl
  exact e.mpr trivial
theorem vizardlaw06_SealTells.J3.eq (secret0 : ByteArray) (n0 : Int) (head0 : ByteArray) (by0 : Int) (k0 : Option Addr) (s0 : ByteArray) (x0 : Bool) (Q : Ex → Fr → Heap → Prop) (E : Value → Heap → Prop) (H : Heap) :
    vizardlaw06_SealTells.J3.vc secret0 n0 head0 by0 k0 s0 x0 (fun  H => Q .normal (mkF 184 [(0, (.string secret0)), (1, (.int .i64 n0)), (2, (.string head0)), (5, (.int .u8 by0)), (13, (.pointer k0)), (14, (.string s0))]) H) (fun y12_0 H => Q .ret (mkF 184 [(12, (.bool y12_0))]) H) E H = keepT [0, 1, 2, 5, 13, 14] [12] (fun i => []) (wC Tryd.prog vizardlaw06_SealTells.Γ vizardlaw06_SealTells.J3.plan (sub [1, 1, 1, 1, 1, 1, 1, 1, 1, 0, 1, 0, 1, 1] vizardlaw06_SealTells.body)) Q E (mkF 184 [(0, (.string secret0)), (1, (.int .i64 n0)), (2, (.string head0)), (5, (.int .u8 by0)), (13, (.pointer k0)), (14, (.string s0)), (104, (.bool x0))]) H := by
  kernel_rfl
theorem vizardlaw06_SealTells.J3.ok : SoundCode Tryd.prog (sub [1, 1, 1, 1, 1, 1, 1, 1, 1, 0, 1, 0, 1, 1] vizardlaw06_SealTells.body) vizardlaw06_SealTells.J3.t := by
  refine piece_sound (keepT_sound [0, 1, 2, 5, 13, 14] [12] (fun i => []) (wC_sound vizardlaw06_SealTells.hΓ Tryd.hm vizardlaw06_SealTells.J3.plan _ vizardlaw06_SealTells.J3.pok)) ?_
  intro Q E fr H h
  unfold vizardlaw06_SealTells.J3.t at h
  obtain ⟨hl, h⟩ := lenIs_elim h
  obtain ⟨secret0, q0, h⟩ := slS_elim h
  obtain ⟨n0, q1, h⟩ := slI_elim h
  obtain ⟨head0, q2, h⟩ := slS_elim h
  obtain ⟨by0, q5, h⟩ := slI_elim h
  obtain ⟨k0, q13, h⟩ := slP_elim h
  obtain ⟨s0, q14, h⟩ := slS_elim h
  obtain ⟨x0, q104, h⟩ := slB_elim h
  refine ⟨(mkF 184 [(0, (.string secret0)), (1, (.int .i64 n0)), (2, (.string head0)), (5, (.int .u8 by0)), (13, (.pointer k0)), (14, (.string s0)), (104, (.bool x0))]), fun a ha => ha.mk (Nat.le_of_eq hl.symm) (List.forall_mem_cons.2 ⟨q0, List.forall_mem_cons.2 ⟨q1, List.forall_mem_cons.2 ⟨q2, List.forall_mem_cons.2 ⟨q5, List.forall_mem_cons.2 ⟨q13, List.forall_mem_cons.2 ⟨q14, List.forall_mem_cons.2 ⟨q104, fun _ h => nomatch h⟩⟩⟩⟩⟩⟩⟩), ?_⟩
  have e := vizardlaw06_SealTells.J3.eq secret0 n0 head0 by0 k0 s0 x0 Q E H
  rw [← e]
  exact h.h
def vizardlaw06_SealTells.J6.t : CT := fun Q E fr H => lenIs 184 fr (slS fr 0 fun secret0 => slI fr 1 .i64 fun n0 => slS fr 2 fun head0 => slS fr 14 fun s0 => slS fr 19 fun tag0 => vizardlaw06_SealTells.J6 secret0 n0 head0 s0 tag0 (fun y12_0 H => Q .ret (mkF 184 [(12, (.bool y12_0))]) H) E H)
noncomputable def vizardlaw06_SealTells.J6.plan : Plan := .go
theorem vizardlaw06_SealTells.J6.pok : PlanOk Tryd.prog vizardlaw06_SealTells.J6.plan (sub [1, 1, 1, 1, 1, 1, 1, 1, 1, 1, 1, 1, 1] vizardlaw06_SealTells.body) := by
  have e : PlanOk Tryd.prog vizardlaw06_SealTells.J6.plan (sub [1, 1, 1, 1, 1, 1, 1, 1, 1, 1, 1, 1, 1] vizardlaw06_SealTells.body) = (True) := by kernel_rfl
  exact e.mpr trivial
theorem vizardlaw06_SealTells.J6.eq (secret0 : ByteArray) (n0 : Int) (head0 : ByteArray) (s0 : ByteArray) (tag0 : ByteArray) (Q : Ex → Fr → Heap → Prop) (E : Value → Heap → Prop) (H : Heap) :
    vizardlaw06_SealTells.J6.vc secret0 n0 head0 s0 tag0 (fun y12_0 H => Q .ret (mkF 184 [(12, (.bool y12_0))]) H) E H = keepT [] [12] (fun i => []) (wC Tryd.prog vizardlaw06_SealTells.Γ vizardlaw06_SealTells.J6.plan (sub [1, 1, 1, 1, 1, 1, 1, 1, 1, 1, 1, 1, 1] vizardlaw06_SealTells.body)) Q E (mkF 184 [(0, (.string secret0)), (1, (.int .i64 n0)), (2, (.string head0)), (14, (.string s0)), (19, (.string tag0))]) H := by
  kernel_rfl
theorem vizardlaw06_SealTells.J6.ok : SoundCode Tryd.prog (sub [1, 1, 1, 1, 1, 1, 1, 1, 1, 1, 1, 1, 1] vizardlaw06_SealTells.body) vizardlaw06_SealTells.J6.t := by
  refine piece_sound (keepT_sound [] [12] (fun i => []) (wC_sound vizardlaw06_SealTells.hΓ Tryd.hm vizardlaw06_SealTells.J6.plan _ vizardlaw06_SealTells.J6.pok)) ?_
  intro Q E fr H h
  unfold vizardlaw06_SealTells.J6.t at h
  obtain ⟨hl, h⟩ := lenIs_elim h
  obtain ⟨secret0, q0, h⟩ := slS_elim h
  obtain ⟨n0, q1, h⟩ := slI_elim h
  obtain ⟨head0, q2, h⟩ := slS_elim h
  obtain ⟨s0, q14, h⟩ := slS_elim h
  obtain ⟨tag0, q19, h⟩ := slS_elim h
  refine ⟨(mkF 184 [(0, (.string secret0)), (1, (.int .i64 n0)), (2, (.string head0)), (14, (.string s0)), (19, (.string tag0))]), fun a ha => ha.mk (Nat.le_of_eq hl.symm) (List.forall_mem_cons.2 ⟨q0, List.forall_mem_cons.2 ⟨q1, List.forall_mem_cons.2 ⟨q2, List.forall_mem_cons.2 ⟨q14, List.forall_mem_cons.2 ⟨q19, fun _ h => nomatch h⟩⟩⟩⟩⟩), ?_⟩
  have e := vizardlaw06_SealTells.J6.eq secret0 n0 head0 s0 tag0 Q E H
  rw [← e]
  exact h.h
def vizardlaw06_SealTells.J5.t : CT := fun Q E fr H => lenIs 184 fr (slS fr 0 fun secret0 => slI fr 1 .i64 fun n0 => slS fr 2 fun head0 => slP fr 13 fun k0 => slS fr 14 fun s0 => slS fr 19 fun tag0 => vizardlaw06_SealTells.J5 secret0 n0 head0 k0 s0 tag0 (fun y12_0 H => Q .ret (mkF 184 [(12, (.bool y12_0))]) H) E H)
noncomputable def vizardlaw06_SealTells.J5.plan : Plan := .seq (.go) (.use vizardlaw06_SealTells.J6.t)
theorem vizardlaw06_SealTells.J5.pok : PlanOk Tryd.prog vizardlaw06_SealTells.J5.plan (sub [1, 1, 1, 1, 1, 1, 1, 1, 1, 1, 1, 1] vizardlaw06_SealTells.body) := by
  have e : PlanOk Tryd.prog vizardlaw06_SealTells.J5.plan (sub [1, 1, 1, 1, 1, 1, 1, 1, 1, 1, 1, 1] vizardlaw06_SealTells.body) = ((True) ∧ (SoundCode Tryd.prog (sub [1, 1, 1, 1, 1, 1, 1, 1, 1, 1, 1, 1, 1] vizardlaw06_SealTells.body) vizardlaw06_SealTells.J6.t)) := by kernel_rfl
  exact e.mpr ⟨trivial, vizardlaw06_SealTells.J6.ok⟩
theorem vizardlaw06_SealTells.J5.eq (secret0 : ByteArray) (n0 : Int) (head0 : ByteArray) (k0 : Option Addr) (s0 : ByteArray) (tag0 : ByteArray) (Q : Ex → Fr → Heap → Prop) (E : Value → Heap → Prop) (H : Heap) :
    vizardlaw06_SealTells.J5.vc secret0 n0 head0 k0 s0 tag0 (fun y12_0 H => Q .ret (mkF 184 [(12, (.bool y12_0))]) H) E H = keepT [] [12] (fun i => []) (wC Tryd.prog vizardlaw06_SealTells.Γ vizardlaw06_SealTells.J5.plan (sub [1, 1, 1, 1, 1, 1, 1, 1, 1, 1, 1, 1] vizardlaw06_SealTells.body)) Q E (mkF 184 [(0, (.string secret0)), (1, (.int .i64 n0)), (2, (.string head0)), (13, (.pointer k0)), (14, (.string s0)), (19, (.string tag0))]) H := by
  kernel_rfl
theorem vizardlaw06_SealTells.J5.ok : SoundCode Tryd.prog (sub [1, 1, 1, 1, 1, 1, 1, 1, 1, 1, 1, 1] vizardlaw06_SealTells.body) vizardlaw06_SealTells.J5.t := by
  refine piece_sound (keepT_sound [] [12] (fun i => []) (wC_sound vizardlaw06_SealTells.hΓ Tryd.hm vizardlaw06_SealTells.J5.plan _ vizardlaw06_SealTells.J5.pok)) ?_
  intro Q E fr H h
  unfold vizardlaw06_SealTells.J5.t at h
  obtain ⟨hl, h⟩ := lenIs_elim h
  obtain ⟨secret0, q0, h⟩ := slS_elim h
  obtain ⟨n0, q1, h⟩ := slI_elim h
  obtain ⟨head0, q2, h⟩ := slS_elim h
  obtain ⟨k0, q13, h⟩ := slP_elim h
  obtain ⟨s0, q14, h⟩ := slS_elim h
  obtain ⟨tag0, q19, h⟩ := slS_elim h
  refine ⟨(mkF 184 [(0, (.string secret0)), (1, (.int .i64 n0)), (2, (.string head0)), (13, (.pointer k0)), (14, (.string s0)), (19, (.string tag0))]), fun a ha => ha.mk (Nat.le_of_eq hl.symm) (List.forall_mem_cons.2 ⟨q0, List.forall_mem_cons.2 ⟨q1, List.forall_mem_cons.2 ⟨q2, List.forall_mem_cons.2 ⟨q13, List.forall_mem_cons.2 ⟨q14, List.forall_mem_cons.2 ⟨q19, fun _ h => nomatch h⟩⟩⟩⟩⟩⟩), ?_⟩
  have e := vizardlaw06_SealTells.J5.eq secret0 n0 head0 k0 s0 tag0 Q E H
  rw [← e]
  exact h.h
def vizardlaw06_SealTells.J4.t : CT := fun Q E fr H => lenIs 184 fr (slS fr 0 fun secret0 => slI fr 1 .i64 fun n0 => slS fr 2 fun head0 => slI fr 5 .u8 fun by0 => slP fr 13 fun k0 => slS fr 14 fun s0 => vizardlaw06_SealTells.J4 secret0 n0 head0 by0 k0 s0 (fun y12_0 H => Q .ret (mkF 184 [(12, (.bool y12_0))]) H) E H)
noncomputable def vizardlaw06_SealTells.J4.plan : Plan := .seq (.go) (.seq (.go) (.use vizardlaw06_SealTells.J5.t))
theorem vizardlaw06_SealTells.J4.pok : PlanOk Tryd.prog vizardlaw06_SealTells.J4.plan (sub [1, 1, 1, 1, 1, 1, 1, 1, 1, 1] vizardlaw06_SealTells.body) := by
  have e : PlanOk Tryd.prog vizardlaw06_SealTells.J4.plan (sub [1, 1, 1, 1, 1, 1, 1, 1, 1, 1] vizardlaw06_SealTells.body) = ((True) ∧ ((True) ∧ (SoundCode Tryd.prog (sub [1, 1, 1, 1, 1, 1, 1, 1, 1, 1, 1, 1] vizardlaw06_SealTells.body) vizardlaw06_SealTells.J5.t))) := by kernel_rfl
  exact e.mpr ⟨trivial, ⟨trivial, vizardlaw06_SealTells.J5.ok⟩⟩
theorem vizardlaw06_SealTells.J4.eq (secret0 : ByteArray) (n0 : Int) (head0 : ByteArray) (by0 : Int) (k0 : Option Addr) (s0 : ByteArray) (Q : Ex → Fr → Heap → Prop) (E : Value → Heap → Prop) (H : Heap) :
    vizardlaw06_SealTells.J4.vc secret0 n0 head0 by0 k0 s0 (fun y12_0 H => Q .ret (mkF 184 [(12, (.bool y12_0))]) H) E H = keepT [] [12] (fun i => []) (wC Tryd.prog vizardlaw06_SealTells.Γ vizardlaw06_SealTells.J4.plan (sub [1, 1, 1, 1, 1, 1, 1, 1, 1, 1] vizardlaw06_SealTells.body)) Q E (mkF 184 [(0, (.string secret0)), (1, (.int .i64 n0)), (2, (.string head0)), (5, (.int .u8 by0)), (13, (.pointer k0)), (14, (.string s0))]) H := by
  kernel_rfl
theorem vizardlaw06_SealTells.J4.ok : SoundCode Tryd.prog (sub [1, 1, 1, 1, 1, 1, 1, 1, 1, 1] vizardlaw06_SealTells.body) vizardlaw06_SealTells.J4.t := by
  refine piece_sound (keepT_sound [] [12] (fun i => []) (wC_sound vizardlaw06_SealTells.hΓ Tryd.hm vizardlaw06_SealTells.J4.plan _ vizardlaw06_SealTells.J4.pok)) ?_
  intro Q E fr H h
  unfold vizardlaw06_SealTells.J4.t at h
  obtain ⟨hl, h⟩ := lenIs_elim h
  obtain ⟨secret0, q0, h⟩ := slS_elim h
  obtain ⟨n0, q1, h⟩ := slI_elim h
  obtain ⟨head0, q2, h⟩ := slS_elim h
  obtain ⟨by0, q5, h⟩ := slI_elim h
  obtain ⟨k0, q13, h⟩ := slP_elim h
  obtain ⟨s0, q14, h⟩ := slS_elim h
  refine ⟨(mkF 184 [(0, (.string secret0)), (1, (.int .i64 n0)), (2, (.string head0)), (5, (.int .u8 by0)), (13, (.pointer k0)), (14, (.string s0))]), fun a ha => ha.mk (Nat.le_of_eq hl.symm) (List.forall_mem_cons.2 ⟨q0, List.forall_mem_cons.2 ⟨q1, List.forall_mem_cons.2 ⟨q2, List.forall_mem_cons.2 ⟨q5, List.forall_mem_cons.2 ⟨q13, List.forall_mem_cons.2 ⟨q14, fun _ h => nomatch h⟩⟩⟩⟩⟩⟩), ?_⟩
  have e := vizardlaw06_SealTells.J4.eq secret0 n0 head0 by0 k0 s0 Q E H
  rw [← e]
  exact h.h
def vizardlaw06_SealTells.J2.t : CT := fun Q E fr H => lenIs 184 fr (slS fr 0 fun secret0 => slI fr 1 .i64 fun n0 => slS fr 2 fun head0 => slS fr 3 fun data0 => slI fr 4 .i64 fun at0 => slI fr 5 .u8 fun by0 => vizardlaw06_SealTells.J2 secret0 n0 head0 data0 at0 by0 (fun y12_0 H => Q .ret (mkF 184 [(12, (.bool y12_0))]) H) E H)
noncomputable def vizardlaw06_SealTells.J2.plan : Plan := .seq (.go) (.seq (.go) (.seq (.go) (.seq (.go) (.seq (.go) (.seq (.go) (.seq (.seq (.draw ⟨[0, 1, 2, 3, 4, 5, 6, 7, 8, 9, 10, 11, 12, 13, 14, 15, 16], (dl [(0, []), (1, []), (2, []), (3, []), (4, []), (5, []), (6, []), (7, []), (8, []), (10, []), (11, []), (12, []), (13, []), (14, []), (15, []), (9, [0, 1, 2, 8, 7, 3, 6, 5, 4]), (16, [])] .fin), []⟩) (.cond (.seq (.go) (.seq (.go) (.use vizardlaw06_SealTells.J3.t))) (.go))) (.use vizardlaw06_SealTells.J4.t)))))))
theorem vizardlaw06_SealTells.J2.pok : PlanOk Tryd.prog vizardlaw06_SealTells.J2.plan (sub [1, 1, 1] vizardlaw06_SealTells.body) := by
  have e : PlanOk Tryd.prog vizardlaw06_SealTells.J2.plan (sub [1, 1, 1] vizardlaw06_SealTells.body) = ((True) ∧ ((True) ∧ ((True) ∧ ((True) ∧ ((True) ∧ ((True) ∧ (((True) ∧ (((True) ∧ ((True) ∧ (SoundCode Tryd.prog (sub [1, 1, 1, 1, 1, 1, 1, 1, 1, 0, 1, 0, 1, 1] vizardlaw06_SealTells.body) vizardlaw06_SealTells.J3.t))) ∧ (True))) ∧ (SoundCode Tryd.prog (sub [1, 1, 1, 1, 1, 1, 1, 1, 1, 1] vizardlaw06_SealTells.body) vizardlaw06_SealTells.J4.t)))))))) := by kernel_rfl
  exact e.mpr ⟨trivial, ⟨trivial, ⟨trivial, ⟨trivial, ⟨trivial, ⟨trivial, ⟨⟨trivial, ⟨⟨trivial, ⟨trivial, vizardlaw06_SealTells.J3.ok⟩⟩, trivial⟩⟩, vizardlaw06_SealTells.J4.ok⟩⟩⟩⟩⟩⟩⟩
theorem vizardlaw06_SealTells.J2.eq (secret0 : ByteArray) (n0 : Int) (head0 : ByteArray) (data0 : ByteArray) (at0 : Int) (by0 : Int) (Q : Ex → Fr → Heap → Prop) (E : Value → Heap → Prop) (H : Heap) :
    vizardlaw06_SealTells.J2.vc secret0 n0 head0 data0 at0 by0 (fun y12_0 H => Q .ret (mkF 184 [(12, (.bool y12_0))]) H) E H = keepT [] [12] (fun i => []) (wC Tryd.prog vizardlaw06_SealTells.Γ vizardlaw06_SealTells.J2.plan (sub [1, 1, 1] vizardlaw06_SealTells.body)) Q E (mkF 184 [(0, (.string secret0)), (1, (.int .i64 n0)), (2, (.string head0)), (3, (.string data0)), (4, (.int .i64 at0)), (5, (.int .u8 by0))]) H := by
  kernel_rfl
theorem vizardlaw06_SealTells.J2.ok : SoundCode Tryd.prog (sub [1, 1, 1] vizardlaw06_SealTells.body) vizardlaw06_SealTells.J2.t := by
  refine piece_sound (keepT_sound [] [12] (fun i => []) (wC_sound vizardlaw06_SealTells.hΓ Tryd.hm vizardlaw06_SealTells.J2.plan _ vizardlaw06_SealTells.J2.pok)) ?_
  intro Q E fr H h
  unfold vizardlaw06_SealTells.J2.t at h
  obtain ⟨hl, h⟩ := lenIs_elim h
  obtain ⟨secret0, q0, h⟩ := slS_elim h
  obtain ⟨n0, q1, h⟩ := slI_elim h
  obtain ⟨head0, q2, h⟩ := slS_elim h
  obtain ⟨data0, q3, h⟩ := slS_elim h
  obtain ⟨at0, q4, h⟩ := slI_elim h
  obtain ⟨by0, q5, h⟩ := slI_elim h
  refine ⟨(mkF 184 [(0, (.string secret0)), (1, (.int .i64 n0)), (2, (.string head0)), (3, (.string data0)), (4, (.int .i64 at0)), (5, (.int .u8 by0))]), fun a ha => ha.mk (Nat.le_of_eq hl.symm) (List.forall_mem_cons.2 ⟨q0, List.forall_mem_cons.2 ⟨q1, List.forall_mem_cons.2 ⟨q2, List.forall_mem_cons.2 ⟨q3, List.forall_mem_cons.2 ⟨q4, List.forall_mem_cons.2 ⟨q5, fun _ h => nomatch h⟩⟩⟩⟩⟩⟩), ?_⟩
  have e := vizardlaw06_SealTells.J2.eq secret0 n0 head0 data0 at0 by0 Q E H
  rw [← e]
  exact h.h
noncomputable def vizardlaw06_SealTells.plan : Plan := .seq (.go) (.seq (.go) (.seq (.seq (.go) (.use vizardlaw06_SealTells.J1.t)) (.use vizardlaw06_SealTells.J2.t)))
theorem vizardlaw06_SealTells.pok : PlanOk Tryd.prog vizardlaw06_SealTells.plan vizardlaw06_SealTells.body := by
  have e : PlanOk Tryd.prog vizardlaw06_SealTells.plan vizardlaw06_SealTells.body = ((True) ∧ ((True) ∧ (((True) ∧ (SoundCode Tryd.prog (sub [1, 1, 0, 1] vizardlaw06_SealTells.body) vizardlaw06_SealTells.J1.t)) ∧ (SoundCode Tryd.prog (sub [1, 1, 1] vizardlaw06_SealTells.body) vizardlaw06_SealTells.J2.t)))) := by kernel_rfl
  exact e.mpr ⟨trivial, ⟨trivial, ⟨⟨trivial, vizardlaw06_SealTells.J1.ok⟩, vizardlaw06_SealTells.J2.ok⟩⟩⟩
theorem vizardlaw06_SealTells.eq (secret0 : ByteArray) (n0 : Int) (head0 : ByteArray) (data0 : ByteArray) (at0 : Int) (by0 : Int) (K : Value → Heap → Prop) (E : Value → Heap → Prop) (H : Heap) :
    fnT Tryd.prog Tryd.f7 (wC Tryd.prog vizardlaw06_SealTells.Γ vizardlaw06_SealTells.plan vizardlaw06_SealTells.body) [(.string secret0), (.int .i64 n0), (.string head0), (.string data0), (.int .i64 at0), (.int .u8 by0)] K E H = vizardlaw06_SealTells.vc secret0 n0 head0 data0 at0 by0 (fun r0_0 H => K (.bool r0_0) H) E H := by
  kernel_rfl
theorem vizardlaw06_SealTells.Fe {args : List Value} {K E : Value → Heap → Prop} {H : Heap} (h : vizardlaw06_SealTells.F args K E H) : ∃ secret0 n0 head0 data0 at0 by0, args = [(.string secret0), (.int .i64 n0), (.string head0), (.string data0), (.int .i64 at0), (.int .u8 by0)] ∧ vizardlaw06_SealTells.c secret0 n0 head0 data0 at0 by0 (fun r0_0 H => K (.bool r0_0) H) E H := by
  unfold vizardlaw06_SealTells.F at h
  split at h
  · exact ⟨_, _, _, _, _, _, rfl, h⟩
  · exact h.elim
theorem vizardlaw06_SealTells.ok : CalleeOk Tryd.prog 7 vizardlaw06_SealTells.F :=
  callee_ok vizardlaw06_SealTells.hΓ (fn := Tryd.f7) (c := vizardlaw06_SealTells.body) (T := wC Tryd.prog vizardlaw06_SealTells.Γ vizardlaw06_SealTells.plan vizardlaw06_SealTells.body) (by kernel_rfl) (by kernel_rfl) (by kernel_rfl) (wC_sound vizardlaw06_SealTells.hΓ Tryd.hm vizardlaw06_SealTells.plan _ vizardlaw06_SealTells.pok) fun _ K E H h => by
    obtain ⟨z0, z1, z2, z3, z4, z5, e, h⟩ := vizardlaw06_SealTells.Fe h
    subst e
    have h2 : vizardlaw06_SealTells.vc z0 z1 z2 z3 z4 z5 (fun r0_0 H => ∃ H', Heap.Le H' H ∧ K (.bool r0_0) H') E H := h.h
    rw [vizardlaw06_SealTells.eq z0 z1 z2 z3 z4 z5 (Fg K) E H]
    exact h2

/-! vizard/vizardlaw06.SealOwn -/
noncomputable def vizardlaw06_SealOwn.body : Code := Tryd.f8.body.getD .skip
def vizardlaw06_SealOwn.J3.vc (secret0 : ByteArray) (l0 : Option Addr) (l1 : Nat) (l2 : Nat) (n0 : Int) (a0 : Option Addr) (b0 : Option Addr) (i0 : Int) (x0 : Bool) (Kn : Heap → Prop) (Kr : Bool → Heap → Prop) (E : Value → Heap → Prop) (h0 : Heap) : Prop :=
  (if x0 = true then
  Kr false h0
  else
  Kn h0)
structure vizardlaw06_SealOwn.J3 (secret0 : ByteArray) (l0 : Option Addr) (l1 : Nat) (l2 : Nat) (n0 : Int) (a0 : Option Addr) (b0 : Option Addr) (i0 : Int) (x0 : Bool) (Kn : Heap → Prop) (Kr : Bool → Heap → Prop) (E : Value → Heap → Prop) (H : Heap) : Prop where
  h : vizardlaw06_SealOwn.J3.vc secret0 l0 l1 l2 n0 a0 b0 i0 x0 Kn Kr E H
def vizardlaw06_SealOwn.J4.vc (secret0 : ByteArray) (l0 : Option Addr) (l1 : Nat) (l2 : Nat) (n0 : Int) (a0 : Option Addr) (b0 : Option Addr) (i0 : Int) (Kn : Int → Heap → Prop) (E : Value → Heap → Prop) (h0 : Heap) : Prop :=
  Kn (IntKind.i64.wrap (i0 + 1)) h0
structure vizardlaw06_SealOwn.J4 (secret0 : ByteArray) (l0 : Option Addr) (l1 : Nat) (l2 : Nat) (n0 : Int) (a0 : Option Addr) (b0 : Option Addr) (i0 : Int) (Kn : Int → Heap → Prop) (E : Value → Heap → Prop) (H : Heap) : Prop where
  h : vizardlaw06_SealOwn.J4.vc secret0 l0 l1 l2 n0 a0 b0 i0 Kn E H
def vizardlaw06_SealOwn.J2.vc (secret0 : ByteArray) (l0 : Option Addr) (l1 : Nat) (l2 : Nat) (n0 : Int) (a0 : Option Addr) (b0 : Option Addr) (i0 : Int) (Kn : Int → Heap → Prop) (Kr : Bool → Heap → Prop) (E : Value → Heap → Prop) (h0 : Heap) : Prop :=
  nilc l0 fun a1 => (0 : Int) ≤ i0 ∧ i0 < (l1 : Int) ∧
  ldS h0 (a1.add (i0.toNat * 1)) fun x0 =>
  (if (decide ((x0.size : Int) > 300)) = true then
  Kr true h0
  else
  nilc l0 fun a2 => (0 : Int) ≤ i0 ∧ i0 < (l1 : Int) ∧
  ldS h0 (a2.add (i0.toNat * 1)) fun x1 =>
  seal_Key_Seal.c a0 n0 (⟨#[]⟩ : ByteArray) x1 (fun x2 h1 =>
  seal_Key_Open.c b0 n0 (⟨#[]⟩ : ByteArray) x2 (fun x3 x4 h2 =>
  nilc l0 fun a3 => (0 : Int) ≤ i0 ∧ i0 < (l1 : Int) ∧
  ldS h2 (a3.add (i0.toNat * 1)) fun x5 =>
  (if (!(x3.toList == x5.toList)) = true then
  True ∧
  vizardlaw06_SealOwn.J3 secret0 l0 l1 l2 n0 a0 b0 i0 true (fun h3 =>
  vizardlaw06_SealOwn.J4 secret0 l0 l1 l2 n0 a0 b0 i0 Kn E h3) Kr E h2
  else
  (if (x4 != 0) = true then
  True ∧
  vizardlaw06_SealOwn.J3 secret0 l0 l1 l2 n0 a0 b0 i0 true (fun h6 =>
  vizardlaw06_SealOwn.J4 secret0 l0 l1 l2 n0 a0 b0 i0 Kn E h6) Kr E h2
  else
  nilc l0 fun a4 => (0 : Int) ≤ i0 ∧ i0 < (l1 : Int) ∧
  ldS h2 (a4.add (i0.toNat * 1)) fun x8 =>
  seal_New.c secret0 (fun x9 h9 =>
  (ldS h9 (a4.add (i0.toNat * 1)) fun x10 =>
  eqv h9 h9 (some (.string x8)) (.string x10)) ∧
  seal_Key_Seal.c x9 n0 (⟨#[]⟩ : ByteArray) x8 (fun x11 h10 =>
  vizardlaw06_SealOwn.J3 secret0 l0 l1 l2 n0 a0 b0 i0 (!(x11.toList == x2.toList)) (fun h11 =>
  vizardlaw06_SealOwn.J4 secret0 l0 l1 l2 n0 a0 b0 i0 Kn E h11) Kr E h10) E h9) E h2))) E h1) E h0)
structure vizardlaw06_SealOwn.J2 (secret0 : ByteArray) (l0 : Option Addr) (l1 : Nat) (l2 : Nat) (n0 : Int) (a0 : Option Addr) (b0 : Option Addr) (i0 : Int) (Kn : Int → Heap → Prop) (Kr : Bool → Heap → Prop) (E : Value → Heap → Prop) (H : Heap) : Prop where
  h : vizardlaw06_SealOwn.J2.vc secret0 l0 l1 l2 n0 a0 b0 i0 Kn Kr E H
def vizardlaw06_SealOwn.W1.vc (secret0 : ByteArray) (l0 : Option Addr) (l1 : Nat) (l2 : Nat) (n0 : Int) (a0 : Option Addr) (b0 : Option Addr) (i0 : Int) (Kx0 : Heap → Prop) (Kr : Bool → Heap → Prop) (RR : Int → Heap → Prop) (E : Value → Heap → Prop) (h0 : Heap) : Prop :=
  (if (decide (i0 < (l1 : Int))) = true then
  (if (decide (i0 < 10)) = true then
  vizardlaw06_SealOwn.J2 secret0 l0 l1 l2 n0 a0 b0 i0 RR Kr E h0
  else
  Kx0 h0)
  else
  Kx0 h0)
structure vizardlaw06_SealOwn.W1 (secret0 : ByteArray) (l0 : Option Addr) (l1 : Nat) (l2 : Nat) (n0 : Int) (a0 : Option Addr) (b0 : Option Addr) (i0 : Int) (Kx0 : Heap → Prop) (Kr : Bool → Heap → Prop) (E : Value → Heap → Prop) (H : Heap) : Prop where
  h : Loop (fun (RR : Int → Heap → Prop) (s : Int) (H : Heap) => vizardlaw06_SealOwn.W1.vc secret0 l0 l1 l2 n0 a0 b0 s Kx0 Kr (fun i0 H => RR (i0) H) E H) (i0) H
def vizardlaw06_SealOwn.vc (secret0 : ByteArray) (l0 : Option Addr) (l1 : Nat) (l2 : Nat) (n0 : Int) (K : Bool → Heap → Prop) (E : Value → Heap → Prop) (h0 : Heap) : Prop :=
  vizardlaw06_works.c (fun x0 h1 =>
  (if (!x0) = true then
  K false h1
  else
  (if (decide ((secret0.size : Int) > 500)) = true then
  K true h1
  else
  seal_New.c secret0 (fun x1 h2 =>
  seal_New.c secret0 (fun x2 h3 =>
  vizardlaw06_SealOwn.W1 secret0 l0 l1 l2 n0 x1 x2 0 (fun h4 =>
  K true h4) K E h3) E h2) E h1))) E h0
structure vizardlaw06_SealOwn.c (secret0 : ByteArray) (l0 : Option Addr) (l1 : Nat) (l2 : Nat) (n0 : Int) (K : Bool → Heap → Prop) (E : Value → Heap → Prop) (H : Heap) : Prop where
  h : vizardlaw06_SealOwn.vc secret0 l0 l1 l2 n0 (fun r0_0 H => ∃ H', Heap.Le H' H ∧ K r0_0 H') E H
def vizardlaw06_SealOwn.F : FT := fun args K E H => match args with
  | [(.string secret0), (.slice l0 l1 l2), (.int .i64 n0)] => vizardlaw06_SealOwn.c secret0 l0 l1 l2 n0 (fun r0_0 H => K (.bool r0_0) H) E H
  | _ => False
noncomputable def vizardlaw06_SealOwn.Γ : FuncId → Option FT := Γof [(22, vizardlaw06_works.F), (23, seal_New.F), (24, seal_Key_Seal.F), (26, seal_Key_Open.F)]
theorem vizardlaw06_SealOwn.hΓ : ∀ f F, vizardlaw06_SealOwn.Γ f = some F → CalleeOk Tryd.prog f F := Γof_ok (List.forall_mem_cons.2 ⟨vizardlaw06_works.ok, List.forall_mem_cons.2 ⟨seal_New.ok, List.forall_mem_cons.2 ⟨seal_Key_Seal.ok, List.forall_mem_cons.2 ⟨seal_Key_Open.ok, fun _ h => nomatch h⟩⟩⟩⟩)
def vizardlaw06_SealOwn.J3.t : CT := fun Q E fr H => lenIs 74 fr (slS fr 0 fun secret0 => slSl fr 1 fun l0 l1 l2 => slI fr 2 .i64 fun n0 => slP fr 7 fun a0 => slP fr 8 fun b0 => slI fr 9 .i64 fun i0 => slB fr 73 fun x0 => vizardlaw06_SealOwn.J3 secret0 l0 l1 l2 n0 a0 b0 i0 x0 (fun  H => Q .normal (mkF 74 [(0, (.string secret0)), (1, (.slice l0 l1 l2)), (2, (.int .i64 n0)), (7, (.pointer a0)), (8, (.pointer b0)), (9, (.int .i64 i0))]) H) (fun y6_0 H => Q .ret (mkF 74 [(6, (.bool y6_0))]) H) E H)
noncomputable def vizardlaw06_SealOwn.J3.plan : Plan := .go
theorem vizardlaw06_SealOwn.J3.pok : PlanOk Tryd.prog vizardlaw06_SealOwn.J3.plan (sub [1, 1, 1, 1, 0, 1, 0, 0, 1, 0, 0, 1, 1, 1, 1] vizardlaw06_SealOwn.body) := by
  have e : PlanOk Tryd.prog vizardlaw06_SealOwn.J3.plan (sub [1, 1, 1, 1, 0, 1, 0, 0, 1, 0, 0, 1, 1, 1, 1] vizardlaw06_SealOwn.body) = (True) := by kernel_rfl
  exact e.mpr trivial
theorem vizardlaw06_SealOwn.J3.eq (secret0 : ByteArray) (l0 : Option Addr) (l1 : Nat) (l2 : Nat) (n0 : Int) (a0 : Option Addr) (b0 : Option Addr) (i0 : Int) (x0 : Bool) (Q : Ex → Fr → Heap → Prop) (E : Value → Heap → Prop) (H : Heap) :
    vizardlaw06_SealOwn.J3.vc secret0 l0 l1 l2 n0 a0 b0 i0 x0 (fun  H => Q .normal (mkF 74 [(0, (.string secret0)), (1, (.slice l0 l1 l2)), (2, (.int .i64 n0)), (7, (.pointer a0)), (8, (.pointer b0)), (9, (.int .i64 i0))]) H) (fun y6_0 H => Q .ret (mkF 74 [(6, (.bool y6_0))]) H) E H = keepT [0, 1, 2, 7, 8, 9] [6] (fun i => []) (wC Tryd.prog vizardlaw06_SealOwn.Γ vizardlaw06_SealOwn.J3.plan (sub [1, 1, 1, 1, 0, 1, 0, 0, 1, 0, 0, 1, 1, 1, 1] vizardlaw06_SealOwn.body)) Q E (mkF 74 [(0, (.string secret0)), (1, (.slice l0 l1 l2)), (2, (.int .i64 n0)), (7, (.pointer a0)), (8, (.pointer b0)), (9, (.int .i64 i0)), (73, (.bool x0))]) H := by
  kernel_rfl
theorem vizardlaw06_SealOwn.J3.ok : SoundCode Tryd.prog (sub [1, 1, 1, 1, 0, 1, 0, 0, 1, 0, 0, 1, 1, 1, 1] vizardlaw06_SealOwn.body) vizardlaw06_SealOwn.J3.t := by
  refine piece_sound (keepT_sound [0, 1, 2, 7, 8, 9] [6] (fun i => []) (wC_sound vizardlaw06_SealOwn.hΓ Tryd.hm vizardlaw06_SealOwn.J3.plan _ vizardlaw06_SealOwn.J3.pok)) ?_
  intro Q E fr H h
  unfold vizardlaw06_SealOwn.J3.t at h
  obtain ⟨hl, h⟩ := lenIs_elim h
  obtain ⟨secret0, q0, h⟩ := slS_elim h
  obtain ⟨l0, l1, l2, q1, h⟩ := slSl_elim h
  obtain ⟨n0, q2, h⟩ := slI_elim h
  obtain ⟨a0, q7, h⟩ := slP_elim h
  obtain ⟨b0, q8, h⟩ := slP_elim h
  obtain ⟨i0, q9, h⟩ := slI_elim h
  obtain ⟨x0, q73, h⟩ := slB_elim h
  refine ⟨(mkF 74 [(0, (.string secret0)), (1, (.slice l0 l1 l2)), (2, (.int .i64 n0)), (7, (.pointer a0)), (8, (.pointer b0)), (9, (.int .i64 i0)), (73, (.bool x0))]), fun a ha => ha.mk (Nat.le_of_eq hl.symm) (List.forall_mem_cons.2 ⟨q0, List.forall_mem_cons.2 ⟨q1, List.forall_mem_cons.2 ⟨q2, List.forall_mem_cons.2 ⟨q7, List.forall_mem_cons.2 ⟨q8, List.forall_mem_cons.2 ⟨q9, List.forall_mem_cons.2 ⟨q73, fun _ h => nomatch h⟩⟩⟩⟩⟩⟩⟩), ?_⟩
  have e := vizardlaw06_SealOwn.J3.eq secret0 l0 l1 l2 n0 a0 b0 i0 x0 Q E H
  rw [← e]
  exact h.h
def vizardlaw06_SealOwn.J4.t : CT := fun Q E fr H => lenIs 74 fr (slS fr 0 fun secret0 => slSl fr 1 fun l0 l1 l2 => slI fr 2 .i64 fun n0 => slP fr 7 fun a0 => slP fr 8 fun b0 => slI fr 9 .i64 fun i0 => vizardlaw06_SealOwn.J4 secret0 l0 l1 l2 n0 a0 b0 i0 (fun y9_0 H => Q .normal (mkF 74 [(0, (.string secret0)), (1, (.slice l0 l1 l2)), (2, (.int .i64 n0)), (7, (.pointer a0)), (8, (.pointer b0)), (9, (.int .i64 y9_0))]) H) E H)
noncomputable def vizardlaw06_SealOwn.J4.plan : Plan := .go
theorem vizardlaw06_SealOwn.J4.pok : PlanOk Tryd.prog vizardlaw06_SealOwn.J4.plan (sub [1, 1, 1, 1, 0, 1, 0, 0, 1, 1] vizardlaw06_SealOwn.body) := by
  have e : PlanOk Tryd.prog vizardlaw06_SealOwn.J4.plan (sub [1, 1, 1, 1, 0, 1, 0, 0, 1, 1] vizardlaw06_SealOwn.body) = (True) := by kernel_rfl
  exact e.mpr trivial
theorem vizardlaw06_SealOwn.J4.eq (secret0 : ByteArray) (l0 : Option Addr) (l1 : Nat) (l2 : Nat) (n0 : Int) (a0 : Option Addr) (b0 : Option Addr) (i0 : Int) (Q : Ex → Fr → Heap → Prop) (E : Value → Heap → Prop) (H : Heap) :
    vizardlaw06_SealOwn.J4.vc secret0 l0 l1 l2 n0 a0 b0 i0 (fun y9_0 H => Q .normal (mkF 74 [(0, (.string secret0)), (1, (.slice l0 l1 l2)), (2, (.int .i64 n0)), (7, (.pointer a0)), (8, (.pointer b0)), (9, (.int .i64 y9_0))]) H) E H = keepT [0, 1, 2, 7, 8, 9] [] (fun i => []) (wC Tryd.prog vizardlaw06_SealOwn.Γ vizardlaw06_SealOwn.J4.plan (sub [1, 1, 1, 1, 0, 1, 0, 0, 1, 1] vizardlaw06_SealOwn.body)) Q E (mkF 74 [(0, (.string secret0)), (1, (.slice l0 l1 l2)), (2, (.int .i64 n0)), (7, (.pointer a0)), (8, (.pointer b0)), (9, (.int .i64 i0))]) H := by
  kernel_rfl
theorem vizardlaw06_SealOwn.J4.ok : SoundCode Tryd.prog (sub [1, 1, 1, 1, 0, 1, 0, 0, 1, 1] vizardlaw06_SealOwn.body) vizardlaw06_SealOwn.J4.t := by
  refine piece_sound (keepT_sound [0, 1, 2, 7, 8, 9] [] (fun i => []) (wC_sound vizardlaw06_SealOwn.hΓ Tryd.hm vizardlaw06_SealOwn.J4.plan _ vizardlaw06_SealOwn.J4.pok)) ?_
  intro Q E fr H h
  unfold vizardlaw06_SealOwn.J4.t at h
  obtain ⟨hl, h⟩ := lenIs_elim h
  obtain ⟨secret0, q0, h⟩ := slS_elim h
  obtain ⟨l0, l1, l2, q1, h⟩ := slSl_elim h
  obtain ⟨n0, q2, h⟩ := slI_elim h
  obtain ⟨a0, q7, h⟩ := slP_elim h
  obtain ⟨b0, q8, h⟩ := slP_elim h
  obtain ⟨i0, q9, h⟩ := slI_elim h
  refine ⟨(mkF 74 [(0, (.string secret0)), (1, (.slice l0 l1 l2)), (2, (.int .i64 n0)), (7, (.pointer a0)), (8, (.pointer b0)), (9, (.int .i64 i0))]), fun a ha => ha.mk (Nat.le_of_eq hl.symm) (List.forall_mem_cons.2 ⟨q0, List.forall_mem_cons.2 ⟨q1, List.forall_mem_cons.2 ⟨q2, List.forall_mem_cons.2 ⟨q7, List.forall_mem_cons.2 ⟨q8, List.forall_mem_cons.2 ⟨q9, fun _ h => nomatch h⟩⟩⟩⟩⟩⟩), ?_⟩
  have e := vizardlaw06_SealOwn.J4.eq secret0 l0 l1 l2 n0 a0 b0 i0 Q E H
  rw [← e]
  exact h.h
def vizardlaw06_SealOwn.J2.t : CT := fun Q E fr H => lenIs 74 fr (slS fr 0 fun secret0 => slSl fr 1 fun l0 l1 l2 => slI fr 2 .i64 fun n0 => slP fr 7 fun a0 => slP fr 8 fun b0 => slI fr 9 .i64 fun i0 => vizardlaw06_SealOwn.J2 secret0 l0 l1 l2 n0 a0 b0 i0 (fun y9_0 H => Q .normal (mkF 74 [(0, (.string secret0)), (1, (.slice l0 l1 l2)), (2, (.int .i64 n0)), (7, (.pointer a0)), (8, (.pointer b0)), (9, (.int .i64 y9_0))]) H) (fun y6_0 H => Q .ret (mkF 74 [(6, (.bool y6_0))]) H) E H)
noncomputable def vizardlaw06_SealOwn.J2.plan : Plan := .seq (.block (.seq (.go) (.seq (.go) (.seq (.go) (.seq (.draw ⟨[0, 1, 2, 3, 4, 5, 6, 7, 8, 9, 10, 11, 12, 13, 14, 15, 16, 17, 18, 19, 20, 21], (dl [(0, []), (1, []), (2, []), (3, []), (4, []), (5, []), (6, []), (7, []), (8, []), (9, []), (10, []), (11, []), (13, []), (14, []), (15, []), (16, []), (17, []), (19, []), (12, [11, 10, 9, 6, 8, 5, 7, 0, 4, 3, 1, 2]), (18, [12, 13, 17, 10, 11, 16, 9, 6, 14, 15, 8, 5, 7, 0, 4, 3, 1, 2]), (20, []), (21, [])] .fin), []⟩) (.use vizardlaw06_SealOwn.J3.t)))))) (.use vizardlaw06_SealOwn.J4.t)
theorem vizardlaw06_SealOwn.J2.pok : PlanOk Tryd.prog vizardlaw06_SealOwn.J2.plan (sub [1, 1, 1, 1, 0, 1, 0, 0, 1] vizardlaw06_SealOwn.body) := by
  have e : PlanOk Tryd.prog vizardlaw06_SealOwn.J2.plan (sub [1, 1, 1, 1, 0, 1, 0, 0, 1] vizardlaw06_SealOwn.body) = (((True) ∧ ((True) ∧ ((True) ∧ ((True) ∧ (SoundCode Tryd.prog (sub [1, 1, 1, 1, 0, 1, 0, 0, 1, 0, 0, 1, 1, 1, 1] vizardlaw06_SealOwn.body) vizardlaw06_SealOwn.J3.t))))) ∧ (SoundCode Tryd.prog (sub [1, 1, 1, 1, 0, 1, 0, 0, 1, 1] vizardlaw06_SealOwn.body) vizardlaw06_SealOwn.J4.t)) := by kernel_rfl
  exact e.mpr ⟨⟨trivial, ⟨trivial, ⟨trivial, ⟨trivial, vizardlaw06_SealOwn.J3.ok⟩⟩⟩⟩, vizardlaw06_SealOwn.J4.ok⟩
theorem vizardlaw06_SealOwn.J2.eq (secret0 : ByteArray) (l0 : Option Addr) (l1 : Nat) (l2 : Nat) (n0 : Int) (a0 : Option Addr) (b0 : Option Addr) (i0 : Int) (Q : Ex → Fr → Heap → Prop) (E : Value → Heap → Prop) (H : Heap) :
    vizardlaw06_SealOwn.J2.vc secret0 l0 l1 l2 n0 a0 b0 i0 (fun y9_0 H => Q .normal (mkF 74 [(0, (.string secret0)), (1, (.slice l0 l1 l2)), (2, (.int .i64 n0)), (7, (.pointer a0)), (8, (.pointer b0)), (9, (.int .i64 y9_0))]) H) (fun y6_0 H => Q .ret (mkF 74 [(6, (.bool y6_0))]) H) E H = keepT [0, 1, 2, 7, 8, 9] [6] (fun i => []) (wC Tryd.prog vizardlaw06_SealOwn.Γ vizardlaw06_SealOwn.J2.plan (sub [1, 1, 1, 1, 0, 1, 0, 0, 1] vizardlaw06_SealOwn.body)) Q E (mkF 74 [(0, (.string secret0)), (1, (.slice l0 l1 l2)), (2, (.int .i64 n0)), (7, (.pointer a0)), (8, (.pointer b0)), (9, (.int .i64 i0))]) H := by
  kernel_rfl
theorem vizardlaw06_SealOwn.J2.ok : SoundCode Tryd.prog (sub [1, 1, 1, 1, 0, 1, 0, 0, 1] vizardlaw06_SealOwn.body) vizardlaw06_SealOwn.J2.t := by
  refine piece_sound (keepT_sound [0, 1, 2, 7, 8, 9] [6] (fun i => []) (wC_sound vizardlaw06_SealOwn.hΓ Tryd.hm vizardlaw06_SealOwn.J2.plan _ vizardlaw06_SealOwn.J2.pok)) ?_
  intro Q E fr H h
  unfold vizardlaw06_SealOwn.J2.t at h
  obtain ⟨hl, h⟩ := lenIs_elim h
  obtain ⟨secret0, q0, h⟩ := slS_elim h
  obtain ⟨l0, l1, l2, q1, h⟩ := slSl_elim h
  obtain ⟨n0, q2, h⟩ := slI_elim h
  obtain ⟨a0, q7, h⟩ := slP_elim h
  obtain ⟨b0, q8, h⟩ := slP_elim h
  obtain ⟨i0, q9, h⟩ := slI_elim h
  refine ⟨(mkF 74 [(0, (.string secret0)), (1, (.slice l0 l1 l2)), (2, (.int .i64 n0)), (7, (.pointer a0)), (8, (.pointer b0)), (9, (.int .i64 i0))]), fun a ha => ha.mk (Nat.le_of_eq hl.symm) (List.forall_mem_cons.2 ⟨q0, List.forall_mem_cons.2 ⟨q1, List.forall_mem_cons.2 ⟨q2, List.forall_mem_cons.2 ⟨q7, List.forall_mem_cons.2 ⟨q8, List.forall_mem_cons.2 ⟨q9, fun _ h => nomatch h⟩⟩⟩⟩⟩⟩), ?_⟩
  have e := vizardlaw06_SealOwn.J2.eq secret0 l0 l1 l2 n0 a0 b0 i0 Q E H
  rw [← e]
  exact h.h
def vizardlaw06_SealOwn.W1.t : CT := fun Q E fr H => lenIs 74 fr (slS fr 0 fun secret0 => slSl fr 1 fun l0 l1 l2 => slI fr 2 .i64 fun n0 => slP fr 7 fun a0 => slP fr 8 fun b0 => slI fr 9 .i64 fun i0 => vizardlaw06_SealOwn.W1 secret0 l0 l1 l2 n0 a0 b0 i0 (fun  H => Q (.exit 0) (mkF 74 []) H) (fun y6_0 H => Q .ret (mkF 74 [(6, (.bool y6_0))]) H) E H)
noncomputable def vizardlaw06_SealOwn.W1.plan : Plan := .seq (.go) (.use vizardlaw06_SealOwn.J2.t)
theorem vizardlaw06_SealOwn.W1.pok : PlanOk Tryd.prog vizardlaw06_SealOwn.W1.plan (sub [1, 1, 1, 1, 0, 1, 0, 0] vizardlaw06_SealOwn.body) := by
  have e : PlanOk Tryd.prog vizardlaw06_SealOwn.W1.plan (sub [1, 1, 1, 1, 0, 1, 0, 0] vizardlaw06_SealOwn.body) = ((True) ∧ (SoundCode Tryd.prog (sub [1, 1, 1, 1, 0, 1, 0, 0, 1] vizardlaw06_SealOwn.body) vizardlaw06_SealOwn.J2.t)) := by kernel_rfl
  exact e.mpr ⟨trivial, vizardlaw06_SealOwn.J2.ok⟩
theorem vizardlaw06_SealOwn.W1.eq (secret0 : ByteArray) (l0 : Option Addr) (l1 : Nat) (l2 : Nat) (n0 : Int) (a0 : Option Addr) (b0 : Option Addr) (Q : Ex → Fr → Heap → Prop) (E : Value → Heap → Prop) (RR : Fr → Heap → Prop) (s : Int) (H : Heap) :
    (fun (RR : Int → Heap → Prop) (s : Int) (H : Heap) => vizardlaw06_SealOwn.W1.vc secret0 l0 l1 l2 n0 a0 b0 s (fun  H => Q (.exit 0) (mkF 74 []) H) (fun y6_0 H => Q .ret (mkF 74 [(6, (.bool y6_0))]) H) (fun i0 H => RR (i0) H) E H) (fun s' H' => RR ((fun (s : Int) => (mkF 74 [(0, (.string secret0)), (1, (.slice l0 l1 l2)), (2, (.int .i64 n0)), (7, (.pointer a0)), (8, (.pointer b0)), (9, (.int .i64 s))])) s') H') s H = keepT [0, 1, 2, 7, 8, 9] [6] (fun i => if i = 0 then [] else []) (wC Tryd.prog vizardlaw06_SealOwn.Γ vizardlaw06_SealOwn.W1.plan (sub [1, 1, 1, 1, 0, 1, 0, 0] vizardlaw06_SealOwn.body)) (fun e fr' H' => match e with | .normal => RR fr' H' | .exit id => Q (.exit id) fr' H' | .ret => Q .ret fr' H') E ((fun (s : Int) => (mkF 74 [(0, (.string secret0)), (1, (.slice l0 l1 l2)), (2, (.int .i64 n0)), (7, (.pointer a0)), (8, (.pointer b0)), (9, (.int .i64 s))])) s) H := by
  kernel_rfl
theorem vizardlaw06_SealOwn.W1.ok : SoundCode Tryd.prog (sub [1, 1, 1, 1, 0, 1, 0] vizardlaw06_SealOwn.body) vizardlaw06_SealOwn.W1.t := by
  have e : (sub [1, 1, 1, 1, 0, 1, 0] vizardlaw06_SealOwn.body) = .loop (sub [1, 1, 1, 1, 0, 1, 0, 0] vizardlaw06_SealOwn.body) := by kernel_rfl
  rw [e]
  refine piece_sound (loopN_sound (keepT_sound [0, 1, 2, 7, 8, 9] [6] (fun i => if i = 0 then [] else []) (wC_sound vizardlaw06_SealOwn.hΓ Tryd.hm vizardlaw06_SealOwn.W1.plan _ vizardlaw06_SealOwn.W1.pok))) ?_
  intro Q E fr H h
  unfold vizardlaw06_SealOwn.W1.t at h
  obtain ⟨hl, h⟩ := lenIs_elim h
  obtain ⟨secret0, q0, h⟩ := slS_elim h
  obtain ⟨l0, l1, l2, q1, h⟩ := slSl_elim h
  obtain ⟨n0, q2, h⟩ := slI_elim h
  obtain ⟨a0, q7, h⟩ := slP_elim h
  obtain ⟨b0, q8, h⟩ := slP_elim h
  obtain ⟨i0, q9, h⟩ := slI_elim h
  obtain ⟨m, h⟩ := h.h
  refine ⟨(mkF 74 [(0, (.string secret0)), (1, (.slice l0 l1 l2)), (2, (.int .i64 n0)), (7, (.pointer a0)), (8, (.pointer b0)), (9, (.int .i64 i0))]), fun a ha => ha.mk (Nat.le_of_eq hl.symm) (List.forall_mem_cons.2 ⟨q0, List.forall_mem_cons.2 ⟨q1, List.forall_mem_cons.2 ⟨q2, List.forall_mem_cons.2 ⟨q7, List.forall_mem_cons.2 ⟨q8, List.forall_mem_cons.2 ⟨q9, fun _ h => nomatch h⟩⟩⟩⟩⟩⟩), m, ?_⟩
  have e := loopS_eq (B := (fun (RR : Int → Heap → Prop) (s : Int) (H : Heap) => vizardlaw06_SealOwn.W1.vc secret0 l0 l1 l2 n0 a0 b0 s (fun  H => Q (.exit 0) (mkF 74 []) H) (fun y6_0 H => Q .ret (mkF 74 [(6, (.bool y6_0))]) H) (fun i0 H => RR (i0) H) E H)) (A := keepT [0, 1, 2, 7, 8, 9] [6] (fun i => if i = 0 then [] else []) (wC Tryd.prog vizardlaw06_SealOwn.Γ vizardlaw06_SealOwn.W1.plan (sub [1, 1, 1, 1, 0, 1, 0, 0] vizardlaw06_SealOwn.body))) (m := (fun (s : Int) => (mkF 74 [(0, (.string secret0)), (1, (.slice l0 l1 l2)), (2, (.int .i64 n0)), (7, (.pointer a0)), (8, (.pointer b0)), (9, (.int .i64 s))]))) (Q := Q) (E := E) (fun RR s H => vizardlaw06_SealOwn.W1.eq secret0 l0 l1 l2 n0 a0 b0 Q E RR s H) m (i0) H
  exact cast e h
noncomputable def vizardlaw06_SealOwn.plan : Plan := .seq (.go) (.seq (.go) (.seq (.go) (.seq (.go) (.seq (.seq (.go) (.block (.use vizardlaw06_SealOwn.W1.t))) (.go)))))
theorem vizardlaw06_SealOwn.pok : PlanOk Tryd.prog vizardlaw06_SealOwn.plan vizardlaw06_SealOwn.body := by
  have e : PlanOk Tryd.prog vizardlaw06_SealOwn.plan vizardlaw06_SealOwn.body = ((True) ∧ ((True) ∧ ((True) ∧ ((True) ∧ (((True) ∧ (SoundCode Tryd.prog (sub [1, 1, 1, 1, 0, 1, 0] vizardlaw06_SealOwn.body) vizardlaw06_SealOwn.W1.t)) ∧ (True)))))) := by kernel_rfl
  exact e.mpr ⟨trivial, ⟨trivial, ⟨trivial, ⟨trivial, ⟨⟨trivial, vizardlaw06_SealOwn.W1.ok⟩, trivial⟩⟩⟩⟩⟩
theorem vizardlaw06_SealOwn.eq (secret0 : ByteArray) (l0 : Option Addr) (l1 : Nat) (l2 : Nat) (n0 : Int) (K : Value → Heap → Prop) (E : Value → Heap → Prop) (H : Heap) :
    fnT Tryd.prog Tryd.f8 (wC Tryd.prog vizardlaw06_SealOwn.Γ vizardlaw06_SealOwn.plan vizardlaw06_SealOwn.body) [(.string secret0), (.slice l0 l1 l2), (.int .i64 n0)] K E H = vizardlaw06_SealOwn.vc secret0 l0 l1 l2 n0 (fun r0_0 H => K (.bool r0_0) H) E H := by
  kernel_rfl
theorem vizardlaw06_SealOwn.Fe {args : List Value} {K E : Value → Heap → Prop} {H : Heap} (h : vizardlaw06_SealOwn.F args K E H) : ∃ secret0 l0 l1 l2 n0, args = [(.string secret0), (.slice l0 l1 l2), (.int .i64 n0)] ∧ vizardlaw06_SealOwn.c secret0 l0 l1 l2 n0 (fun r0_0 H => K (.bool r0_0) H) E H := by
  unfold vizardlaw06_SealOwn.F at h
  split at h
  · exact ⟨_, _, _, _, _, rfl, h⟩
  · exact h.elim
theorem vizardlaw06_SealOwn.ok : CalleeOk Tryd.prog 8 vizardlaw06_SealOwn.F :=
  callee_ok vizardlaw06_SealOwn.hΓ (fn := Tryd.f8) (c := vizardlaw06_SealOwn.body) (T := wC Tryd.prog vizardlaw06_SealOwn.Γ vizardlaw06_SealOwn.plan vizardlaw06_SealOwn.body) (by kernel_rfl) (by kernel_rfl) (by kernel_rfl) (wC_sound vizardlaw06_SealOwn.hΓ Tryd.hm vizardlaw06_SealOwn.plan _ vizardlaw06_SealOwn.pok) fun _ K E H h => by
    obtain ⟨z0, z1, z2, z3, z4, e, h⟩ := vizardlaw06_SealOwn.Fe h
    subst e
    have h2 : vizardlaw06_SealOwn.vc z0 z1 z2 z3 z4 (fun r0_0 H => ∃ H', Heap.Le H' H ∧ K (.bool r0_0) H') E H := h.h
    rw [vizardlaw06_SealOwn.eq z0 z1 z2 z3 z4 (Fg K) E H]
    exact h2

/-! vizard/vizardlaw06.SealBytes -/
noncomputable def vizardlaw06_SealBytes.body : Code := Tryd.f9.body.getD .skip
def vizardlaw06_SealBytes.J1.vc (secret0 : ByteArray) (n0 : Int) (data0 : ByteArray) (more0 : ByteArray) (at0 : Int) (by0 : Int) (x0 : Bool) (Kn : Heap → Prop) (Kr : Bool → Heap → Prop) (E : Value → Heap → Prop) (h0 : Heap) : Prop :=
  (if x0 = true then
  Kr true h0
  else
  Kn h0)
structure vizardlaw06_SealBytes.J1 (secret0 : ByteArray) (n0 : Int) (data0 : ByteArray) (more0 : ByteArray) (at0 : Int) (by0 : Int) (x0 : Bool) (Kn : Heap → Prop) (Kr : Bool → Heap → Prop) (E : Value → Heap → Prop) (H : Heap) : Prop where
  h : vizardlaw06_SealBytes.J1.vc secret0 n0 data0 more0 at0 by0 x0 Kn Kr E H
def vizardlaw06_SealBytes.J3.vc (n0 : Int) (data0 : ByteArray) (at0 : Int) (by0 : Int) (k0 : Option Addr) (a0 : ByteArray) (x0 : Bool) (Kn : Heap → Prop) (Kr : Bool → Heap → Prop) (E : Value → Heap → Prop) (h0 : Heap) : Prop :=
  (if x0 = true then
  Kr false h0
  else
  Kn h0)
structure vizardlaw06_SealBytes.J3 (n0 : Int) (data0 : ByteArray) (at0 : Int) (by0 : Int) (k0 : Option Addr) (a0 : ByteArray) (x0 : Bool) (Kn : Heap → Prop) (Kr : Bool → Heap → Prop) (E : Value → Heap → Prop) (H : Heap) : Prop where
  h : vizardlaw06_SealBytes.J3.vc n0 data0 at0 by0 k0 a0 x0 Kn Kr E H
def vizardlaw06_SealBytes.J6.vc (data0 : ByteArray) (by0 : Int) (a0 : ByteArray) (i0 : Int) (d0 : ByteArray) (j0 : Int) (x0 : Bool) (Kn : Heap → Prop) (Kr : Bool → Heap → Prop) (E : Value → Heap → Prop) (h0 : Heap) : Prop :=
  (if x0 = true then
  Kr false h0
  else
  Kn h0)
structure vizardlaw06_SealBytes.J6 (data0 : ByteArray) (by0 : Int) (a0 : ByteArray) (i0 : Int) (d0 : ByteArray) (j0 : Int) (x0 : Bool) (Kn : Heap → Prop) (Kr : Bool → Heap → Prop) (E : Value → Heap → Prop) (H : Heap) : Prop where
  h : vizardlaw06_SealBytes.J6.vc data0 by0 a0 i0 d0 j0 x0 Kn Kr E H
def vizardlaw06_SealBytes.J7.vc (data0 : ByteArray) (by0 : Int) (a0 : ByteArray) (i0 : Int) (d0 : ByteArray) (j0 : Int) (Kn : Int → Heap → Prop) (E : Value → Heap → Prop) (h0 : Heap) : Prop :=
  Kn (IntKind.i64.wrap (j0 + 1)) h0
structure vizardlaw06_SealBytes.J7 (data0 : ByteArray) (by0 : Int) (a0 : ByteArray) (i0 : Int) (d0 : ByteArray) (j0 : Int) (Kn : Int → Heap → Prop) (E : Value → Heap → Prop) (H : Heap) : Prop where
  h : vizardlaw06_SealBytes.J7.vc data0 by0 a0 i0 d0 j0 Kn E H
def vizardlaw06_SealBytes.W5.vc (data0 : ByteArray) (by0 : Int) (a0 : ByteArray) (i0 : Int) (d0 : ByteArray) (j0 : Int) (Kx0 : Heap → Prop) (Kr : Bool → Heap → Prop) (RR : Int → Heap → Prop) (E : Value → Heap → Prop) (h0 : Heap) : Prop :=
  (if (decide (j0 < (data0.size : Int))) = true then
  (if (j0 == i0) = true then
  (0 : Int) ≤ j0 ∧ j0 < (d0.size : Int) ∧
  (0 : Int) ≤ j0 ∧ j0 < (a0.size : Int) ∧
  (if ((bt d0 j0) != (bits .xor .u8 (bt a0 j0) by0)) = true then
  vizardlaw06_SealBytes.J6 data0 by0 a0 i0 d0 j0 true (fun h1 =>
  vizardlaw06_SealBytes.J7 data0 by0 a0 i0 d0 j0 RR E h1) Kr E h0
  else
  (if (j0 != i0) = true then
  (0 : Int) ≤ j0 ∧ j0 < (d0.size : Int) ∧
  (0 : Int) ≤ j0 ∧ j0 < (a0.size : Int) ∧
  vizardlaw06_SealBytes.J6 data0 by0 a0 i0 d0 j0 ((bt d0 j0) != (bt a0 j0)) (fun h4 =>
  vizardlaw06_SealBytes.J7 data0 by0 a0 i0 d0 j0 RR E h4) Kr E h0
  else
  vizardlaw06_SealBytes.J6 data0 by0 a0 i0 d0 j0 false (fun h7 =>
  vizardlaw06_SealBytes.J7 data0 by0 a0 i0 d0 j0 RR E h7) Kr E h0))
  else
  (if (j0 != i0) = true then
  (0 : Int) ≤ j0 ∧ j0 < (d0.size : Int) ∧
  (0 : Int) ≤ j0 ∧ j0 < (a0.size : Int) ∧
  vizardlaw06_SealBytes.J6 data0 by0 a0 i0 d0 j0 ((bt d0 j0) != (bt a0 j0)) (fun h10 =>
  vizardlaw06_SealBytes.J7 data0 by0 a0 i0 d0 j0 RR E h10) Kr E h0
  else
  vizardlaw06_SealBytes.J6 data0 by0 a0 i0 d0 j0 false (fun h13 =>
  vizardlaw06_SealBytes.J7 data0 by0 a0 i0 d0 j0 RR E h13) Kr E h0))
  else
  Kx0 h0)
structure vizardlaw06_SealBytes.W5 (data0 : ByteArray) (by0 : Int) (a0 : ByteArray) (i0 : Int) (d0 : ByteArray) (j0 : Int) (Kx0 : Heap → Prop) (Kr : Bool → Heap → Prop) (E : Value → Heap → Prop) (H : Heap) : Prop where
  h : Loop (fun (RR : Int → Heap → Prop) (s : Int) (H : Heap) => vizardlaw06_SealBytes.W5.vc data0 by0 a0 i0 d0 s Kx0 Kr (fun j0 H => RR (j0) H) E H) (j0) H
def vizardlaw06_SealBytes.J4.vc (n0 : Int) (data0 : ByteArray) (at0 : Int) (by0 : Int) (k0 : Option Addr) (a0 : ByteArray) (Kr : Bool → Heap → Prop) (E : Value → Heap → Prop) (h0 : Heap) : Prop :=
  (if ((data0.size : Int) == 0) = true then
  Kr true h0
  else
  ∀ j0, newB (.cells ((byteVals data0).toArray ++ Array.replicate j0 (.int .u8 0)) 5 (data0.size + j0, data0.size + j0 + 1)) (fun b0 h1 =>
  (IntKind.u64.wrap (data0.size : Int)) ≠ (0 : Int) ∧
  nilc (some (⟨b0, 0, none⟩ : Addr)) fun a1 => (0 : Int) ≤ (IntKind.i64.wrap (Int.tmod (IntKind.u64.wrap at0) (IntKind.u64.wrap (data0.size : Int)))) ∧ (IntKind.i64.wrap (Int.tmod (IntKind.u64.wrap at0) (IntKind.u64.wrap (data0.size : Int)))) < (data0.size : Int) ∧
  ldI h1 .u8 (a1.add ((IntKind.i64.wrap (Int.tmod (IntKind.u64.wrap at0) (IntKind.u64.wrap (data0.size : Int)))).toNat * 1)) fun x0 =>
  nilc (some (⟨b0, 0, none⟩ : Addr)) fun a2 => (0 : Int) ≤ (IntKind.i64.wrap (Int.tmod (IntKind.u64.wrap at0) (IntKind.u64.wrap (data0.size : Int)))) ∧ (IntKind.i64.wrap (Int.tmod (IntKind.u64.wrap at0) (IntKind.u64.wrap (data0.size : Int)))) < (data0.size : Int) ∧
  stc h1 (a2.add ((IntKind.i64.wrap (Int.tmod (IntKind.u64.wrap at0) (IntKind.u64.wrap (data0.size : Int)))).toNat * 1)) (.int .u8 (bits .xor .u8 x0 by0)) fun h2 =>
  rdBytes h2 (some (⟨b0, 0, none⟩ : Addr)) data0.size fun x1 =>
  seal_Key_Seal.c k0 n0 (⟨#[]⟩ : ByteArray) x1 (fun x2 h3 =>
  (if ((x2.size : Int) != (a0.size : Int)) = true then
  Kr false h3
  else
  vizardlaw06_SealBytes.W5 data0 by0 a0 (IntKind.i64.wrap (Int.tmod (IntKind.u64.wrap at0) (IntKind.u64.wrap (data0.size : Int)))) x2 0 (fun h4 =>
  Kr true h4) Kr E h3)) E h2) h0)
structure vizardlaw06_SealBytes.J4 (n0 : Int) (data0 : ByteArray) (at0 : Int) (by0 : Int) (k0 : Option Addr) (a0 : ByteArray) (Kr : Bool → Heap → Prop) (E : Value → Heap → Prop) (H : Heap) : Prop where
  h : vizardlaw06_SealBytes.J4.vc n0 data0 at0 by0 k0 a0 Kr E H
def vizardlaw06_SealBytes.J2.vc (secret0 : ByteArray) (n0 : Int) (data0 : ByteArray) (more0 : ByteArray) (at0 : Int) (by0 : Int) (Kr : Bool → Heap → Prop) (E : Value → Heap → Prop) (h0 : Heap) : Prop :=
  seal_New.c secret0 (fun x0 h1 =>
  seal_Key_Seal.c x0 n0 (⟨#[]⟩ : ByteArray) data0 (fun x1 h2 =>
  data0.size + more0.size ≤ 9223372036854775807 ∧
  seal_Key_Seal.c x0 n0 (⟨#[]⟩ : ByteArray) (data0 ++ more0) (fun x2 h3 =>
  (if ((x1.size : Int) != (IntKind.i64.wrap ((data0.size : Int) + 16))) = true then
  vizardlaw06_SealBytes.J3 n0 data0 at0 by0 x0 x1 true (fun h4 =>
  vizardlaw06_SealBytes.J4 n0 data0 at0 by0 x0 x1 Kr E h4) Kr E h3
  else
  (if ((x2.size : Int) != (IntKind.i64.wrap ((IntKind.i64.wrap ((data0.size : Int) + (more0.size : Int))) + 16))) = true then
  vizardlaw06_SealBytes.J3 n0 data0 at0 by0 x0 x1 true (fun h7 =>
  vizardlaw06_SealBytes.J4 n0 data0 at0 by0 x0 x1 Kr E h7) Kr E h3
  else
  (0 : Int) ≤ (data0.size : Int) ∧ (data0.size : Int) ≤ (x1.size : Int) ∧
  (0 : Int) ≤ (data0.size : Int) ∧ (data0.size : Int) ≤ (x2.size : Int) ∧
  vizardlaw06_SealBytes.J3 n0 data0 at0 by0 x0 x1 (!((x1.extract 0 (data0.size : Int).toNat).toList == (x2.extract 0 (data0.size : Int).toNat).toList)) (fun h10 =>
  vizardlaw06_SealBytes.J4 n0 data0 at0 by0 x0 x1 Kr E h10) Kr E h3))) E h2) E h1) E h0
structure vizardlaw06_SealBytes.J2 (secret0 : ByteArray) (n0 : Int) (data0 : ByteArray) (more0 : ByteArray) (at0 : Int) (by0 : Int) (Kr : Bool → Heap → Prop) (E : Value → Heap → Prop) (H : Heap) : Prop where
  h : vizardlaw06_SealBytes.J2.vc secret0 n0 data0 more0 at0 by0 Kr E H
def vizardlaw06_SealBytes.vc (secret0 : ByteArray) (n0 : Int) (data0 : ByteArray) (more0 : ByteArray) (at0 : Int) (by0 : Int) (K : Bool → Heap → Prop) (E : Value → Heap → Prop) (h0 : Heap) : Prop :=
  vizardlaw06_works.c (fun x0 h1 =>
  (if (!x0) = true then
  K false h1
  else
  (if (decide ((secret0.size : Int) > 300)) = true then
  vizardlaw06_SealBytes.J1 secret0 n0 data0 more0 at0 by0 true (fun h2 =>
  vizardlaw06_SealBytes.J2 secret0 n0 data0 more0 at0 by0 K E h2) K E h1
  else
  (if (decide ((data0.size : Int) > 300)) = true then
  vizardlaw06_SealBytes.J1 secret0 n0 data0 more0 at0 by0 true (fun h5 =>
  vizardlaw06_SealBytes.J2 secret0 n0 data0 more0 at0 by0 K E h5) K E h1
  else
  vizardlaw06_SealBytes.J1 secret0 n0 data0 more0 at0 by0 (decide ((more0.size : Int) > 300)) (fun h8 =>
  vizardlaw06_SealBytes.J2 secret0 n0 data0 more0 at0 by0 K E h8) K E h1)))) E h0
structure vizardlaw06_SealBytes.c (secret0 : ByteArray) (n0 : Int) (data0 : ByteArray) (more0 : ByteArray) (at0 : Int) (by0 : Int) (K : Bool → Heap → Prop) (E : Value → Heap → Prop) (H : Heap) : Prop where
  h : vizardlaw06_SealBytes.vc secret0 n0 data0 more0 at0 by0 (fun r0_0 H => ∃ H', Heap.Le H' H ∧ K r0_0 H') E H
def vizardlaw06_SealBytes.F : FT := fun args K E H => match args with
  | [(.string secret0), (.int .i64 n0), (.string data0), (.string more0), (.int .i64 at0), (.int .u8 by0)] => vizardlaw06_SealBytes.c secret0 n0 data0 more0 at0 by0 (fun r0_0 H => K (.bool r0_0) H) E H
  | _ => False
noncomputable def vizardlaw06_SealBytes.Γ : FuncId → Option FT := Γof [(22, vizardlaw06_works.F), (23, seal_New.F), (24, seal_Key_Seal.F)]
theorem vizardlaw06_SealBytes.hΓ : ∀ f F, vizardlaw06_SealBytes.Γ f = some F → CalleeOk Tryd.prog f F := Γof_ok (List.forall_mem_cons.2 ⟨vizardlaw06_works.ok, List.forall_mem_cons.2 ⟨seal_New.ok, List.forall_mem_cons.2 ⟨seal_Key_Seal.ok, fun _ h => nomatch h⟩⟩⟩)
def vizardlaw06_SealBytes.J1.t : CT := fun Q E fr H => lenIs 140 fr (slS fr 0 fun secret0 => slI fr 1 .i64 fun n0 => slS fr 2 fun data0 => slS fr 3 fun more0 => slI fr 4 .i64 fun at0 => slI fr 5 .u8 fun by0 => slB fr 34 fun x0 => vizardlaw06_SealBytes.J1 secret0 n0 data0 more0 at0 by0 x0 (fun  H => Q .normal (mkF 140 [(0, (.string secret0)), (1, (.int .i64 n0)), (2, (.string data0)), (3, (.string more0)), (4, (.int .i64 at0)), (5, (.int .u8 by0))]) H) (fun y12_0 H => Q .ret (mkF 140 [(12, (.bool y12_0))]) H) E H)
noncomputable def vizardlaw06_SealBytes.J1.plan : Plan := .go
theorem vizardlaw06_SealBytes.J1.pok : PlanOk Tryd.prog vizardlaw06_SealBytes.J1.plan (sub [1, 1, 0, 1] vizardlaw06_SealBytes.body) := by
  have e : PlanOk Tryd.prog vizardlaw06_SealBytes.J1.plan (sub [1, 1, 0, 1] vizardlaw06_SealBytes.body) = (True) := by kernel_rfl
  exact e.mpr trivial
theorem vizardlaw06_SealBytes.J1.eq (secret0 : ByteArray) (n0 : Int) (data0 : ByteArray) (more0 : ByteArray) (at0 : Int) (by0 : Int) (x0 : Bool) (Q : Ex → Fr → Heap → Prop) (E : Value → Heap → Prop) (H : Heap) :
    vizardlaw06_SealBytes.J1.vc secret0 n0 data0 more0 at0 by0 x0 (fun  H => Q .normal (mkF 140 [(0, (.string secret0)), (1, (.int .i64 n0)), (2, (.string data0)), (3, (.string more0)), (4, (.int .i64 at0)), (5, (.int .u8 by0))]) H) (fun y12_0 H => Q .ret (mkF 140 [(12, (.bool y12_0))]) H) E H = keepT [0, 1, 2, 3, 4, 5] [12] (fun i => []) (wC Tryd.prog vizardlaw06_SealBytes.Γ vizardlaw06_SealBytes.J1.plan (sub [1, 1, 0, 1] vizardlaw06_SealBytes.body)) Q E (mkF 140 [(0, (.string secret0)), (1, (.int .i64 n0)), (2, (.string data0)), (3, (.string more0)), (4, (.int .i64 at0)), (5, (.int .u8 by0)), (34, (.bool x0))]) H := by
  kernel_rfl
theorem vizardlaw06_SealBytes.J1.ok : SoundCode Tryd.prog (sub [1, 1, 0, 1] vizardlaw06_SealBytes.body) vizardlaw06_SealBytes.J1.t := by
  refine piece_sound (keepT_sound [0, 1, 2, 3, 4, 5] [12] (fun i => []) (wC_sound vizardlaw06_SealBytes.hΓ Tryd.hm vizardlaw06_SealBytes.J1.plan _ vizardlaw06_SealBytes.J1.pok)) ?_
  intro Q E fr H h
  unfold vizardlaw06_SealBytes.J1.t at h
  obtain ⟨hl, h⟩ := lenIs_elim h
  obtain ⟨secret0, q0, h⟩ := slS_elim h
  obtain ⟨n0, q1, h⟩ := slI_elim h
  obtain ⟨data0, q2, h⟩ := slS_elim h
  obtain ⟨more0, q3, h⟩ := slS_elim h
  obtain ⟨at0, q4, h⟩ := slI_elim h
  obtain ⟨by0, q5, h⟩ := slI_elim h
  obtain ⟨x0, q34, h⟩ := slB_elim h
  refine ⟨(mkF 140 [(0, (.string secret0)), (1, (.int .i64 n0)), (2, (.string data0)), (3, (.string more0)), (4, (.int .i64 at0)), (5, (.int .u8 by0)), (34, (.bool x0))]), fun a ha => ha.mk (Nat.le_of_eq hl.symm) (List.forall_mem_cons.2 ⟨q0, List.forall_mem_cons.2 ⟨q1, List.forall_mem_cons.2 ⟨q2, List.forall_mem_cons.2 ⟨q3, List.forall_mem_cons.2 ⟨q4, List.forall_mem_cons.2 ⟨q5, List.forall_mem_cons.2 ⟨q34, fun _ h => nomatch h⟩⟩⟩⟩⟩⟩⟩), ?_⟩
  have e := vizardlaw06_SealBytes.J1.eq secret0 n0 data0 more0 at0 by0 x0 Q E H
  rw [← e]
  exact h.h
def vizardlaw06_SealBytes.J3.t : CT := fun Q E fr H => lenIs 140 fr (slI fr 1 .i64 fun n0 => slS fr 2 fun data0 => slI fr 4 .i64 fun at0 => slI fr 5 .u8 fun by0 => slP fr 13 fun k0 => slS fr 14 fun a0 => slB fr 74 fun x0 => vizardlaw06_SealBytes.J3 n0 data0 at0 by0 k0 a0 x0 (fun  H => Q .normal (mkF 140 [(1, (.int .i64 n0)), (2, (.string data0)), (4, (.int .i64 at0)), (5, (.int .u8 by0)), (13, (.pointer k0)), (14, (.string a0))]) H) (fun y12_0 H => Q .ret (mkF 140 [(12, (.bool y12_0))]) H) E H)
noncomputable def vizardlaw06_SealBytes.J3.plan : Plan := .go
theorem vizardlaw06_SealBytes.J3.pok : PlanOk Tryd.prog vizardlaw06_SealBytes.J3.plan (sub [1, 1, 1, 1, 1, 0, 1] vizardlaw06_SealBytes.body) := by
  have e : PlanOk Tryd.prog vizardlaw06_SealBytes.J3.plan (sub [1, 1, 1, 1, 1, 0, 1] vizardlaw06_SealBytes.body) = (True) := by kernel_rfl
  exact e.mpr trivial
theorem vizardlaw06_SealBytes.J3.eq (n0 : Int) (data0 : ByteArray) (at0 : Int) (by0 : Int) (k0 : Option Addr) (a0 : ByteArray) (x0 : Bool) (Q : Ex → Fr → Heap → Prop) (E : Value → Heap → Prop) (H : Heap) :
    vizardlaw06_SealBytes.J3.vc n0 data0 at0 by0 k0 a0 x0 (fun  H => Q .normal (mkF 140 [(1, (.int .i64 n0)), (2, (.string data0)), (4, (.int .i64 at0)), (5, (.int .u8 by0)), (13, (.pointer k0)), (14, (.string a0))]) H) (fun y12_0 H => Q .ret (mkF 140 [(12, (.bool y12_0))]) H) E H = keepT [1, 2, 4, 5, 13, 14] [12] (fun i => []) (wC Tryd.prog vizardlaw06_SealBytes.Γ vizardlaw06_SealBytes.J3.plan (sub [1, 1, 1, 1, 1, 0, 1] vizardlaw06_SealBytes.body)) Q E (mkF 140 [(1, (.int .i64 n0)), (2, (.string data0)), (4, (.int .i64 at0)), (5, (.int .u8 by0)), (13, (.pointer k0)), (14, (.string a0)), (74, (.bool x0))]) H := by
  kernel_rfl
theorem vizardlaw06_SealBytes.J3.ok : SoundCode Tryd.prog (sub [1, 1, 1, 1, 1, 0, 1] vizardlaw06_SealBytes.body) vizardlaw06_SealBytes.J3.t := by
  refine piece_sound (keepT_sound [1, 2, 4, 5, 13, 14] [12] (fun i => []) (wC_sound vizardlaw06_SealBytes.hΓ Tryd.hm vizardlaw06_SealBytes.J3.plan _ vizardlaw06_SealBytes.J3.pok)) ?_
  intro Q E fr H h
  unfold vizardlaw06_SealBytes.J3.t at h
  obtain ⟨hl, h⟩ := lenIs_elim h
  obtain ⟨n0, q1, h⟩ := slI_elim h
  obtain ⟨data0, q2, h⟩ := slS_elim h
  obtain ⟨at0, q4, h⟩ := slI_elim h
  obtain ⟨by0, q5, h⟩ := slI_elim h
  obtain ⟨k0, q13, h⟩ := slP_elim h
  obtain ⟨a0, q14, h⟩ := slS_elim h
  obtain ⟨x0, q74, h⟩ := slB_elim h
  refine ⟨(mkF 140 [(1, (.int .i64 n0)), (2, (.string data0)), (4, (.int .i64 at0)), (5, (.int .u8 by0)), (13, (.pointer k0)), (14, (.string a0)), (74, (.bool x0))]), fun a ha => ha.mk (Nat.le_of_eq hl.symm) (List.forall_mem_cons.2 ⟨q1, List.forall_mem_cons.2 ⟨q2, List.forall_mem_cons.2 ⟨q4, List.forall_mem_cons.2 ⟨q5, List.forall_mem_cons.2 ⟨q13, List.forall_mem_cons.2 ⟨q14, List.forall_mem_cons.2 ⟨q74, fun _ h => nomatch h⟩⟩⟩⟩⟩⟩⟩), ?_⟩
  have e := vizardlaw06_SealBytes.J3.eq n0 data0 at0 by0 k0 a0 x0 Q E H
  rw [← e]
  exact h.h
def vizardlaw06_SealBytes.J6.t : CT := fun Q E fr H => lenIs 140 fr (slS fr 2 fun data0 => slI fr 5 .u8 fun by0 => slS fr 14 fun a0 => slI fr 17 .i64 fun i0 => slS fr 18 fun d0 => slI fr 19 .i64 fun j0 => slB fr 139 fun x0 => vizardlaw06_SealBytes.J6 data0 by0 a0 i0 d0 j0 x0 (fun  H => Q .normal (mkF 140 [(2, (.string data0)), (5, (.int .u8 by0)), (14, (.string a0)), (17, (.int .i64 i0)), (18, (.string d0)), (19, (.int .i64 j0))]) H) (fun y12_0 H => Q .ret (mkF 140 [(12, (.bool y12_0))]) H) E H)
noncomputable def vizardlaw06_SealBytes.J6.plan : Plan := .go
theorem vizardlaw06_SealBytes.J6.pok : PlanOk Tryd.prog vizardlaw06_SealBytes.J6.plan (sub [1, 1, 1, 1, 1, 1, 1, 1, 1, 1, 1, 1, 0, 1, 0, 0, 1, 0, 0, 1] vizardlaw06_SealBytes.body) := by
  have e : PlanOk Tryd.prog vizardlaw06_SealBytes.J6.plan (sub [1, 1, 1, 1, 1, 1, 1, 1, 1, 1, 1, 1, 0, 1, 0, 0, 1, 0, 0, 1] vizardlaw06_SealBytes.body) = (True) := by kernel_rfl
  exact e.mpr trivial
theorem vizardlaw06_SealBytes.J6.eq (data0 : ByteArray) (by0 : Int) (a0 : ByteArray) (i0 : Int) (d0 : ByteArray) (j0 : Int) (x0 : Bool) (Q : Ex → Fr → Heap → Prop) (E : Value → Heap → Prop) (H : Heap) :
    vizardlaw06_SealBytes.J6.vc data0 by0 a0 i0 d0 j0 x0 (fun  H => Q .normal (mkF 140 [(2, (.string data0)), (5, (.int .u8 by0)), (14, (.string a0)), (17, (.int .i64 i0)), (18, (.string d0)), (19, (.int .i64 j0))]) H) (fun y12_0 H => Q .ret (mkF 140 [(12, (.bool y12_0))]) H) E H = keepT [2, 5, 14, 17, 18, 19] [12] (fun i => []) (wC Tryd.prog vizardlaw06_SealBytes.Γ vizardlaw06_SealBytes.J6.plan (sub [1, 1, 1, 1, 1, 1, 1, 1, 1, 1, 1, 1, 0, 1, 0, 0, 1, 0, 0, 1] vizardlaw06_SealBytes.body)) Q E (mkF 140 [(2, (.string data0)), (5, (.int .u8 by0)), (14, (.string a0)), (17, (.int .i64 i0)), (18, (.string d0)), (19, (.int .i64 j0)), (139, (.bool x0))]) H := by
  kernel_rfl
theorem vizardlaw06_SealBytes.J6.ok : SoundCode Tryd.prog (sub [1, 1, 1, 1, 1, 1, 1, 1, 1, 1, 1, 1, 0, 1, 0, 0, 1, 0, 0, 1] vizardlaw06_SealBytes.body) vizardlaw06_SealBytes.J6.t := by
  refine piece_sound (keepT_sound [2, 5, 14, 17, 18, 19] [12] (fun i => []) (wC_sound vizardlaw06_SealBytes.hΓ Tryd.hm vizardlaw06_SealBytes.J6.plan _ vizardlaw06_SealBytes.J6.pok)) ?_
  intro Q E fr H h
  unfold vizardlaw06_SealBytes.J6.t at h
  obtain ⟨hl, h⟩ := lenIs_elim h
  obtain ⟨data0, q2, h⟩ := slS_elim h
  obtain ⟨by0, q5, h⟩ := slI_elim h
  obtain ⟨a0, q14, h⟩ := slS_elim h
  obtain ⟨i0, q17, h⟩ := slI_elim h
  obtain ⟨d0, q18, h⟩ := slS_elim h
  obtain ⟨j0, q19, h⟩ := slI_elim h
  obtain ⟨x0, q139, h⟩ := slB_elim h
  refine ⟨(mkF 140 [(2, (.string data0)), (5, (.int .u8 by0)), (14, (.string a0)), (17, (.int .i64 i0)), (18, (.string d0)), (19, (.int .i64 j0)), (139, (.bool x0))]), fun a ha => ha.mk (Nat.le_of_eq hl.symm) (List.forall_mem_cons.2 ⟨q2, List.forall_mem_cons.2 ⟨q5, List.forall_mem_cons.2 ⟨q14, List.forall_mem_cons.2 ⟨q17, List.forall_mem_cons.2 ⟨q18, List.forall_mem_cons.2 ⟨q19, List.forall_mem_cons.2 ⟨q139, fun _ h => nomatch h⟩⟩⟩⟩⟩⟩⟩), ?_⟩
  have e := vizardlaw06_SealBytes.J6.eq data0 by0 a0 i0 d0 j0 x0 Q E H
  rw [← e]
  exact h.h
def vizardlaw06_SealBytes.J7.t : CT := fun Q E fr H => lenIs 140 fr (slS fr 2 fun data0 => slI fr 5 .u8 fun by0 => slS fr 14 fun a0 => slI fr 17 .i64 fun i0 => slS fr 18 fun d0 => slI fr 19 .i64 fun j0 => vizardlaw06_SealBytes.J7 data0 by0 a0 i0 d0 j0 (fun y19_0 H => Q .normal (mkF 140 [(2, (.string data0)), (5, (.int .u8 by0)), (14, (.string a0)), (17, (.int .i64 i0)), (18, (.string d0)), (19, (.int .i64 y19_0))]) H) E H)
noncomputable def vizardlaw06_SealBytes.J7.plan : Plan := .go
theorem vizardlaw06_SealBytes.J7.pok : PlanOk Tryd.prog vizardlaw06_SealBytes.J7.plan (sub [1, 1, 1, 1, 1, 1, 1, 1, 1, 1, 1, 1, 0, 1, 0, 0, 1, 1] vizardlaw06_SealBytes.body) := by
  have e : PlanOk Tryd.prog vizardlaw06_SealBytes.J7.plan (sub [1, 1, 1, 1, 1, 1, 1, 1, 1, 1, 1, 1, 0, 1, 0, 0, 1, 1] vizardlaw06_SealBytes.body) = (True) := by kernel_rfl
  exact e.mpr trivial
theorem vizardlaw06_SealBytes.J7.eq (data0 : ByteArray) (by0 : Int) (a0 : ByteArray) (i0 : Int) (d0 : ByteArray) (j0 : Int) (Q : Ex → Fr → Heap → Prop) (E : Value → Heap → Prop) (H : Heap) :
    vizardlaw06_SealBytes.J7.vc data0 by0 a0 i0 d0 j0 (fun y19_0 H => Q .normal (mkF 140 [(2, (.string data0)), (5, (.int .u8 by0)), (14, (.string a0)), (17, (.int .i64 i0)), (18, (.string d0)), (19, (.int .i64 y19_0))]) H) E H = keepT [2, 5, 14, 17, 18, 19] [] (fun i => []) (wC Tryd.prog vizardlaw06_SealBytes.Γ vizardlaw06_SealBytes.J7.plan (sub [1, 1, 1, 1, 1, 1, 1, 1, 1, 1, 1, 1, 0, 1, 0, 0, 1, 1] vizardlaw06_SealBytes.body)) Q E (mkF 140 [(2, (.string data0)), (5, (.int .u8 by0)), (14, (.string a0)), (17, (.int .i64 i0)), (18, (.string d0)), (19, (.int .i64 j0))]) H := by
  kernel_rfl
theorem vizardlaw06_SealBytes.J7.ok : SoundCode Tryd.prog (sub [1, 1, 1, 1, 1, 1, 1, 1, 1, 1, 1, 1, 0, 1, 0, 0, 1, 1] vizardlaw06_SealBytes.body) vizardlaw06_SealBytes.J7.t := by
  refine piece_sound (keepT_sound [2, 5, 14, 17, 18, 19] [] (fun i => []) (wC_sound vizardlaw06_SealBytes.hΓ Tryd.hm vizardlaw06_SealBytes.J7.plan _ vizardlaw06_SealBytes.J7.pok)) ?_
  intro Q E fr H h
  unfold vizardlaw06_SealBytes.J7.t at h
  obtain ⟨hl, h⟩ := lenIs_elim h
  obtain ⟨data0, q2, h⟩ := slS_elim h
  obtain ⟨by0, q5, h⟩ := slI_elim h
  obtain ⟨a0, q14, h⟩ := slS_elim h
  obtain ⟨i0, q17, h⟩ := slI_elim h
  obtain ⟨d0, q18, h⟩ := slS_elim h
  obtain ⟨j0, q19, h⟩ := slI_elim h
  refine ⟨(mkF 140 [(2, (.string data0)), (5, (.int .u8 by0)), (14, (.string a0)), (17, (.int .i64 i0)), (18, (.string d0)), (19, (.int .i64 j0))]), fun a ha => ha.mk (Nat.le_of_eq hl.symm) (List.forall_mem_cons.2 ⟨q2, List.forall_mem_cons.2 ⟨q5, List.forall_mem_cons.2 ⟨q14, List.forall_mem_cons.2 ⟨q17, List.forall_mem_cons.2 ⟨q18, List.forall_mem_cons.2 ⟨q19, fun _ h => nomatch h⟩⟩⟩⟩⟩⟩), ?_⟩
  have e := vizardlaw06_SealBytes.J7.eq data0 by0 a0 i0 d0 j0 Q E H
  rw [← e]
  exact h.h
def vizardlaw06_SealBytes.W5.t : CT := fun Q E fr H => lenIs 140 fr (slS fr 2 fun data0 => slI fr 5 .u8 fun by0 => slS fr 14 fun a0 => slI fr 17 .i64 fun i0 => slS fr 18 fun d0 => slI fr 19 .i64 fun j0 => vizardlaw06_SealBytes.W5 data0 by0 a0 i0 d0 j0 (fun  H => Q (.exit 0) (mkF 140 []) H) (fun y12_0 H => Q .ret (mkF 140 [(12, (.bool y12_0))]) H) E H)
noncomputable def vizardlaw06_SealBytes.W5.plan : Plan := .seq (.go) (.seq (.block (.seq (.draw ⟨[0, 1, 2, 3, 4, 5, 6, 7, 8, 9, 10, 11, 12, 13, 14, 15, 16, 17, 18, 19, 20, 21, 22, 23, 24, 25, 26, 27], (dl [(0, []), (1, []), (2, []), (3, []), (4, []), (5, []), (6, []), (7, []), (8, []), (9, []), (10, []), (11, []), (12, []), (13, []), (14, []), (15, []), (16, []), (17, []), (18, []), (19, []), (20, []), (21, []), (22, []), (23, []), (24, []), (25, []), (26, []), (27, [])] .fin), []⟩) (.use vizardlaw06_SealBytes.J6.t))) (.use vizardlaw06_SealBytes.J7.t))
theorem vizardlaw06_SealBytes.W5.pok : PlanOk Tryd.prog vizardlaw06_SealBytes.W5.plan (sub [1, 1, 1, 1, 1, 1, 1, 1, 1, 1, 1, 1, 0, 1, 0, 0] vizardlaw06_SealBytes.body) := by
  have e : PlanOk Tryd.prog vizardlaw06_SealBytes.W5.plan (sub [1, 1, 1, 1, 1, 1, 1, 1, 1, 1, 1, 1, 0, 1, 0, 0] vizardlaw06_SealBytes.body) = ((True) ∧ (((True) ∧ (SoundCode Tryd.prog (sub [1, 1, 1, 1, 1, 1, 1, 1, 1, 1, 1, 1, 0, 1, 0, 0, 1, 0, 0, 1] vizardlaw06_SealBytes.body) vizardlaw06_SealBytes.J6.t)) ∧ (SoundCode Tryd.prog (sub [1, 1, 1, 1, 1, 1, 1, 1, 1, 1, 1, 1, 0, 1, 0, 0, 1, 1] vizardlaw06_SealBytes.body) vizardlaw06_SealBytes.J7.t))) := by kernel_rfl
  exact e.mpr ⟨trivial, ⟨⟨trivial, vizardlaw06_SealBytes.J6.ok⟩, vizardlaw06_SealBytes.J7.ok⟩⟩
theorem vizardlaw06_SealBytes.W5.eq (data0 : ByteArray) (by0 : Int) (a0 : ByteArray) (i0 : Int) (d0 : ByteArray) (Q : Ex → Fr → Heap → Prop) (E : Value → Heap → Prop) (RR : Fr → Heap → Prop) (s : Int) (H : Heap) :
    (fun (RR : Int → Heap → Prop) (s : Int) (H : Heap) => vizardlaw06_SealBytes.W5.vc data0 by0 a0 i0 d0 s (fun  H => Q (.exit 0) (mkF 140 []) H) (fun y12_0 H => Q .ret (mkF 140 [(12, (.bool y12_0))]) H) (fun j0 H => RR (j0) H) E H) (fun s' H' => RR ((fun (s : Int) => (mkF 140 [(2, (.string data0)), (5, (.int .u8 by0)), (14, (.string a0)), (17, (.int .i64 i0)), (18, (.string d0)), (19, (.int .i64 s))])) s') H') s H = keepT [2, 5, 14, 17, 18, 19] [12] (fun i => if i = 0 then [] else []) (wC Tryd.prog vizardlaw06_SealBytes.Γ vizardlaw06_SealBytes.W5.plan (sub [1, 1, 1, 1, 1, 1, 1, 1, 1, 1, 1, 1, 0, 1, 0, 0] vizardlaw06_SealBytes.body)) (fun e fr' H' => match e with | .normal => RR fr' H' | .exit id => Q (.exit id) fr' H' | .ret => Q .ret fr' H') E ((fun (s : Int) => (mkF 140 [(2, (.string data0)), (5, (.int .u8 by0)), (14, (.string a0)), (17, (.int .i64 i0)), (18, (.string d0)), (19, (.int .i64 s))])) s) H := by
  kernel_rfl
theorem vizardlaw06_SealBytes.W5.ok : SoundCode Tryd.prog (sub [1, 1, 1, 1, 1, 1, 1, 1, 1, 1, 1, 1, 0, 1, 0] vizardlaw06_SealBytes.body) vizardlaw06_SealBytes.W5.t := by
  have e : (sub [1, 1, 1, 1, 1, 1, 1, 1, 1, 1, 1, 1, 0, 1, 0] vizardlaw06_SealBytes.body) = .loop (sub [1, 1, 1, 1, 1, 1, 1, 1, 1, 1, 1, 1, 0, 1, 0, 0] vizardlaw06_SealBytes.body) := by kernel_rfl
  rw [e]
  refine piece_sound (loopN_sound (keepT_sound [2, 5, 14, 17, 18, 19] [12] (fun i => if i = 0 then [] else []) (wC_sound vizardlaw06_SealBytes.hΓ Tryd.hm vizardlaw06_SealBytes.W5.plan _ vizardlaw06_SealBytes.W5.pok))) ?_
  intro Q E fr H h
  unfold vizardlaw06_SealBytes.W5.t at h
  obtain ⟨hl, h⟩ := lenIs_elim h
  obtain ⟨data0, q2, h⟩ := slS_elim h
  obtain ⟨by0, q5, h⟩ := slI_elim h
  obtain ⟨a0, q14, h⟩ := slS_elim h
  obtain ⟨i0, q17, h⟩ := slI_elim h
  obtain ⟨d0, q18, h⟩ := slS_elim h
  obtain ⟨j0, q19, h⟩ := slI_elim h
  obtain ⟨m, h⟩ := h.h
  refine ⟨(mkF 140 [(2, (.string data0)), (5, (.int .u8 by0)), (14, (.string a0)), (17, (.int .i64 i0)), (18, (.string d0)), (19, (.int .i64 j0))]), fun a ha => ha.mk (Nat.le_of_eq hl.symm) (List.forall_mem_cons.2 ⟨q2, List.forall_mem_cons.2 ⟨q5, List.forall_mem_cons.2 ⟨q14, List.forall_mem_cons.2 ⟨q17, List.forall_mem_cons.2 ⟨q18, List.forall_mem_cons.2 ⟨q19, fun _ h => nomatch h⟩⟩⟩⟩⟩⟩), m, ?_⟩
  have e := loopS_eq (B := (fun (RR : Int → Heap → Prop) (s : Int) (H : Heap) => vizardlaw06_SealBytes.W5.vc data0 by0 a0 i0 d0 s (fun  H => Q (.exit 0) (mkF 140 []) H) (fun y12_0 H => Q .ret (mkF 140 [(12, (.bool y12_0))]) H) (fun j0 H => RR (j0) H) E H)) (A := keepT [2, 5, 14, 17, 18, 19] [12] (fun i => if i = 0 then [] else []) (wC Tryd.prog vizardlaw06_SealBytes.Γ vizardlaw06_SealBytes.W5.plan (sub [1, 1, 1, 1, 1, 1, 1, 1, 1, 1, 1, 1, 0, 1, 0, 0] vizardlaw06_SealBytes.body))) (m := (fun (s : Int) => (mkF 140 [(2, (.string data0)), (5, (.int .u8 by0)), (14, (.string a0)), (17, (.int .i64 i0)), (18, (.string d0)), (19, (.int .i64 s))]))) (Q := Q) (E := E) (fun RR s H => vizardlaw06_SealBytes.W5.eq data0 by0 a0 i0 d0 Q E RR s H) m (j0) H
  exact cast e h
def vizardlaw06_SealBytes.J4.t : CT := fun Q E fr H => lenIs 140 fr (slI fr 1 .i64 fun n0 => slS fr 2 fun data0 => slI fr 4 .i64 fun at0 => slI fr 5 .u8 fun by0 => slP fr 13 fun k0 => slS fr 14 fun a0 => vizardlaw06_SealBytes.J4 n0 data0 at0 by0 k0 a0 (fun y12_0 H => Q .ret (mkF 140 [(12, (.bool y12_0))]) H) E H)
noncomputable def vizardlaw06_SealBytes.J4.plan : Plan := .seq (.go) (.seq (.go) (.seq (.go) (.seq (.go) (.seq (.go) (.seq (.go) (.seq (.seq (.go) (.block (.use vizardlaw06_SealBytes.W5.t))) (.go)))))))
theorem vizardlaw06_SealBytes.J4.pok : PlanOk Tryd.prog vizardlaw06_SealBytes.J4.plan (sub [1, 1, 1, 1, 1, 1] vizardlaw06_SealBytes.body) := by
  have e : PlanOk Tryd.prog vizardlaw06_SealBytes.J4.plan (sub [1, 1, 1, 1, 1, 1] vizardlaw06_SealBytes.body) = ((True) ∧ ((True) ∧ ((True) ∧ ((True) ∧ ((True) ∧ ((True) ∧ (((True) ∧ (SoundCode Tryd.prog (sub [1, 1, 1, 1, 1, 1, 1, 1, 1, 1, 1, 1, 0, 1, 0] vizardlaw06_SealBytes.body) vizardlaw06_SealBytes.W5.t)) ∧ (True)))))))) := by kernel_rfl
  exact e.mpr ⟨trivial, ⟨trivial, ⟨trivial, ⟨trivial, ⟨trivial, ⟨trivial, ⟨⟨trivial, vizardlaw06_SealBytes.W5.ok⟩, trivial⟩⟩⟩⟩⟩⟩⟩
theorem vizardlaw06_SealBytes.J4.eq (n0 : Int) (data0 : ByteArray) (at0 : Int) (by0 : Int) (k0 : Option Addr) (a0 : ByteArray) (Q : Ex → Fr → Heap → Prop) (E : Value → Heap → Prop) (H : Heap) :
    vizardlaw06_SealBytes.J4.vc n0 data0 at0 by0 k0 a0 (fun y12_0 H => Q .ret (mkF 140 [(12, (.bool y12_0))]) H) E H = keepT [] [12] (fun i => []) (wC Tryd.prog vizardlaw06_SealBytes.Γ vizardlaw06_SealBytes.J4.plan (sub [1, 1, 1, 1, 1, 1] vizardlaw06_SealBytes.body)) Q E (mkF 140 [(1, (.int .i64 n0)), (2, (.string data0)), (4, (.int .i64 at0)), (5, (.int .u8 by0)), (13, (.pointer k0)), (14, (.string a0))]) H := by
  kernel_rfl
theorem vizardlaw06_SealBytes.J4.ok : SoundCode Tryd.prog (sub [1, 1, 1, 1, 1, 1] vizardlaw06_SealBytes.body) vizardlaw06_SealBytes.J4.t := by
  refine piece_sound (keepT_sound [] [12] (fun i => []) (wC_sound vizardlaw06_SealBytes.hΓ Tryd.hm vizardlaw06_SealBytes.J4.plan _ vizardlaw06_SealBytes.J4.pok)) ?_
  intro Q E fr H h
  unfold vizardlaw06_SealBytes.J4.t at h
  obtain ⟨hl, h⟩ := lenIs_elim h
  obtain ⟨n0, q1, h⟩ := slI_elim h
  obtain ⟨data0, q2, h⟩ := slS_elim h
  obtain ⟨at0, q4, h⟩ := slI_elim h
  obtain ⟨by0, q5, h⟩ := slI_elim h
  obtain ⟨k0, q13, h⟩ := slP_elim h
  obtain ⟨a0, q14, h⟩ := slS_elim h
  refine ⟨(mkF 140 [(1, (.int .i64 n0)), (2, (.string data0)), (4, (.int .i64 at0)), (5, (.int .u8 by0)), (13, (.pointer k0)), (14, (.string a0))]), fun a ha => ha.mk (Nat.le_of_eq hl.symm) (List.forall_mem_cons.2 ⟨q1, List.forall_mem_cons.2 ⟨q2, List.forall_mem_cons.2 ⟨q4, List.forall_mem_cons.2 ⟨q5, List.forall_mem_cons.2 ⟨q13, List.forall_mem_cons.2 ⟨q14, fun _ h => nomatch h⟩⟩⟩⟩⟩⟩), ?_⟩
  have e := vizardlaw06_SealBytes.J4.eq n0 data0 at0 by0 k0 a0 Q E H
  rw [← e]
  exact h.h
def vizardlaw06_SealBytes.J2.t : CT := fun Q E fr H => lenIs 140 fr (slS fr 0 fun secret0 => slI fr 1 .i64 fun n0 => slS fr 2 fun data0 => slS fr 3 fun more0 => slI fr 4 .i64 fun at0 => slI fr 5 .u8 fun by0 => vizardlaw06_SealBytes.J2 secret0 n0 data0 more0 at0 by0 (fun y12_0 H => Q .ret (mkF 140 [(12, (.bool y12_0))]) H) E H)
noncomputable def vizardlaw06_SealBytes.J2.plan : Plan := .seq (.go) (.seq (.go) (.seq (.seq (.draw ⟨[0, 1, 2, 3, 4, 5, 6, 7, 8, 9, 10, 11, 12, 13, 14, 15, 16, 17, 18, 19, 20, 21, 22, 23, 24, 25, 26, 27], (dl [(0, []), (1, []), (2, []), (3, []), (4, []), (5, []), (6, []), (7, []), (8, []), (9, []), (10, []), (11, []), (12, []), (13, []), (14, []), (15, []), (16, []), (17, []), (18, []), (19, []), (20, []), (21, []), (22, []), (23, []), (24, []), (25, []), (26, []), (27, [])] .fin), []⟩) (.use vizardlaw06_SealBytes.J3.t)) (.use vizardlaw06_SealBytes.J4.t)))
theorem vizardlaw06_SealBytes.J2.pok : PlanOk Tryd.prog vizardlaw06_SealBytes.J2.plan (sub [1, 1, 1] vizardlaw06_SealBytes.body) := by
  have e : PlanOk Tryd.prog vizardlaw06_SealBytes.J2.plan (sub [1, 1, 1] vizardlaw06_SealBytes.body) = ((True) ∧ ((True) ∧ (((True) ∧ (SoundCode Tryd.prog (sub [1, 1, 1, 1, 1, 0, 1] vizardlaw06_SealBytes.body) vizardlaw06_SealBytes.J3.t)) ∧ (SoundCode Tryd.prog (sub [1, 1, 1, 1, 1, 1] vizardlaw06_SealBytes.body) vizardlaw06_SealBytes.J4.t)))) := by kernel_rfl
  exact e.mpr ⟨trivial, ⟨trivial, ⟨⟨trivial, vizardlaw06_SealBytes.J3.ok⟩, vizardlaw06_SealBytes.J4.ok⟩⟩⟩
theorem vizardlaw06_SealBytes.J2.eq (secret0 : ByteArray) (n0 : Int) (data0 : ByteArray) (more0 : ByteArray) (at0 : Int) (by0 : Int) (Q : Ex → Fr → Heap → Prop) (E : Value → Heap → Prop) (H : Heap) :
    vizardlaw06_SealBytes.J2.vc secret0 n0 data0 more0 at0 by0 (fun y12_0 H => Q .ret (mkF 140 [(12, (.bool y12_0))]) H) E H = keepT [] [12] (fun i => []) (wC Tryd.prog vizardlaw06_SealBytes.Γ vizardlaw06_SealBytes.J2.plan (sub [1, 1, 1] vizardlaw06_SealBytes.body)) Q E (mkF 140 [(0, (.string secret0)), (1, (.int .i64 n0)), (2, (.string data0)), (3, (.string more0)), (4, (.int .i64 at0)), (5, (.int .u8 by0))]) H := by
  kernel_rfl
theorem vizardlaw06_SealBytes.J2.ok : SoundCode Tryd.prog (sub [1, 1, 1] vizardlaw06_SealBytes.body) vizardlaw06_SealBytes.J2.t := by
  refine piece_sound (keepT_sound [] [12] (fun i => []) (wC_sound vizardlaw06_SealBytes.hΓ Tryd.hm vizardlaw06_SealBytes.J2.plan _ vizardlaw06_SealBytes.J2.pok)) ?_
  intro Q E fr H h
  unfold vizardlaw06_SealBytes.J2.t at h
  obtain ⟨hl, h⟩ := lenIs_elim h
  obtain ⟨secret0, q0, h⟩ := slS_elim h
  obtain ⟨n0, q1, h⟩ := slI_elim h
  obtain ⟨data0, q2, h⟩ := slS_elim h
  obtain ⟨more0, q3, h⟩ := slS_elim h
  obtain ⟨at0, q4, h⟩ := slI_elim h
  obtain ⟨by0, q5, h⟩ := slI_elim h
  refine ⟨(mkF 140 [(0, (.string secret0)), (1, (.int .i64 n0)), (2, (.string data0)), (3, (.string more0)), (4, (.int .i64 at0)), (5, (.int .u8 by0))]), fun a ha => ha.mk (Nat.le_of_eq hl.symm) (List.forall_mem_cons.2 ⟨q0, List.forall_mem_cons.2 ⟨q1, List.forall_mem_cons.2 ⟨q2, List.forall_mem_cons.2 ⟨q3, List.forall_mem_cons.2 ⟨q4, List.forall_mem_cons.2 ⟨q5, fun _ h => nomatch h⟩⟩⟩⟩⟩⟩), ?_⟩
  have e := vizardlaw06_SealBytes.J2.eq secret0 n0 data0 more0 at0 by0 Q E H
  rw [← e]
  exact h.h
noncomputable def vizardlaw06_SealBytes.plan : Plan := .seq (.go) (.seq (.go) (.seq (.seq (.go) (.use vizardlaw06_SealBytes.J1.t)) (.use vizardlaw06_SealBytes.J2.t)))
theorem vizardlaw06_SealBytes.pok : PlanOk Tryd.prog vizardlaw06_SealBytes.plan vizardlaw06_SealBytes.body := by
  have e : PlanOk Tryd.prog vizardlaw06_SealBytes.plan vizardlaw06_SealBytes.body = ((True) ∧ ((True) ∧ (((True) ∧ (SoundCode Tryd.prog (sub [1, 1, 0, 1] vizardlaw06_SealBytes.body) vizardlaw06_SealBytes.J1.t)) ∧ (SoundCode Tryd.prog (sub [1, 1, 1] vizardlaw06_SealBytes.body) vizardlaw06_SealBytes.J2.t)))) := by kernel_rfl
  exact e.mpr ⟨trivial, ⟨trivial, ⟨⟨trivial, vizardlaw06_SealBytes.J1.ok⟩, vizardlaw06_SealBytes.J2.ok⟩⟩⟩
theorem vizardlaw06_SealBytes.eq (secret0 : ByteArray) (n0 : Int) (data0 : ByteArray) (more0 : ByteArray) (at0 : Int) (by0 : Int) (K : Value → Heap → Prop) (E : Value → Heap → Prop) (H : Heap) :
    fnT Tryd.prog Tryd.f9 (wC Tryd.prog vizardlaw06_SealBytes.Γ vizardlaw06_SealBytes.plan vizardlaw06_SealBytes.body) [(.string secret0), (.int .i64 n0), (.string data0), (.string more0), (.int .i64 at0), (.int .u8 by0)] K E H = vizardlaw06_SealBytes.vc secret0 n0 data0 more0 at0 by0 (fun r0_0 H => K (.bool r0_0) H) E H := by
  kernel_rfl
theorem vizardlaw06_SealBytes.Fe {args : List Value} {K E : Value → Heap → Prop} {H : Heap} (h : vizardlaw06_SealBytes.F args K E H) : ∃ secret0 n0 data0 more0 at0 by0, args = [(.string secret0), (.int .i64 n0), (.string data0), (.string more0), (.int .i64 at0), (.int .u8 by0)] ∧ vizardlaw06_SealBytes.c secret0 n0 data0 more0 at0 by0 (fun r0_0 H => K (.bool r0_0) H) E H := by
  unfold vizardlaw06_SealBytes.F at h
  split at h
  · exact ⟨_, _, _, _, _, _, rfl, h⟩
  · exact h.elim
theorem vizardlaw06_SealBytes.ok : CalleeOk Tryd.prog 9 vizardlaw06_SealBytes.F :=
  callee_ok vizardlaw06_SealBytes.hΓ (fn := Tryd.f9) (c := vizardlaw06_SealBytes.body) (T := wC Tryd.prog vizardlaw06_SealBytes.Γ vizardlaw06_SealBytes.plan vizardlaw06_SealBytes.body) (by kernel_rfl) (by kernel_rfl) (by kernel_rfl) (wC_sound vizardlaw06_SealBytes.hΓ Tryd.hm vizardlaw06_SealBytes.plan _ vizardlaw06_SealBytes.pok) fun _ K E H h => by
    obtain ⟨z0, z1, z2, z3, z4, z5, e, h⟩ := vizardlaw06_SealBytes.Fe h
    subst e
    have h2 : vizardlaw06_SealBytes.vc z0 z1 z2 z3 z4 z5 (fun r0_0 H => ∃ H', Heap.Le H' H ∧ K (.bool r0_0) H') E H := h.h
    rw [vizardlaw06_SealBytes.eq z0 z1 z2 z3 z4 z5 (Fg K) E H]
    exact h2

/-! vizard/vizardlaw06.SealShort -/
noncomputable def vizardlaw06_SealShort.body : Code := Tryd.f10.body.getD .skip
def vizardlaw06_SealShort.J1.vc (secret0 : ByteArray) (n0 : Int) (head0 : ByteArray) (s0 : ByteArray) (x0 : Bool) (Kn : Heap → Prop) (Kr : Bool → Heap → Prop) (E : Value → Heap → Prop) (h0 : Heap) : Prop :=
  (if x0 = true then
  Kr true h0
  else
  Kn h0)
structure vizardlaw06_SealShort.J1 (secret0 : ByteArray) (n0 : Int) (head0 : ByteArray) (s0 : ByteArray) (x0 : Bool) (Kn : Heap → Prop) (Kr : Bool → Heap → Prop) (E : Value → Heap → Prop) (H : Heap) : Prop where
  h : vizardlaw06_SealShort.J1.vc secret0 n0 head0 s0 x0 Kn Kr E H
def vizardlaw06_SealShort.J2.vc (secret0 : ByteArray) (n0 : Int) (head0 : ByteArray) (s0 : ByteArray) (Kr : Bool → Heap → Prop) (E : Value → Heap → Prop) (h0 : Heap) : Prop :=
  seal_New.c secret0 (fun x0 h1 =>
  seal_Key_Open.c x0 n0 head0 s0 (fun x1 x2 h2 =>
  (if (x1.toList == (⟨#[]⟩ : ByteArray).toList) = true then
  Kr (x2 == 1) h2
  else
  Kr false h2)) E h1) E h0
structure vizardlaw06_SealShort.J2 (secret0 : ByteArray) (n0 : Int) (head0 : ByteArray) (s0 : ByteArray) (Kr : Bool → Heap → Prop) (E : Value → Heap → Prop) (H : Heap) : Prop where
  h : vizardlaw06_SealShort.J2.vc secret0 n0 head0 s0 Kr E H
def vizardlaw06_SealShort.vc (secret0 : ByteArray) (n0 : Int) (head0 : ByteArray) (s0 : ByteArray) (K : Bool → Heap → Prop) (E : Value → Heap → Prop) (h0 : Heap) : Prop :=
  vizardlaw06_works.c (fun x0 h1 =>
  (if (!x0) = true then
  K false h1
  else
  (if (decide ((secret0.size : Int) > 300)) = true then
  vizardlaw06_SealShort.J1 secret0 n0 head0 s0 true (fun h2 =>
  vizardlaw06_SealShort.J2 secret0 n0 head0 s0 K E h2) K E h1
  else
  (if (decide ((head0.size : Int) > 300)) = true then
  vizardlaw06_SealShort.J1 secret0 n0 head0 s0 true (fun h5 =>
  vizardlaw06_SealShort.J2 secret0 n0 head0 s0 K E h5) K E h1
  else
  vizardlaw06_SealShort.J1 secret0 n0 head0 s0 (decide ((s0.size : Int) ≥ 16)) (fun h8 =>
  vizardlaw06_SealShort.J2 secret0 n0 head0 s0 K E h8) K E h1)))) E h0
structure vizardlaw06_SealShort.c (secret0 : ByteArray) (n0 : Int) (head0 : ByteArray) (s0 : ByteArray) (K : Bool → Heap → Prop) (E : Value → Heap → Prop) (H : Heap) : Prop where
  h : vizardlaw06_SealShort.vc secret0 n0 head0 s0 (fun r0_0 H => ∃ H', Heap.Le H' H ∧ K r0_0 H') E H
def vizardlaw06_SealShort.F : FT := fun args K E H => match args with
  | [(.string secret0), (.int .i64 n0), (.string head0), (.string s0)] => vizardlaw06_SealShort.c secret0 n0 head0 s0 (fun r0_0 H => K (.bool r0_0) H) E H
  | _ => False
noncomputable def vizardlaw06_SealShort.Γ : FuncId → Option FT := Γof [(22, vizardlaw06_works.F), (23, seal_New.F), (26, seal_Key_Open.F)]
theorem vizardlaw06_SealShort.hΓ : ∀ f F, vizardlaw06_SealShort.Γ f = some F → CalleeOk Tryd.prog f F := Γof_ok (List.forall_mem_cons.2 ⟨vizardlaw06_works.ok, List.forall_mem_cons.2 ⟨seal_New.ok, List.forall_mem_cons.2 ⟨seal_Key_Open.ok, fun _ h => nomatch h⟩⟩⟩)
def vizardlaw06_SealShort.J1.t : CT := fun Q E fr H => lenIs 41 fr (slS fr 0 fun secret0 => slI fr 1 .i64 fun n0 => slS fr 2 fun head0 => slS fr 3 fun s0 => slB fr 25 fun x0 => vizardlaw06_SealShort.J1 secret0 n0 head0 s0 x0 (fun  H => Q .normal (mkF 41 [(0, (.string secret0)), (1, (.int .i64 n0)), (2, (.string head0)), (3, (.string s0))]) H) (fun y8_0 H => Q .ret (mkF 41 [(8, (.bool y8_0))]) H) E H)
noncomputable def vizardlaw06_SealShort.J1.plan : Plan := .go
theorem vizardlaw06_SealShort.J1.pok : PlanOk Tryd.prog vizardlaw06_SealShort.J1.plan (sub [1, 1, 0, 1] vizardlaw06_SealShort.body) := by
  have e : PlanOk Tryd.prog vizardlaw06_SealShort.J1.plan (sub [1, 1, 0, 1] vizardlaw06_SealShort.body) = (True) := by kernel_rfl
  exact e.mpr trivial
theorem vizardlaw06_SealShort.J1.eq (secret0 : ByteArray) (n0 : Int) (head0 : ByteArray) (s0 : ByteArray) (x0 : Bool) (Q : Ex → Fr → Heap → Prop) (E : Value → Heap → Prop) (H : Heap) :
    vizardlaw06_SealShort.J1.vc secret0 n0 head0 s0 x0 (fun  H => Q .normal (mkF 41 [(0, (.string secret0)), (1, (.int .i64 n0)), (2, (.string head0)), (3, (.string s0))]) H) (fun y8_0 H => Q .ret (mkF 41 [(8, (.bool y8_0))]) H) E H = keepT [0, 1, 2, 3] [8] (fun i => []) (wC Tryd.prog vizardlaw06_SealShort.Γ vizardlaw06_SealShort.J1.plan (sub [1, 1, 0, 1] vizardlaw06_SealShort.body)) Q E (mkF 41 [(0, (.string secret0)), (1, (.int .i64 n0)), (2, (.string head0)), (3, (.string s0)), (25, (.bool x0))]) H := by
  kernel_rfl
theorem vizardlaw06_SealShort.J1.ok : SoundCode Tryd.prog (sub [1, 1, 0, 1] vizardlaw06_SealShort.body) vizardlaw06_SealShort.J1.t := by
  refine piece_sound (keepT_sound [0, 1, 2, 3] [8] (fun i => []) (wC_sound vizardlaw06_SealShort.hΓ Tryd.hm vizardlaw06_SealShort.J1.plan _ vizardlaw06_SealShort.J1.pok)) ?_
  intro Q E fr H h
  unfold vizardlaw06_SealShort.J1.t at h
  obtain ⟨hl, h⟩ := lenIs_elim h
  obtain ⟨secret0, q0, h⟩ := slS_elim h
  obtain ⟨n0, q1, h⟩ := slI_elim h
  obtain ⟨head0, q2, h⟩ := slS_elim h
  obtain ⟨s0, q3, h⟩ := slS_elim h
  obtain ⟨x0, q25, h⟩ := slB_elim h
  refine ⟨(mkF 41 [(0, (.string secret0)), (1, (.int .i64 n0)), (2, (.string head0)), (3, (.string s0)), (25, (.bool x0))]), fun a ha => ha.mk (Nat.le_of_eq hl.symm) (List.forall_mem_cons.2 ⟨q0, List.forall_mem_cons.2 ⟨q1, List.forall_mem_cons.2 ⟨q2, List.forall_mem_cons.2 ⟨q3, List.forall_mem_cons.2 ⟨q25, fun _ h => nomatch h⟩⟩⟩⟩⟩), ?_⟩
  have e := vizardlaw06_SealShort.J1.eq secret0 n0 head0 s0 x0 Q E H
  rw [← e]
  exact h.h
def vizardlaw06_SealShort.J2.t : CT := fun Q E fr H => lenIs 41 fr (slS fr 0 fun secret0 => slI fr 1 .i64 fun n0 => slS fr 2 fun head0 => slS fr 3 fun s0 => vizardlaw06_SealShort.J2 secret0 n0 head0 s0 (fun y8_0 H => Q .ret (mkF 41 [(8, (.bool y8_0))]) H) E H)
noncomputable def vizardlaw06_SealShort.J2.plan : Plan := .go
theorem vizardlaw06_SealShort.J2.pok : PlanOk Tryd.prog vizardlaw06_SealShort.J2.plan (sub [1, 1, 1] vizardlaw06_SealShort.body) := by
  have e : PlanOk Tryd.prog vizardlaw06_SealShort.J2.plan (sub [1, 1, 1] vizardlaw06_SealShort.body) = (True) := by kernel_rfl
  exact e.mpr trivial
theorem vizardlaw06_SealShort.J2.eq (secret0 : ByteArray) (n0 : Int) (head0 : ByteArray) (s0 : ByteArray) (Q : Ex → Fr → Heap → Prop) (E : Value → Heap → Prop) (H : Heap) :
    vizardlaw06_SealShort.J2.vc secret0 n0 head0 s0 (fun y8_0 H => Q .ret (mkF 41 [(8, (.bool y8_0))]) H) E H = keepT [] [8] (fun i => []) (wC Tryd.prog vizardlaw06_SealShort.Γ vizardlaw06_SealShort.J2.plan (sub [1, 1, 1] vizardlaw06_SealShort.body)) Q E (mkF 41 [(0, (.string secret0)), (1, (.int .i64 n0)), (2, (.string head0)), (3, (.string s0))]) H := by
  kernel_rfl
theorem vizardlaw06_SealShort.J2.ok : SoundCode Tryd.prog (sub [1, 1, 1] vizardlaw06_SealShort.body) vizardlaw06_SealShort.J2.t := by
  refine piece_sound (keepT_sound [] [8] (fun i => []) (wC_sound vizardlaw06_SealShort.hΓ Tryd.hm vizardlaw06_SealShort.J2.plan _ vizardlaw06_SealShort.J2.pok)) ?_
  intro Q E fr H h
  unfold vizardlaw06_SealShort.J2.t at h
  obtain ⟨hl, h⟩ := lenIs_elim h
  obtain ⟨secret0, q0, h⟩ := slS_elim h
  obtain ⟨n0, q1, h⟩ := slI_elim h
  obtain ⟨head0, q2, h⟩ := slS_elim h
  obtain ⟨s0, q3, h⟩ := slS_elim h
  refine ⟨(mkF 41 [(0, (.string secret0)), (1, (.int .i64 n0)), (2, (.string head0)), (3, (.string s0))]), fun a ha => ha.mk (Nat.le_of_eq hl.symm) (List.forall_mem_cons.2 ⟨q0, List.forall_mem_cons.2 ⟨q1, List.forall_mem_cons.2 ⟨q2, List.forall_mem_cons.2 ⟨q3, fun _ h => nomatch h⟩⟩⟩⟩), ?_⟩
  have e := vizardlaw06_SealShort.J2.eq secret0 n0 head0 s0 Q E H
  rw [← e]
  exact h.h
noncomputable def vizardlaw06_SealShort.plan : Plan := .seq (.go) (.seq (.go) (.seq (.seq (.go) (.use vizardlaw06_SealShort.J1.t)) (.use vizardlaw06_SealShort.J2.t)))
theorem vizardlaw06_SealShort.pok : PlanOk Tryd.prog vizardlaw06_SealShort.plan vizardlaw06_SealShort.body := by
  have e : PlanOk Tryd.prog vizardlaw06_SealShort.plan vizardlaw06_SealShort.body = ((True) ∧ ((True) ∧ (((True) ∧ (SoundCode Tryd.prog (sub [1, 1, 0, 1] vizardlaw06_SealShort.body) vizardlaw06_SealShort.J1.t)) ∧ (SoundCode Tryd.prog (sub [1, 1, 1] vizardlaw06_SealShort.body) vizardlaw06_SealShort.J2.t)))) := by kernel_rfl
  exact e.mpr ⟨trivial, ⟨trivial, ⟨⟨trivial, vizardlaw06_SealShort.J1.ok⟩, vizardlaw06_SealShort.J2.ok⟩⟩⟩
theorem vizardlaw06_SealShort.eq (secret0 : ByteArray) (n0 : Int) (head0 : ByteArray) (s0 : ByteArray) (K : Value → Heap → Prop) (E : Value → Heap → Prop) (H : Heap) :
    fnT Tryd.prog Tryd.f10 (wC Tryd.prog vizardlaw06_SealShort.Γ vizardlaw06_SealShort.plan vizardlaw06_SealShort.body) [(.string secret0), (.int .i64 n0), (.string head0), (.string s0)] K E H = vizardlaw06_SealShort.vc secret0 n0 head0 s0 (fun r0_0 H => K (.bool r0_0) H) E H := by
  kernel_rfl
theorem vizardlaw06_SealShort.Fe {args : List Value} {K E : Value → Heap → Prop} {H : Heap} (h : vizardlaw06_SealShort.F args K E H) : ∃ secret0 n0 head0 s0, args = [(.string secret0), (.int .i64 n0), (.string head0), (.string s0)] ∧ vizardlaw06_SealShort.c secret0 n0 head0 s0 (fun r0_0 H => K (.bool r0_0) H) E H := by
  unfold vizardlaw06_SealShort.F at h
  split at h
  · exact ⟨_, _, _, _, rfl, h⟩
  · exact h.elim
theorem vizardlaw06_SealShort.ok : CalleeOk Tryd.prog 10 vizardlaw06_SealShort.F :=
  callee_ok vizardlaw06_SealShort.hΓ (fn := Tryd.f10) (c := vizardlaw06_SealShort.body) (T := wC Tryd.prog vizardlaw06_SealShort.Γ vizardlaw06_SealShort.plan vizardlaw06_SealShort.body) (by kernel_rfl) (by kernel_rfl) (by kernel_rfl) (wC_sound vizardlaw06_SealShort.hΓ Tryd.hm vizardlaw06_SealShort.plan _ vizardlaw06_SealShort.pok) fun _ K E H h => by
    obtain ⟨z0, z1, z2, z3, e, h⟩ := vizardlaw06_SealShort.Fe h
    subst e
    have h2 : vizardlaw06_SealShort.vc z0 z1 z2 z3 (fun r0_0 H => ∃ H', Heap.Le H' H ∧ K (.bool r0_0) H') E H := h.h
    rw [vizardlaw06_SealShort.eq z0 z1 z2 z3 (Fg K) E H]
    exact h2

/-! vizard/vizardref06.Hide -/
noncomputable def vizardref06_Hide.body : Code := Tryd.f44.body.getD .skip
def vizardref06_Hide.J2.vc (number0 : Int) (data0 : ByteArray) (key0 : ByteArray) (b0 : Option Addr) (b1 : Nat) (b2 : Nat) (stream0 : ByteArray) (i0 : Int) (Kn : Option Addr → Nat → Nat → Heap → Prop) (E : Value → Heap → Prop) (h0 : Heap) : Prop :=
  (0 : Int) ≤ i0 ∧ i0 < (data0.size : Int) ∧
  32 ≠ (0 : Int) ∧
  (0 : Int) ≤ (Int.tmod i0 32) ∧ (Int.tmod i0 32) < (stream0.size : Int) ∧
  newB (.cells #[(.int .u8 (bits .xor .u8 (bt data0 i0) (bt stream0 (Int.tmod i0 32))))] 5) (fun b3 h1 =>
  rdRow h1 (some (⟨b3, 0, none⟩ : Addr)) (1 * 1) fun cs0 =>
  appT 5 (.int .u8 0) b0 b1 1 b2 1 1 cs0 (fun p0 n0 c0 h2 =>
  Kn p0 n0 c0 h2) h1) h0
structure vizardref06_Hide.J2 (number0 : Int) (data0 : ByteArray) (key0 : ByteArray) (b0 : Option Addr) (b1 : Nat) (b2 : Nat) (stream0 : ByteArray) (i0 : Int) (Kn : Option Addr → Nat → Nat → Heap → Prop) (E : Value → Heap → Prop) (H : Heap) : Prop where
  h : vizardref06_Hide.J2.vc number0 data0 key0 b0 b1 b2 stream0 i0 Kn E H
def vizardref06_Hide.J3.vc (number0 : Int) (data0 : ByteArray) (key0 : ByteArray) (b0 : Option Addr) (b1 : Nat) (b2 : Nat) (stream0 : ByteArray) (i0 : Int) (Kn : Int → Heap → Prop) (E : Value → Heap → Prop) (h0 : Heap) : Prop :=
  Kn (IntKind.i64.wrap (i0 + 1)) h0
structure vizardref06_Hide.J3 (number0 : Int) (data0 : ByteArray) (key0 : ByteArray) (b0 : Option Addr) (b1 : Nat) (b2 : Nat) (stream0 : ByteArray) (i0 : Int) (Kn : Int → Heap → Prop) (E : Value → Heap → Prop) (H : Heap) : Prop where
  h : vizardref06_Hide.J3.vc number0 data0 key0 b0 b1 b2 stream0 i0 Kn E H
def vizardref06_Hide.W1.vc (number0 : Int) (data0 : ByteArray) (key0 : ByteArray) (b0 : Option Addr) (b1 : Nat) (b2 : Nat) (stream0 : ByteArray) (i0 : Int) (Kx0 : Option Addr → Nat → Nat → Heap → Prop) (RR : Option Addr → Nat → Nat → ByteArray → Int → Heap → Prop) (E : Value → Heap → Prop) (h0 : Heap) : Prop :=
  (if (decide (i0 < (data0.size : Int))) = true then
  32 ≠ (0 : Int) ∧
  (if ((Int.tmod i0 32) == 0) = true then
  vizardref06_Eight.c number0 (fun x0 h1 =>
  32 ≠ (0 : Int) ∧
  vizardref01_Bytes.c (IntKind.i64.wrap (Int.tdiv i0 32)) 4 (fun x1 h2 =>
  x0.size + x1.size ≤ 9223372036854775807 ∧
  vizardref05_Hmac.c key0 (x0 ++ x1) (fun x2 h3 =>
  vizardref06_Hide.J2 number0 data0 key0 b0 b1 b2 x2 i0 (fun b3 b4 b5 h4 =>
  vizardref06_Hide.J3 number0 data0 key0 b3 b4 b5 x2 i0 (fun i1 h5 =>
  RR b3 b4 b5 x2 i1 h5) E h4) E h3) E h2) E h1) E h0
  else
  vizardref06_Hide.J2 number0 data0 key0 b0 b1 b2 stream0 i0 (fun b6 b7 b8 h6 =>
  vizardref06_Hide.J3 number0 data0 key0 b6 b7 b8 stream0 i0 (fun i2 h7 =>
  RR b6 b7 b8 stream0 i2 h7) E h6) E h0)
  else
  Kx0 b0 b1 b2 h0)
structure vizardref06_Hide.W1 (number0 : Int) (data0 : ByteArray) (key0 : ByteArray) (b0 : Option Addr) (b1 : Nat) (b2 : Nat) (stream0 : ByteArray) (i0 : Int) (Kx0 : Option Addr → Nat → Nat → Heap → Prop) (E : Value → Heap → Prop) (H : Heap) : Prop where
  h : Loop (fun (RR : Option Addr × Nat × Nat × ByteArray × Int → Heap → Prop) (s : Option Addr × Nat × Nat × ByteArray × Int) (H : Heap) => vizardref06_Hide.W1.vc number0 data0 key0 s.1 s.2.1 s.2.2.1 s.2.2.2.1 s.2.2.2.2 Kx0 (fun b0 b1 b2 stream0 i0 H => RR (b0, b1, b2, stream0, i0) H) E H) (b0, b1, b2, stream0, i0) H
def vizardref06_Hide.vc (secret0 : ByteArray) (number0 : Int) (data0 : ByteArray) (K : ByteArray → Heap → Prop) (E : Value → Heap → Prop) (h0 : Heap) : Prop :=
  vizardref05_Derive.c secret0 (⟨#[99, 105, 112, 104, 101, 114]⟩ : ByteArray) (⟨#[]⟩ : ByteArray) (fun x0 h1 =>
  vizardref06_Hide.W1 number0 data0 x0 none 0 0 (⟨#[]⟩ : ByteArray) 0 (fun b0 b1 b2 h2 =>
  rdBytes h2 b0 b1 fun x1 =>
  K x1 h2) E h1) E h0
structure vizardref06_Hide.c (secret0 : ByteArray) (number0 : Int) (data0 : ByteArray) (K : ByteArray → Heap → Prop) (E : Value → Heap → Prop) (H : Heap) : Prop where
  h : vizardref06_Hide.vc secret0 number0 data0 (fun r0_0 H => ∃ H', Heap.Le H' H ∧ K r0_0 H') E H
def vizardref06_Hide.F : FT := fun args K E H => match args with
  | [(.string secret0), (.int .i64 number0), (.string data0)] => vizardref06_Hide.c secret0 number0 data0 (fun r0_0 H => K (.string r0_0) H) E H
  | _ => False
noncomputable def vizardref06_Hide.Γ : FuncId → Option FT := Γof [(19, vizardref05_Hmac.F), (21, vizardref05_Derive.F), (32, vizardref01_Bytes.F), (43, vizardref06_Eight.F)]
theorem vizardref06_Hide.hΓ : ∀ f F, vizardref06_Hide.Γ f = some F → CalleeOk Tryd.prog f F := Γof_ok (List.forall_mem_cons.2 ⟨vizardref05_Hmac.ok, List.forall_mem_cons.2 ⟨vizardref05_Derive.ok, List.forall_mem_cons.2 ⟨vizardref01_Bytes.ok, List.forall_mem_cons.2 ⟨vizardref06_Eight.ok, fun _ h => nomatch h⟩⟩⟩⟩)
def vizardref06_Hide.J2.t : CT := fun Q E fr H => lenIs 43 fr (slI fr 1 .i64 fun number0 => slS fr 2 fun data0 => slS fr 7 fun key0 => slSl fr 8 fun b0 b1 b2 => slS fr 9 fun stream0 => slI fr 10 .i64 fun i0 => vizardref06_Hide.J2 number0 data0 key0 b0 b1 b2 stream0 i0 (fun y8_0 y8_1 y8_2 H => Q .normal (mkF 43 [(1, (.int .i64 number0)), (2, (.string data0)), (7, (.string key0)), (8, (.slice y8_0 y8_1 y8_2)), (9, (.string stream0)), (10, (.int .i64 i0))]) H) E H)
noncomputable def vizardref06_Hide.J2.plan : Plan := .draw ⟨[0, 1, 2, 3, 4, 5, 6, 7, 8, 9, 10], (dl [(0, []), (1, []), (2, []), (3, []), (4, []), (5, []), (6, []), (7, []), (8, []), (9, [8, 3, 7, 1, 2, 4, 6, 5]), (10, [0, 9, 8, 3, 7, 1, 2, 4, 6, 5])] .fin), [11]⟩
theorem vizardref06_Hide.J2.pok : PlanOk Tryd.prog vizardref06_Hide.J2.plan (sub [1, 1, 1, 1, 0, 1, 0, 0, 1, 0, 0, 1] vizardref06_Hide.body) := by
  have e : PlanOk Tryd.prog vizardref06_Hide.J2.plan (sub [1, 1, 1, 1, 0, 1, 0, 0, 1, 0, 0, 1] vizardref06_Hide.body) = (True) := by kernel_rfl
  exact e.mpr trivial
theorem vizardref06_Hide.J2.eq (number0 : Int) (data0 : ByteArray) (key0 : ByteArray) (b0 : Option Addr) (b1 : Nat) (b2 : Nat) (stream0 : ByteArray) (i0 : Int) (Q : Ex → Fr → Heap → Prop) (E : Value → Heap → Prop) (H : Heap) :
    vizardref06_Hide.J2.vc number0 data0 key0 b0 b1 b2 stream0 i0 (fun y8_0 y8_1 y8_2 H => Q .normal (mkF 43 [(1, (.int .i64 number0)), (2, (.string data0)), (7, (.string key0)), (8, (.slice y8_0 y8_1 y8_2)), (9, (.string stream0)), (10, (.int .i64 i0))]) H) E H = keepT [1, 2, 7, 8, 9, 10] [] (fun i => []) (wC Tryd.prog vizardref06_Hide.Γ vizardref06_Hide.J2.plan (sub [1, 1, 1, 1, 0, 1, 0, 0, 1, 0, 0, 1] vizardref06_Hide.body)) Q E (mkF 43 [(1, (.int .i64 number0)), (2, (.string data0)), (7, (.string key0)), (8, (.slice b0 b1 b2)), (9, (.string stream0)), (10, (.int .i64 i0))]) H := by
  kernel_rfl
theorem vizardref06_Hide.J2.ok : SoundCode Tryd.prog (sub [1, 1, 1, 1, 0, 1, 0, 0, 1, 0, 0, 1] vizardref06_Hide.body) vizardref06_Hide.J2.t := by
  refine piece_sound (keepT_sound [1, 2, 7, 8, 9, 10] [] (fun i => []) (wC_sound vizardref06_Hide.hΓ Tryd.hm vizardref06_Hide.J2.plan _ vizardref06_Hide.J2.pok)) ?_
  intro Q E fr H h
  unfold vizardref06_Hide.J2.t at h
  obtain ⟨hl, h⟩ := lenIs_elim h
  obtain ⟨number0, q1, h⟩ := slI_elim h
  obtain ⟨data0, q2, h⟩ := slS_elim h
  obtain ⟨key0, q7, h⟩ := slS_elim h
  obtain ⟨b0, b1, b2, q8, h⟩ := slSl_elim h
  obtain ⟨stream0, q9, h⟩ := slS_elim h
  obtain ⟨i0, q10, h⟩ := slI_elim h
  refine ⟨(mkF 43 [(1, (.int .i64 number0)), (2, (.string data0)), (7, (.string key0)), (8, (.slice b0 b1 b2)), (9, (.string stream0)), (10, (.int .i64 i0))]), fun a ha => ha.mk (Nat.le_of_eq hl.symm) (List.forall_mem_cons.2 ⟨q1, List.forall_mem_cons.2 ⟨q2, List.forall_mem_cons.2 ⟨q7, List.forall_mem_cons.2 ⟨q8, List.forall_mem_cons.2 ⟨q9, List.forall_mem_cons.2 ⟨q10, fun _ h => nomatch h⟩⟩⟩⟩⟩⟩), ?_⟩
  have e := vizardref06_Hide.J2.eq number0 data0 key0 b0 b1 b2 stream0 i0 Q E H
  rw [← e]
  exact h.h
def vizardref06_Hide.J3.t : CT := fun Q E fr H => lenIs 43 fr (slI fr 1 .i64 fun number0 => slS fr 2 fun data0 => slS fr 7 fun key0 => slSl fr 8 fun b0 b1 b2 => slS fr 9 fun stream0 => slI fr 10 .i64 fun i0 => vizardref06_Hide.J3 number0 data0 key0 b0 b1 b2 stream0 i0 (fun y10_0 H => Q .normal (mkF 43 [(1, (.int .i64 number0)), (2, (.string data0)), (7, (.string key0)), (8, (.slice b0 b1 b2)), (9, (.string stream0)), (10, (.int .i64 y10_0))]) H) E H)
noncomputable def vizardref06_Hide.J3.plan : Plan := .go
theorem vizardref06_Hide.J3.pok : PlanOk Tryd.prog vizardref06_Hide.J3.plan (sub [1, 1, 1, 1, 0, 1, 0, 0, 1, 1] vizardref06_Hide.body) := by
  have e : PlanOk Tryd.prog vizardref06_Hide.J3.plan (sub [1, 1, 1, 1, 0, 1, 0, 0, 1, 1] vizardref06_Hide.body) = (True) := by kernel_rfl
  exact e.mpr trivial
theorem vizardref06_Hide.J3.eq (number0 : Int) (data0 : ByteArray) (key0 : ByteArray) (b0 : Option Addr) (b1 : Nat) (b2 : Nat) (stream0 : ByteArray) (i0 : Int) (Q : Ex → Fr → Heap → Prop) (E : Value → Heap → Prop) (H : Heap) :
    vizardref06_Hide.J3.vc number0 data0 key0 b0 b1 b2 stream0 i0 (fun y10_0 H => Q .normal (mkF 43 [(1, (.int .i64 number0)), (2, (.string data0)), (7, (.string key0)), (8, (.slice b0 b1 b2)), (9, (.string stream0)), (10, (.int .i64 y10_0))]) H) E H = keepT [1, 2, 7, 8, 9, 10] [] (fun i => []) (wC Tryd.prog vizardref06_Hide.Γ vizardref06_Hide.J3.plan (sub [1, 1, 1, 1, 0, 1, 0, 0, 1, 1] vizardref06_Hide.body)) Q E (mkF 43 [(1, (.int .i64 number0)), (2, (.string data0)), (7, (.string key0)), (8, (.slice b0 b1 b2)), (9, (.string stream0)), (10, (.int .i64 i0))]) H := by
  kernel_rfl
theorem vizardref06_Hide.J3.ok : SoundCode Tryd.prog (sub [1, 1, 1, 1, 0, 1, 0, 0, 1, 1] vizardref06_Hide.body) vizardref06_Hide.J3.t := by
  refine piece_sound (keepT_sound [1, 2, 7, 8, 9, 10] [] (fun i => []) (wC_sound vizardref06_Hide.hΓ Tryd.hm vizardref06_Hide.J3.plan _ vizardref06_Hide.J3.pok)) ?_
  intro Q E fr H h
  unfold vizardref06_Hide.J3.t at h
  obtain ⟨hl, h⟩ := lenIs_elim h
  obtain ⟨number0, q1, h⟩ := slI_elim h
  obtain ⟨data0, q2, h⟩ := slS_elim h
  obtain ⟨key0, q7, h⟩ := slS_elim h
  obtain ⟨b0, b1, b2, q8, h⟩ := slSl_elim h
  obtain ⟨stream0, q9, h⟩ := slS_elim h
  obtain ⟨i0, q10, h⟩ := slI_elim h
  refine ⟨(mkF 43 [(1, (.int .i64 number0)), (2, (.string data0)), (7, (.string key0)), (8, (.slice b0 b1 b2)), (9, (.string stream0)), (10, (.int .i64 i0))]), fun a ha => ha.mk (Nat.le_of_eq hl.symm) (List.forall_mem_cons.2 ⟨q1, List.forall_mem_cons.2 ⟨q2, List.forall_mem_cons.2 ⟨q7, List.forall_mem_cons.2 ⟨q8, List.forall_mem_cons.2 ⟨q9, List.forall_mem_cons.2 ⟨q10, fun _ h => nomatch h⟩⟩⟩⟩⟩⟩), ?_⟩
  have e := vizardref06_Hide.J3.eq number0 data0 key0 b0 b1 b2 stream0 i0 Q E H
  rw [← e]
  exact h.h
def vizardref06_Hide.W1.t : CT := fun Q E fr H => lenIs 43 fr (slI fr 1 .i64 fun number0 => slS fr 2 fun data0 => slS fr 7 fun key0 => slSl fr 8 fun b0 b1 b2 => slS fr 9 fun stream0 => slI fr 10 .i64 fun i0 => vizardref06_Hide.W1 number0 data0 key0 b0 b1 b2 stream0 i0 (fun y8_0 y8_1 y8_2 H => Q (.exit 0) (mkF 43 [(8, (.slice y8_0 y8_1 y8_2))]) H) E H)
noncomputable def vizardref06_Hide.W1.plan : Plan := .seq (.go) (.seq (.block (.seq (.go) (.use vizardref06_Hide.J2.t))) (.use vizardref06_Hide.J3.t))
theorem vizardref06_Hide.W1.pok : PlanOk Tryd.prog vizardref06_Hide.W1.plan (sub [1, 1, 1, 1, 0, 1, 0, 0] vizardref06_Hide.body) := by
  have e : PlanOk Tryd.prog vizardref06_Hide.W1.plan (sub [1, 1, 1, 1, 0, 1, 0, 0] vizardref06_Hide.body) = ((True) ∧ (((True) ∧ (SoundCode Tryd.prog (sub [1, 1, 1, 1, 0, 1, 0, 0, 1, 0, 0, 1] vizardref06_Hide.body) vizardref06_Hide.J2.t)) ∧ (SoundCode Tryd.prog (sub [1, 1, 1, 1, 0, 1, 0, 0, 1, 1] vizardref06_Hide.body) vizardref06_Hide.J3.t))) := by kernel_rfl
  exact e.mpr ⟨trivial, ⟨⟨trivial, vizardref06_Hide.J2.ok⟩, vizardref06_Hide.J3.ok⟩⟩
theorem vizardref06_Hide.W1.eq (number0 : Int) (data0 : ByteArray) (key0 : ByteArray) (Q : Ex → Fr → Heap → Prop) (E : Value → Heap → Prop) (RR : Fr → Heap → Prop) (s : Option Addr × Nat × Nat × ByteArray × Int) (H : Heap) :
    (fun (RR : Option Addr × Nat × Nat × ByteArray × Int → Heap → Prop) (s : Option Addr × Nat × Nat × ByteArray × Int) (H : Heap) => vizardref06_Hide.W1.vc number0 data0 key0 s.1 s.2.1 s.2.2.1 s.2.2.2.1 s.2.2.2.2 (fun y8_0 y8_1 y8_2 H => Q (.exit 0) (mkF 43 [(8, (.slice y8_0 y8_1 y8_2))]) H) (fun b0 b1 b2 stream0 i0 H => RR (b0, b1, b2, stream0, i0) H) E H) (fun s' H' => RR ((fun (s : Option Addr × Nat × Nat × ByteArray × Int) => (mkF 43 [(1, (.int .i64 number0)), (2, (.string data0)), (7, (.string key0)), (8, (.slice s.1 s.2.1 s.2.2.1)), (9, (.string s.2.2.2.1)), (10, (.int .i64 s.2.2.2.2))])) s') H') s H = keepT [1, 2, 7, 8, 9, 10] [] (fun i => if i = 0 then [8] else []) (wC Tryd.prog vizardref06_Hide.Γ vizardref06_Hide.W1.plan (sub [1, 1, 1, 1, 0, 1, 0, 0] vizardref06_Hide.body)) (fun e fr' H' => match e with | .normal => RR fr' H' | .exit id => Q (.exit id) fr' H' | .ret => Q .ret fr' H') E ((fun (s : Option Addr × Nat × Nat × ByteArray × Int) => (mkF 43 [(1, (.int .i64 number0)), (2, (.string data0)), (7, (.string key0)), (8, (.slice s.1 s.2.1 s.2.2.1)), (9, (.string s.2.2.2.1)), (10, (.int .i64 s.2.2.2.2))])) s) H := by
  kernel_rfl
theorem vizardref06_Hide.W1.ok : SoundCode Tryd.prog (sub [1, 1, 1, 1, 0, 1, 0] vizardref06_Hide.body) vizardref06_Hide.W1.t := by
  have e : (sub [1, 1, 1, 1, 0, 1, 0] vizardref06_Hide.body) = .loop (sub [1, 1, 1, 1, 0, 1, 0, 0] vizardref06_Hide.body) := by kernel_rfl
  rw [e]
  refine piece_sound (loopN_sound (keepT_sound [1, 2, 7, 8, 9, 10] [] (fun i => if i = 0 then [8] else []) (wC_sound vizardref06_Hide.hΓ Tryd.hm vizardref06_Hide.W1.plan _ vizardref06_Hide.W1.pok))) ?_
  intro Q E fr H h
  unfold vizardref06_Hide.W1.t at h
  obtain ⟨hl, h⟩ := lenIs_elim h
  obtain ⟨number0, q1, h⟩ := slI_elim h
  obtain ⟨data0, q2, h⟩ := slS_elim h
  obtain ⟨key0, q7, h⟩ := slS_elim h
  obtain ⟨b0, b1, b2, q8, h⟩ := slSl_elim h
  obtain ⟨stream0, q9, h⟩ := slS_elim h
  obtain ⟨i0, q10, h⟩ := slI_elim h
  obtain ⟨m, h⟩ := h.h
  refine ⟨(mkF 43 [(1, (.int .i64 number0)), (2, (.string data0)), (7, (.string key0)), (8, (.slice b0 b1 b2)), (9, (.string stream0)), (10, (.int .i64 i0))]), fun a ha => ha.mk (Nat.le_of_eq hl.symm) (List.forall_mem_cons.2 ⟨q1, List.forall_mem_cons.2 ⟨q2, List.forall_mem_cons.2 ⟨q7, List.forall_mem_cons.2 ⟨q8, List.forall_mem_cons.2 ⟨q9, List.forall_mem_cons.2 ⟨q10, fun _ h => nomatch h⟩⟩⟩⟩⟩⟩), m, ?_⟩
  have e := loopS_eq (B := (fun (RR : Option Addr × Nat × Nat × ByteArray × Int → Heap → Prop) (s : Option Addr × Nat × Nat × ByteArray × Int) (H : Heap) => vizardref06_Hide.W1.vc number0 data0 key0 s.1 s.2.1 s.2.2.1 s.2.2.2.1 s.2.2.2.2 (fun y8_0 y8_1 y8_2 H => Q (.exit 0) (mkF 43 [(8, (.slice y8_0 y8_1 y8_2))]) H) (fun b0 b1 b2 stream0 i0 H => RR (b0, b1, b2, stream0, i0) H) E H)) (A := keepT [1, 2, 7, 8, 9, 10] [] (fun i => if i = 0 then [8] else []) (wC Tryd.prog vizardref06_Hide.Γ vizardref06_Hide.W1.plan (sub [1, 1, 1, 1, 0, 1, 0, 0] vizardref06_Hide.body))) (m := (fun (s : Option Addr × Nat × Nat × ByteArray × Int) => (mkF 43 [(1, (.int .i64 number0)), (2, (.string data0)), (7, (.string key0)), (8, (.slice s.1 s.2.1 s.2.2.1)), (9, (.string s.2.2.2.1)), (10, (.int .i64 s.2.2.2.2))]))) (Q := Q) (E := E) (fun RR s H => vizardref06_Hide.W1.eq number0 data0 key0 Q E RR s H) m (b0, b1, b2, stream0, i0) H
  exact cast e h
noncomputable def vizardref06_Hide.plan : Plan := .seq (.go) (.seq (.go) (.seq (.go) (.seq (.go) (.seq (.seq (.go) (.block (.use vizardref06_Hide.W1.t))) (.go)))))
theorem vizardref06_Hide.pok : PlanOk Tryd.prog vizardref06_Hide.plan vizardref06_Hide.body := by
  have e : PlanOk Tryd.prog vizardref06_Hide.plan vizardref06_Hide.body = ((True) ∧ ((True) ∧ ((True) ∧ ((True) ∧ (((True) ∧ (SoundCode Tryd.prog (sub [1, 1, 1, 1, 0, 1, 0] vizardref06_Hide.body) vizardref06_Hide.W1.t)) ∧ (True)))))) := by kernel_rfl
  exact e.mpr ⟨trivial, ⟨trivial, ⟨trivial, ⟨trivial, ⟨⟨trivial, vizardref06_Hide.W1.ok⟩, trivial⟩⟩⟩⟩⟩
theorem vizardref06_Hide.eq (secret0 : ByteArray) (number0 : Int) (data0 : ByteArray) (K : Value → Heap → Prop) (E : Value → Heap → Prop) (H : Heap) :
    fnT Tryd.prog Tryd.f44 (wC Tryd.prog vizardref06_Hide.Γ vizardref06_Hide.plan vizardref06_Hide.body) [(.string secret0), (.int .i64 number0), (.string data0)] K E H = vizardref06_Hide.vc secret0 number0 data0 (fun r0_0 H => K (.string r0_0) H) E H := by
  kernel_rfl
theorem vizardref06_Hide.Fe {args : List Value} {K E : Value → Heap → Prop} {H : Heap} (h : vizardref06_Hide.F args K E H) : ∃ secret0 number0 data0, args = [(.string secret0), (.int .i64 number0), (.string data0)] ∧ vizardref06_Hide.c secret0 number0 data0 (fun r0_0 H => K (.string r0_0) H) E H := by
  unfold vizardref06_Hide.F at h
  split at h
  · exact ⟨_, _, _, rfl, h⟩
  · exact h.elim
theorem vizardref06_Hide.ok : CalleeOk Tryd.prog 44 vizardref06_Hide.F :=
  callee_ok vizardref06_Hide.hΓ (fn := Tryd.f44) (c := vizardref06_Hide.body) (T := wC Tryd.prog vizardref06_Hide.Γ vizardref06_Hide.plan vizardref06_Hide.body) (by kernel_rfl) (by kernel_rfl) (by kernel_rfl) (wC_sound vizardref06_Hide.hΓ Tryd.hm vizardref06_Hide.plan _ vizardref06_Hide.pok) fun _ K E H h => by
    obtain ⟨z0, z1, z2, e, h⟩ := vizardref06_Hide.Fe h
    subst e
    have h2 : vizardref06_Hide.vc z0 z1 z2 (fun r0_0 H => ∃ H', Heap.Le H' H ∧ K (.string r0_0) H') E H := h.h
    rw [vizardref06_Hide.eq z0 z1 z2 (Fg K) E H]
    exact h2

/-! vizard/vizardref06.Open -/
noncomputable def vizardref06_Open.body : Code := Tryd.f27.body.getD .skip
def vizardref06_Open.vc (secret0 : ByteArray) (number0 : Int) (head0 : ByteArray) (sealed0 : ByteArray) (K : ByteArray → Int → Heap → Prop) (E : Value → Heap → Prop) (h0 : Heap) : Prop :=
  (if (decide ((IntKind.i64.wrap ((sealed0.size : Int) - 16)) < 0)) = true then
  K (⟨#[]⟩ : ByteArray) 1 h0
  else
  (0 : Int) ≤ (IntKind.i64.wrap ((sealed0.size : Int) - 16)) ∧ (IntKind.i64.wrap ((sealed0.size : Int) - 16)) ≤ (sealed0.size : Int) ∧
  (0 : Int) ≤ (IntKind.i64.wrap ((sealed0.size : Int) - 16)) ∧ (IntKind.i64.wrap ((sealed0.size : Int) - 16)) ≤ (sealed0.size : Int) ∧ sealed0.size ≤ sealed0.size ∧
  vizardref06_Tag.c secret0 number0 head0 (sealed0.extract 0 (IntKind.i64.wrap ((sealed0.size : Int) - 16)).toNat) (fun x0 h1 =>
  (if (!(x0.toList == (sealed0.extract (IntKind.i64.wrap ((sealed0.size : Int) - 16)).toNat sealed0.size).toList)) = true then
  K (⟨#[]⟩ : ByteArray) 10 h1
  else
  (0 : Int) ≤ (IntKind.i64.wrap ((sealed0.size : Int) - 16)) ∧ (IntKind.i64.wrap ((sealed0.size : Int) - 16)) ≤ (sealed0.size : Int) ∧
  vizardref06_Hide.c secret0 number0 (sealed0.extract 0 (IntKind.i64.wrap ((sealed0.size : Int) - 16)).toNat) (fun x1 h2 =>
  K x1 0 h2) E h1)) E h0)
structure vizardref06_Open.c (secret0 : ByteArray) (number0 : Int) (head0 : ByteArray) (sealed0 : ByteArray) (K : ByteArray → Int → Heap → Prop) (E : Value → Heap → Prop) (H : Heap) : Prop where
  h : vizardref06_Open.vc secret0 number0 head0 sealed0 (fun r0_0 r1_0 H => ∃ H', Heap.Le H' H ∧ K r0_0 r1_0 H') E H
def vizardref06_Open.F : FT := fun args K E H => match args with
  | [(.string secret0), (.int .i64 number0), (.string head0), (.string sealed0)] => vizardref06_Open.c secret0 number0 head0 sealed0 (fun r0_0 r1_0 H => K (.tuple #[(.string r0_0), (.int .i64 r1_0)]) H) E H
  | _ => False
noncomputable def vizardref06_Open.Γ : FuncId → Option FT := Γof [(25, vizardref06_Tag.F), (44, vizardref06_Hide.F)]
theorem vizardref06_Open.hΓ : ∀ f F, vizardref06_Open.Γ f = some F → CalleeOk Tryd.prog f F := Γof_ok (List.forall_mem_cons.2 ⟨vizardref06_Tag.ok, List.forall_mem_cons.2 ⟨vizardref06_Hide.ok, fun _ h => nomatch h⟩⟩)
noncomputable def vizardref06_Open.plan : Plan := .seq (.go) (.seq (.go) (.seq (.go) (.seq (.seq (.draw ⟨[0, 1, 2, 3, 4, 5, 6, 7, 8, 9, 10], (dl [(0, []), (1, []), (2, []), (3, []), (4, []), (5, []), (7, []), (8, []), (9, []), (6, [0, 1, 2, 5, 3, 4]), (10, [])] .fin), []⟩) (.go)) (.go))))
theorem vizardref06_Open.pok : PlanOk Tryd.prog vizardref06_Open.plan vizardref06_Open.body := by
  have e : PlanOk Tryd.prog vizardref06_Open.plan vizardref06_Open.body = ((True) ∧ ((True) ∧ ((True) ∧ (((True) ∧ (True)) ∧ (True))))) := by kernel_rfl
  exact e.mpr ⟨trivial, ⟨trivial, ⟨trivial, ⟨⟨trivial, trivial⟩, trivial⟩⟩⟩⟩
theorem vizardref06_Open.eq (secret0 : ByteArray) (number0 : Int) (head0 : ByteArray) (sealed0 : ByteArray) (K : Value → Heap → Prop) (E : Value → Heap → Prop) (H : Heap) :
    fnT Tryd.prog Tryd.f27 (wC Tryd.prog vizardref06_Open.Γ vizardref06_Open.plan vizardref06_Open.body) [(.string secret0), (.int .i64 number0), (.string head0), (.string sealed0)] K E H = vizardref06_Open.vc secret0 number0 head0 sealed0 (fun r0_0 r1_0 H => K (.tuple #[(.string r0_0), (.int .i64 r1_0)]) H) E H := by
  kernel_rfl
theorem vizardref06_Open.Fe {args : List Value} {K E : Value → Heap → Prop} {H : Heap} (h : vizardref06_Open.F args K E H) : ∃ secret0 number0 head0 sealed0, args = [(.string secret0), (.int .i64 number0), (.string head0), (.string sealed0)] ∧ vizardref06_Open.c secret0 number0 head0 sealed0 (fun r0_0 r1_0 H => K (.tuple #[(.string r0_0), (.int .i64 r1_0)]) H) E H := by
  unfold vizardref06_Open.F at h
  split at h
  · exact ⟨_, _, _, _, rfl, h⟩
  · exact h.elim
theorem vizardref06_Open.ok : CalleeOk Tryd.prog 27 vizardref06_Open.F :=
  callee_ok vizardref06_Open.hΓ (fn := Tryd.f27) (c := vizardref06_Open.body) (T := wC Tryd.prog vizardref06_Open.Γ vizardref06_Open.plan vizardref06_Open.body) (by kernel_rfl) (by kernel_rfl) (by kernel_rfl) (wC_sound vizardref06_Open.hΓ Tryd.hm vizardref06_Open.plan _ vizardref06_Open.pok) fun _ K E H h => by
    obtain ⟨z0, z1, z2, z3, e, h⟩ := vizardref06_Open.Fe h
    subst e
    have h2 : vizardref06_Open.vc z0 z1 z2 z3 (fun r0_0 r1_0 H => ∃ H', Heap.Le H' H ∧ K (.tuple #[(.string r0_0), (.int .i64 r1_0)]) H') E H := h.h
    rw [vizardref06_Open.eq z0 z1 z2 z3 (Fg K) E H]
    exact h2

/-! vizard/vizardref06.Seal -/
noncomputable def vizardref06_Seal.body : Code := Tryd.f28.body.getD .skip
def vizardref06_Seal.vc (secret0 : ByteArray) (number0 : Int) (head0 : ByteArray) (data0 : ByteArray) (K : ByteArray → Heap → Prop) (E : Value → Heap → Prop) (h0 : Heap) : Prop :=
  vizardref06_Hide.c secret0 number0 data0 (fun x0 h1 =>
  vizardref06_Tag.c secret0 number0 head0 x0 (fun x1 h2 =>
  x0.size + x1.size ≤ 9223372036854775807 ∧
  K (x0 ++ x1) h2) E h1) E h0
structure vizardref06_Seal.c (secret0 : ByteArray) (number0 : Int) (head0 : ByteArray) (data0 : ByteArray) (K : ByteArray → Heap → Prop) (E : Value → Heap → Prop) (H : Heap) : Prop where
  h : vizardref06_Seal.vc secret0 number0 head0 data0 (fun r0_0 H => ∃ H', Heap.Le H' H ∧ K r0_0 H') E H
def vizardref06_Seal.F : FT := fun args K E H => match args with
  | [(.string secret0), (.int .i64 number0), (.string head0), (.string data0)] => vizardref06_Seal.c secret0 number0 head0 data0 (fun r0_0 H => K (.string r0_0) H) E H
  | _ => False
noncomputable def vizardref06_Seal.Γ : FuncId → Option FT := Γof [(25, vizardref06_Tag.F), (44, vizardref06_Hide.F)]
theorem vizardref06_Seal.hΓ : ∀ f F, vizardref06_Seal.Γ f = some F → CalleeOk Tryd.prog f F := Γof_ok (List.forall_mem_cons.2 ⟨vizardref06_Tag.ok, List.forall_mem_cons.2 ⟨vizardref06_Hide.ok, fun _ h => nomatch h⟩⟩)
noncomputable def vizardref06_Seal.plan : Plan := .go
theorem vizardref06_Seal.pok : PlanOk Tryd.prog vizardref06_Seal.plan vizardref06_Seal.body := by
  have e : PlanOk Tryd.prog vizardref06_Seal.plan vizardref06_Seal.body = (True) := by kernel_rfl
  exact e.mpr trivial
theorem vizardref06_Seal.eq (secret0 : ByteArray) (number0 : Int) (head0 : ByteArray) (data0 : ByteArray) (K : Value → Heap → Prop) (E : Value → Heap → Prop) (H : Heap) :
    fnT Tryd.prog Tryd.f28 (wC Tryd.prog vizardref06_Seal.Γ vizardref06_Seal.plan vizardref06_Seal.body) [(.string secret0), (.int .i64 number0), (.string head0), (.string data0)] K E H = vizardref06_Seal.vc secret0 number0 head0 data0 (fun r0_0 H => K (.string r0_0) H) E H := by
  kernel_rfl
theorem vizardref06_Seal.Fe {args : List Value} {K E : Value → Heap → Prop} {H : Heap} (h : vizardref06_Seal.F args K E H) : ∃ secret0 number0 head0 data0, args = [(.string secret0), (.int .i64 number0), (.string head0), (.string data0)] ∧ vizardref06_Seal.c secret0 number0 head0 data0 (fun r0_0 H => K (.string r0_0) H) E H := by
  unfold vizardref06_Seal.F at h
  split at h
  · exact ⟨_, _, _, _, rfl, h⟩
  · exact h.elim
theorem vizardref06_Seal.ok : CalleeOk Tryd.prog 28 vizardref06_Seal.F :=
  callee_ok vizardref06_Seal.hΓ (fn := Tryd.f28) (c := vizardref06_Seal.body) (T := wC Tryd.prog vizardref06_Seal.Γ vizardref06_Seal.plan vizardref06_Seal.body) (by kernel_rfl) (by kernel_rfl) (by kernel_rfl) (wC_sound vizardref06_Seal.hΓ Tryd.hm vizardref06_Seal.plan _ vizardref06_Seal.pok) fun _ K E H h => by
    obtain ⟨z0, z1, z2, z3, e, h⟩ := vizardref06_Seal.Fe h
    subst e
    have h2 : vizardref06_Seal.vc z0 z1 z2 z3 (fun r0_0 H => ∃ H', Heap.Le H' H ∧ K (.string r0_0) H') E H := h.h
    rw [vizardref06_Seal.eq z0 z1 z2 z3 (Fg K) E H]
    exact h2

/-! (*sync/atomic.Int64).Load -/
noncomputable def sync_atomic_Int64_Load.body : Code := Tryd.f45.body.getD .skip
def sync_atomic_Int64_Load.vc (x0 : Option Addr) (K : Int → Heap → Prop) (E : Value → Heap → Prop) (h0 : Heap) : Prop :=
  nilc x0 fun a0 =>
  sync_atomic_LoadInt64.c (some (a0.add 0)) K E h0
structure sync_atomic_Int64_Load.c (x0 : Option Addr) (K : Int → Heap → Prop) (E : Value → Heap → Prop) (H : Heap) : Prop where
  h : sync_atomic_Int64_Load.vc x0 (fun r0_0 H => ∃ H', Heap.Le H' H ∧ K r0_0 H') E H
def sync_atomic_Int64_Load.F : FT := fun args K E H => match args with
  | [(.pointer x0)] => sync_atomic_Int64_Load.c x0 (fun r0_0 H => K (.int .i64 r0_0) H) E H
  | _ => False
noncomputable def sync_atomic_Int64_Load.Γ : FuncId → Option FT := Γof [(56, sync_atomic_LoadInt64.F)]
theorem sync_atomic_Int64_Load.hΓ : ∀ f F, sync_atomic_Int64_Load.Γ f = some F → CalleeOk Tryd.prog f F := Γof_ok (List.forall_mem_cons.2 ⟨sync_atomic_LoadInt64.ok, fun _ h => nomatch h⟩)
noncomputable def sync_atomic_Int64_Load.plan : Plan := .go
theorem sync_atomic_Int64_Load.pok : PlanOk Tryd.prog sync_atomic_Int64_Load.plan sync_atomic_Int64_Load.body := by
  have e : PlanOk Tryd.prog sync_atomic_Int64_Load.plan sync_atomic_Int64_Load.body = (True) := by kernel_rfl
  exact e.mpr trivial
theorem sync_atomic_Int64_Load.eq (x0 : Option Addr) (K : Value → Heap → Prop) (E : Value → Heap → Prop) (H : Heap) :
    fnT Tryd.prog Tryd.f45 (wC Tryd.prog sync_atomic_Int64_Load.Γ sync_atomic_Int64_Load.plan sync_atomic_Int64_Load.body) [(.pointer x0)] K E H = sync_atomic_Int64_Load.vc x0 (fun r0_0 H => K (.int .i64 r0_0) H) E H := by
  kernel_rfl
theorem sync_atomic_Int64_Load.Fe {args : List Value} {K E : Value → Heap → Prop} {H : Heap} (h : sync_atomic_Int64_Load.F args K E H) : ∃ x0, args = [(.pointer x0)] ∧ sync_atomic_Int64_Load.c x0 (fun r0_0 H => K (.int .i64 r0_0) H) E H := by
  unfold sync_atomic_Int64_Load.F at h
  split at h
  · exact ⟨_, rfl, h⟩
  · exact h.elim
theorem sync_atomic_Int64_Load.ok : CalleeOk Tryd.prog 45 sync_atomic_Int64_Load.F :=
  callee_ok sync_atomic_Int64_Load.hΓ (fn := Tryd.f45) (c := sync_atomic_Int64_Load.body) (T := wC Tryd.prog sync_atomic_Int64_Load.Γ sync_atomic_Int64_Load.plan sync_atomic_Int64_Load.body) (by kernel_rfl) (by kernel_rfl) (by kernel_rfl) (wC_sound sync_atomic_Int64_Load.hΓ Tryd.hm sync_atomic_Int64_Load.plan _ sync_atomic_Int64_Load.pok) fun _ K E H h => by
    obtain ⟨z0, e, h⟩ := sync_atomic_Int64_Load.Fe h
    subst e
    have h2 : sync_atomic_Int64_Load.vc z0 (fun r0_0 H => ∃ H', Heap.Le H' H ∧ K (.int .i64 r0_0) H') E H := h.h
    rw [sync_atomic_Int64_Load.eq z0 (Fg K) E H]
    exact h2

/-! (*vizard/seal.Key).Used -/
noncomputable def seal_Key_Used.body : Code := Tryd.f29.body.getD .skip
def seal_Key_Used.vc (k0 : Option Addr) (K : Int → Int → Heap → Prop) (E : Value → Heap → Prop) (h0 : Heap) : Prop :=
  nilc k0 fun a0 =>
  nilc k0 fun a1 =>
  sync_atomic_Int64_Load.c (some (a0.add 44)) (fun x0 h1 =>
  sync_atomic_Int64_Load.c (some (a1.add 45)) (fun x1 h2 =>
  K x0 x1 h2) E h1) E h0
structure seal_Key_Used.c (k0 : Option Addr) (K : Int → Int → Heap → Prop) (E : Value → Heap → Prop) (H : Heap) : Prop where
  h : seal_Key_Used.vc k0 (fun r0_0 r1_0 H => ∃ H', Heap.Le H' H ∧ K r0_0 r1_0 H') E H
def seal_Key_Used.F : FT := fun args K E H => match args with
  | [(.pointer k0)] => seal_Key_Used.c k0 (fun r0_0 r1_0 H => K (.tuple #[(.int .i64 r0_0), (.int .i64 r1_0)]) H) E H
  | _ => False
noncomputable def seal_Key_Used.Γ : FuncId → Option FT := Γof [(45, sync_atomic_Int64_Load.F)]
theorem seal_Key_Used.hΓ : ∀ f F, seal_Key_Used.Γ f = some F → CalleeOk Tryd.prog f F := Γof_ok (List.forall_mem_cons.2 ⟨sync_atomic_Int64_Load.ok, fun _ h => nomatch h⟩)
noncomputable def seal_Key_Used.plan : Plan := .seq (.go) (.seq (.draw ⟨[0, 1, 2, 3, 4, 5, 6, 7, 8], (dl [(0, []), (1, []), (2, []), (4, []), (5, []), (6, []), (3, [2, 1, 0]), (7, [6, 3, 5, 2, 4, 1, 0]), (8, [])] .fin), [9]⟩) (.go))
theorem seal_Key_Used.pok : PlanOk Tryd.prog seal_Key_Used.plan seal_Key_Used.body := by
  have e : PlanOk Tryd.prog seal_Key_Used.plan seal_Key_Used.body = ((True) ∧ ((True) ∧ (True))) := by kernel_rfl
  exact e.mpr ⟨trivial, ⟨trivial, trivial⟩⟩
theorem seal_Key_Used.eq (k0 : Option Addr) (K : Value → Heap → Prop) (E : Value → Heap → Prop) (H : Heap) :
    fnT Tryd.prog Tryd.f29 (wC Tryd.prog seal_Key_Used.Γ seal_Key_Used.plan seal_Key_Used.body) [(.pointer k0)] K E H = seal_Key_Used.vc k0 (fun r0_0 r1_0 H => K (.tuple #[(.int .i64 r0_0), (.int .i64 r1_0)]) H) E H := by
  kernel_rfl
theorem seal_Key_Used.Fe {args : List Value} {K E : Value → Heap → Prop} {H : Heap} (h : seal_Key_Used.F args K E H) : ∃ k0, args = [(.pointer k0)] ∧ seal_Key_Used.c k0 (fun r0_0 r1_0 H => K (.tuple #[(.int .i64 r0_0), (.int .i64 r1_0)]) H) E H := by
  unfold seal_Key_Used.F at h
  split at h
  · exact ⟨_, rfl, h⟩
  · exact h.elim
theorem seal_Key_Used.ok : CalleeOk Tryd.prog 29 seal_Key_Used.F :=
  callee_ok seal_Key_Used.hΓ (fn := Tryd.f29) (c := seal_Key_Used.body) (T := wC Tryd.prog seal_Key_Used.Γ seal_Key_Used.plan seal_Key_Used.body) (by kernel_rfl) (by kernel_rfl) (by kernel_rfl) (wC_sound seal_Key_Used.hΓ Tryd.hm seal_Key_Used.plan _ seal_Key_Used.pok) fun _ K E H h => by
    obtain ⟨z0, e, h⟩ := seal_Key_Used.Fe h
    subst e
    have h2 : seal_Key_Used.vc z0 (fun r0_0 r1_0 H => ∃ H', Heap.Le H' H ∧ K (.tuple #[(.int .i64 r0_0), (.int .i64 r1_0)]) H') E H := h.h
    rw [seal_Key_Used.eq z0 (Fg K) E H]
    exact h2

/-! vizard/vizardlaw06.SealDoes -/
noncomputable def vizardlaw06_SealDoes.body : Code := Tryd.f11.body.getD .skip
def vizardlaw06_SealDoes.J1.vc (secret0 : ByteArray) (n0 : Int) (head0 : ByteArray) (data0 : ByteArray) (x0 : Bool) (Kn : Heap → Prop) (Kr : Bool → Heap → Prop) (E : Value → Heap → Prop) (h0 : Heap) : Prop :=
  (if x0 = true then
  Kr true h0
  else
  Kn h0)
structure vizardlaw06_SealDoes.J1 (secret0 : ByteArray) (n0 : Int) (head0 : ByteArray) (data0 : ByteArray) (x0 : Bool) (Kn : Heap → Prop) (Kr : Bool → Heap → Prop) (E : Value → Heap → Prop) (H : Heap) : Prop where
  h : vizardlaw06_SealDoes.J1.vc secret0 n0 head0 data0 x0 Kn Kr E H
def vizardlaw06_SealDoes.J3.vc (n0 : Int) (head0 : ByteArray) (data0 : ByteArray) (k0 : Option Addr) (s0 : ByteArray) (f0 : Int) (x0 : Bool) (Kn : Heap → Prop) (Kr : Bool → Heap → Prop) (E : Value → Heap → Prop) (h0 : Heap) : Prop :=
  (if x0 = true then
  Kr false h0
  else
  Kn h0)
structure vizardlaw06_SealDoes.J3 (n0 : Int) (head0 : ByteArray) (data0 : ByteArray) (k0 : Option Addr) (s0 : ByteArray) (f0 : Int) (x0 : Bool) (Kn : Heap → Prop) (Kr : Bool → Heap → Prop) (E : Value → Heap → Prop) (H : Heap) : Prop where
  h : vizardlaw06_SealDoes.J3.vc n0 head0 data0 k0 s0 f0 x0 Kn Kr E H
def vizardlaw06_SealDoes.J5.vc (data0 : ByteArray) (z0 : ByteArray) (g0 : Int) (a0 : Int) (b0 : Int) (want0 : Int) (Kr : Bool → Heap → Prop) (E : Value → Heap → Prop) (h0 : Heap) : Prop :=
  (if (g0 == 0) = true then
  (if (z0.toList == data0.toList) = true then
  (if (a0 == 1) = true then
  Kr (b0 == want0) h0
  else
  Kr false h0)
  else
  Kr false h0)
  else
  Kr false h0)
structure vizardlaw06_SealDoes.J5 (data0 : ByteArray) (z0 : ByteArray) (g0 : Int) (a0 : Int) (b0 : Int) (want0 : Int) (Kr : Bool → Heap → Prop) (E : Value → Heap → Prop) (H : Heap) : Prop where
  h : vizardlaw06_SealDoes.J5.vc data0 z0 g0 a0 b0 want0 Kr E H
def vizardlaw06_SealDoes.J4.vc (n0 : Int) (head0 : ByteArray) (data0 : ByteArray) (k0 : Option Addr) (s0 : ByteArray) (f0 : Int) (Kr : Bool → Heap → Prop) (E : Value → Heap → Prop) (h0 : Heap) : Prop :=
  seal_Key_Open.c k0 n0 head0 s0 (fun x0 x1 h1 =>
  seal_Key_Used.c k0 (fun x2 x3 h2 =>
  (if (f0 == 0) = true then
  vizardlaw06_SealDoes.J5 data0 x0 x1 x2 x3 2 Kr E h2
  else
  vizardlaw06_SealDoes.J5 data0 x0 x1 x2 x3 1 Kr E h2)) E h1) E h0
structure vizardlaw06_SealDoes.J4 (n0 : Int) (head0 : ByteArray) (data0 : ByteArray) (k0 : Option Addr) (s0 : ByteArray) (f0 : Int) (Kr : Bool → Heap → Prop) (E : Value → Heap → Prop) (H : Heap) : Prop where
  h : vizardlaw06_SealDoes.J4.vc n0 head0 data0 k0 s0 f0 Kr E H
def vizardlaw06_SealDoes.J2.vc (secret0 : ByteArray) (n0 : Int) (head0 : ByteArray) (data0 : ByteArray) (Kr : Bool → Heap → Prop) (E : Value → Heap → Prop) (h0 : Heap) : Prop :=
  seal_New.c secret0 (fun x0 h1 =>
  (if (Option.isNone x0) = true then
  Kr false h1
  else
  seal_Key_Seal.c x0 n0 head0 data0 (fun x1 h2 =>
  seal_Key_Open.c x0 n0 head0 data0 (fun x2 x3 h3 =>
  vizardref06_Open.c secret0 n0 head0 data0 (fun x4 x5 h4 =>
  vizardref06_Seal.c secret0 n0 head0 data0 (fun x6 h5 =>
  (if (!(x1.toList == x6.toList)) = true then
  vizardlaw06_SealDoes.J3 n0 head0 data0 x0 x1 x5 true (fun h6 =>
  vizardlaw06_SealDoes.J4 n0 head0 data0 x0 x1 x5 Kr E h6) Kr E h5
  else
  (if (!(x2.toList == x4.toList)) = true then
  vizardlaw06_SealDoes.J3 n0 head0 data0 x0 x1 x5 true (fun h9 =>
  vizardlaw06_SealDoes.J4 n0 head0 data0 x0 x1 x5 Kr E h9) Kr E h5
  else
  vizardlaw06_SealDoes.J3 n0 head0 data0 x0 x1 x5 (x3 != x5) (fun h12 =>
  vizardlaw06_SealDoes.J4 n0 head0 data0 x0 x1 x5 Kr E h12) Kr E h5))) E h4) E h3) E h2) E h1)) E h0
structure vizardlaw06_SealDoes.J2 (secret0 : ByteArray) (n0 : Int) (head0 : ByteArray) (data0 : ByteArray) (Kr : Bool → Heap → Prop) (E : Value → Heap → Prop) (H : Heap) : Prop where
  h : vizardlaw06_SealDoes.J2.vc secret0 n0 head0 data0 Kr E H
def vizardlaw06_SealDoes.vc (secret0 : ByteArray) (n0 : Int) (head0 : ByteArray) (data0 : ByteArray) (K : Bool → Heap → Prop) (E : Value → Heap → Prop) (h0 : Heap) : Prop :=
  (if (decide ((secret0.size : Int) > 500)) = true then
  vizardlaw06_SealDoes.J1 secret0 n0 head0 data0 true (fun h1 =>
  vizardlaw06_SealDoes.J2 secret0 n0 head0 data0 K E h1) K E h0
  else
  (if (decide ((head0.size : Int) > 500)) = true then
  vizardlaw06_SealDoes.J1 secret0 n0 head0 data0 true (fun h4 =>
  vizardlaw06_SealDoes.J2 secret0 n0 head0 data0 K E h4) K E h0
  else
  vizardlaw06_SealDoes.J1 secret0 n0 head0 data0 (decide ((data0.size : Int) > 500)) (fun h7 =>
  vizardlaw06_SealDoes.J2 secret0 n0 head0 data0 K E h7) K E h0))
structure vizardlaw06_SealDoes.c (secret0 : ByteArray) (n0 : Int) (head0 : ByteArray) (data0 : ByteArray) (K : Bool → Heap → Prop) (E : Value → Heap → Prop) (H : Heap) : Prop where
  h : vizardlaw06_SealDoes.vc secret0 n0 head0 data0 (fun r0_0 H => ∃ H', Heap.Le H' H ∧ K r0_0 H') E H
def vizardlaw06_SealDoes.F : FT := fun args K E H => match args with
  | [(.string secret0), (.int .i64 n0), (.string head0), (.string data0)] => vizardlaw06_SealDoes.c secret0 n0 head0 data0 (fun r0_0 H => K (.bool r0_0) H) E H
  | _ => False
noncomputable def vizardlaw06_SealDoes.Γ : FuncId → Option FT := Γof [(23, seal_New.F), (24, seal_Key_Seal.F), (26, seal_Key_Open.F), (27, vizardref06_Open.F), (28, vizardref06_Seal.F), (29, seal_Key_Used.F)]
theorem vizardlaw06_SealDoes.hΓ : ∀ f F, vizardlaw06_SealDoes.Γ f = some F → CalleeOk Tryd.prog f F := Γof_ok (List.forall_mem_cons.2 ⟨seal_New.ok, List.forall_mem_cons.2 ⟨seal_Key_Seal.ok, List.forall_mem_cons.2 ⟨seal_Key_Open.ok, List.forall_mem_cons.2 ⟨vizardref06_Open.ok, List.forall_mem_cons.2 ⟨vizardref06_Seal.ok, List.forall_mem_cons.2 ⟨seal_Key_Used.ok, fun _ h => nomatch h⟩⟩⟩⟩⟩⟩)
def vizardlaw06_SealDoes.J1.t : CT := fun Q E fr H => lenIs 106 fr (slS fr 0 fun secret0 => slI fr 1 .i64 fun n0 => slS fr 2 fun head0 => slS fr 3 fun data0 => slB fr 32 fun x0 => vizardlaw06_SealDoes.J1 secret0 n0 head0 data0 x0 (fun  H => Q .normal (mkF 106 [(0, (.string secret0)), (1, (.int .i64 n0)), (2, (.string head0)), (3, (.string data0))]) H) (fun y8_0 H => Q .ret (mkF 106 [(8, (.bool y8_0))]) H) E H)
noncomputable def vizardlaw06_SealDoes.J1.plan : Plan := .go
theorem vizardlaw06_SealDoes.J1.pok : PlanOk Tryd.prog vizardlaw06_SealDoes.J1.plan (sub [1, 0, 1] vizardlaw06_SealDoes.body) := by
  have e : PlanOk Tryd.prog vizardlaw06_SealDoes.J1.plan (sub [1, 0, 1] vizardlaw06_SealDoes.body) = (True) := by kernel_rfl
  exact e.mpr trivial
theorem vizardlaw06_SealDoes.J1.eq (secret0 : ByteArray) (n0 : Int) (head0 : ByteArray) (data0 : ByteArray) (x0 : Bool) (Q : Ex → Fr → Heap → Prop) (E : Value → Heap → Prop) (H : Heap) :
    vizardlaw06_SealDoes.J1.vc secret0 n0 head0 data0 x0 (fun  H => Q .normal (mkF 106 [(0, (.string secret0)), (1, (.int .i64 n0)), (2, (.string head0)), (3, (.string data0))]) H) (fun y8_0 H => Q .ret (mkF 106 [(8, (.bool y8_0))]) H) E H = keepT [0, 1, 2, 3] [8] (fun i => []) (wC Tryd.prog vizardlaw06_SealDoes.Γ vizardlaw06_SealDoes.J1.plan (sub [1, 0, 1] vizardlaw06_SealDoes.body)) Q E (mkF 106 [(0, (.string secret0)), (1, (.int .i64 n0)), (2, (.string head0)), (3, (.string data0)), (32, (.bool x0))]) H := by
  kernel_rfl
theorem vizardlaw06_SealDoes.J1.ok : SoundCode Tryd.prog (sub [1, 0, 1] vizardlaw06_SealDoes.body) vizardlaw06_SealDoes.J1.t := by
  refine piece_sound (keepT_sound [0, 1, 2, 3] [8] (fun i => []) (wC_sound vizardlaw06_SealDoes.hΓ Tryd.hm vizardlaw06_SealDoes.J1.plan _ vizardlaw06_SealDoes.J1.pok)) ?_
  intro Q E fr H h
  unfold vizardlaw06_SealDoes.J1.t at h
  obtain ⟨hl, h⟩ := lenIs_elim h
  obtain ⟨secret0, q0, h⟩ := slS_elim h
  obtain ⟨n0, q1, h⟩ := slI_elim h
  obtain ⟨head0, q2, h⟩ := slS_elim h
  obtain ⟨data0, q3, h⟩ := slS_elim h
  obtain ⟨x0, q32, h⟩ := slB_elim h
  refine ⟨(mkF 106 [(0, (.string secret0)), (1, (.int .i64 n0)), (2, (.string head0)), (3, (.string data0)), (32, (.bool x0))]), fun a ha => ha.mk (Nat.le_of_eq hl.symm) (List.forall_mem_cons.2 ⟨q0, List.forall_mem_cons.2 ⟨q1, List.forall_mem_cons.2 ⟨q2, List.forall_mem_cons.2 ⟨q3, List.forall_mem_cons.2 ⟨q32, fun _ h => nomatch h⟩⟩⟩⟩⟩), ?_⟩
  have e := vizardlaw06_SealDoes.J1.eq secret0 n0 head0 data0 x0 Q E H
  rw [← e]
  exact h.h
def vizardlaw06_SealDoes.J3.t : CT := fun Q E fr H => lenIs 106 fr (slI fr 1 .i64 fun n0 => slS fr 2 fun head0 => slS fr 3 fun data0 => slP fr 9 fun k0 => slS fr 10 fun s0 => slI fr 14 .i64 fun f0 => slB fr 74 fun x0 => vizardlaw06_SealDoes.J3 n0 head0 data0 k0 s0 f0 x0 (fun  H => Q .normal (mkF 106 [(1, (.int .i64 n0)), (2, (.string head0)), (3, (.string data0)), (9, (.pointer k0)), (10, (.string s0)), (14, (.int .i64 f0))]) H) (fun y8_0 H => Q .ret (mkF 106 [(8, (.bool y8_0))]) H) E H)
noncomputable def vizardlaw06_SealDoes.J3.plan : Plan := .go
theorem vizardlaw06_SealDoes.J3.pok : PlanOk Tryd.prog vizardlaw06_SealDoes.J3.plan (sub [1, 1, 1, 1, 1, 1, 1, 0, 1] vizardlaw06_SealDoes.body) := by
  have e : PlanOk Tryd.prog vizardlaw06_SealDoes.J3.plan (sub [1, 1, 1, 1, 1, 1, 1, 0, 1] vizardlaw06_SealDoes.body) = (True) := by kernel_rfl
  exact e.mpr trivial
theorem vizardlaw06_SealDoes.J3.eq (n0 : Int) (head0 : ByteArray) (data0 : ByteArray) (k0 : Option Addr) (s0 : ByteArray) (f0 : Int) (x0 : Bool) (Q : Ex → Fr → Heap → Prop) (E : Value → Heap → Prop) (H : Heap) :
    vizardlaw06_SealDoes.J3.vc n0 head0 data0 k0 s0 f0 x0 (fun  H => Q .normal (mkF 106 [(1, (.int .i64 n0)), (2, (.string head0)), (3, (.string data0)), (9, (.pointer k0)), (10, (.string s0)), (14, (.int .i64 f0))]) H) (fun y8_0 H => Q .ret (mkF 106 [(8, (.bool y8_0))]) H) E H = keepT [1, 2, 3, 9, 10, 14] [8] (fun i => []) (wC Tryd.prog vizardlaw06_SealDoes.Γ vizardlaw06_SealDoes.J3.plan (sub [1, 1, 1, 1, 1, 1, 1, 0, 1] vizardlaw06_SealDoes.body)) Q E (mkF 106 [(1, (.int .i64 n0)), (2, (.string head0)), (3, (.string data0)), (9, (.pointer k0)), (10, (.string s0)), (14, (.int .i64 f0)), (74, (.bool x0))]) H := by
  kernel_rfl
theorem vizardlaw06_SealDoes.J3.ok : SoundCode Tryd.prog (sub [1, 1, 1, 1, 1, 1, 1, 0, 1] vizardlaw06_SealDoes.body) vizardlaw06_SealDoes.J3.t := by
  refine piece_sound (keepT_sound [1, 2, 3, 9, 10, 14] [8] (fun i => []) (wC_sound vizardlaw06_SealDoes.hΓ Tryd.hm vizardlaw06_SealDoes.J3.plan _ vizardlaw06_SealDoes.J3.pok)) ?_
  intro Q E fr H h
  unfold vizardlaw06_SealDoes.J3.t at h
  obtain ⟨hl, h⟩ := lenIs_elim h
  obtain ⟨n0, q1, h⟩ := slI_elim h
  obtain ⟨head0, q2, h⟩ := slS_elim h
  obtain ⟨data0, q3, h⟩ := slS_elim h
  obtain ⟨k0, q9, h⟩ := slP_elim h
  obtain ⟨s0, q10, h⟩ := slS_elim h
  obtain ⟨f0, q14, h⟩ := slI_elim h
  obtain ⟨x0, q74, h⟩ := slB_elim h
  refine ⟨(mkF 106 [(1, (.int .i64 n0)), (2, (.string head0)), (3, (.string data0)), (9, (.pointer k0)), (10, (.string s0)), (14, (.int .i64 f0)), (74, (.bool x0))]), fun a ha => ha.mk (Nat.le_of_eq hl.symm) (List.forall_mem_cons.2 ⟨q1, List.forall_mem_cons.2 ⟨q2, List.forall_mem_cons.2 ⟨q3, List.forall_mem_cons.2 ⟨q9, List.forall_mem_cons.2 ⟨q10, List.forall_mem_cons.2 ⟨q14, List.forall_mem_cons.2 ⟨q74, fun _ h => nomatch h⟩⟩⟩⟩⟩⟩⟩), ?_⟩
  have e := vizardlaw06_SealDoes.J3.eq n0 head0 data0 k0 s0 f0 x0 Q E H
  rw [← e]
  exact h.h
def vizardlaw06_SealDoes.J5.t : CT := fun Q E fr H => lenIs 106 fr (slS fr 3 fun data0 => slS fr 15 fun z0 => slI fr 16 .i64 fun g0 => slI fr 17 .i64 fun a0 => slI fr 18 .i64 fun b0 => slI fr 19 .i64 fun want0 => vizardlaw06_SealDoes.J5 data0 z0 g0 a0 b0 want0 (fun y8_0 H => Q .ret (mkF 106 [(8, (.bool y8_0))]) H) E H)
noncomputable def vizardlaw06_SealDoes.J5.plan : Plan := .go
theorem vizardlaw06_SealDoes.J5.pok : PlanOk Tryd.prog vizardlaw06_SealDoes.J5.plan (sub [1, 1, 1, 1, 1, 1, 1, 1, 1, 1, 1, 1] vizardlaw06_SealDoes.body) := by
  have e : PlanOk Tryd.prog vizardlaw06_SealDoes.J5.plan (sub [1, 1, 1, 1, 1, 1, 1, 1, 1, 1, 1, 1] vizardlaw06_SealDoes.body) = (True) := by kernel_rfl
  exact e.mpr trivial
theorem vizardlaw06_SealDoes.J5.eq (data0 : ByteArray) (z0 : ByteArray) (g0 : Int) (a0 : Int) (b0 : Int) (want0 : Int) (Q : Ex → Fr → Heap → Prop) (E : Value → Heap → Prop) (H : Heap) :
    vizardlaw06_SealDoes.J5.vc data0 z0 g0 a0 b0 want0 (fun y8_0 H => Q .ret (mkF 106 [(8, (.bool y8_0))]) H) E H = keepT [] [8] (fun i => []) (wC Tryd.prog vizardlaw06_SealDoes.Γ vizardlaw06_SealDoes.J5.plan (sub [1, 1, 1, 1, 1, 1, 1, 1, 1, 1, 1, 1] vizardlaw06_SealDoes.body)) Q E (mkF 106 [(3, (.string data0)), (15, (.string z0)), (16, (.int .i64 g0)), (17, (.int .i64 a0)), (18, (.int .i64 b0)), (19, (.int .i64 want0))]) H := by
  kernel_rfl
theorem vizardlaw06_SealDoes.J5.ok : SoundCode Tryd.prog (sub [1, 1, 1, 1, 1, 1, 1, 1, 1, 1, 1, 1] vizardlaw06_SealDoes.body) vizardlaw06_SealDoes.J5.t := by
  refine piece_sound (keepT_sound [] [8] (fun i => []) (wC_sound vizardlaw06_SealDoes.hΓ Tryd.hm vizardlaw06_SealDoes.J5.plan _ vizardlaw06_SealDoes.J5.pok)) ?_
  intro Q E fr H h
  unfold vizardlaw06_SealDoes.J5.t at h
  obtain ⟨hl, h⟩ := lenIs_elim h
  obtain ⟨data0, q3, h⟩ := slS_elim h
  obtain ⟨z0, q15, h⟩ := slS_elim h
  obtain ⟨g0, q16, h⟩ := slI_elim h
  obtain ⟨a0, q17, h⟩ := slI_elim h
  obtain ⟨b0, q18, h⟩ := slI_elim h
  obtain ⟨want0, q19, h⟩ := slI_elim h
  refine ⟨(mkF 106 [(3, (.string data0)), (15, (.string z0)), (16, (.int .i64 g0)), (17, (.int .i64 a0)), (18, (.int .i64 b0)), (19, (.int .i64 want0))]), fun a ha => ha.mk (Nat.le_of_eq hl.symm) (List.forall_mem_cons.2 ⟨q3, List.forall_mem_cons.2 ⟨q15, List.forall_mem_cons.2 ⟨q16, List.forall_mem_cons.2 ⟨q17, List.forall_mem_cons.2 ⟨q18, List.forall_mem_cons.2 ⟨q19, fun _ h => nomatch h⟩⟩⟩⟩⟩⟩), ?_⟩
  have e := vizardlaw06_SealDoes.J5.eq data0 z0 g0 a0 b0 want0 Q E H
  rw [← e]
  exact h.h
def vizardlaw06_SealDoes.J4.t : CT := fun Q E fr H => lenIs 106 fr (slI fr 1 .i64 fun n0 => slS fr 2 fun head0 => slS fr 3 fun data0 => slP fr 9 fun k0 => slS fr 10 fun s0 => slI fr 14 .i64 fun f0 => vizardlaw06_SealDoes.J4 n0 head0 data0 k0 s0 f0 (fun y8_0 H => Q .ret (mkF 106 [(8, (.bool y8_0))]) H) E H)
noncomputable def vizardlaw06_SealDoes.J4.plan : Plan := .seq (.go) (.seq (.go) (.seq (.go) (.seq (.go) (.use vizardlaw06_SealDoes.J5.t))))
theorem vizardlaw06_SealDoes.J4.pok : PlanOk Tryd.prog vizardlaw06_SealDoes.J4.plan (sub [1, 1, 1, 1, 1, 1, 1, 1] vizardlaw06_SealDoes.body) := by
  have e : PlanOk Tryd.prog vizardlaw06_SealDoes.J4.plan (sub [1, 1, 1, 1, 1, 1, 1, 1] vizardlaw06_SealDoes.body) = ((True) ∧ ((True) ∧ ((True) ∧ ((True) ∧ (SoundCode Tryd.prog (sub [1, 1, 1, 1, 1, 1, 1, 1, 1, 1, 1, 1] vizardlaw06_SealDoes.body) vizardlaw06_SealDoes.J5.t))))) := by kernel_rfl
  exact e.mpr ⟨trivial, ⟨trivial, ⟨trivial, ⟨trivial, vizardlaw06_SealDoes.J5.ok⟩⟩⟩⟩
theorem vizardlaw06_SealDoes.J4.eq (n0 : Int) (head0 : ByteArray) (data0 : ByteArray) (k0 : Option Addr) (s0 : ByteArray) (f0 : Int) (Q : Ex → Fr → Heap → Prop) (E : Value → Heap → Prop) (H : Heap) :
    vizardlaw06_SealDoes.J4.vc n0 head0 data0 k0 s0 f0 (fun y8_0 H => Q .ret (mkF 106 [(8, (.bool y8_0))]) H) E H = keepT [] [8] (fun i => []) (wC Tryd.prog vizardlaw06_SealDoes.Γ vizardlaw06_SealDoes.J4.plan (sub [1, 1, 1, 1, 1, 1, 1, 1] vizardlaw06_SealDoes.body)) Q E (mkF 106 [(1, (.int .i64 n0)), (2, (.string head0)), (3, (.string data0)), (9, (.pointer k0)), (10, (.string s0)), (14, (.int .i64 f0))]) H := by
  kernel_rfl
theorem vizardlaw06_SealDoes.J4.ok : SoundCode Tryd.prog (sub [1, 1, 1, 1, 1, 1, 1, 1] vizardlaw06_SealDoes.body) vizardlaw06_SealDoes.J4.t := by
  refine piece_sound (keepT_sound [] [8] (fun i => []) (wC_sound vizardlaw06_SealDoes.hΓ Tryd.hm vizardlaw06_SealDoes.J4.plan _ vizardlaw06_SealDoes.J4.pok)) ?_
  intro Q E fr H h
  unfold vizardlaw06_SealDoes.J4.t at h
  obtain ⟨hl, h⟩ := lenIs_elim h
  obtain ⟨n0, q1, h⟩ := slI_elim h
  obtain ⟨head0, q2, h⟩ := slS_elim h
  obtain ⟨data0, q3, h⟩ := slS_elim h
  obtain ⟨k0, q9, h⟩ := slP_elim h
  obtain ⟨s0, q10, h⟩ := slS_elim h
  obtain ⟨f0, q14, h⟩ := slI_elim h
  refine ⟨(mkF 106 [(1, (.int .i64 n0)), (2, (.string head0)), (3, (.string data0)), (9, (.pointer k0)), (10, (.string s0)), (14, (.int .i64 f0))]), fun a ha => ha.mk (Nat.le_of_eq hl.symm) (List.forall_mem_cons.2 ⟨q1, List.forall_mem_cons.2 ⟨q2, List.forall_mem_cons.2 ⟨q3, List.forall_mem_cons.2 ⟨q9, List.forall_mem_cons.2 ⟨q10, List.forall_mem_cons.2 ⟨q14, fun _ h => nomatch h⟩⟩⟩⟩⟩⟩), ?_⟩
  have e := vizardlaw06_SealDoes.J4.eq n0 head0 data0 k0 s0 f0 Q E H
  rw [← e]
  exact h.h
def vizardlaw06_SealDoes.J2.t : CT := fun Q E fr H => lenIs 106 fr (slS fr 0 fun secret0 => slI fr 1 .i64 fun n0 => slS fr 2 fun head0 => slS fr 3 fun data0 => vizardlaw06_SealDoes.J2 secret0 n0 head0 data0 (fun y8_0 H => Q .ret (mkF 106 [(8, (.bool y8_0))]) H) E H)
noncomputable def vizardlaw06_SealDoes.J2.plan : Plan := .seq (.go) (.seq (.go) (.seq (.go) (.seq (.go) (.seq (.go) (.seq (.seq (.go) (.use vizardlaw06_SealDoes.J3.t)) (.use vizardlaw06_SealDoes.J4.t))))))
theorem vizardlaw06_SealDoes.J2.pok : PlanOk Tryd.prog vizardlaw06_SealDoes.J2.plan (sub [1, 1] vizardlaw06_SealDoes.body) := by
  have e : PlanOk Tryd.prog vizardlaw06_SealDoes.J2.plan (sub [1, 1] vizardlaw06_SealDoes.body) = ((True) ∧ ((True) ∧ ((True) ∧ ((True) ∧ ((True) ∧ (((True) ∧ (SoundCode Tryd.prog (sub [1, 1, 1, 1, 1, 1, 1, 0, 1] vizardlaw06_SealDoes.body) vizardlaw06_SealDoes.J3.t)) ∧ (SoundCode Tryd.prog (sub [1, 1, 1, 1, 1, 1, 1, 1] vizardlaw06_SealDoes.body) vizardlaw06_SealDoes.J4.t))))))) := by kernel_rfl
  exact e.mpr ⟨trivial, ⟨trivial, ⟨trivial, ⟨trivial, ⟨trivial, ⟨⟨trivial, vizardlaw06_SealDoes.J3.ok⟩, vizardlaw06_SealDoes.J4.ok⟩⟩⟩⟩⟩⟩
theorem vizardlaw06_SealDoes.J2.eq (secret0 : ByteArray) (n0 : Int) (head0 : ByteArray) (data0 : ByteArray) (Q : Ex → Fr → Heap → Prop) (E : Value → Heap → Prop) (H : Heap) :
    vizardlaw06_SealDoes.J2.vc secret0 n0 head0 data0 (fun y8_0 H => Q .ret (mkF 106 [(8, (.bool y8_0))]) H) E H = keepT [] [8] (fun i => []) (wC Tryd.prog vizardlaw06_SealDoes.Γ vizardlaw06_SealDoes.J2.plan (sub [1, 1] vizardlaw06_SealDoes.body)) Q E (mkF 106 [(0, (.string secret0)), (1, (.int .i64 n0)), (2, (.string head0)), (3, (.string data0))]) H := by
  kernel_rfl
theorem vizardlaw06_SealDoes.J2.ok : SoundCode Tryd.prog (sub [1, 1] vizardlaw06_SealDoes.body) vizardlaw06_SealDoes.J2.t := by
  refine piece_sound (keepT_sound [] [8] (fun i => []) (wC_sound vizardlaw06_SealDoes.hΓ Tryd.hm vizardlaw06_SealDoes.J2.plan _ vizardlaw06_SealDoes.J2.pok)) ?_
  intro Q E fr H h
  unfold vizardlaw06_SealDoes.J2.t at h
  obtain ⟨hl, h⟩ := lenIs_elim h
  obtain ⟨secret0, q0, h⟩ := slS_elim h
  obtain ⟨n0, q1, h⟩ := slI_elim h
  obtain ⟨head0, q2, h⟩ := slS_elim h
  obtain ⟨data0, q3, h⟩ := slS_elim h
  refine ⟨(mkF 106 [(0, (.string secret0)), (1, (.int .i64 n0)), (2, (.string head0)), (3, (.string data0))]), fun a ha => ha.mk (Nat.le_of_eq hl.symm) (List.forall_mem_cons.2 ⟨q0, List.forall_mem_cons.2 ⟨q1, List.forall_mem_cons.2 ⟨q2, List.forall_mem_cons.2 ⟨q3, fun _ h => nomatch h⟩⟩⟩⟩), ?_⟩
  have e := vizardlaw06_SealDoes.J2.eq secret0 n0 head0 data0 Q E H
  rw [← e]
  exact h.h
noncomputable def vizardlaw06_SealDoes.plan : Plan := .seq (.go) (.seq (.seq (.go) (.use vizardlaw06_SealDoes.J1.t)) (.use vizardlaw06_SealDoes.J2.t))
theorem vizardlaw06_SealDoes.pok : PlanOk Tryd.prog vizardlaw06_SealDoes.plan vizardlaw06_SealDoes.body := by
  have e : PlanOk Tryd.prog vizardlaw06_SealDoes.plan vizardlaw06_SealDoes.body = ((True) ∧ (((True) ∧ (SoundCode Tryd.prog (sub [1, 0, 1] vizardlaw06_SealDoes.body) vizardlaw06_SealDoes.J1.t)) ∧ (SoundCode Tryd.prog (sub [1, 1] vizardlaw06_SealDoes.body) vizardlaw06_SealDoes.J2.t))) := by kernel_rfl
  exact e.mpr ⟨trivial, ⟨⟨trivial, vizardlaw06_SealDoes.J1.ok⟩, vizardlaw06_SealDoes.J2.ok⟩⟩
theorem vizardlaw06_SealDoes.eq (secret0 : ByteArray) (n0 : Int) (head0 : ByteArray) (data0 : ByteArray) (K : Value → Heap → Prop) (E : Value → Heap → Prop) (H : Heap) :
    fnT Tryd.prog Tryd.f11 (wC Tryd.prog vizardlaw06_SealDoes.Γ vizardlaw06_SealDoes.plan vizardlaw06_SealDoes.body) [(.string secret0), (.int .i64 n0), (.string head0), (.string data0)] K E H = vizardlaw06_SealDoes.vc secret0 n0 head0 data0 (fun r0_0 H => K (.bool r0_0) H) E H := by
  kernel_rfl
theorem vizardlaw06_SealDoes.Fe {args : List Value} {K E : Value → Heap → Prop} {H : Heap} (h : vizardlaw06_SealDoes.F args K E H) : ∃ secret0 n0 head0 data0, args = [(.string secret0), (.int .i64 n0), (.string head0), (.string data0)] ∧ vizardlaw06_SealDoes.c secret0 n0 head0 data0 (fun r0_0 H => K (.bool r0_0) H) E H := by
  unfold vizardlaw06_SealDoes.F at h
  split at h
  · exact ⟨_, _, _, _, rfl, h⟩
  · exact h.elim
theorem vizardlaw06_SealDoes.ok : CalleeOk Tryd.prog 11 vizardlaw06_SealDoes.F :=
  callee_ok vizardlaw06_SealDoes.hΓ (fn := Tryd.f11) (c := vizardlaw06_SealDoes.body) (T := wC Tryd.prog vizardlaw06_SealDoes.Γ vizardlaw06_SealDoes.plan vizardlaw06_SealDoes.body) (by kernel_rfl) (by kernel_rfl) (by kernel_rfl) (wC_sound vizardlaw06_SealDoes.hΓ Tryd.hm vizardlaw06_SealDoes.plan _ vizardlaw06_SealDoes.pok) fun _ K E H h => by
    obtain ⟨z0, z1, z2, z3, e, h⟩ := vizardlaw06_SealDoes.Fe h
    subst e
    have h2 : vizardlaw06_SealDoes.vc z0 z1 z2 z3 (fun r0_0 H => ∃ H', Heap.Le H' H ∧ K (.bool r0_0) H') E H := h.h
    rw [vizardlaw06_SealDoes.eq z0 z1 z2 z3 (Fg K) E H]
    exact h2
end Go.Sh
