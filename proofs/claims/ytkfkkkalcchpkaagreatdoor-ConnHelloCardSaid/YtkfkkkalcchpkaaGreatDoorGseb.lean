/- PRINTED by a program (sh.py): what the walk over each function asks, and that it asks just that. -/
import Derived.Test.YtkfkkkalcchpkaaGreatDoorOnceC
namespace Go.Sh
open Go.Proofs
set_option linter.unusedVariables false
set_option maxRecDepth 8000
/-! vizard/seal.New -/
noncomputable def seal_New.body : Code := Tryz.f64.body.getD .skip
def seal_New.vc (secret0 : ByteArray) (K : Option Addr → Heap → Prop) (E : Value → Heap → Prop) (h0 : Heap) : Prop :=
  newB (.cells #[(.string secret0), (.int .u32 0), (.int .i32 0), (.int .u32 0), (.int .u32 0), (.int .u32 0), (.int .u32 0), (.int .u32 0), (.int .u32 0), (.int .u32 0), (.int .u32 0), (.int .u32 0), (.slice none 0 0), (.int .u64 0), (.int .u32 0), (.int .u32 0), (.int .u32 0), (.int .u32 0), (.int .u32 0), (.int .u32 0), (.int .u32 0), (.int .u32 0), (.slice none 0 0), (.int .u64 0), (.int .u32 0), (.int .u32 0), (.int .u32 0), (.int .u32 0), (.int .u32 0), (.int .u32 0), (.int .u32 0), (.int .u32 0), (.slice none 0 0), (.int .u64 0), (.int .u32 0), (.int .u32 0), (.int .u32 0), (.int .u32 0), (.int .u32 0), (.int .u32 0), (.int .u32 0), (.int .u32 0), (.slice none 0 0), (.int .u64 0), (.int .i64 0), (.int .i64 0)] 216) (fun b0 h1 =>
  K (some (⟨b0, 0, none⟩ : Addr)) h1) h0
structure seal_New.c (secret0 : ByteArray) (K : Option Addr → Heap → Prop) (E : Value → Heap → Prop) (H : Heap) : Prop where
  h : seal_New.vc secret0 (fun r0_0 H => ∃ H', Heap.Le H' H ∧ K r0_0 H') E H
def seal_New.F : FT := fun args K E H => match args with
  | [(.string secret0)] => seal_New.c secret0 (fun r0_0 H => K (.pointer r0_0) H) E H
  | _ => False
noncomputable def seal_New.Γ : FuncId → Option FT := Γof []
theorem seal_New.hΓ : ∀ f F, seal_New.Γ f = some F → CalleeOk Tryz.prog f F := Γof_ok (fun _ h => nomatch h)
noncomputable def seal_New.plan : Plan := .go
theorem seal_New.pok : PlanOk Tryz.prog seal_New.plan seal_New.body := by
  have e : PlanOk Tryz.prog seal_New.plan seal_New.body = (True) := by kernel_rfl
  exact e.mpr trivial
theorem seal_New.eq (secret0 : ByteArray) (K : Value → Heap → Prop) (E : Value → Heap → Prop) (H : Heap) :
    fnT Tryz.prog Tryz.f64 (wC Tryz.prog seal_New.Γ seal_New.plan seal_New.body) [(.string secret0)] K E H = seal_New.vc secret0 (fun r0_0 H => K (.pointer r0_0) H) E H := by
  kernel_rfl
theorem seal_New.Fe {args : List Value} {K E : Value → Heap → Prop} {H : Heap} (h : seal_New.F args K E H) : ∃ secret0, args = [(.string secret0)] ∧ seal_New.c secret0 (fun r0_0 H => K (.pointer r0_0) H) E H := by
  unfold seal_New.F at h
  split at h
  · exact ⟨_, rfl, h⟩
  · exact h.elim
theorem seal_New.ok : CalleeOk Tryz.prog 64 seal_New.F :=
  callee_ok seal_New.hΓ (fn := Tryz.f64) (c := seal_New.body) (T := wC Tryz.prog seal_New.Γ seal_New.plan seal_New.body) (by kernel_rfl) (by kernel_rfl) (by kernel_rfl) (wC_sound seal_New.hΓ Tryz.hm seal_New.plan _ seal_New.pok) fun _ K E H h => by
    obtain ⟨z0, e, h⟩ := seal_New.Fe h
    subst e
    have h2 : seal_New.vc z0 (fun r0_0 H => ∃ H', Heap.Le H' H ∧ K (.pointer r0_0) H') E H := h.h
    rw [seal_New.eq z0 (Fg K) E H]
    exact h2

/-! (*vizard/seal.Key).parts -/
noncomputable def seal_Key_parts.body : Code := Tryz.f194.body.getD .skip
def seal_Key_parts.vc (k0 : Option Addr) (K : Heap → Prop) (E : Value → Heap → Prop) (h0 : Heap) : Prop :=
  newB (.cells #[(.pointer k0)] 63) (fun b0 h1 =>
  ldP h1 (⟨b0, 0, none⟩ : Addr) fun x0 =>
  nilc x0 fun a0 =>
  sync_Once_Do.c (some (a0.add 1)) (.func (.func 216) #[] #[(.pointer (some (⟨b0, 0, none⟩ : Addr)))]) K E h1) h0
structure seal_Key_parts.c (k0 : Option Addr) (K : Heap → Prop) (E : Value → Heap → Prop) (H : Heap) : Prop where
  h : seal_Key_parts.vc k0 (fun  H => ∃ H', Heap.Le H' H ∧ K  H') E H
def seal_Key_parts.F : FT := fun args K E H => match args with
  | [(.pointer k0)] => seal_Key_parts.c k0 (fun  H => K (.tuple #[]) H) E H
  | _ => False
noncomputable def seal_Key_parts.Γ : FuncId → Option FT := Γof [(215, sync_Once_Do.F)]
theorem seal_Key_parts.hΓ : ∀ f F, seal_Key_parts.Γ f = some F → CalleeOk Tryz.prog f F := Γof_ok (List.forall_mem_cons.2 ⟨sync_Once_Do.ok, fun _ h => nomatch h⟩)
noncomputable def seal_Key_parts.plan : Plan := .go
theorem seal_Key_parts.pok : PlanOk Tryz.prog seal_Key_parts.plan seal_Key_parts.body := by
  have e : PlanOk Tryz.prog seal_Key_parts.plan seal_Key_parts.body = (True) := by kernel_rfl
  exact e.mpr trivial
theorem seal_Key_parts.eq (k0 : Option Addr) (K : Value → Heap → Prop) (E : Value → Heap → Prop) (H : Heap) :
    fnT Tryz.prog Tryz.f194 (wC Tryz.prog seal_Key_parts.Γ seal_Key_parts.plan seal_Key_parts.body) [(.pointer k0)] K E H = seal_Key_parts.vc k0 (fun  H => K (.tuple #[]) H) E H := by
  kernel_rfl
theorem seal_Key_parts.Fe {args : List Value} {K E : Value → Heap → Prop} {H : Heap} (h : seal_Key_parts.F args K E H) : ∃ k0, args = [(.pointer k0)] ∧ seal_Key_parts.c k0 (fun  H => K (.tuple #[]) H) E H := by
  unfold seal_Key_parts.F at h
  split at h
  · exact ⟨_, rfl, h⟩
  · exact h.elim
theorem seal_Key_parts.ok : CalleeOk Tryz.prog 194 seal_Key_parts.F :=
  callee_ok seal_Key_parts.hΓ (fn := Tryz.f194) (c := seal_Key_parts.body) (T := wC Tryz.prog seal_Key_parts.Γ seal_Key_parts.plan seal_Key_parts.body) (by kernel_rfl) (by kernel_rfl) (by kernel_rfl) (wC_sound seal_Key_parts.hΓ Tryz.hm seal_Key_parts.plan _ seal_Key_parts.pok) fun _ K E H h => by
    obtain ⟨z0, e, h⟩ := seal_Key_parts.Fe h
    subst e
    have h2 : seal_Key_parts.vc z0 (fun  H => ∃ H', Heap.Le H' H ∧ K (.tuple #[]) H') E H := h.h
    rw [seal_Key_parts.eq z0 (Fg K) E H]
    exact h2

/-! vizard/seal.bytes -/
noncomputable def seal_bytes.body : Code := Tryz.f196.body.getD .skip
def seal_bytes.W1.vc (n0 : Int) (count0 : Int) (b0 : Option Addr) (b1 : Nat) (b2 : Nat) (x0 : Int) (x1 : Int) (Kx0 : Heap → Prop) (RR : Int → Heap → Prop) (E : Value → Heap → Prop) (h0 : Heap) : Prop :=
  (if (decide (x1 < x0)) = true then
  (0 : Int) ≤ (IntKind.i64.wrap (8 * (IntKind.i64.wrap ((IntKind.i64.wrap (count0 - 1)) - x1)))) ∧
  nilc b0 fun a0 => (0 : Int) ≤ x1 ∧ x1 < (b1 : Int) ∧
  stc h0 (a0.add (x1.toNat * 1)) (.int .u8 (IntKind.u8.wrap (shrI .u64 n0 (IntKind.i64.wrap (8 * (IntKind.i64.wrap ((IntKind.i64.wrap (count0 - 1)) - x1))))))) fun h1 =>
  RR (IntKind.i64.wrap (x1 + 1)) h1
  else
  Kx0 h0)
structure seal_bytes.W1 (n0 : Int) (count0 : Int) (b0 : Option Addr) (b1 : Nat) (b2 : Nat) (x0 : Int) (x1 : Int) (Kx0 : Heap → Prop) (E : Value → Heap → Prop) (H : Heap) : Prop where
  h : Loop (fun (RR : Int → Heap → Prop) (s : Int) (H : Heap) => seal_bytes.W1.vc n0 count0 b0 b1 b2 x0 s Kx0 (fun x1 H => RR (x1) H) E H) (x1) H
def seal_bytes.vc (n0 : Int) (count0 : Int) (K : ByteArray → Heap → Prop) (E : Value → Heap → Prop) (h0 : Heap) : Prop :=
  (0 : Int) ≤ count0 ∧ (count0 : Int) ≤ count0 ∧ (count0 : Int) ≤ 9223372036854775807 ∧ (count0 : Int) * 1 ≤ 281474976710656 ∧ newB (.cells (zerosOf (.int .u8 0) count0.toNat).toArray 5) (fun b0 h1 =>
  seal_bytes.W1 n0 count0 (some (⟨b0, 0, none⟩ : Addr)) count0.toNat count0.toNat (count0.toNat : Int) 0 (fun h2 =>
  rdBytes h2 (some (⟨b0, 0, none⟩ : Addr)) count0.toNat fun x0 =>
  K x0 h2) E h1) h0
structure seal_bytes.c (n0 : Int) (count0 : Int) (K : ByteArray → Heap → Prop) (E : Value → Heap → Prop) (H : Heap) : Prop where
  h : seal_bytes.vc n0 count0 (fun r0_0 H => ∃ H', Heap.Le H' H ∧ K r0_0 H') E H
def seal_bytes.F : FT := fun args K E H => match args with
  | [(.int .u64 n0), (.int .i64 count0)] => seal_bytes.c n0 count0 (fun r0_0 H => K (.string r0_0) H) E H
  | _ => False
noncomputable def seal_bytes.Γ : FuncId → Option FT := Γof []
theorem seal_bytes.hΓ : ∀ f F, seal_bytes.Γ f = some F → CalleeOk Tryz.prog f F := Γof_ok (fun _ h => nomatch h)
def seal_bytes.W1.t : CT := fun Q E fr H => lenIs 28 fr (slI fr 0 .u64 fun n0 => slI fr 1 .i64 fun count0 => slSl fr 5 fun b0 b1 b2 => slI fr 10 .i64 fun x0 => slI fr 11 .i64 fun x1 => seal_bytes.W1 n0 count0 b0 b1 b2 x0 x1 (fun  H => Q (.exit 0) (mkF 28 [(5, (.slice b0 b1 b2))]) H) E H)
noncomputable def seal_bytes.W1.plan : Plan := .go
theorem seal_bytes.W1.pok : PlanOk Tryz.prog seal_bytes.W1.plan (sub [1, 1, 0, 1, 0, 0] seal_bytes.body) := by
  have e : PlanOk Tryz.prog seal_bytes.W1.plan (sub [1, 1, 0, 1, 0, 0] seal_bytes.body) = (True) := by kernel_rfl
  exact e.mpr trivial
theorem seal_bytes.W1.eq (n0 : Int) (count0 : Int) (b0 : Option Addr) (b1 : Nat) (b2 : Nat) (x0 : Int) (Q : Ex → Fr → Heap → Prop) (E : Value → Heap → Prop) (RR : Fr → Heap → Prop) (s : Int) (H : Heap) :
    (fun (RR : Int → Heap → Prop) (s : Int) (H : Heap) => seal_bytes.W1.vc n0 count0 b0 b1 b2 x0 s (fun  H => Q (.exit 0) (mkF 28 [(5, (.slice b0 b1 b2))]) H) (fun x1 H => RR (x1) H) E H) (fun s' H' => RR ((fun (s : Int) => (mkF 28 [(0, (.int .u64 n0)), (1, (.int .i64 count0)), (5, (.slice b0 b1 b2)), (10, (.int .i64 x0)), (11, (.int .i64 s))])) s') H') s H = keepT [0, 1, 5, 10, 11] [] (fun i => if i = 0 then [5] else []) (wC Tryz.prog seal_bytes.Γ seal_bytes.W1.plan (sub [1, 1, 0, 1, 0, 0] seal_bytes.body)) (fun e fr' H' => match e with | .normal => RR fr' H' | .exit id => Q (.exit id) fr' H' | .ret => Q .ret fr' H') E ((fun (s : Int) => (mkF 28 [(0, (.int .u64 n0)), (1, (.int .i64 count0)), (5, (.slice b0 b1 b2)), (10, (.int .i64 x0)), (11, (.int .i64 s))])) s) H := by
  kernel_rfl
theorem seal_bytes.W1.ok : SoundCode Tryz.prog (sub [1, 1, 0, 1, 0] seal_bytes.body) seal_bytes.W1.t := by
  have e : (sub [1, 1, 0, 1, 0] seal_bytes.body) = .loop (sub [1, 1, 0, 1, 0, 0] seal_bytes.body) := by kernel_rfl
  rw [e]
  refine piece_sound (loopN_sound (keepT_sound [0, 1, 5, 10, 11] [] (fun i => if i = 0 then [5] else []) (wC_sound seal_bytes.hΓ Tryz.hm seal_bytes.W1.plan _ seal_bytes.W1.pok))) ?_
  intro Q E fr H h
  unfold seal_bytes.W1.t at h
  obtain ⟨hl, h⟩ := lenIs_elim h
  obtain ⟨n0, q0, h⟩ := slI_elim h
  obtain ⟨count0, q1, h⟩ := slI_elim h
  obtain ⟨b0, b1, b2, q5, h⟩ := slSl_elim h
  obtain ⟨x0, q10, h⟩ := slI_elim h
  obtain ⟨x1, q11, h⟩ := slI_elim h
  obtain ⟨m, h⟩ := h.h
  refine ⟨(mkF 28 [(0, (.int .u64 n0)), (1, (.int .i64 count0)), (5, (.slice b0 b1 b2)), (10, (.int .i64 x0)), (11, (.int .i64 x1))]), fun a ha => ha.mk (Nat.le_of_eq hl.symm) (List.forall_mem_cons.2 ⟨q0, List.forall_mem_cons.2 ⟨q1, List.forall_mem_cons.2 ⟨q5, List.forall_mem_cons.2 ⟨q10, List.forall_mem_cons.2 ⟨q11, fun _ h => nomatch h⟩⟩⟩⟩⟩), m, ?_⟩
  have e := loopS_eq (B := (fun (RR : Int → Heap → Prop) (s : Int) (H : Heap) => seal_bytes.W1.vc n0 count0 b0 b1 b2 x0 s (fun  H => Q (.exit 0) (mkF 28 [(5, (.slice b0 b1 b2))]) H) (fun x1 H => RR (x1) H) E H)) (A := keepT [0, 1, 5, 10, 11] [] (fun i => if i = 0 then [5] else []) (wC Tryz.prog seal_bytes.Γ seal_bytes.W1.plan (sub [1, 1, 0, 1, 0, 0] seal_bytes.body))) (m := (fun (s : Int) => (mkF 28 [(0, (.int .u64 n0)), (1, (.int .i64 count0)), (5, (.slice b0 b1 b2)), (10, (.int .i64 x0)), (11, (.int .i64 s))]))) (Q := Q) (E := E) (fun RR s H => seal_bytes.W1.eq n0 count0 b0 b1 b2 x0 Q E RR s H) m (x1) H
  exact cast e h
noncomputable def seal_bytes.plan : Plan := .seq (.go) (.seq (.go) (.seq (.seq (.go) (.block (.use seal_bytes.W1.t))) (.go)))
theorem seal_bytes.pok : PlanOk Tryz.prog seal_bytes.plan seal_bytes.body := by
  have e : PlanOk Tryz.prog seal_bytes.plan seal_bytes.body = ((True) ∧ ((True) ∧ (((True) ∧ (SoundCode Tryz.prog (sub [1, 1, 0, 1, 0] seal_bytes.body) seal_bytes.W1.t)) ∧ (True)))) := by kernel_rfl
  exact e.mpr ⟨trivial, ⟨trivial, ⟨⟨trivial, seal_bytes.W1.ok⟩, trivial⟩⟩⟩
theorem seal_bytes.eq (n0 : Int) (count0 : Int) (K : Value → Heap → Prop) (E : Value → Heap → Prop) (H : Heap) :
    fnT Tryz.prog Tryz.f196 (wC Tryz.prog seal_bytes.Γ seal_bytes.plan seal_bytes.body) [(.int .u64 n0), (.int .i64 count0)] K E H = seal_bytes.vc n0 count0 (fun r0_0 H => K (.string r0_0) H) E H := by
  kernel_rfl
theorem seal_bytes.Fe {args : List Value} {K E : Value → Heap → Prop} {H : Heap} (h : seal_bytes.F args K E H) : ∃ n0 count0, args = [(.int .u64 n0), (.int .i64 count0)] ∧ seal_bytes.c n0 count0 (fun r0_0 H => K (.string r0_0) H) E H := by
  unfold seal_bytes.F at h
  split at h
  · exact ⟨_, _, rfl, h⟩
  · exact h.elim
theorem seal_bytes.ok : CalleeOk Tryz.prog 196 seal_bytes.F :=
  callee_ok seal_bytes.hΓ (fn := Tryz.f196) (c := seal_bytes.body) (T := wC Tryz.prog seal_bytes.Γ seal_bytes.plan seal_bytes.body) (by kernel_rfl) (by kernel_rfl) (by kernel_rfl) (wC_sound seal_bytes.hΓ Tryz.hm seal_bytes.plan _ seal_bytes.pok) fun _ K E H h => by
    obtain ⟨z0, z1, e, h⟩ := seal_bytes.Fe h
    subst e
    have h2 : seal_bytes.vc z0 z1 (fun r0_0 H => ∃ H', Heap.Le H' H ∧ K (.string r0_0) H') E H := h.h
    rw [seal_bytes.eq z0 z1 (Fg K) E H]
    exact h2

/-! (vizard/seal.mac).code -/
noncomputable def seal_mac_code.body : Code := Tryz.f195.body.getD .skip
def seal_mac_code.vc (m0 : Int) (m1 : Int) (m2 : Int) (m3 : Int) (m4 : Int) (m5 : Int) (m6 : Int) (m7 : Int) (m8 : Option Addr) (m9 : Nat) (m10 : Nat) (m11 : Int) (m12 : Int) (m13 : Int) (m14 : Int) (m15 : Int) (m16 : Int) (m17 : Int) (m18 : Int) (m19 : Int) (m20 : Option Addr) (m21 : Nat) (m22 : Nat) (m23 : Int) (s0 : ByteArray) (K : ByteArray → Heap → Prop) (E : Value → Heap → Prop) (h0 : Heap) : Prop :=
  newB (.cells #[(.int .u32 m0), (.int .u32 m1), (.int .u32 m2), (.int .u32 m3), (.int .u32 m4), (.int .u32 m5), (.int .u32 m6), (.int .u32 m7), (.slice m8 m9 m10), (.int .u64 m11), (.int .u32 m12), (.int .u32 m13), (.int .u32 m14), (.int .u32 m15), (.int .u32 m16), (.int .u32 m17), (.int .u32 m18), (.int .u32 m19), (.slice m20 m21 m22), (.int .u64 m23)] 211) (fun b0 h1 =>
  sha_Hash_Write.c (some ((⟨b0, 0, none⟩ : Addr).add 0)) s0 (fun h2 =>
  sha_Hash_Sum.c (some ((⟨b0, 0, none⟩ : Addr).add 0)) (fun x0 h3 =>
  sha_Hash_Write.c (some ((⟨b0, 0, none⟩ : Addr).add 10)) x0 (fun h4 =>
  sha_Hash_Sum.c (some ((⟨b0, 0, none⟩ : Addr).add 10)) K E h4) E h3) E h2) E h1) h0
structure seal_mac_code.c (m0 : Int) (m1 : Int) (m2 : Int) (m3 : Int) (m4 : Int) (m5 : Int) (m6 : Int) (m7 : Int) (m8 : Option Addr) (m9 : Nat) (m10 : Nat) (m11 : Int) (m12 : Int) (m13 : Int) (m14 : Int) (m15 : Int) (m16 : Int) (m17 : Int) (m18 : Int) (m19 : Int) (m20 : Option Addr) (m21 : Nat) (m22 : Nat) (m23 : Int) (s0 : ByteArray) (K : ByteArray → Heap → Prop) (E : Value → Heap → Prop) (H : Heap) : Prop where
  h : seal_mac_code.vc m0 m1 m2 m3 m4 m5 m6 m7 m8 m9 m10 m11 m12 m13 m14 m15 m16 m17 m18 m19 m20 m21 m22 m23 s0 (fun r0_0 H => ∃ H', Heap.Le H' H ∧ K r0_0 H') E H
def seal_mac_code.F : FT := fun args K E H => match args with
  | [(.agg ⟨[(.int .u32 m0), (.int .u32 m1), (.int .u32 m2), (.int .u32 m3), (.int .u32 m4), (.int .u32 m5), (.int .u32 m6), (.int .u32 m7), (.slice m8 m9 m10), (.int .u64 m11), (.int .u32 m12), (.int .u32 m13), (.int .u32 m14), (.int .u32 m15), (.int .u32 m16), (.int .u32 m17), (.int .u32 m18), (.int .u32 m19), (.slice m20 m21 m22), (.int .u64 m23)]⟩), (.string s0)] => seal_mac_code.c m0 m1 m2 m3 m4 m5 m6 m7 m8 m9 m10 m11 m12 m13 m14 m15 m16 m17 m18 m19 m20 m21 m22 m23 s0 (fun r0_0 H => K (.string r0_0) H) E H
  | _ => False
noncomputable def seal_mac_code.Γ : FuncId → Option FT := Γof [(160, sha_Hash_Write.F), (161, sha_Hash_Sum.F)]
theorem seal_mac_code.hΓ : ∀ f F, seal_mac_code.Γ f = some F → CalleeOk Tryz.prog f F := Γof_ok (List.forall_mem_cons.2 ⟨sha_Hash_Write.ok, List.forall_mem_cons.2 ⟨sha_Hash_Sum.ok, fun _ h => nomatch h⟩⟩)
noncomputable def seal_mac_code.plan : Plan := .go
theorem seal_mac_code.pok : PlanOk Tryz.prog seal_mac_code.plan seal_mac_code.body := by
  have e : PlanOk Tryz.prog seal_mac_code.plan seal_mac_code.body = (True) := by kernel_rfl
  exact e.mpr trivial
theorem seal_mac_code.eq (m0 : Int) (m1 : Int) (m2 : Int) (m3 : Int) (m4 : Int) (m5 : Int) (m6 : Int) (m7 : Int) (m8 : Option Addr) (m9 : Nat) (m10 : Nat) (m11 : Int) (m12 : Int) (m13 : Int) (m14 : Int) (m15 : Int) (m16 : Int) (m17 : Int) (m18 : Int) (m19 : Int) (m20 : Option Addr) (m21 : Nat) (m22 : Nat) (m23 : Int) (s0 : ByteArray) (K : Value → Heap → Prop) (E : Value → Heap → Prop) (H : Heap) :
    fnT Tryz.prog Tryz.f195 (wC Tryz.prog seal_mac_code.Γ seal_mac_code.plan seal_mac_code.body) [(.agg #[(.int .u32 m0), (.int .u32 m1), (.int .u32 m2), (.int .u32 m3), (.int .u32 m4), (.int .u32 m5), (.int .u32 m6), (.int .u32 m7), (.slice m8 m9 m10), (.int .u64 m11), (.int .u32 m12), (.int .u32 m13), (.int .u32 m14), (.int .u32 m15), (.int .u32 m16), (.int .u32 m17), (.int .u32 m18), (.int .u32 m19), (.slice m20 m21 m22), (.int .u64 m23)]), (.string s0)] K E H = seal_mac_code.vc m0 m1 m2 m3 m4 m5 m6 m7 m8 m9 m10 m11 m12 m13 m14 m15 m16 m17 m18 m19 m20 m21 m22 m23 s0 (fun r0_0 H => K (.string r0_0) H) E H := by
  kernel_rfl
theorem seal_mac_code.Fe {args : List Value} {K E : Value → Heap → Prop} {H : Heap} (h : seal_mac_code.F args K E H) : ∃ m0 m1 m2 m3 m4 m5 m6 m7 m8 m9 m10 m11 m12 m13 m14 m15 m16 m17 m18 m19 m20 m21 m22 m23 s0, args = [(.agg #[(.int .u32 m0), (.int .u32 m1), (.int .u32 m2), (.int .u32 m3), (.int .u32 m4), (.int .u32 m5), (.int .u32 m6), (.int .u32 m7), (.slice m8 m9 m10), (.int .u64 m11), (.int .u32 m12), (.int .u32 m13), (.int .u32 m14), (.int .u32 m15), (.int .u32 m16), (.int .u32 m17), (.int .u32 m18), (.int .u32 m19), (.slice m20 m21 m22), (.int .u64 m23)]), (.string s0)] ∧ seal_mac_code.c m0 m1 m2 m3 m4 m5 m6 m7 m8 m9 m10 m11 m12 m13 m14 m15 m16 m17 m18 m19 m20 m21 m22 m23 s0 (fun r0_0 H => K (.string r0_0) H) E H := by
  unfold seal_mac_code.F at h
  split at h
  · exact ⟨_, _, _, _, _, _, _, _, _, _, _, _, _, _, _, _, _, _, _, _, _, _, _, _, _, rfl, h⟩
  · exact h.elim
theorem seal_mac_code.ok : CalleeOk Tryz.prog 195 seal_mac_code.F :=
  callee_ok seal_mac_code.hΓ (fn := Tryz.f195) (c := seal_mac_code.body) (T := wC Tryz.prog seal_mac_code.Γ seal_mac_code.plan seal_mac_code.body) (by kernel_rfl) (by kernel_rfl) (by kernel_rfl) (wC_sound seal_mac_code.hΓ Tryz.hm seal_mac_code.plan _ seal_mac_code.pok) fun _ K E H h => by
    obtain ⟨z0, z1, z2, z3, z4, z5, z6, z7, z8, z9, z10, z11, z12, z13, z14, z15, z16, z17, z18, z19, z20, z21, z22, z23, z24, e, h⟩ := seal_mac_code.Fe h
    subst e
    have h2 : seal_mac_code.vc z0 z1 z2 z3 z4 z5 z6 z7 z8 z9 z10 z11 z12 z13 z14 z15 z16 z17 z18 z19 z20 z21 z22 z23 z24 (fun r0_0 H => ∃ H', Heap.Le H' H ∧ K (.string r0_0) H') E H := h.h
    rw [seal_mac_code.eq z0 z1 z2 z3 z4 z5 z6 z7 z8 z9 z10 z11 z12 z13 z14 z15 z16 z17 z18 z19 z20 z21 z22 z23 z24 (Fg K) E H]
    exact h2

/-! (*vizard/seal.Key).mark -/
noncomputable def seal_Key_mark.body : Code := Tryz.f156.body.getD .skip
def seal_Key_mark.vc (k0 : Option Addr) (number0 : Int) (head0 : ByteArray) (hidden0 : ByteArray) (K : ByteArray → Heap → Prop) (E : Value → Heap → Prop) (h0 : Heap) : Prop :=
  seal_Key_parts.c k0 (fun h1 =>
  nilc k0 fun a0 =>
  ldI h1 .u32 ((a0.add 24).add 0) fun x0 => ldI h1 .u32 ((a0.add 24).add 1) fun x1 => ldI h1 .u32 ((a0.add 24).add 2) fun x2 => ldI h1 .u32 ((a0.add 24).add 3) fun x3 => ldI h1 .u32 ((a0.add 24).add 4) fun x4 => ldI h1 .u32 ((a0.add 24).add 5) fun x5 => ldI h1 .u32 ((a0.add 24).add 6) fun x6 => ldI h1 .u32 ((a0.add 24).add 7) fun x7 => ldSl h1 ((a0.add 24).add 8) fun x8 x9 x10 => ldI h1 .u64 ((a0.add 24).add 9) fun x11 => ldI h1 .u32 ((a0.add 24).add 10) fun x12 => ldI h1 .u32 ((a0.add 24).add 11) fun x13 => ldI h1 .u32 ((a0.add 24).add 12) fun x14 => ldI h1 .u32 ((a0.add 24).add 13) fun x15 => ldI h1 .u32 ((a0.add 24).add 14) fun x16 => ldI h1 .u32 ((a0.add 24).add 15) fun x17 => ldI h1 .u32 ((a0.add 24).add 16) fun x18 => ldI h1 .u32 ((a0.add 24).add 17) fun x19 => ldSl h1 ((a0.add 24).add 18) fun x20 x21 x22 => ldI h1 .u64 ((a0.add 24).add 19) fun x23 =>
  seal_bytes.c (IntKind.u64.wrap number0) 8 (fun x24 h2 =>
  (ldI h2 .u32 ((a0.add 24).add 0) fun x25 => ldI h2 .u32 ((a0.add 24).add 1) fun x26 => ldI h2 .u32 ((a0.add 24).add 2) fun x27 => ldI h2 .u32 ((a0.add 24).add 3) fun x28 => ldI h2 .u32 ((a0.add 24).add 4) fun x29 => ldI h2 .u32 ((a0.add 24).add 5) fun x30 => ldI h2 .u32 ((a0.add 24).add 6) fun x31 => ldI h2 .u32 ((a0.add 24).add 7) fun x32 => ldSl h2 ((a0.add 24).add 8) fun x33 x34 x35 => ldI h2 .u64 ((a0.add 24).add 9) fun x36 => ldI h2 .u32 ((a0.add 24).add 10) fun x37 => ldI h2 .u32 ((a0.add 24).add 11) fun x38 => ldI h2 .u32 ((a0.add 24).add 12) fun x39 => ldI h2 .u32 ((a0.add 24).add 13) fun x40 => ldI h2 .u32 ((a0.add 24).add 14) fun x41 => ldI h2 .u32 ((a0.add 24).add 15) fun x42 => ldI h2 .u32 ((a0.add 24).add 16) fun x43 => ldI h2 .u32 ((a0.add 24).add 17) fun x44 => ldSl h2 ((a0.add 24).add 18) fun x45 x46 x47 => ldI h2 .u64 ((a0.add 24).add 19) fun x48 =>
  eqv h2 h2 (some (.agg #[(.int .u32 x0), (.int .u32 x1), (.int .u32 x2), (.int .u32 x3), (.int .u32 x4), (.int .u32 x5), (.int .u32 x6), (.int .u32 x7), (.slice x8 x9 x10), (.int .u64 x11), (.int .u32 x12), (.int .u32 x13), (.int .u32 x14), (.int .u32 x15), (.int .u32 x16), (.int .u32 x17), (.int .u32 x18), (.int .u32 x19), (.slice x20 x21 x22), (.int .u64 x23)])) (.agg #[(.int .u32 x25), (.int .u32 x26), (.int .u32 x27), (.int .u32 x28), (.int .u32 x29), (.int .u32 x30), (.int .u32 x31), (.int .u32 x32), (.slice x33 x34 x35), (.int .u64 x36), (.int .u32 x37), (.int .u32 x38), (.int .u32 x39), (.int .u32 x40), (.int .u32 x41), (.int .u32 x42), (.int .u32 x43), (.int .u32 x44), (.slice x45 x46 x47), (.int .u64 x48)])) ∧
  varint_Text.c head0 (fun x49 h3 =>
  (ldI h3 .u32 ((a0.add 24).add 0) fun x50 => ldI h3 .u32 ((a0.add 24).add 1) fun x51 => ldI h3 .u32 ((a0.add 24).add 2) fun x52 => ldI h3 .u32 ((a0.add 24).add 3) fun x53 => ldI h3 .u32 ((a0.add 24).add 4) fun x54 => ldI h3 .u32 ((a0.add 24).add 5) fun x55 => ldI h3 .u32 ((a0.add 24).add 6) fun x56 => ldI h3 .u32 ((a0.add 24).add 7) fun x57 => ldSl h3 ((a0.add 24).add 8) fun x58 x59 x60 => ldI h3 .u64 ((a0.add 24).add 9) fun x61 => ldI h3 .u32 ((a0.add 24).add 10) fun x62 => ldI h3 .u32 ((a0.add 24).add 11) fun x63 => ldI h3 .u32 ((a0.add 24).add 12) fun x64 => ldI h3 .u32 ((a0.add 24).add 13) fun x65 => ldI h3 .u32 ((a0.add 24).add 14) fun x66 => ldI h3 .u32 ((a0.add 24).add 15) fun x67 => ldI h3 .u32 ((a0.add 24).add 16) fun x68 => ldI h3 .u32 ((a0.add 24).add 17) fun x69 => ldSl h3 ((a0.add 24).add 18) fun x70 x71 x72 => ldI h3 .u64 ((a0.add 24).add 19) fun x73 =>
  eqv h3 h3 (some (.agg #[(.int .u32 x0), (.int .u32 x1), (.int .u32 x2), (.int .u32 x3), (.int .u32 x4), (.int .u32 x5), (.int .u32 x6), (.int .u32 x7), (.slice x8 x9 x10), (.int .u64 x11), (.int .u32 x12), (.int .u32 x13), (.int .u32 x14), (.int .u32 x15), (.int .u32 x16), (.int .u32 x17), (.int .u32 x18), (.int .u32 x19), (.slice x20 x21 x22), (.int .u64 x23)])) (.agg #[(.int .u32 x50), (.int .u32 x51), (.int .u32 x52), (.int .u32 x53), (.int .u32 x54), (.int .u32 x55), (.int .u32 x56), (.int .u32 x57), (.slice x58 x59 x60), (.int .u64 x61), (.int .u32 x62), (.int .u32 x63), (.int .u32 x64), (.int .u32 x65), (.int .u32 x66), (.int .u32 x67), (.int .u32 x68), (.int .u32 x69), (.slice x70 x71 x72), (.int .u64 x73)])) ∧
  x24.size + x49.size ≤ 9223372036854775807 ∧
  (x24 ++ x49).size + hidden0.size ≤ 9223372036854775807 ∧
  seal_mac_code.c x0 x1 x2 x3 x4 x5 x6 x7 x8 x9 x10 x11 x12 x13 x14 x15 x16 x17 x18 x19 x20 x21 x22 x23 ((x24 ++ x49) ++ hidden0) (fun x74 h4 =>
  (0 : Int) ≤ 16 ∧ 16 ≤ (x74.size : Int) ∧
  K (x74.extract 0 16) h4) E h3) E h2) E h1) E h0
structure seal_Key_mark.c (k0 : Option Addr) (number0 : Int) (head0 : ByteArray) (hidden0 : ByteArray) (K : ByteArray → Heap → Prop) (E : Value → Heap → Prop) (H : Heap) : Prop where
  h : seal_Key_mark.vc k0 number0 head0 hidden0 (fun r0_0 H => ∃ H', Heap.Le H' H ∧ K r0_0 H') E H
def seal_Key_mark.F : FT := fun args K E H => match args with
  | [(.pointer k0), (.int .i64 number0), (.string head0), (.string hidden0)] => seal_Key_mark.c k0 number0 head0 hidden0 (fun r0_0 H => K (.string r0_0) H) E H
  | _ => False
noncomputable def seal_Key_mark.Γ : FuncId → Option FT := Γof [(67, varint_Text.F), (194, seal_Key_parts.F), (195, seal_mac_code.F), (196, seal_bytes.F)]
theorem seal_Key_mark.hΓ : ∀ f F, seal_Key_mark.Γ f = some F → CalleeOk Tryz.prog f F := Γof_ok (List.forall_mem_cons.2 ⟨varint_Text.ok, List.forall_mem_cons.2 ⟨seal_Key_parts.ok, List.forall_mem_cons.2 ⟨seal_mac_code.ok, List.forall_mem_cons.2 ⟨seal_bytes.ok, fun _ h => nomatch h⟩⟩⟩⟩)
noncomputable def seal_Key_mark.plan : Plan := .seq (.go) (.seq (.go) (.seq (.draw ⟨[0, 1, 2, 3, 4, 5, 6, 7, 8, 9, 10, 11, 12, 13], (dl [(0, []), (1, []), (2, []), (3, []), (4, []), (5, []), (7, []), (10, []), (6, [5, 4]), (8, [7, 6, 5, 4]), (9, []), (11, []), (12, [3, 11, 8, 2, 9, 10, 7, 6, 1, 5, 0, 4]), (13, [])] .fin), [14]⟩) (.go)))
theorem seal_Key_mark.pok : PlanOk Tryz.prog seal_Key_mark.plan seal_Key_mark.body := by
  have e : PlanOk Tryz.prog seal_Key_mark.plan seal_Key_mark.body = ((True) ∧ ((True) ∧ ((True) ∧ (True)))) := by kernel_rfl
  exact e.mpr ⟨trivial, ⟨trivial, ⟨trivial, trivial⟩⟩⟩
theorem seal_Key_mark.eq (k0 : Option Addr) (number0 : Int) (head0 : ByteArray) (hidden0 : ByteArray) (K : Value → Heap → Prop) (E : Value → Heap → Prop) (H : Heap) :
    fnT Tryz.prog Tryz.f156 (wC Tryz.prog seal_Key_mark.Γ seal_Key_mark.plan seal_Key_mark.body) [(.pointer k0), (.int .i64 number0), (.string head0), (.string hidden0)] K E H = seal_Key_mark.vc k0 number0 head0 hidden0 (fun r0_0 H => K (.string r0_0) H) E H := by
  kernel_rfl
theorem seal_Key_mark.Fe {args : List Value} {K E : Value → Heap → Prop} {H : Heap} (h : seal_Key_mark.F args K E H) : ∃ k0 number0 head0 hidden0, args = [(.pointer k0), (.int .i64 number0), (.string head0), (.string hidden0)] ∧ seal_Key_mark.c k0 number0 head0 hidden0 (fun r0_0 H => K (.string r0_0) H) E H := by
  unfold seal_Key_mark.F at h
  split at h
  · exact ⟨_, _, _, _, rfl, h⟩
  · exact h.elim
theorem seal_Key_mark.ok : CalleeOk Tryz.prog 156 seal_Key_mark.F :=
  callee_ok seal_Key_mark.hΓ (fn := Tryz.f156) (c := seal_Key_mark.body) (T := wC Tryz.prog seal_Key_mark.Γ seal_Key_mark.plan seal_Key_mark.body) (by kernel_rfl) (by kernel_rfl) (by kernel_rfl) (wC_sound seal_Key_mark.hΓ Tryz.hm seal_Key_mark.plan _ seal_Key_mark.pok) fun _ K E H h => by
    obtain ⟨z0, z1, z2, z3, e, h⟩ := seal_Key_mark.Fe h
    subst e
    have h2 : seal_Key_mark.vc z0 z1 z2 z3 (fun r0_0 H => ∃ H', Heap.Le H' H ∧ K (.string r0_0) H') E H := h.h
    rw [seal_Key_mark.eq z0 z1 z2 z3 (Fg K) E H]
    exact h2

/-! (*sync/atomic.Int64).Add -/
noncomputable def sync_atomic_Int64_Add.body : Code := Tryz.f157.body.getD .skip
def sync_atomic_Int64_Add.vc (x0 : Option Addr) (delta0 : Int) (K : Int → Heap → Prop) (E : Value → Heap → Prop) (h0 : Heap) : Prop :=
  nilc x0 fun a0 =>
  sync_atomic_AddInt64.c (some (a0.add 0)) delta0 K E h0
structure sync_atomic_Int64_Add.c (x0 : Option Addr) (delta0 : Int) (K : Int → Heap → Prop) (E : Value → Heap → Prop) (H : Heap) : Prop where
  h : sync_atomic_Int64_Add.vc x0 delta0 (fun r0_0 H => ∃ H', Heap.Le H' H ∧ K r0_0 H') E H
def sync_atomic_Int64_Add.F : FT := fun args K E H => match args with
  | [(.pointer x0), (.int .i64 delta0)] => sync_atomic_Int64_Add.c x0 delta0 (fun r0_0 H => K (.int .i64 r0_0) H) E H
  | _ => False
noncomputable def sync_atomic_Int64_Add.Γ : FuncId → Option FT := Γof [(197, sync_atomic_AddInt64.F)]
theorem sync_atomic_Int64_Add.hΓ : ∀ f F, sync_atomic_Int64_Add.Γ f = some F → CalleeOk Tryz.prog f F := Γof_ok (List.forall_mem_cons.2 ⟨sync_atomic_AddInt64.ok, fun _ h => nomatch h⟩)
noncomputable def sync_atomic_Int64_Add.plan : Plan := .go
theorem sync_atomic_Int64_Add.pok : PlanOk Tryz.prog sync_atomic_Int64_Add.plan sync_atomic_Int64_Add.body := by
  have e : PlanOk Tryz.prog sync_atomic_Int64_Add.plan sync_atomic_Int64_Add.body = (True) := by kernel_rfl
  exact e.mpr trivial
theorem sync_atomic_Int64_Add.eq (x0 : Option Addr) (delta0 : Int) (K : Value → Heap → Prop) (E : Value → Heap → Prop) (H : Heap) :
    fnT Tryz.prog Tryz.f157 (wC Tryz.prog sync_atomic_Int64_Add.Γ sync_atomic_Int64_Add.plan sync_atomic_Int64_Add.body) [(.pointer x0), (.int .i64 delta0)] K E H = sync_atomic_Int64_Add.vc x0 delta0 (fun r0_0 H => K (.int .i64 r0_0) H) E H := by
  kernel_rfl
theorem sync_atomic_Int64_Add.Fe {args : List Value} {K E : Value → Heap → Prop} {H : Heap} (h : sync_atomic_Int64_Add.F args K E H) : ∃ x0 delta0, args = [(.pointer x0), (.int .i64 delta0)] ∧ sync_atomic_Int64_Add.c x0 delta0 (fun r0_0 H => K (.int .i64 r0_0) H) E H := by
  unfold sync_atomic_Int64_Add.F at h
  split at h
  · exact ⟨_, _, rfl, h⟩
  · exact h.elim
theorem sync_atomic_Int64_Add.ok : CalleeOk Tryz.prog 157 sync_atomic_Int64_Add.F :=
  callee_ok sync_atomic_Int64_Add.hΓ (fn := Tryz.f157) (c := sync_atomic_Int64_Add.body) (T := wC Tryz.prog sync_atomic_Int64_Add.Γ sync_atomic_Int64_Add.plan sync_atomic_Int64_Add.body) (by kernel_rfl) (by kernel_rfl) (by kernel_rfl) (wC_sound sync_atomic_Int64_Add.hΓ Tryz.hm sync_atomic_Int64_Add.plan _ sync_atomic_Int64_Add.pok) fun _ K E H h => by
    obtain ⟨z0, z1, e, h⟩ := sync_atomic_Int64_Add.Fe h
    subst e
    have h2 : sync_atomic_Int64_Add.vc z0 z1 (fun r0_0 H => ∃ H', Heap.Le H' H ∧ K (.int .i64 r0_0) H') E H := h.h
    rw [sync_atomic_Int64_Add.eq z0 z1 (Fg K) E H]
    exact h2

/-! (*vizard/seal.Key).hide -/
noncomputable def seal_Key_hide.body : Code := Tryz.f158.body.getD .skip
def seal_Key_hide.W2.vc (k0 : Option Addr) (number0 : Int) (b0 : Option Addr) (b1 : Nat) (b2 : Nat) (i0 : Int) (stream0 : ByteArray) (x0 : Int) (x1 : Int) (Kx2 : Heap → Prop) (RR : Int → Heap → Prop) (E : Value → Heap → Prop) (h0 : Heap) : Prop :=
  (if (decide (x1 < x0)) = true then
  nilc b0 fun a0 => (0 : Int) ≤ (IntKind.i64.wrap (i0 + x1)) ∧ (IntKind.i64.wrap (i0 + x1)) < (b1 : Int) ∧
  ldI h0 .u8 (a0.add ((IntKind.i64.wrap (i0 + x1)).toNat * 1)) fun x2 =>
  (0 : Int) ≤ x1 ∧ x1 < (stream0.size : Int) ∧
  nilc b0 fun a1 => (0 : Int) ≤ (IntKind.i64.wrap (i0 + x1)) ∧ (IntKind.i64.wrap (i0 + x1)) < (b1 : Int) ∧
  stc h0 (a1.add ((IntKind.i64.wrap (i0 + x1)).toNat * 1)) (.int .u8 (bits .xor .u8 x2 (bt stream0 x1))) fun h1 =>
  RR (IntKind.i64.wrap (x1 + 1)) h1
  else
  Kx2 h0)
structure seal_Key_hide.W2 (k0 : Option Addr) (number0 : Int) (b0 : Option Addr) (b1 : Nat) (b2 : Nat) (i0 : Int) (stream0 : ByteArray) (x0 : Int) (x1 : Int) (Kx2 : Heap → Prop) (E : Value → Heap → Prop) (H : Heap) : Prop where
  h : Loop (fun (RR : Int → Heap → Prop) (s : Int) (H : Heap) => seal_Key_hide.W2.vc k0 number0 b0 b1 b2 i0 stream0 x0 s Kx2 (fun x1 H => RR (x1) H) E H) (x1) H
def seal_Key_hide.W1.vc (k0 : Option Addr) (number0 : Int) (b0 : Option Addr) (b1 : Nat) (b2 : Nat) (i0 : Int) (Kx0 : Heap → Prop) (RR : Int → Heap → Prop) (E : Value → Heap → Prop) (h0 : Heap) : Prop :=
  (if (decide (i0 < (b1 : Int))) = true then
  nilc k0 fun a0 =>
  ldI h0 .u32 ((a0.add 4).add 0) fun x0 => ldI h0 .u32 ((a0.add 4).add 1) fun x1 => ldI h0 .u32 ((a0.add 4).add 2) fun x2 => ldI h0 .u32 ((a0.add 4).add 3) fun x3 => ldI h0 .u32 ((a0.add 4).add 4) fun x4 => ldI h0 .u32 ((a0.add 4).add 5) fun x5 => ldI h0 .u32 ((a0.add 4).add 6) fun x6 => ldI h0 .u32 ((a0.add 4).add 7) fun x7 => ldSl h0 ((a0.add 4).add 8) fun x8 x9 x10 => ldI h0 .u64 ((a0.add 4).add 9) fun x11 => ldI h0 .u32 ((a0.add 4).add 10) fun x12 => ldI h0 .u32 ((a0.add 4).add 11) fun x13 => ldI h0 .u32 ((a0.add 4).add 12) fun x14 => ldI h0 .u32 ((a0.add 4).add 13) fun x15 => ldI h0 .u32 ((a0.add 4).add 14) fun x16 => ldI h0 .u32 ((a0.add 4).add 15) fun x17 => ldI h0 .u32 ((a0.add 4).add 16) fun x18 => ldI h0 .u32 ((a0.add 4).add 17) fun x19 => ldSl h0 ((a0.add 4).add 18) fun x20 x21 x22 => ldI h0 .u64 ((a0.add 4).add 19) fun x23 =>
  32 ≠ (0 : Int) ∧
  seal_bytes.c (IntKind.u64.wrap number0) 8 (fun x24 h1 =>
  (eqv h1 h1 (some (.int .u64 (IntKind.u64.wrap (IntKind.i64.wrap (Int.tdiv i0 32))))) (.int .u64 (IntKind.u64.wrap (IntKind.i64.wrap (Int.tdiv i0 32))))) ∧
  (ldI h1 .u32 ((a0.add 4).add 0) fun x25 => ldI h1 .u32 ((a0.add 4).add 1) fun x26 => ldI h1 .u32 ((a0.add 4).add 2) fun x27 => ldI h1 .u32 ((a0.add 4).add 3) fun x28 => ldI h1 .u32 ((a0.add 4).add 4) fun x29 => ldI h1 .u32 ((a0.add 4).add 5) fun x30 => ldI h1 .u32 ((a0.add 4).add 6) fun x31 => ldI h1 .u32 ((a0.add 4).add 7) fun x32 => ldSl h1 ((a0.add 4).add 8) fun x33 x34 x35 => ldI h1 .u64 ((a0.add 4).add 9) fun x36 => ldI h1 .u32 ((a0.add 4).add 10) fun x37 => ldI h1 .u32 ((a0.add 4).add 11) fun x38 => ldI h1 .u32 ((a0.add 4).add 12) fun x39 => ldI h1 .u32 ((a0.add 4).add 13) fun x40 => ldI h1 .u32 ((a0.add 4).add 14) fun x41 => ldI h1 .u32 ((a0.add 4).add 15) fun x42 => ldI h1 .u32 ((a0.add 4).add 16) fun x43 => ldI h1 .u32 ((a0.add 4).add 17) fun x44 => ldSl h1 ((a0.add 4).add 18) fun x45 x46 x47 => ldI h1 .u64 ((a0.add 4).add 19) fun x48 =>
  eqv h1 h1 (some (.agg #[(.int .u32 x0), (.int .u32 x1), (.int .u32 x2), (.int .u32 x3), (.int .u32 x4), (.int .u32 x5), (.int .u32 x6), (.int .u32 x7), (.slice x8 x9 x10), (.int .u64 x11), (.int .u32 x12), (.int .u32 x13), (.int .u32 x14), (.int .u32 x15), (.int .u32 x16), (.int .u32 x17), (.int .u32 x18), (.int .u32 x19), (.slice x20 x21 x22), (.int .u64 x23)])) (.agg #[(.int .u32 x25), (.int .u32 x26), (.int .u32 x27), (.int .u32 x28), (.int .u32 x29), (.int .u32 x30), (.int .u32 x31), (.int .u32 x32), (.slice x33 x34 x35), (.int .u64 x36), (.int .u32 x37), (.int .u32 x38), (.int .u32 x39), (.int .u32 x40), (.int .u32 x41), (.int .u32 x42), (.int .u32 x43), (.int .u32 x44), (.slice x45 x46 x47), (.int .u64 x48)])) ∧
  seal_bytes.c (IntKind.u64.wrap (IntKind.i64.wrap (Int.tdiv i0 32))) 4 (fun x49 h2 =>
  (ldI h2 .u32 ((a0.add 4).add 0) fun x50 => ldI h2 .u32 ((a0.add 4).add 1) fun x51 => ldI h2 .u32 ((a0.add 4).add 2) fun x52 => ldI h2 .u32 ((a0.add 4).add 3) fun x53 => ldI h2 .u32 ((a0.add 4).add 4) fun x54 => ldI h2 .u32 ((a0.add 4).add 5) fun x55 => ldI h2 .u32 ((a0.add 4).add 6) fun x56 => ldI h2 .u32 ((a0.add 4).add 7) fun x57 => ldSl h2 ((a0.add 4).add 8) fun x58 x59 x60 => ldI h2 .u64 ((a0.add 4).add 9) fun x61 => ldI h2 .u32 ((a0.add 4).add 10) fun x62 => ldI h2 .u32 ((a0.add 4).add 11) fun x63 => ldI h2 .u32 ((a0.add 4).add 12) fun x64 => ldI h2 .u32 ((a0.add 4).add 13) fun x65 => ldI h2 .u32 ((a0.add 4).add 14) fun x66 => ldI h2 .u32 ((a0.add 4).add 15) fun x67 => ldI h2 .u32 ((a0.add 4).add 16) fun x68 => ldI h2 .u32 ((a0.add 4).add 17) fun x69 => ldSl h2 ((a0.add 4).add 18) fun x70 x71 x72 => ldI h2 .u64 ((a0.add 4).add 19) fun x73 =>
  eqv h2 h2 (some (.agg #[(.int .u32 x0), (.int .u32 x1), (.int .u32 x2), (.int .u32 x3), (.int .u32 x4), (.int .u32 x5), (.int .u32 x6), (.int .u32 x7), (.slice x8 x9 x10), (.int .u64 x11), (.int .u32 x12), (.int .u32 x13), (.int .u32 x14), (.int .u32 x15), (.int .u32 x16), (.int .u32 x17), (.int .u32 x18), (.int .u32 x19), (.slice x20 x21 x22), (.int .u64 x23)])) (.agg #[(.int .u32 x50), (.int .u32 x51), (.int .u32 x52), (.int .u32 x53), (.int .u32 x54), (.int .u32 x55), (.int .u32 x56), (.int .u32 x57), (.slice x58 x59 x60), (.int .u64 x61), (.int .u32 x62), (.int .u32 x63), (.int .u32 x64), (.int .u32 x65), (.int .u32 x66), (.int .u32 x67), (.int .u32 x68), (.int .u32 x69), (.slice x70 x71 x72), (.int .u64 x73)])) ∧
  x24.size + x49.size ≤ 9223372036854775807 ∧
  seal_mac_code.c x0 x1 x2 x3 x4 x5 x6 x7 x8 x9 x10 x11 x12 x13 x14 x15 x16 x17 x18 x19 x20 x21 x22 x23 (x24 ++ x49) (fun x74 h3 =>
  seal_Key_hide.W2 k0 number0 b0 b1 b2 i0 x74 (if (IntKind.i64.wrap ((b1 : Int) - i0)) < 32 then (IntKind.i64.wrap ((b1 : Int) - i0)) else 32) 0 (fun h4 =>
  RR (IntKind.i64.wrap (i0 + 32)) h4) E h3) E h2) E h1) E h0
  else
  Kx0 h0)
structure seal_Key_hide.W1 (k0 : Option Addr) (number0 : Int) (b0 : Option Addr) (b1 : Nat) (b2 : Nat) (i0 : Int) (Kx0 : Heap → Prop) (E : Value → Heap → Prop) (H : Heap) : Prop where
  h : Loop (fun (RR : Int → Heap → Prop) (s : Int) (H : Heap) => seal_Key_hide.W1.vc k0 number0 b0 b1 b2 s Kx0 (fun i0 H => RR (i0) H) E H) (i0) H
def seal_Key_hide.vc (k0 : Option Addr) (number0 : Int) (data0 : ByteArray) (K : ByteArray → Heap → Prop) (E : Value → Heap → Prop) (h0 : Heap) : Prop :=
  seal_Key_parts.c k0 (fun h1 =>
  ∀ j0, newB (.cells ((byteVals data0).toArray ++ Array.replicate j0 (.int .u8 0)) 5 (data0.size + j0, data0.size + j0 + 1)) (fun b0 h2 =>
  seal_Key_hide.W1 k0 number0 (some (⟨b0, 0, none⟩ : Addr)) data0.size (data0.size + j0) 0 (fun h3 =>
  rdBytes h3 (some (⟨b0, 0, none⟩ : Addr)) data0.size fun x0 =>
  K x0 h3) E h2) h1) E h0
structure seal_Key_hide.c (k0 : Option Addr) (number0 : Int) (data0 : ByteArray) (K : ByteArray → Heap → Prop) (E : Value → Heap → Prop) (H : Heap) : Prop where
  h : seal_Key_hide.vc k0 number0 data0 (fun r0_0 H => ∃ H', Heap.Le H' H ∧ K r0_0 H') E H
def seal_Key_hide.F : FT := fun args K E H => match args with
  | [(.pointer k0), (.int .i64 number0), (.string data0)] => seal_Key_hide.c k0 number0 data0 (fun r0_0 H => K (.string r0_0) H) E H
  | _ => False
noncomputable def seal_Key_hide.Γ : FuncId → Option FT := Γof [(194, seal_Key_parts.F), (195, seal_mac_code.F), (196, seal_bytes.F)]
theorem seal_Key_hide.hΓ : ∀ f F, seal_Key_hide.Γ f = some F → CalleeOk Tryz.prog f F := Γof_ok (List.forall_mem_cons.2 ⟨seal_Key_parts.ok, List.forall_mem_cons.2 ⟨seal_mac_code.ok, List.forall_mem_cons.2 ⟨seal_bytes.ok, fun _ h => nomatch h⟩⟩⟩)
def seal_Key_hide.W2.t : CT := fun Q E fr H => lenIs 56 fr (slP fr 0 fun k0 => slI fr 1 .i64 fun number0 => slSl fr 7 fun b0 b1 b2 => slI fr 8 .i64 fun i0 => slS fr 9 fun stream0 => slI fr 38 .i64 fun x0 => slI fr 39 .i64 fun x1 => seal_Key_hide.W2 k0 number0 b0 b1 b2 i0 stream0 x0 x1 (fun  H => Q (.exit 2) (mkF 56 [(0, (.pointer k0)), (1, (.int .i64 number0)), (7, (.slice b0 b1 b2)), (8, (.int .i64 i0))]) H) E H)
noncomputable def seal_Key_hide.W2.plan : Plan := .seq (.go) (.seq (.go) (.seq (.block (.seq (.go) (.draw ⟨[0, 1, 2, 3, 4, 5, 6, 7, 8, 9, 10, 11], (dl [(0, []), (1, []), (2, []), (3, []), (4, []), (5, []), (6, []), (7, []), (8, []), (9, []), (10, []), (11, [10, 9, 0, 1, 2, 3, 4, 5, 6, 7, 8])] .fin), []⟩))) (.go)))
theorem seal_Key_hide.W2.pok : PlanOk Tryz.prog seal_Key_hide.W2.plan (sub [1, 1, 1, 0, 1, 0, 0, 1, 0, 0, 1, 1, 0, 0] seal_Key_hide.body) := by
  have e : PlanOk Tryz.prog seal_Key_hide.W2.plan (sub [1, 1, 1, 0, 1, 0, 0, 1, 0, 0, 1, 1, 0, 0] seal_Key_hide.body) = ((True) ∧ ((True) ∧ (((True) ∧ (True)) ∧ (True)))) := by kernel_rfl
  exact e.mpr ⟨trivial, ⟨trivial, ⟨⟨trivial, trivial⟩, trivial⟩⟩⟩
theorem seal_Key_hide.W2.eq (k0 : Option Addr) (number0 : Int) (b0 : Option Addr) (b1 : Nat) (b2 : Nat) (i0 : Int) (stream0 : ByteArray) (x0 : Int) (Q : Ex → Fr → Heap → Prop) (E : Value → Heap → Prop) (RR : Fr → Heap → Prop) (s : Int) (H : Heap) :
    (fun (RR : Int → Heap → Prop) (s : Int) (H : Heap) => seal_Key_hide.W2.vc k0 number0 b0 b1 b2 i0 stream0 x0 s (fun  H => Q (.exit 2) (mkF 56 [(0, (.pointer k0)), (1, (.int .i64 number0)), (7, (.slice b0 b1 b2)), (8, (.int .i64 i0))]) H) (fun x1 H => RR (x1) H) E H) (fun s' H' => RR ((fun (s : Int) => (mkF 56 [(0, (.pointer k0)), (1, (.int .i64 number0)), (7, (.slice b0 b1 b2)), (8, (.int .i64 i0)), (9, (.string stream0)), (38, (.int .i64 x0)), (39, (.int .i64 s))])) s') H') s H = keepT [0, 1, 7, 8, 9, 38, 39] [] (fun i => if i = 2 then [0, 1, 7, 8] else []) (wC Tryz.prog seal_Key_hide.Γ seal_Key_hide.W2.plan (sub [1, 1, 1, 0, 1, 0, 0, 1, 0, 0, 1, 1, 0, 0] seal_Key_hide.body)) (fun e fr' H' => match e with | .normal => RR fr' H' | .exit id => Q (.exit id) fr' H' | .ret => Q .ret fr' H') E ((fun (s : Int) => (mkF 56 [(0, (.pointer k0)), (1, (.int .i64 number0)), (7, (.slice b0 b1 b2)), (8, (.int .i64 i0)), (9, (.string stream0)), (38, (.int .i64 x0)), (39, (.int .i64 s))])) s) H := by
  kernel_rfl
theorem seal_Key_hide.W2.ok : SoundCode Tryz.prog (sub [1, 1, 1, 0, 1, 0, 0, 1, 0, 0, 1, 1, 0] seal_Key_hide.body) seal_Key_hide.W2.t := by
  have e : (sub [1, 1, 1, 0, 1, 0, 0, 1, 0, 0, 1, 1, 0] seal_Key_hide.body) = .loop (sub [1, 1, 1, 0, 1, 0, 0, 1, 0, 0, 1, 1, 0, 0] seal_Key_hide.body) := by kernel_rfl
  rw [e]
  refine piece_sound (loopN_sound (keepT_sound [0, 1, 7, 8, 9, 38, 39] [] (fun i => if i = 2 then [0, 1, 7, 8] else []) (wC_sound seal_Key_hide.hΓ Tryz.hm seal_Key_hide.W2.plan _ seal_Key_hide.W2.pok))) ?_
  intro Q E fr H h
  unfold seal_Key_hide.W2.t at h
  obtain ⟨hl, h⟩ := lenIs_elim h
  obtain ⟨k0, q0, h⟩ := slP_elim h
  obtain ⟨number0, q1, h⟩ := slI_elim h
  obtain ⟨b0, b1, b2, q7, h⟩ := slSl_elim h
  obtain ⟨i0, q8, h⟩ := slI_elim h
  obtain ⟨stream0, q9, h⟩ := slS_elim h
  obtain ⟨x0, q38, h⟩ := slI_elim h
  obtain ⟨x1, q39, h⟩ := slI_elim h
  obtain ⟨m, h⟩ := h.h
  refine ⟨(mkF 56 [(0, (.pointer k0)), (1, (.int .i64 number0)), (7, (.slice b0 b1 b2)), (8, (.int .i64 i0)), (9, (.string stream0)), (38, (.int .i64 x0)), (39, (.int .i64 x1))]), fun a ha => ha.mk (Nat.le_of_eq hl.symm) (List.forall_mem_cons.2 ⟨q0, List.forall_mem_cons.2 ⟨q1, List.forall_mem_cons.2 ⟨q7, List.forall_mem_cons.2 ⟨q8, List.forall_mem_cons.2 ⟨q9, List.forall_mem_cons.2 ⟨q38, List.forall_mem_cons.2 ⟨q39, fun _ h => nomatch h⟩⟩⟩⟩⟩⟩⟩), m, ?_⟩
  have e := loopS_eq (B := (fun (RR : Int → Heap → Prop) (s : Int) (H : Heap) => seal_Key_hide.W2.vc k0 number0 b0 b1 b2 i0 stream0 x0 s (fun  H => Q (.exit 2) (mkF 56 [(0, (.pointer k0)), (1, (.int .i64 number0)), (7, (.slice b0 b1 b2)), (8, (.int .i64 i0))]) H) (fun x1 H => RR (x1) H) E H)) (A := keepT [0, 1, 7, 8, 9, 38, 39] [] (fun i => if i = 2 then [0, 1, 7, 8] else []) (wC Tryz.prog seal_Key_hide.Γ seal_Key_hide.W2.plan (sub [1, 1, 1, 0, 1, 0, 0, 1, 0, 0, 1, 1, 0, 0] seal_Key_hide.body))) (m := (fun (s : Int) => (mkF 56 [(0, (.pointer k0)), (1, (.int .i64 number0)), (7, (.slice b0 b1 b2)), (8, (.int .i64 i0)), (9, (.string stream0)), (38, (.int .i64 x0)), (39, (.int .i64 s))]))) (Q := Q) (E := E) (fun RR s H => seal_Key_hide.W2.eq k0 number0 b0 b1 b2 i0 stream0 x0 Q E RR s H) m (x1) H
  exact cast e h
def seal_Key_hide.W1.t : CT := fun Q E fr H => lenIs 56 fr (slP fr 0 fun k0 => slI fr 1 .i64 fun number0 => slSl fr 7 fun b0 b1 b2 => slI fr 8 .i64 fun i0 => seal_Key_hide.W1 k0 number0 b0 b1 b2 i0 (fun  H => Q (.exit 0) (mkF 56 [(7, (.slice b0 b1 b2))]) H) E H)
noncomputable def seal_Key_hide.W1.plan : Plan := .seq (.go) (.seq (.block (.seq (.draw ⟨[0, 1, 2, 3, 4, 5, 6, 7, 8, 9, 10, 11, 12], (dl [(0, []), (1, []), (2, []), (3, []), (4, []), (5, []), (7, []), (8, []), (9, []), (6, [5, 4]), (10, [9, 6, 8, 5, 7, 4]), (11, []), (12, [3, 11, 10, 2, 6, 9, 1, 5, 8, 0, 4, 7])] .fin), [13]⟩) (.seq (.go) (.block (.use seal_Key_hide.W2.t))))) (.go))
theorem seal_Key_hide.W1.pok : PlanOk Tryz.prog seal_Key_hide.W1.plan (sub [1, 1, 1, 0, 1, 0, 0] seal_Key_hide.body) := by
  have e : PlanOk Tryz.prog seal_Key_hide.W1.plan (sub [1, 1, 1, 0, 1, 0, 0] seal_Key_hide.body) = ((True) ∧ (((True) ∧ ((True) ∧ (SoundCode Tryz.prog (sub [1, 1, 1, 0, 1, 0, 0, 1, 0, 0, 1, 1, 0] seal_Key_hide.body) seal_Key_hide.W2.t))) ∧ (True))) := by kernel_rfl
  exact e.mpr ⟨trivial, ⟨⟨trivial, ⟨trivial, seal_Key_hide.W2.ok⟩⟩, trivial⟩⟩
theorem seal_Key_hide.W1.eq (k0 : Option Addr) (number0 : Int) (b0 : Option Addr) (b1 : Nat) (b2 : Nat) (Q : Ex → Fr → Heap → Prop) (E : Value → Heap → Prop) (RR : Fr → Heap → Prop) (s : Int) (H : Heap) :
    (fun (RR : Int → Heap → Prop) (s : Int) (H : Heap) => seal_Key_hide.W1.vc k0 number0 b0 b1 b2 s (fun  H => Q (.exit 0) (mkF 56 [(7, (.slice b0 b1 b2))]) H) (fun i0 H => RR (i0) H) E H) (fun s' H' => RR ((fun (s : Int) => (mkF 56 [(0, (.pointer k0)), (1, (.int .i64 number0)), (7, (.slice b0 b1 b2)), (8, (.int .i64 s))])) s') H') s H = keepT [0, 1, 7, 8] [] (fun i => if i = 0 then [7] else []) (wC Tryz.prog seal_Key_hide.Γ seal_Key_hide.W1.plan (sub [1, 1, 1, 0, 1, 0, 0] seal_Key_hide.body)) (fun e fr' H' => match e with | .normal => RR fr' H' | .exit id => Q (.exit id) fr' H' | .ret => Q .ret fr' H') E ((fun (s : Int) => (mkF 56 [(0, (.pointer k0)), (1, (.int .i64 number0)), (7, (.slice b0 b1 b2)), (8, (.int .i64 s))])) s) H := by
  kernel_rfl
theorem seal_Key_hide.W1.ok : SoundCode Tryz.prog (sub [1, 1, 1, 0, 1, 0] seal_Key_hide.body) seal_Key_hide.W1.t := by
  have e : (sub [1, 1, 1, 0, 1, 0] seal_Key_hide.body) = .loop (sub [1, 1, 1, 0, 1, 0, 0] seal_Key_hide.body) := by kernel_rfl
  rw [e]
  refine piece_sound (loopN_sound (keepT_sound [0, 1, 7, 8] [] (fun i => if i = 0 then [7] else []) (wC_sound seal_Key_hide.hΓ Tryz.hm seal_Key_hide.W1.plan _ seal_Key_hide.W1.pok))) ?_
  intro Q E fr H h
  unfold seal_Key_hide.W1.t at h
  obtain ⟨hl, h⟩ := lenIs_elim h
  obtain ⟨k0, q0, h⟩ := slP_elim h
  obtain ⟨number0, q1, h⟩ := slI_elim h
  obtain ⟨b0, b1, b2, q7, h⟩ := slSl_elim h
  obtain ⟨i0, q8, h⟩ := slI_elim h
  obtain ⟨m, h⟩ := h.h
  refine ⟨(mkF 56 [(0, (.pointer k0)), (1, (.int .i64 number0)), (7, (.slice b0 b1 b2)), (8, (.int .i64 i0))]), fun a ha => ha.mk (Nat.le_of_eq hl.symm) (List.forall_mem_cons.2 ⟨q0, List.forall_mem_cons.2 ⟨q1, List.forall_mem_cons.2 ⟨q7, List.forall_mem_cons.2 ⟨q8, fun _ h => nomatch h⟩⟩⟩⟩), m, ?_⟩
  have e := loopS_eq (B := (fun (RR : Int → Heap → Prop) (s : Int) (H : Heap) => seal_Key_hide.W1.vc k0 number0 b0 b1 b2 s (fun  H => Q (.exit 0) (mkF 56 [(7, (.slice b0 b1 b2))]) H) (fun i0 H => RR (i0) H) E H)) (A := keepT [0, 1, 7, 8] [] (fun i => if i = 0 then [7] else []) (wC Tryz.prog seal_Key_hide.Γ seal_Key_hide.W1.plan (sub [1, 1, 1, 0, 1, 0, 0] seal_Key_hide.body))) (m := (fun (s : Int) => (mkF 56 [(0, (.pointer k0)), (1, (.int .i64 number0)), (7, (.slice b0 b1 b2)), (8, (.int .i64 s))]))) (Q := Q) (E := E) (fun RR s H => seal_Key_hide.W1.eq k0 number0 b0 b1 b2 Q E RR s H) m (i0) H
  exact cast e h
noncomputable def seal_Key_hide.plan : Plan := .seq (.go) (.seq (.go) (.seq (.go) (.seq (.seq (.go) (.block (.use seal_Key_hide.W1.t))) (.go))))
theorem seal_Key_hide.pok : PlanOk Tryz.prog seal_Key_hide.plan seal_Key_hide.body := by
  have e : PlanOk Tryz.prog seal_Key_hide.plan seal_Key_hide.body = ((True) ∧ ((True) ∧ ((True) ∧ (((True) ∧ (SoundCode Tryz.prog (sub [1, 1, 1, 0, 1, 0] seal_Key_hide.body) seal_Key_hide.W1.t)) ∧ (True))))) := by kernel_rfl
  exact e.mpr ⟨trivial, ⟨trivial, ⟨trivial, ⟨⟨trivial, seal_Key_hide.W1.ok⟩, trivial⟩⟩⟩⟩
theorem seal_Key_hide.eq (k0 : Option Addr) (number0 : Int) (data0 : ByteArray) (K : Value → Heap → Prop) (E : Value → Heap → Prop) (H : Heap) :
    fnT Tryz.prog Tryz.f158 (wC Tryz.prog seal_Key_hide.Γ seal_Key_hide.plan seal_Key_hide.body) [(.pointer k0), (.int .i64 number0), (.string data0)] K E H = seal_Key_hide.vc k0 number0 data0 (fun r0_0 H => K (.string r0_0) H) E H := by
  kernel_rfl
theorem seal_Key_hide.Fe {args : List Value} {K E : Value → Heap → Prop} {H : Heap} (h : seal_Key_hide.F args K E H) : ∃ k0 number0 data0, args = [(.pointer k0), (.int .i64 number0), (.string data0)] ∧ seal_Key_hide.c k0 number0 data0 (fun r0_0 H => K (.string r0_0) H) E H := by
  unfold seal_Key_hide.F at h
  split at h
  · exact ⟨_, _, _, rfl, h⟩
  · exact h.elim
theorem seal_Key_hide.ok : CalleeOk Tryz.prog 158 seal_Key_hide.F :=
  callee_ok seal_Key_hide.hΓ (fn := Tryz.f158) (c := seal_Key_hide.body) (T := wC Tryz.prog seal_Key_hide.Γ seal_Key_hide.plan seal_Key_hide.body) (by kernel_rfl) (by kernel_rfl) (by kernel_rfl) (wC_sound seal_Key_hide.hΓ Tryz.hm seal_Key_hide.plan _ seal_Key_hide.pok) fun _ K E H h => by
    obtain ⟨z0, z1, z2, e, h⟩ := seal_Key_hide.Fe h
    subst e
    have h2 : seal_Key_hide.vc z0 z1 z2 (fun r0_0 H => ∃ H', Heap.Le H' H ∧ K (.string r0_0) H') E H := h.h
    rw [seal_Key_hide.eq z0 z1 z2 (Fg K) E H]
    exact h2

/-! (*vizard/seal.Key).Open -/
noncomputable def seal_Key_Open.body : Code := Tryz.f116.body.getD .skip
def seal_Key_Open.vc (k0 : Option Addr) (number0 : Int) (head0 : ByteArray) (sealed0 : ByteArray) (K : ByteArray → Int → Heap → Prop) (E : Value → Heap → Prop) (h0 : Heap) : Prop :=
  (if (decide ((IntKind.i64.wrap ((sealed0.size : Int) - 16)) < 0)) = true then
  K (⟨#[]⟩ : ByteArray) 1 h0
  else
  (0 : Int) ≤ (IntKind.i64.wrap ((sealed0.size : Int) - 16)) ∧ (IntKind.i64.wrap ((sealed0.size : Int) - 16)) ≤ (sealed0.size : Int) ∧
  (0 : Int) ≤ (IntKind.i64.wrap ((sealed0.size : Int) - 16)) ∧ (IntKind.i64.wrap ((sealed0.size : Int) - 16)) ≤ (sealed0.size : Int) ∧ sealed0.size ≤ sealed0.size ∧
  seal_Key_mark.c k0 number0 head0 (sealed0.extract 0 (IntKind.i64.wrap ((sealed0.size : Int) - 16)).toNat) (fun x0 h1 =>
  (if (!(x0.toList == (sealed0.extract (IntKind.i64.wrap ((sealed0.size : Int) - 16)).toNat sealed0.size).toList)) = true then
  K (⟨#[]⟩ : ByteArray) 10 h1
  else
  nilc k0 fun a0 =>
  sync_atomic_Int64_Add.c (some (a0.add 45)) 1 (fun x1 h2 =>
  seal_Key_hide.c k0 number0 (sealed0.extract 0 (IntKind.i64.wrap ((sealed0.size : Int) - 16)).toNat) (fun x2 h3 =>
  K x2 0 h3) E h2) E h1)) E h0)
structure seal_Key_Open.c (k0 : Option Addr) (number0 : Int) (head0 : ByteArray) (sealed0 : ByteArray) (K : ByteArray → Int → Heap → Prop) (E : Value → Heap → Prop) (H : Heap) : Prop where
  h : seal_Key_Open.vc k0 number0 head0 sealed0 (fun r0_0 r1_0 H => ∃ H', Heap.Le H' H ∧ K r0_0 r1_0 H') E H
def seal_Key_Open.F : FT := fun args K E H => match args with
  | [(.pointer k0), (.int .i64 number0), (.string head0), (.string sealed0)] => seal_Key_Open.c k0 number0 head0 sealed0 (fun r0_0 r1_0 H => K (.tuple #[(.string r0_0), (.int .i64 r1_0)]) H) E H
  | _ => False
noncomputable def seal_Key_Open.Γ : FuncId → Option FT := Γof [(156, seal_Key_mark.F), (157, sync_atomic_Int64_Add.F), (158, seal_Key_hide.F)]
theorem seal_Key_Open.hΓ : ∀ f F, seal_Key_Open.Γ f = some F → CalleeOk Tryz.prog f F := Γof_ok (List.forall_mem_cons.2 ⟨seal_Key_mark.ok, List.forall_mem_cons.2 ⟨sync_atomic_Int64_Add.ok, List.forall_mem_cons.2 ⟨seal_Key_hide.ok, fun _ h => nomatch h⟩⟩⟩)
noncomputable def seal_Key_Open.plan : Plan := .seq (.go) (.seq (.go) (.seq (.go) (.seq (.go) (.seq (.seq (.draw ⟨[0, 1, 2, 3, 4, 5, 6, 7, 8], (dl [(0, []), (1, []), (2, []), (3, []), (5, []), (6, []), (7, []), (4, [0, 1, 2, 3]), (8, [])] .fin), []⟩) (.go)) (.go)))))
theorem seal_Key_Open.pok : PlanOk Tryz.prog seal_Key_Open.plan seal_Key_Open.body := by
  have e : PlanOk Tryz.prog seal_Key_Open.plan seal_Key_Open.body = ((True) ∧ ((True) ∧ ((True) ∧ ((True) ∧ (((True) ∧ (True)) ∧ (True)))))) := by kernel_rfl
  exact e.mpr ⟨trivial, ⟨trivial, ⟨trivial, ⟨trivial, ⟨⟨trivial, trivial⟩, trivial⟩⟩⟩⟩⟩
theorem seal_Key_Open.eq (k0 : Option Addr) (number0 : Int) (head0 : ByteArray) (sealed0 : ByteArray) (K : Value → Heap → Prop) (E : Value → Heap → Prop) (H : Heap) :
    fnT Tryz.prog Tryz.f116 (wC Tryz.prog seal_Key_Open.Γ seal_Key_Open.plan seal_Key_Open.body) [(.pointer k0), (.int .i64 number0), (.string head0), (.string sealed0)] K E H = seal_Key_Open.vc k0 number0 head0 sealed0 (fun r0_0 r1_0 H => K (.tuple #[(.string r0_0), (.int .i64 r1_0)]) H) E H := by
  kernel_rfl
theorem seal_Key_Open.Fe {args : List Value} {K E : Value → Heap → Prop} {H : Heap} (h : seal_Key_Open.F args K E H) : ∃ k0 number0 head0 sealed0, args = [(.pointer k0), (.int .i64 number0), (.string head0), (.string sealed0)] ∧ seal_Key_Open.c k0 number0 head0 sealed0 (fun r0_0 r1_0 H => K (.tuple #[(.string r0_0), (.int .i64 r1_0)]) H) E H := by
  unfold seal_Key_Open.F at h
  split at h
  · exact ⟨_, _, _, _, rfl, h⟩
  · exact h.elim
theorem seal_Key_Open.ok : CalleeOk Tryz.prog 116 seal_Key_Open.F :=
  callee_ok seal_Key_Open.hΓ (fn := Tryz.f116) (c := seal_Key_Open.body) (T := wC Tryz.prog seal_Key_Open.Γ seal_Key_Open.plan seal_Key_Open.body) (by kernel_rfl) (by kernel_rfl) (by kernel_rfl) (wC_sound seal_Key_Open.hΓ Tryz.hm seal_Key_Open.plan _ seal_Key_Open.pok) fun _ K E H h => by
    obtain ⟨z0, z1, z2, z3, e, h⟩ := seal_Key_Open.Fe h
    subst e
    have h2 : seal_Key_Open.vc z0 z1 z2 z3 (fun r0_0 r1_0 H => ∃ H', Heap.Le H' H ∧ K (.tuple #[(.string r0_0), (.int .i64 r1_0)]) H') E H := h.h
    rw [seal_Key_Open.eq z0 z1 z2 z3 (Fg K) E H]
    exact h2

/-! (*vizard/seal.Key).Seal -/
noncomputable def seal_Key_Seal.body : Code := Tryz.f123.body.getD .skip
def seal_Key_Seal.vc (k0 : Option Addr) (number0 : Int) (head0 : ByteArray) (data0 : ByteArray) (K : ByteArray → Heap → Prop) (E : Value → Heap → Prop) (h0 : Heap) : Prop :=
  nilc k0 fun a0 =>
  sync_atomic_Int64_Add.c (some (a0.add 44)) 1 (fun x0 h1 =>
  seal_Key_hide.c k0 number0 data0 (fun x1 h2 =>
  seal_Key_mark.c k0 number0 head0 x1 (fun x2 h3 =>
  x1.size + x2.size ≤ 9223372036854775807 ∧
  K (x1 ++ x2) h3) E h2) E h1) E h0
structure seal_Key_Seal.c (k0 : Option Addr) (number0 : Int) (head0 : ByteArray) (data0 : ByteArray) (K : ByteArray → Heap → Prop) (E : Value → Heap → Prop) (H : Heap) : Prop where
  h : seal_Key_Seal.vc k0 number0 head0 data0 (fun r0_0 H => ∃ H', Heap.Le H' H ∧ K r0_0 H') E H
def seal_Key_Seal.F : FT := fun args K E H => match args with
  | [(.pointer k0), (.int .i64 number0), (.string head0), (.string data0)] => seal_Key_Seal.c k0 number0 head0 data0 (fun r0_0 H => K (.string r0_0) H) E H
  | _ => False
noncomputable def seal_Key_Seal.Γ : FuncId → Option FT := Γof [(156, seal_Key_mark.F), (157, sync_atomic_Int64_Add.F), (158, seal_Key_hide.F)]
theorem seal_Key_Seal.hΓ : ∀ f F, seal_Key_Seal.Γ f = some F → CalleeOk Tryz.prog f F := Γof_ok (List.forall_mem_cons.2 ⟨seal_Key_mark.ok, List.forall_mem_cons.2 ⟨sync_atomic_Int64_Add.ok, List.forall_mem_cons.2 ⟨seal_Key_hide.ok, fun _ h => nomatch h⟩⟩⟩)
noncomputable def seal_Key_Seal.plan : Plan := .go
theorem seal_Key_Seal.pok : PlanOk Tryz.prog seal_Key_Seal.plan seal_Key_Seal.body := by
  have e : PlanOk Tryz.prog seal_Key_Seal.plan seal_Key_Seal.body = (True) := by kernel_rfl
  exact e.mpr trivial
theorem seal_Key_Seal.eq (k0 : Option Addr) (number0 : Int) (head0 : ByteArray) (data0 : ByteArray) (K : Value → Heap → Prop) (E : Value → Heap → Prop) (H : Heap) :
    fnT Tryz.prog Tryz.f123 (wC Tryz.prog seal_Key_Seal.Γ seal_Key_Seal.plan seal_Key_Seal.body) [(.pointer k0), (.int .i64 number0), (.string head0), (.string data0)] K E H = seal_Key_Seal.vc k0 number0 head0 data0 (fun r0_0 H => K (.string r0_0) H) E H := by
  kernel_rfl
theorem seal_Key_Seal.Fe {args : List Value} {K E : Value → Heap → Prop} {H : Heap} (h : seal_Key_Seal.F args K E H) : ∃ k0 number0 head0 data0, args = [(.pointer k0), (.int .i64 number0), (.string head0), (.string data0)] ∧ seal_Key_Seal.c k0 number0 head0 data0 (fun r0_0 H => K (.string r0_0) H) E H := by
  unfold seal_Key_Seal.F at h
  split at h
  · exact ⟨_, _, _, _, rfl, h⟩
  · exact h.elim
theorem seal_Key_Seal.ok : CalleeOk Tryz.prog 123 seal_Key_Seal.F :=
  callee_ok seal_Key_Seal.hΓ (fn := Tryz.f123) (c := seal_Key_Seal.body) (T := wC Tryz.prog seal_Key_Seal.Γ seal_Key_Seal.plan seal_Key_Seal.body) (by kernel_rfl) (by kernel_rfl) (by kernel_rfl) (wC_sound seal_Key_Seal.hΓ Tryz.hm seal_Key_Seal.plan _ seal_Key_Seal.pok) fun _ K E H h => by
    obtain ⟨z0, z1, z2, z3, e, h⟩ := seal_Key_Seal.Fe h
    subst e
    have h2 : seal_Key_Seal.vc z0 z1 z2 z3 (fun r0_0 H => ∃ H', Heap.Le H' H ∧ K (.string r0_0) H') E H := h.h
    rw [seal_Key_Seal.eq z0 z1 z2 z3 (Fg K) E H]
    exact h2

/-! vizard/vizardref06.Eight -/
noncomputable def vizardref06_Eight.body : Code := Tryz.f177.body.getD .skip
def vizardref06_Eight.J2.vc (b0 : Option Addr) (b1 : Nat) (b2 : Nat) (u0 : Int) (i0 : Int) (Kn : Int → Heap → Prop) (E : Value → Heap → Prop) (h0 : Heap) : Prop :=
  256 ≠ (0 : Int) ∧
  Kn (IntKind.u64.wrap (Int.tdiv u0 256)) h0
structure vizardref06_Eight.J2 (b0 : Option Addr) (b1 : Nat) (b2 : Nat) (u0 : Int) (i0 : Int) (Kn : Int → Heap → Prop) (E : Value → Heap → Prop) (H : Heap) : Prop where
  h : vizardref06_Eight.J2.vc b0 b1 b2 u0 i0 Kn E H
def vizardref06_Eight.J3.vc (b0 : Option Addr) (b1 : Nat) (b2 : Nat) (u0 : Int) (i0 : Int) (Kn : Int → Heap → Prop) (E : Value → Heap → Prop) (h0 : Heap) : Prop :=
  Kn (IntKind.i64.wrap (i0 + 1)) h0
structure vizardref06_Eight.J3 (b0 : Option Addr) (b1 : Nat) (b2 : Nat) (u0 : Int) (i0 : Int) (Kn : Int → Heap → Prop) (E : Value → Heap → Prop) (H : Heap) : Prop where
  h : vizardref06_Eight.J3.vc b0 b1 b2 u0 i0 Kn E H
def vizardref06_Eight.W1.vc (b0 : Option Addr) (b1 : Nat) (b2 : Nat) (u0 : Int) (i0 : Int) (Kx0 : Option Addr → Nat → Nat → Heap → Prop) (RR : Option Addr → Nat → Nat → Int → Int → Heap → Prop) (E : Value → Heap → Prop) (h0 : Heap) : Prop :=
  (if (decide (i0 < 8)) = true then
  256 ≠ (0 : Int) ∧
  newB (.cells #[(.int .u8 (IntKind.u8.wrap (Int.tmod u0 256)))] 5) (fun b3 h1 =>
  rdRow h1 b0 (b1 * 1) fun cs0 =>
  appT 5 (.int .u8 0) (some (⟨b3, 0, none⟩ : Addr)) 1 b1 1 1 1 cs0 (fun p0 n0 c0 h2 =>
  vizardref06_Eight.J2 p0 n0 c0 u0 i0 (fun u1 h3 =>
  vizardref06_Eight.J3 p0 n0 c0 u1 i0 (fun i1 h4 =>
  RR p0 n0 c0 u1 i1 h4) E h3) E h2) h1) h0
  else
  Kx0 b0 b1 b2 h0)
structure vizardref06_Eight.W1 (b0 : Option Addr) (b1 : Nat) (b2 : Nat) (u0 : Int) (i0 : Int) (Kx0 : Option Addr → Nat → Nat → Heap → Prop) (E : Value → Heap → Prop) (H : Heap) : Prop where
  h : Loop (fun (RR : Option Addr × Nat × Nat × Int × Int → Heap → Prop) (s : Option Addr × Nat × Nat × Int × Int) (H : Heap) => vizardref06_Eight.W1.vc s.1 s.2.1 s.2.2.1 s.2.2.2.1 s.2.2.2.2 Kx0 (fun b0 b1 b2 u0 i0 H => RR (b0, b1, b2, u0, i0) H) E H) (b0, b1, b2, u0, i0) H
def vizardref06_Eight.vc (n0 : Int) (K : ByteArray → Heap → Prop) (E : Value → Heap → Prop) (h0 : Heap) : Prop :=
  vizardref06_Eight.W1 none 0 0 (IntKind.u64.wrap n0) 0 (fun b0 b1 b2 h1 =>
  rdBytes h1 b0 b1 fun x0 =>
  K x0 h1) E h0
structure vizardref06_Eight.c (n0 : Int) (K : ByteArray → Heap → Prop) (E : Value → Heap → Prop) (H : Heap) : Prop where
  h : vizardref06_Eight.vc n0 (fun r0_0 H => ∃ H', Heap.Le H' H ∧ K r0_0 H') E H
def vizardref06_Eight.F : FT := fun args K E H => match args with
  | [(.int .i64 n0)] => vizardref06_Eight.c n0 (fun r0_0 H => K (.string r0_0) H) E H
  | _ => False
noncomputable def vizardref06_Eight.Γ : FuncId → Option FT := Γof []
theorem vizardref06_Eight.hΓ : ∀ f F, vizardref06_Eight.Γ f = some F → CalleeOk Tryz.prog f F := Γof_ok (fun _ h => nomatch h)
def vizardref06_Eight.J2.t : CT := fun Q E fr H => lenIs 22 fr (slSl fr 3 fun b0 b1 b2 => slI fr 4 .u64 fun u0 => slI fr 5 .i64 fun i0 => vizardref06_Eight.J2 b0 b1 b2 u0 i0 (fun y4_0 H => Q .normal (mkF 22 [(3, (.slice b0 b1 b2)), (4, (.int .u64 y4_0)), (5, (.int .i64 i0))]) H) E H)
noncomputable def vizardref06_Eight.J2.plan : Plan := .go
theorem vizardref06_Eight.J2.pok : PlanOk Tryz.prog vizardref06_Eight.J2.plan (sub [1, 1, 1, 0, 1, 0, 0, 1, 0, 0, 1] vizardref06_Eight.body) := by
  have e : PlanOk Tryz.prog vizardref06_Eight.J2.plan (sub [1, 1, 1, 0, 1, 0, 0, 1, 0, 0, 1] vizardref06_Eight.body) = (True) := by kernel_rfl
  exact e.mpr trivial
theorem vizardref06_Eight.J2.eq (b0 : Option Addr) (b1 : Nat) (b2 : Nat) (u0 : Int) (i0 : Int) (Q : Ex → Fr → Heap → Prop) (E : Value → Heap → Prop) (H : Heap) :
    vizardref06_Eight.J2.vc b0 b1 b2 u0 i0 (fun y4_0 H => Q .normal (mkF 22 [(3, (.slice b0 b1 b2)), (4, (.int .u64 y4_0)), (5, (.int .i64 i0))]) H) E H = keepT [3, 4, 5] [] (fun i => []) (wC Tryz.prog vizardref06_Eight.Γ vizardref06_Eight.J2.plan (sub [1, 1, 1, 0, 1, 0, 0, 1, 0, 0, 1] vizardref06_Eight.body)) Q E (mkF 22 [(3, (.slice b0 b1 b2)), (4, (.int .u64 u0)), (5, (.int .i64 i0))]) H := by
  kernel_rfl
theorem vizardref06_Eight.J2.ok : SoundCode Tryz.prog (sub [1, 1, 1, 0, 1, 0, 0, 1, 0, 0, 1] vizardref06_Eight.body) vizardref06_Eight.J2.t := by
  refine piece_sound (keepT_sound [3, 4, 5] [] (fun i => []) (wC_sound vizardref06_Eight.hΓ Tryz.hm vizardref06_Eight.J2.plan _ vizardref06_Eight.J2.pok)) ?_
  intro Q E fr H h
  unfold vizardref06_Eight.J2.t at h
  obtain ⟨hl, h⟩ := lenIs_elim h
  obtain ⟨b0, b1, b2, q3, h⟩ := slSl_elim h
  obtain ⟨u0, q4, h⟩ := slI_elim h
  obtain ⟨i0, q5, h⟩ := slI_elim h
  refine ⟨(mkF 22 [(3, (.slice b0 b1 b2)), (4, (.int .u64 u0)), (5, (.int .i64 i0))]), fun a ha => ha.mk (Nat.le_of_eq hl.symm) (List.forall_mem_cons.2 ⟨q3, List.forall_mem_cons.2 ⟨q4, List.forall_mem_cons.2 ⟨q5, fun _ h => nomatch h⟩⟩⟩), ?_⟩
  have e := vizardref06_Eight.J2.eq b0 b1 b2 u0 i0 Q E H
  rw [← e]
  exact h.h
def vizardref06_Eight.J3.t : CT := fun Q E fr H => lenIs 22 fr (slSl fr 3 fun b0 b1 b2 => slI fr 4 .u64 fun u0 => slI fr 5 .i64 fun i0 => vizardref06_Eight.J3 b0 b1 b2 u0 i0 (fun y5_0 H => Q .normal (mkF 22 [(3, (.slice b0 b1 b2)), (4, (.int .u64 u0)), (5, (.int .i64 y5_0))]) H) E H)
noncomputable def vizardref06_Eight.J3.plan : Plan := .go
theorem vizardref06_Eight.J3.pok : PlanOk Tryz.prog vizardref06_Eight.J3.plan (sub [1, 1, 1, 0, 1, 0, 0, 1, 1] vizardref06_Eight.body) := by
  have e : PlanOk Tryz.prog vizardref06_Eight.J3.plan (sub [1, 1, 1, 0, 1, 0, 0, 1, 1] vizardref06_Eight.body) = (True) := by kernel_rfl
  exact e.mpr trivial
theorem vizardref06_Eight.J3.eq (b0 : Option Addr) (b1 : Nat) (b2 : Nat) (u0 : Int) (i0 : Int) (Q : Ex → Fr → Heap → Prop) (E : Value → Heap → Prop) (H : Heap) :
    vizardref06_Eight.J3.vc b0 b1 b2 u0 i0 (fun y5_0 H => Q .normal (mkF 22 [(3, (.slice b0 b1 b2)), (4, (.int .u64 u0)), (5, (.int .i64 y5_0))]) H) E H = keepT [3, 4, 5] [] (fun i => []) (wC Tryz.prog vizardref06_Eight.Γ vizardref06_Eight.J3.plan (sub [1, 1, 1, 0, 1, 0, 0, 1, 1] vizardref06_Eight.body)) Q E (mkF 22 [(3, (.slice b0 b1 b2)), (4, (.int .u64 u0)), (5, (.int .i64 i0))]) H := by
  kernel_rfl
theorem vizardref06_Eight.J3.ok : SoundCode Tryz.prog (sub [1, 1, 1, 0, 1, 0, 0, 1, 1] vizardref06_Eight.body) vizardref06_Eight.J3.t := by
  refine piece_sound (keepT_sound [3, 4, 5] [] (fun i => []) (wC_sound vizardref06_Eight.hΓ Tryz.hm vizardref06_Eight.J3.plan _ vizardref06_Eight.J3.pok)) ?_
  intro Q E fr H h
  unfold vizardref06_Eight.J3.t at h
  obtain ⟨hl, h⟩ := lenIs_elim h
  obtain ⟨b0, b1, b2, q3, h⟩ := slSl_elim h
  obtain ⟨u0, q4, h⟩ := slI_elim h
  obtain ⟨i0, q5, h⟩ := slI_elim h
  refine ⟨(mkF 22 [(3, (.slice b0 b1 b2)), (4, (.int .u64 u0)), (5, (.int .i64 i0))]), fun a ha => ha.mk (Nat.le_of_eq hl.symm) (List.forall_mem_cons.2 ⟨q3, List.forall_mem_cons.2 ⟨q4, List.forall_mem_cons.2 ⟨q5, fun _ h => nomatch h⟩⟩⟩), ?_⟩
  have e := vizardref06_Eight.J3.eq b0 b1 b2 u0 i0 Q E H
  rw [← e]
  exact h.h
def vizardref06_Eight.W1.t : CT := fun Q E fr H => lenIs 22 fr (slSl fr 3 fun b0 b1 b2 => slI fr 4 .u64 fun u0 => slI fr 5 .i64 fun i0 => vizardref06_Eight.W1 b0 b1 b2 u0 i0 (fun y3_0 y3_1 y3_2 H => Q (.exit 0) (mkF 22 [(3, (.slice y3_0 y3_1 y3_2))]) H) E H)
noncomputable def vizardref06_Eight.W1.plan : Plan := .seq (.go) (.seq (.block (.seq (.go) (.use vizardref06_Eight.J2.t))) (.use vizardref06_Eight.J3.t))
theorem vizardref06_Eight.W1.pok : PlanOk Tryz.prog vizardref06_Eight.W1.plan (sub [1, 1, 1, 0, 1, 0, 0] vizardref06_Eight.body) := by
  have e : PlanOk Tryz.prog vizardref06_Eight.W1.plan (sub [1, 1, 1, 0, 1, 0, 0] vizardref06_Eight.body) = ((True) ∧ (((True) ∧ (SoundCode Tryz.prog (sub [1, 1, 1, 0, 1, 0, 0, 1, 0, 0, 1] vizardref06_Eight.body) vizardref06_Eight.J2.t)) ∧ (SoundCode Tryz.prog (sub [1, 1, 1, 0, 1, 0, 0, 1, 1] vizardref06_Eight.body) vizardref06_Eight.J3.t))) := by kernel_rfl
  exact e.mpr ⟨trivial, ⟨⟨trivial, vizardref06_Eight.J2.ok⟩, vizardref06_Eight.J3.ok⟩⟩
theorem vizardref06_Eight.W1.eq (Q : Ex → Fr → Heap → Prop) (E : Value → Heap → Prop) (RR : Fr → Heap → Prop) (s : Option Addr × Nat × Nat × Int × Int) (H : Heap) :
    (fun (RR : Option Addr × Nat × Nat × Int × Int → Heap → Prop) (s : Option Addr × Nat × Nat × Int × Int) (H : Heap) => vizardref06_Eight.W1.vc s.1 s.2.1 s.2.2.1 s.2.2.2.1 s.2.2.2.2 (fun y3_0 y3_1 y3_2 H => Q (.exit 0) (mkF 22 [(3, (.slice y3_0 y3_1 y3_2))]) H) (fun b0 b1 b2 u0 i0 H => RR (b0, b1, b2, u0, i0) H) E H) (fun s' H' => RR ((fun (s : Option Addr × Nat × Nat × Int × Int) => (mkF 22 [(3, (.slice s.1 s.2.1 s.2.2.1)), (4, (.int .u64 s.2.2.2.1)), (5, (.int .i64 s.2.2.2.2))])) s') H') s H = keepT [3, 4, 5] [] (fun i => if i = 0 then [3] else []) (wC Tryz.prog vizardref06_Eight.Γ vizardref06_Eight.W1.plan (sub [1, 1, 1, 0, 1, 0, 0] vizardref06_Eight.body)) (fun e fr' H' => match e with | .normal => RR fr' H' | .exit id => Q (.exit id) fr' H' | .ret => Q .ret fr' H') E ((fun (s : Option Addr × Nat × Nat × Int × Int) => (mkF 22 [(3, (.slice s.1 s.2.1 s.2.2.1)), (4, (.int .u64 s.2.2.2.1)), (5, (.int .i64 s.2.2.2.2))])) s) H := by
  kernel_rfl
theorem vizardref06_Eight.W1.ok : SoundCode Tryz.prog (sub [1, 1, 1, 0, 1, 0] vizardref06_Eight.body) vizardref06_Eight.W1.t := by
  have e : (sub [1, 1, 1, 0, 1, 0] vizardref06_Eight.body) = .loop (sub [1, 1, 1, 0, 1, 0, 0] vizardref06_Eight.body) := by kernel_rfl
  rw [e]
  refine piece_sound (loopN_sound (keepT_sound [3, 4, 5] [] (fun i => if i = 0 then [3] else []) (wC_sound vizardref06_Eight.hΓ Tryz.hm vizardref06_Eight.W1.plan _ vizardref06_Eight.W1.pok))) ?_
  intro Q E fr H h
  unfold vizardref06_Eight.W1.t at h
  obtain ⟨hl, h⟩ := lenIs_elim h
  obtain ⟨b0, b1, b2, q3, h⟩ := slSl_elim h
  obtain ⟨u0, q4, h⟩ := slI_elim h
  obtain ⟨i0, q5, h⟩ := slI_elim h
  obtain ⟨m, h⟩ := h.h
  refine ⟨(mkF 22 [(3, (.slice b0 b1 b2)), (4, (.int .u64 u0)), (5, (.int .i64 i0))]), fun a ha => ha.mk (Nat.le_of_eq hl.symm) (List.forall_mem_cons.2 ⟨q3, List.forall_mem_cons.2 ⟨q4, List.forall_mem_cons.2 ⟨q5, fun _ h => nomatch h⟩⟩⟩), m, ?_⟩
  have e := loopS_eq (B := (fun (RR : Option Addr × Nat × Nat × Int × Int → Heap → Prop) (s : Option Addr × Nat × Nat × Int × Int) (H : Heap) => vizardref06_Eight.W1.vc s.1 s.2.1 s.2.2.1 s.2.2.2.1 s.2.2.2.2 (fun y3_0 y3_1 y3_2 H => Q (.exit 0) (mkF 22 [(3, (.slice y3_0 y3_1 y3_2))]) H) (fun b0 b1 b2 u0 i0 H => RR (b0, b1, b2, u0, i0) H) E H)) (A := keepT [3, 4, 5] [] (fun i => if i = 0 then [3] else []) (wC Tryz.prog vizardref06_Eight.Γ vizardref06_Eight.W1.plan (sub [1, 1, 1, 0, 1, 0, 0] vizardref06_Eight.body))) (m := (fun (s : Option Addr × Nat × Nat × Int × Int) => (mkF 22 [(3, (.slice s.1 s.2.1 s.2.2.1)), (4, (.int .u64 s.2.2.2.1)), (5, (.int .i64 s.2.2.2.2))]))) (Q := Q) (E := E) (fun RR s H => vizardref06_Eight.W1.eq  Q E RR s H) m (b0, b1, b2, u0, i0) H
  exact cast e h
noncomputable def vizardref06_Eight.plan : Plan := .seq (.go) (.seq (.go) (.seq (.go) (.seq (.seq (.go) (.block (.use vizardref06_Eight.W1.t))) (.go))))
theorem vizardref06_Eight.pok : PlanOk Tryz.prog vizardref06_Eight.plan vizardref06_Eight.body := by
  have e : PlanOk Tryz.prog vizardref06_Eight.plan vizardref06_Eight.body = ((True) ∧ ((True) ∧ ((True) ∧ (((True) ∧ (SoundCode Tryz.prog (sub [1, 1, 1, 0, 1, 0] vizardref06_Eight.body) vizardref06_Eight.W1.t)) ∧ (True))))) := by kernel_rfl
  exact e.mpr ⟨trivial, ⟨trivial, ⟨trivial, ⟨⟨trivial, vizardref06_Eight.W1.ok⟩, trivial⟩⟩⟩⟩
theorem vizardref06_Eight.eq (n0 : Int) (K : Value → Heap → Prop) (E : Value → Heap → Prop) (H : Heap) :
    fnT Tryz.prog Tryz.f177 (wC Tryz.prog vizardref06_Eight.Γ vizardref06_Eight.plan vizardref06_Eight.body) [(.int .i64 n0)] K E H = vizardref06_Eight.vc n0 (fun r0_0 H => K (.string r0_0) H) E H := by
  kernel_rfl
theorem vizardref06_Eight.Fe {args : List Value} {K E : Value → Heap → Prop} {H : Heap} (h : vizardref06_Eight.F args K E H) : ∃ n0, args = [(.int .i64 n0)] ∧ vizardref06_Eight.c n0 (fun r0_0 H => K (.string r0_0) H) E H := by
  unfold vizardref06_Eight.F at h
  split at h
  · exact ⟨_, rfl, h⟩
  · exact h.elim
theorem vizardref06_Eight.ok : CalleeOk Tryz.prog 177 vizardref06_Eight.F :=
  callee_ok vizardref06_Eight.hΓ (fn := Tryz.f177) (c := vizardref06_Eight.body) (T := wC Tryz.prog vizardref06_Eight.Γ vizardref06_Eight.plan vizardref06_Eight.body) (by kernel_rfl) (by kernel_rfl) (by kernel_rfl) (wC_sound vizardref06_Eight.hΓ Tryz.hm vizardref06_Eight.plan _ vizardref06_Eight.pok) fun _ K E H h => by
    obtain ⟨z0, e, h⟩ := vizardref06_Eight.Fe h
    subst e
    have h2 : vizardref06_Eight.vc z0 (fun r0_0 H => ∃ H', Heap.Le H' H ∧ K (.string r0_0) H') E H := h.h
    rw [vizardref06_Eight.eq z0 (Fg K) E H]
    exact h2

/-! vizard/vizardref06.Hide -/
noncomputable def vizardref06_Hide.body : Code := Tryz.f139.body.getD .skip
def vizardref06_Hide.J2.vc (number0 : Int) (data0 : ByteArray) (key0 : ByteArray) (b0 : Option Addr) (b1 : Nat) (b2 : Nat) (stream0 : ByteArray) (i0 : Int) (Kn : Option Addr → Nat → Nat → Heap → Prop) (E : Value → Heap → Prop) (h0 : Heap) : Prop :=
  (0 : Int) ≤ i0 ∧ i0 < (data0.size : Int) ∧
  32 ≠ (0 : Int) ∧
  (0 : Int) ≤ (Int.tmod i0 32) ∧ (Int.tmod i0 32) < (stream0.size : Int) ∧
  newB (.cells #[(.int .u8 (bits .xor .u8 (bt data0 i0) (bt stream0 (Int.tmod i0 32))))] 5) (fun b3 h1 =>
  rdRow h1 (some (⟨b3, 0, none⟩ : Addr)) (1 * 1) fun cs0 =>
  appT 5 (.int .u8 0) b0 b1 1 b2 1 1 cs0 (fun p0 n0 c0 h2 =>
  Kn p0 n0 c0 h2) h1) h0
structure vizardref06_Hide.J2 (number0 : Int) (data0 : ByteArray) (key0 : ByteArray) (b0 : Option Addr) (b1 : Nat) (b2 : Nat) (stream0 : ByteArray) (i0 : Int) (Kn : Option Addr → Nat → Nat → Heap → Prop) (E : Value → Heap → Prop) (H : Heap) : Prop where
  h : vizardref06_Hide.J2.vc number0 data0 key0 b0 b1 b2 stream0 i0 Kn E H
def vizardref06_Hide.J3.vc (number0 : Int) (data0 : ByteArray) (key0 : ByteArray) (b0 : Option Addr) (b1 : Nat) (b2 : Nat) (stream0 : ByteArray) (i0 : Int) (Kn : Int → Heap → Prop) (E : Value → Heap → Prop) (h0 : Heap) : Prop :=
  Kn (IntKind.i64.wrap (i0 + 1)) h0
structure vizardref06_Hide.J3 (number0 : Int) (data0 : ByteArray) (key0 : ByteArray) (b0 : Option Addr) (b1 : Nat) (b2 : Nat) (stream0 : ByteArray) (i0 : Int) (Kn : Int → Heap → Prop) (E : Value → Heap → Prop) (H : Heap) : Prop where
  h : vizardref06_Hide.J3.vc number0 data0 key0 b0 b1 b2 stream0 i0 Kn E H
def vizardref06_Hide.W1.vc (number0 : Int) (data0 : ByteArray) (key0 : ByteArray) (b0 : Option Addr) (b1 : Nat) (b2 : Nat) (stream0 : ByteArray) (i0 : Int) (Kx0 : Option Addr → Nat → Nat → Heap → Prop) (RR : Option Addr → Nat → Nat → ByteArray → Int → Heap → Prop) (E : Value → Heap → Prop) (h0 : Heap) : Prop :=
  (if (decide (i0 < (data0.size : Int))) = true then
  32 ≠ (0 : Int) ∧
  (if ((Int.tmod i0 32) == 0) = true then
  vizardref06_Eight.c number0 (fun x0 h1 =>
  32 ≠ (0 : Int) ∧
  vizardref01_Bytes.c (IntKind.i64.wrap (Int.tdiv i0 32)) 4 (fun x1 h2 =>
  x0.size + x1.size ≤ 9223372036854775807 ∧
  vizardref05_Hmac.c key0 (x0 ++ x1) (fun x2 h3 =>
  vizardref06_Hide.J2 number0 data0 key0 b0 b1 b2 x2 i0 (fun b3 b4 b5 h4 =>
  vizardref06_Hide.J3 number0 data0 key0 b3 b4 b5 x2 i0 (fun i1 h5 =>
  RR b3 b4 b5 x2 i1 h5) E h4) E h3) E h2) E h1) E h0
  else
  vizardref06_Hide.J2 number0 data0 key0 b0 b1 b2 stream0 i0 (fun b6 b7 b8 h6 =>
  vizardref06_Hide.J3 number0 data0 key0 b6 b7 b8 stream0 i0 (fun i2 h7 =>
  RR b6 b7 b8 stream0 i2 h7) E h6) E h0)
  else
  Kx0 b0 b1 b2 h0)
structure vizardref06_Hide.W1 (number0 : Int) (data0 : ByteArray) (key0 : ByteArray) (b0 : Option Addr) (b1 : Nat) (b2 : Nat) (stream0 : ByteArray) (i0 : Int) (Kx0 : Option Addr → Nat → Nat → Heap → Prop) (E : Value → Heap → Prop) (H : Heap) : Prop where
  h : Loop (fun (RR : Option Addr × Nat × Nat × ByteArray × Int → Heap → Prop) (s : Option Addr × Nat × Nat × ByteArray × Int) (H : Heap) => vizardref06_Hide.W1.vc number0 data0 key0 s.1 s.2.1 s.2.2.1 s.2.2.2.1 s.2.2.2.2 Kx0 (fun b0 b1 b2 stream0 i0 H => RR (b0, b1, b2, stream0, i0) H) E H) (b0, b1, b2, stream0, i0) H
def vizardref06_Hide.vc (secret0 : ByteArray) (number0 : Int) (data0 : ByteArray) (K : ByteArray → Heap → Prop) (E : Value → Heap → Prop) (h0 : Heap) : Prop :=
  vizardref05_Derive.c secret0 (⟨#[99, 105, 112, 104, 101, 114]⟩ : ByteArray) (⟨#[]⟩ : ByteArray) (fun x0 h1 =>
  vizardref06_Hide.W1 number0 data0 x0 none 0 0 (⟨#[]⟩ : ByteArray) 0 (fun b0 b1 b2 h2 =>
  rdBytes h2 b0 b1 fun x1 =>
  K x1 h2) E h1) E h0
structure vizardref06_Hide.c (secret0 : ByteArray) (number0 : Int) (data0 : ByteArray) (K : ByteArray → Heap → Prop) (E : Value → Heap → Prop) (H : Heap) : Prop where
  h : vizardref06_Hide.vc secret0 number0 data0 (fun r0_0 H => ∃ H', Heap.Le H' H ∧ K r0_0 H') E H
def vizardref06_Hide.F : FT := fun args K E H => match args with
  | [(.string secret0), (.int .i64 number0), (.string data0)] => vizardref06_Hide.c secret0 number0 data0 (fun r0_0 H => K (.string r0_0) H) E H
  | _ => False
noncomputable def vizardref06_Hide.Γ : FuncId → Option FT := Γof [(31, vizardref05_Derive.F), (69, vizardref05_Hmac.F), (138, vizardref01_Bytes.F), (177, vizardref06_Eight.F)]
theorem vizardref06_Hide.hΓ : ∀ f F, vizardref06_Hide.Γ f = some F → CalleeOk Tryz.prog f F := Γof_ok (List.forall_mem_cons.2 ⟨vizardref05_Derive.ok, List.forall_mem_cons.2 ⟨vizardref05_Hmac.ok, List.forall_mem_cons.2 ⟨vizardref01_Bytes.ok, List.forall_mem_cons.2 ⟨vizardref06_Eight.ok, fun _ h => nomatch h⟩⟩⟩⟩)
def vizardref06_Hide.J2.t : CT := fun Q E fr H => lenIs 43 fr (slI fr 1 .i64 fun number0 => slS fr 2 fun data0 => slS fr 7 fun key0 => slSl fr 8 fun b0 b1 b2 => slS fr 9 fun stream0 => slI fr 10 .i64 fun i0 => vizardref06_Hide.J2 number0 data0 key0 b0 b1 b2 stream0 i0 (fun y8_0 y8_1 y8_2 H => Q .normal (mkF 43 [(1, (.int .i64 number0)), (2, (.string data0)), (7, (.string key0)), (8, (.slice y8_0 y8_1 y8_2)), (9, (.string stream0)), (10, (.int .i64 i0))]) H) E H)
noncomputable def vizardref06_Hide.J2.plan : Plan := .draw ⟨[0, 1, 2, 3, 4, 5, 6, 7, 8, 9, 10], (dl [(0, []), (1, []), (2, []), (3, []), (4, []), (5, []), (6, []), (7, []), (8, []), (9, [8, 3, 7, 1, 2, 4, 6, 5]), (10, [0, 9, 8, 3, 7, 1, 2, 4, 6, 5])] .fin), [11]⟩
theorem vizardref06_Hide.J2.pok : PlanOk Tryz.prog vizardref06_Hide.J2.plan (sub [1, 1, 1, 1, 0, 1, 0, 0, 1, 0, 0, 1] vizardref06_Hide.body) := by
  have e : PlanOk Tryz.prog vizardref06_Hide.J2.plan (sub [1, 1, 1, 1, 0, 1, 0, 0, 1, 0, 0, 1] vizardref06_Hide.body) = (True) := by kernel_rfl
  exact e.mpr trivial
theorem vizardref06_Hide.J2.eq (number0 : Int) (data0 : ByteArray) (key0 : ByteArray) (b0 : Option Addr) (b1 : Nat) (b2 : Nat) (stream0 : ByteArray) (i0 : Int) (Q : Ex → Fr → Heap → Prop) (E : Value → Heap → Prop) (H : Heap) :
    vizardref06_Hide.J2.vc number0 data0 key0 b0 b1 b2 stream0 i0 (fun y8_0 y8_1 y8_2 H => Q .normal (mkF 43 [(1, (.int .i64 number0)), (2, (.string data0)), (7, (.string key0)), (8, (.slice y8_0 y8_1 y8_2)), (9, (.string stream0)), (10, (.int .i64 i0))]) H) E H = keepT [1, 2, 7, 8, 9, 10] [] (fun i => []) (wC Tryz.prog vizardref06_Hide.Γ vizardref06_Hide.J2.plan (sub [1, 1, 1, 1, 0, 1, 0, 0, 1, 0, 0, 1] vizardref06_Hide.body)) Q E (mkF 43 [(1, (.int .i64 number0)), (2, (.string data0)), (7, (.string key0)), (8, (.slice b0 b1 b2)), (9, (.string stream0)), (10, (.int .i64 i0))]) H := by
  kernel_rfl
theorem vizardref06_Hide.J2.ok : SoundCode Tryz.prog (sub [1, 1, 1, 1, 0, 1, 0, 0, 1, 0, 0, 1] vizardref06_Hide.body) vizardref06_Hide.J2.t := by
  refine piece_sound (keepT_sound [1, 2, 7, 8, 9, 10] [] (fun i => []) (wC_sound vizardref06_Hide.hΓ Tryz.hm vizardref06_Hide.J2.plan _ vizardref06_Hide.J2.pok)) ?_
  intro Q E fr H h
  unfold vizardref06_Hide.J2.t at h
  obtain ⟨hl, h⟩ := lenIs_elim h
  obtain ⟨number0, q1, h⟩ := slI_elim h
  obtain ⟨data0, q2, h⟩ := slS_elim h
  obtain ⟨key0, q7, h⟩ := slS_elim h
  obtain ⟨b0, b1, b2, q8, h⟩ := slSl_elim h
  obtain ⟨stream0, q9, h⟩ := slS_elim h
  obtain ⟨i0, q10, h⟩ := slI_elim h
  refine ⟨(mkF 43 [(1, (.int .i64 number0)), (2, (.string data0)), (7, (.string key0)), (8, (.slice b0 b1 b2)), (9, (.string stream0)), (10, (.int .i64 i0))]), fun a ha => ha.mk (Nat.le_of_eq hl.symm) (List.forall_mem_cons.2 ⟨q1, List.forall_mem_cons.2 ⟨q2, List.forall_mem_cons.2 ⟨q7, List.forall_mem_cons.2 ⟨q8, List.forall_mem_cons.2 ⟨q9, List.forall_mem_cons.2 ⟨q10, fun _ h => nomatch h⟩⟩⟩⟩⟩⟩), ?_⟩
  have e := vizardref06_Hide.J2.eq number0 data0 key0 b0 b1 b2 stream0 i0 Q E H
  rw [← e]
  exact h.h
def vizardref06_Hide.J3.t : CT := fun Q E fr H => lenIs 43 fr (slI fr 1 .i64 fun number0 => slS fr 2 fun data0 => slS fr 7 fun key0 => slSl fr 8 fun b0 b1 b2 => slS fr 9 fun stream0 => slI fr 10 .i64 fun i0 => vizardref06_Hide.J3 number0 data0 key0 b0 b1 b2 stream0 i0 (fun y10_0 H => Q .normal (mkF 43 [(1, (.int .i64 number0)), (2, (.string data0)), (7, (.string key0)), (8, (.slice b0 b1 b2)), (9, (.string stream0)), (10, (.int .i64 y10_0))]) H) E H)
noncomputable def vizardref06_Hide.J3.plan : Plan := .go
theorem vizardref06_Hide.J3.pok : PlanOk Tryz.prog vizardref06_Hide.J3.plan (sub [1, 1, 1, 1, 0, 1, 0, 0, 1, 1] vizardref06_Hide.body) := by
  have e : PlanOk Tryz.prog vizardref06_Hide.J3.plan (sub [1, 1, 1, 1, 0, 1, 0, 0, 1, 1] vizardref06_Hide.body) = (True) := by kernel_rfl
  exact e.mpr trivial
theorem vizardref06_Hide.J3.eq (number0 : Int) (data0 : ByteArray) (key0 : ByteArray) (b0 : Option Addr) (b1 : Nat) (b2 : Nat) (stream0 : ByteArray) (i0 : Int) (Q : Ex → Fr → Heap → Prop) (E : Value → Heap → Prop) (H : Heap) :
    vizardref06_Hide.J3.vc number0 data0 key0 b0 b1 b2 stream0 i0 (fun y10_0 H => Q .normal (mkF 43 [(1, (.int .i64 number0)), (2, (.string data0)), (7, (.string key0)), (8, (.slice b0 b1 b2)), (9, (.string stream0)), (10, (.int .i64 y10_0))]) H) E H = keepT [1, 2, 7, 8, 9, 10] [] (fun i => []) (wC Tryz.prog vizardref06_Hide.Γ vizardref06_Hide.J3.plan (sub [1, 1, 1, 1, 0, 1, 0, 0, 1, 1] vizardref06_Hide.body)) Q E (mkF 43 [(1, (.int .i64 number0)), (2, (.string data0)), (7, (.string key0)), (8, (.slice b0 b1 b2)), (9, (.string stream0)), (10, (.int .i64 i0))]) H := by
  kernel_rfl
theorem vizardref06_Hide.J3.ok : SoundCode Tryz.prog (sub [1, 1, 1, 1, 0, 1, 0, 0, 1, 1] vizardref06_Hide.body) vizardref06_Hide.J3.t := by
  refine piece_sound (keepT_sound [1, 2, 7, 8, 9, 10] [] (fun i => []) (wC_sound vizardref06_Hide.hΓ Tryz.hm vizardref06_Hide.J3.plan _ vizardref06_Hide.J3.pok)) ?_
  intro Q E fr H h
  unfold vizardref06_Hide.J3.t at h
  obtain ⟨hl, h⟩ := lenIs_elim h
  obtain ⟨number0, q1, h⟩ := slI_elim h
  obtain ⟨data0, q2, h⟩ := slS_elim h
  obtain ⟨key0, q7, h⟩ := slS_elim h
  obtain ⟨b0, b1, b2, q8, h⟩ := slSl_elim h
  obtain ⟨stream0, q9, h⟩ := slS_elim h
  obtain ⟨i0, q10, h⟩ := slI_elim h
  refine ⟨(mkF 43 [(1, (.int .i64 number0)), (2, (.string data0)), (7, (.string key0)), (8, (.slice b0 b1 b2)), (9, (.string stream0)), (10, (.int .i64 i0))]), fun a ha => ha.mk (Nat.le_of_eq hl.symm) (List.forall_mem_cons.2 ⟨q1, List.forall_mem_cons.2 ⟨q2, List.forall_mem_cons.2 ⟨q7, List.forall_mem_cons.2 ⟨q8, List.forall_mem_cons.2 ⟨q9, List.forall_mem_cons.2 ⟨q10, fun _ h => nomatch h⟩⟩⟩⟩⟩⟩), ?_⟩
  have e := vizardref06_Hide.J3.eq number0 data0 key0 b0 b1 b2 stream0 i0 Q E H
  rw [← e]
  exact h.h
def vizardref06_Hide.W1.t : CT := fun Q E fr H => lenIs 43 fr (slI fr 1 .i64 fun number0 => slS fr 2 fun data0 => slS fr 7 fun key0 => slSl fr 8 fun b0 b1 b2 => slS fr 9 fun stream0 => slI fr 10 .i64 fun i0 => vizardref06_Hide.W1 number0 data0 key0 b0 b1 b2 stream0 i0 (fun y8_0 y8_1 y8_2 H => Q (.exit 0) (mkF 43 [(8, (.slice y8_0 y8_1 y8_2))]) H) E H)
noncomputable def vizardref06_Hide.W1.plan : Plan := .seq (.go) (.seq (.block (.seq (.go) (.use vizardref06_Hide.J2.t))) (.use vizardref06_Hide.J3.t))
theorem vizardref06_Hide.W1.pok : PlanOk Tryz.prog vizardref06_Hide.W1.plan (sub [1, 1, 1, 1, 0, 1, 0, 0] vizardref06_Hide.body) := by
  have e : PlanOk Tryz.prog vizardref06_Hide.W1.plan (sub [1, 1, 1, 1, 0, 1, 0, 0] vizardref06_Hide.body) = ((True) ∧ (((True) ∧ (SoundCode Tryz.prog (sub [1, 1, 1, 1, 0, 1, 0, 0, 1, 0, 0, 1] vizardref06_Hide.body) vizardref06_Hide.J2.t)) ∧ (SoundCode Tryz.prog (sub [1, 1, 1, 1, 0, 1, 0, 0, 1, 1] vizardref06_Hide.body) vizardref06_Hide.J3.t))) := by kernel_rfl
  exact e.mpr ⟨trivial, ⟨⟨trivial, vizardref06_Hide.J2.ok⟩, vizardref06_Hide.J3.ok⟩⟩
theorem vizardref06_Hide.W1.eq (number0 : Int) (data0 : ByteArray) (key0 : ByteArray) (Q : Ex → Fr → Heap → Prop) (E : Value → Heap → Prop) (RR : Fr → Heap → Prop) (s : Option Addr × Nat × Nat × ByteArray × Int) (H : Heap) :
    (fun (RR : Option Addr × Nat × Nat × ByteArray × Int → Heap → Prop) (s : Option Addr × Nat × Nat × ByteArray × Int) (H : Heap) => vizardref06_Hide.W1.vc number0 data0 key0 s.1 s.2.1 s.2.2.1 s.2.2.2.1 s.2.2.2.2 (fun y8_0 y8_1 y8_2 H => Q (.exit 0) (mkF 43 [(8, (.slice y8_0 y8_1 y8_2))]) H) (fun b0 b1 b2 stream0 i0 H => RR (b0, b1, b2, stream0, i0) H) E H) (fun s' H' => RR ((fun (s : Option Addr × Nat × Nat × ByteArray × Int) => (mkF 43 [(1, (.int .i64 number0)), (2, (.string data0)), (7, (.string key0)), (8, (.slice s.1 s.2.1 s.2.2.1)), (9, (.string s.2.2.2.1)), (10, (.int .i64 s.2.2.2.2))])) s') H') s H = keepT [1, 2, 7, 8, 9, 10] [] (fun i => if i = 0 then [8] else []) (wC Tryz.prog vizardref06_Hide.Γ vizardref06_Hide.W1.plan (sub [1, 1, 1, 1, 0, 1, 0, 0] vizardref06_Hide.body)) (fun e fr' H' => match e with | .normal => RR fr' H' | .exit id => Q (.exit id) fr' H' | .ret => Q .ret fr' H') E ((fun (s : Option Addr × Nat × Nat × ByteArray × Int) => (mkF 43 [(1, (.int .i64 number0)), (2, (.string data0)), (7, (.string key0)), (8, (.slice s.1 s.2.1 s.2.2.1)), (9, (.string s.2.2.2.1)), (10, (.int .i64 s.2.2.2.2))])) s) H := by
  kernel_rfl
theorem vizardref06_Hide.W1.ok : SoundCode Tryz.prog (sub [1, 1, 1, 1, 0, 1, 0] vizardref06_Hide.body) vizardref06_Hide.W1.t := by
  have e : (sub [1, 1, 1, 1, 0, 1, 0] vizardref06_Hide.body) = .loop (sub [1, 1, 1, 1, 0, 1, 0, 0] vizardref06_Hide.body) := by kernel_rfl
  rw [e]
  refine piece_sound (loopN_sound (keepT_sound [1, 2, 7, 8, 9, 10] [] (fun i => if i = 0 then [8] else []) (wC_sound vizardref06_Hide.hΓ Tryz.hm vizardref06_Hide.W1.plan _ vizardref06_Hide.W1.pok))) ?_
  intro Q E fr H h
  unfold vizardref06_Hide.W1.t at h
  obtain ⟨hl, h⟩ := lenIs_elim h
  obtain ⟨number0, q1, h⟩ := slI_elim h
  obtain ⟨data0, q2, h⟩ := slS_elim h
  obtain ⟨key0, q7, h⟩ := slS_elim h
  obtain ⟨b0, b1, b2, q8, h⟩ := slSl_elim h
  obtain ⟨stream0, q9, h⟩ := slS_elim h
  obtain ⟨i0, q10, h⟩ := slI_elim h
  obtain ⟨m, h⟩ := h.h
  refine ⟨(mkF 43 [(1, (.int .i64 number0)), (2, (.string data0)), (7, (.string key0)), (8, (.slice b0 b1 b2)), (9, (.string stream0)), (10, (.int .i64 i0))]), fun a ha => ha.mk (Nat.le_of_eq hl.symm) (List.forall_mem_cons.2 ⟨q1, List.forall_mem_cons.2 ⟨q2, List.forall_mem_cons.2 ⟨q7, List.forall_mem_cons.2 ⟨q8, List.forall_mem_cons.2 ⟨q9, List.forall_mem_cons.2 ⟨q10, fun _ h => nomatch h⟩⟩⟩⟩⟩⟩), m, ?_⟩
  have e := loopS_eq (B := (fun (RR : Option Addr × Nat × Nat × ByteArray × Int → Heap → Prop) (s : Option Addr × Nat × Nat × ByteArray × Int) (H : Heap) => vizardref06_Hide.W1.vc number0 data0 key0 s.1 s.2.1 s.2.2.1 s.2.2.2.1 s.2.2.2.2 (fun y8_0 y8_1 y8_2 H => Q (.exit 0) (mkF 43 [(8, (.slice y8_0 y8_1 y8_2))]) H) (fun b0 b1 b2 stream0 i0 H => RR (b0, b1, b2, stream0, i0) H) E H)) (A := keepT [1, 2, 7, 8, 9, 10] [] (fun i => if i = 0 then [8] else []) (wC Tryz.prog vizardref06_Hide.Γ vizardref06_Hide.W1.plan (sub [1, 1, 1, 1, 0, 1, 0, 0] vizardref06_Hide.body))) (m := (fun (s : Option Addr × Nat × Nat × ByteArray × Int) => (mkF 43 [(1, (.int .i64 number0)), (2, (.string data0)), (7, (.string key0)), (8, (.slice s.1 s.2.1 s.2.2.1)), (9, (.string s.2.2.2.1)), (10, (.int .i64 s.2.2.2.2))]))) (Q := Q) (E := E) (fun RR s H => vizardref06_Hide.W1.eq number0 data0 key0 Q E RR s H) m (b0, b1, b2, stream0, i0) H
  exact cast e h
noncomputable def vizardref06_Hide.plan : Plan := .seq (.go) (.seq (.go) (.seq (.go) (.seq (.go) (.seq (.seq (.go) (.block (.use vizardref06_Hide.W1.t))) (.go)))))
theorem vizardref06_Hide.pok : PlanOk Tryz.prog vizardref06_Hide.plan vizardref06_Hide.body := by
  have e : PlanOk Tryz.prog vizardref06_Hide.plan vizardref06_Hide.body = ((True) ∧ ((True) ∧ ((True) ∧ ((True) ∧ (((True) ∧ (SoundCode Tryz.prog (sub [1, 1, 1, 1, 0, 1, 0] vizardref06_Hide.body) vizardref06_Hide.W1.t)) ∧ (True)))))) := by kernel_rfl
  exact e.mpr ⟨trivial, ⟨trivial, ⟨trivial, ⟨trivial, ⟨⟨trivial, vizardref06_Hide.W1.ok⟩, trivial⟩⟩⟩⟩⟩
theorem vizardref06_Hide.eq (secret0 : ByteArray) (number0 : Int) (data0 : ByteArray) (K : Value → Heap → Prop) (E : Value → Heap → Prop) (H : Heap) :
    fnT Tryz.prog Tryz.f139 (wC Tryz.prog vizardref06_Hide.Γ vizardref06_Hide.plan vizardref06_Hide.body) [(.string secret0), (.int .i64 number0), (.string data0)] K E H = vizardref06_Hide.vc secret0 number0 data0 (fun r0_0 H => K (.string r0_0) H) E H := by
  kernel_rfl
theorem vizardref06_Hide.Fe {args : List Value} {K E : Value → Heap → Prop} {H : Heap} (h : vizardref06_Hide.F args K E H) : ∃ secret0 number0 data0, args = [(.string secret0), (.int .i64 number0), (.string data0)] ∧ vizardref06_Hide.c secret0 number0 data0 (fun r0_0 H => K (.string r0_0) H) E H := by
  unfold vizardref06_Hide.F at h
  split at h
  · exact ⟨_, _, _, rfl, h⟩
  · exact h.elim
theorem vizardref06_Hide.ok : CalleeOk Tryz.prog 139 vizardref06_Hide.F :=
  callee_ok vizardref06_Hide.hΓ (fn := Tryz.f139) (c := vizardref06_Hide.body) (T := wC Tryz.prog vizardref06_Hide.Γ vizardref06_Hide.plan vizardref06_Hide.body) (by kernel_rfl) (by kernel_rfl) (by kernel_rfl) (wC_sound vizardref06_Hide.hΓ Tryz.hm vizardref06_Hide.plan _ vizardref06_Hide.pok) fun _ K E H h => by
    obtain ⟨z0, z1, z2, e, h⟩ := vizardref06_Hide.Fe h
    subst e
    have h2 : vizardref06_Hide.vc z0 z1 z2 (fun r0_0 H => ∃ H', Heap.Le H' H ∧ K (.string r0_0) H') E H := h.h
    rw [vizardref06_Hide.eq z0 z1 z2 (Fg K) E H]
    exact h2

/-! vizard/vizardref06.Tag -/
noncomputable def vizardref06_Tag.body : Code := Tryz.f140.body.getD .skip
def vizardref06_Tag.vc (secret0 : ByteArray) (number0 : Int) (head0 : ByteArray) (hidden0 : ByteArray) (K : ByteArray → Heap → Prop) (E : Value → Heap → Prop) (h0 : Heap) : Prop :=
  vizardref05_Derive.c secret0 (⟨#[116, 97, 103]⟩ : ByteArray) (⟨#[]⟩ : ByteArray) (fun x0 h1 =>
  vizardref06_Eight.c number0 (fun x1 h2 =>
  vizardref01_Text.c head0 (fun x2 h3 =>
  x1.size + x2.size ≤ 9223372036854775807 ∧
  (x1 ++ x2).size + hidden0.size ≤ 9223372036854775807 ∧
  vizardref05_Hmac.c x0 ((x1 ++ x2) ++ hidden0) (fun x3 h4 =>
  (0 : Int) ≤ 16 ∧ 16 ≤ (x3.size : Int) ∧
  K (x3.extract 0 16) h4) E h3) E h2) E h1) E h0
structure vizardref06_Tag.c (secret0 : ByteArray) (number0 : Int) (head0 : ByteArray) (hidden0 : ByteArray) (K : ByteArray → Heap → Prop) (E : Value → Heap → Prop) (H : Heap) : Prop where
  h : vizardref06_Tag.vc secret0 number0 head0 hidden0 (fun r0_0 H => ∃ H', Heap.Le H' H ∧ K r0_0 H') E H
def vizardref06_Tag.F : FT := fun args K E H => match args with
  | [(.string secret0), (.int .i64 number0), (.string head0), (.string hidden0)] => vizardref06_Tag.c secret0 number0 head0 hidden0 (fun r0_0 H => K (.string r0_0) H) E H
  | _ => False
noncomputable def vizardref06_Tag.Γ : FuncId → Option FT := Γof [(31, vizardref05_Derive.F), (69, vizardref05_Hmac.F), (70, vizardref01_Text.F), (177, vizardref06_Eight.F)]
theorem vizardref06_Tag.hΓ : ∀ f F, vizardref06_Tag.Γ f = some F → CalleeOk Tryz.prog f F := Γof_ok (List.forall_mem_cons.2 ⟨vizardref05_Derive.ok, List.forall_mem_cons.2 ⟨vizardref05_Hmac.ok, List.forall_mem_cons.2 ⟨vizardref01_Text.ok, List.forall_mem_cons.2 ⟨vizardref06_Eight.ok, fun _ h => nomatch h⟩⟩⟩⟩)
noncomputable def vizardref06_Tag.plan : Plan := .go
theorem vizardref06_Tag.pok : PlanOk Tryz.prog vizardref06_Tag.plan vizardref06_Tag.body := by
  have e : PlanOk Tryz.prog vizardref06_Tag.plan vizardref06_Tag.body = (True) := by kernel_rfl
  exact e.mpr trivial
theorem vizardref06_Tag.eq (secret0 : ByteArray) (number0 : Int) (head0 : ByteArray) (hidden0 : ByteArray) (K : Value → Heap → Prop) (E : Value → Heap → Prop) (H : Heap) :
    fnT Tryz.prog Tryz.f140 (wC Tryz.prog vizardref06_Tag.Γ vizardref06_Tag.plan vizardref06_Tag.body) [(.string secret0), (.int .i64 number0), (.string head0), (.string hidden0)] K E H = vizardref06_Tag.vc secret0 number0 head0 hidden0 (fun r0_0 H => K (.string r0_0) H) E H := by
  kernel_rfl
theorem vizardref06_Tag.Fe {args : List Value} {K E : Value → Heap → Prop} {H : Heap} (h : vizardref06_Tag.F args K E H) : ∃ secret0 number0 head0 hidden0, args = [(.string secret0), (.int .i64 number0), (.string head0), (.string hidden0)] ∧ vizardref06_Tag.c secret0 number0 head0 hidden0 (fun r0_0 H => K (.string r0_0) H) E H := by
  unfold vizardref06_Tag.F at h
  split at h
  · exact ⟨_, _, _, _, rfl, h⟩
  · exact h.elim
theorem vizardref06_Tag.ok : CalleeOk Tryz.prog 140 vizardref06_Tag.F :=
  callee_ok vizardref06_Tag.hΓ (fn := Tryz.f140) (c := vizardref06_Tag.body) (T := wC Tryz.prog vizardref06_Tag.Γ vizardref06_Tag.plan vizardref06_Tag.body) (by kernel_rfl) (by kernel_rfl) (by kernel_rfl) (wC_sound vizardref06_Tag.hΓ Tryz.hm vizardref06_Tag.plan _ vizardref06_Tag.pok) fun _ K E H h => by
    obtain ⟨z0, z1, z2, z3, e, h⟩ := vizardref06_Tag.Fe h
    subst e
    have h2 : vizardref06_Tag.vc z0 z1 z2 z3 (fun r0_0 H => ∃ H', Heap.Le H' H ∧ K (.string r0_0) H') E H := h.h
    rw [vizardref06_Tag.eq z0 z1 z2 z3 (Fg K) E H]
    exact h2

/-! vizard/vizardref06.Seal -/
noncomputable def vizardref06_Seal.body : Code := Tryz.f96.body.getD .skip
def vizardref06_Seal.vc (secret0 : ByteArray) (number0 : Int) (head0 : ByteArray) (data0 : ByteArray) (K : ByteArray → Heap → Prop) (E : Value → Heap → Prop) (h0 : Heap) : Prop :=
  vizardref06_Hide.c secret0 number0 data0 (fun x0 h1 =>
  vizardref06_Tag.c secret0 number0 head0 x0 (fun x1 h2 =>
  x0.size + x1.size ≤ 9223372036854775807 ∧
  K (x0 ++ x1) h2) E h1) E h0
structure vizardref06_Seal.c (secret0 : ByteArray) (number0 : Int) (head0 : ByteArray) (data0 : ByteArray) (K : ByteArray → Heap → Prop) (E : Value → Heap → Prop) (H : Heap) : Prop where
  h : vizardref06_Seal.vc secret0 number0 head0 data0 (fun r0_0 H => ∃ H', Heap.Le H' H ∧ K r0_0 H') E H
def vizardref06_Seal.F : FT := fun args K E H => match args with
  | [(.string secret0), (.int .i64 number0), (.string head0), (.string data0)] => vizardref06_Seal.c secret0 number0 head0 data0 (fun r0_0 H => K (.string r0_0) H) E H
  | _ => False
noncomputable def vizardref06_Seal.Γ : FuncId → Option FT := Γof [(139, vizardref06_Hide.F), (140, vizardref06_Tag.F)]
theorem vizardref06_Seal.hΓ : ∀ f F, vizardref06_Seal.Γ f = some F → CalleeOk Tryz.prog f F := Γof_ok (List.forall_mem_cons.2 ⟨vizardref06_Hide.ok, List.forall_mem_cons.2 ⟨vizardref06_Tag.ok, fun _ h => nomatch h⟩⟩)
noncomputable def vizardref06_Seal.plan : Plan := .go
theorem vizardref06_Seal.pok : PlanOk Tryz.prog vizardref06_Seal.plan vizardref06_Seal.body := by
  have e : PlanOk Tryz.prog vizardref06_Seal.plan vizardref06_Seal.body = (True) := by kernel_rfl
  exact e.mpr trivial
theorem vizardref06_Seal.eq (secret0 : ByteArray) (number0 : Int) (head0 : ByteArray) (data0 : ByteArray) (K : Value → Heap → Prop) (E : Value → Heap → Prop) (H : Heap) :
    fnT Tryz.prog Tryz.f96 (wC Tryz.prog vizardref06_Seal.Γ vizardref06_Seal.plan vizardref06_Seal.body) [(.string secret0), (.int .i64 number0), (.string head0), (.string data0)] K E H = vizardref06_Seal.vc secret0 number0 head0 data0 (fun r0_0 H => K (.string r0_0) H) E H := by
  kernel_rfl
theorem vizardref06_Seal.Fe {args : List Value} {K E : Value → Heap → Prop} {H : Heap} (h : vizardref06_Seal.F args K E H) : ∃ secret0 number0 head0 data0, args = [(.string secret0), (.int .i64 number0), (.string head0), (.string data0)] ∧ vizardref06_Seal.c secret0 number0 head0 data0 (fun r0_0 H => K (.string r0_0) H) E H := by
  unfold vizardref06_Seal.F at h
  split at h
  · exact ⟨_, _, _, _, rfl, h⟩
  · exact h.elim
theorem vizardref06_Seal.ok : CalleeOk Tryz.prog 96 vizardref06_Seal.F :=
  callee_ok vizardref06_Seal.hΓ (fn := Tryz.f96) (c := vizardref06_Seal.body) (T := wC Tryz.prog vizardref06_Seal.Γ vizardref06_Seal.plan vizardref06_Seal.body) (by kernel_rfl) (by kernel_rfl) (by kernel_rfl) (wC_sound vizardref06_Seal.hΓ Tryz.hm vizardref06_Seal.plan _ vizardref06_Seal.pok) fun _ K E H h => by
    obtain ⟨z0, z1, z2, z3, e, h⟩ := vizardref06_Seal.Fe h
    subst e
    have h2 : vizardref06_Seal.vc z0 z1 z2 z3 (fun r0_0 H => ∃ H', Heap.Le H' H ∧ K (.string r0_0) H') E H := h.h
    rw [vizardref06_Seal.eq z0 z1 z2 z3 (Fg K) E H]
    exact h2

/-! vizard/vizardref06.Open -/
noncomputable def vizardref06_Open.body : Code := Tryz.f108.body.getD .skip
def vizardref06_Open.vc (secret0 : ByteArray) (number0 : Int) (head0 : ByteArray) (sealed0 : ByteArray) (K : ByteArray → Int → Heap → Prop) (E : Value → Heap → Prop) (h0 : Heap) : Prop :=
  (if (decide ((IntKind.i64.wrap ((sealed0.size : Int) - 16)) < 0)) = true then
  K (⟨#[]⟩ : ByteArray) 1 h0
  else
  (0 : Int) ≤ (IntKind.i64.wrap ((sealed0.size : Int) - 16)) ∧ (IntKind.i64.wrap ((sealed0.size : Int) - 16)) ≤ (sealed0.size : Int) ∧
  (0 : Int) ≤ (IntKind.i64.wrap ((sealed0.size : Int) - 16)) ∧ (IntKind.i64.wrap ((sealed0.size : Int) - 16)) ≤ (sealed0.size : Int) ∧ sealed0.size ≤ sealed0.size ∧
  vizardref06_Tag.c secret0 number0 head0 (sealed0.extract 0 (IntKind.i64.wrap ((sealed0.size : Int) - 16)).toNat) (fun x0 h1 =>
  (if (!(x0.toList == (sealed0.extract (IntKind.i64.wrap ((sealed0.size : Int) - 16)).toNat sealed0.size).toList)) = true then
  K (⟨#[]⟩ : ByteArray) 10 h1
  else
  (0 : Int) ≤ (IntKind.i64.wrap ((sealed0.size : Int) - 16)) ∧ (IntKind.i64.wrap ((sealed0.size : Int) - 16)) ≤ (sealed0.size : Int) ∧
  vizardref06_Hide.c secret0 number0 (sealed0.extract 0 (IntKind.i64.wrap ((sealed0.size : Int) - 16)).toNat) (fun x1 h2 =>
  K x1 0 h2) E h1)) E h0)
structure vizardref06_Open.c (secret0 : ByteArray) (number0 : Int) (head0 : ByteArray) (sealed0 : ByteArray) (K : ByteArray → Int → Heap → Prop) (E : Value → Heap → Prop) (H : Heap) : Prop where
  h : vizardref06_Open.vc secret0 number0 head0 sealed0 (fun r0_0 r1_0 H => ∃ H', Heap.Le H' H ∧ K r0_0 r1_0 H') E H
def vizardref06_Open.F : FT := fun args K E H => match args with
  | [(.string secret0), (.int .i64 number0), (.string head0), (.string sealed0)] => vizardref06_Open.c secret0 number0 head0 sealed0 (fun r0_0 r1_0 H => K (.tuple #[(.string r0_0), (.int .i64 r1_0)]) H) E H
  | _ => False
noncomputable def vizardref06_Open.Γ : FuncId → Option FT := Γof [(139, vizardref06_Hide.F), (140, vizardref06_Tag.F)]
theorem vizardref06_Open.hΓ : ∀ f F, vizardref06_Open.Γ f = some F → CalleeOk Tryz.prog f F := Γof_ok (List.forall_mem_cons.2 ⟨vizardref06_Hide.ok, List.forall_mem_cons.2 ⟨vizardref06_Tag.ok, fun _ h => nomatch h⟩⟩)
noncomputable def vizardref06_Open.plan : Plan := .seq (.go) (.seq (.go) (.seq (.go) (.seq (.seq (.draw ⟨[0, 1, 2, 3, 4, 5, 6, 7, 8, 9, 10], (dl [(0, []), (1, []), (2, []), (3, []), (4, []), (5, []), (7, []), (8, []), (9, []), (6, [0, 1, 2, 5, 3, 4]), (10, [])] .fin), []⟩) (.go)) (.go))))
theorem vizardref06_Open.pok : PlanOk Tryz.prog vizardref06_Open.plan vizardref06_Open.body := by
  have e : PlanOk Tryz.prog vizardref06_Open.plan vizardref06_Open.body = ((True) ∧ ((True) ∧ ((True) ∧ (((True) ∧ (True)) ∧ (True))))) := by kernel_rfl
  exact e.mpr ⟨trivial, ⟨trivial, ⟨trivial, ⟨⟨trivial, trivial⟩, trivial⟩⟩⟩⟩
theorem vizardref06_Open.eq (secret0 : ByteArray) (number0 : Int) (head0 : ByteArray) (sealed0 : ByteArray) (K : Value → Heap → Prop) (E : Value → Heap → Prop) (H : Heap) :
    fnT Tryz.prog Tryz.f108 (wC Tryz.prog vizardref06_Open.Γ vizardref06_Open.plan vizardref06_Open.body) [(.string secret0), (.int .i64 number0), (.string head0), (.string sealed0)] K E H = vizardref06_Open.vc secret0 number0 head0 sealed0 (fun r0_0 r1_0 H => K (.tuple #[(.string r0_0), (.int .i64 r1_0)]) H) E H := by
  kernel_rfl
theorem vizardref06_Open.Fe {args : List Value} {K E : Value → Heap → Prop} {H : Heap} (h : vizardref06_Open.F args K E H) : ∃ secret0 number0 head0 sealed0, args = [(.string secret0), (.int .i64 number0), (.string head0), (.string sealed0)] ∧ vizardref06_Open.c secret0 number0 head0 sealed0 (fun r0_0 r1_0 H => K (.tuple #[(.string r0_0), (.int .i64 r1_0)]) H) E H := by
  unfold vizardref06_Open.F at h
  split at h
  · exact ⟨_, _, _, _, rfl, h⟩
  · exact h.elim
theorem vizardref06_Open.ok : CalleeOk Tryz.prog 108 vizardref06_Open.F :=
  callee_ok vizardref06_Open.hΓ (fn := Tryz.f108) (c := vizardref06_Open.body) (T := wC Tryz.prog vizardref06_Open.Γ vizardref06_Open.plan vizardref06_Open.body) (by kernel_rfl) (by kernel_rfl) (by kernel_rfl) (wC_sound vizardref06_Open.hΓ Tryz.hm vizardref06_Open.plan _ vizardref06_Open.pok) fun _ K E H h => by
    obtain ⟨z0, z1, z2, z3, e, h⟩ := vizardref06_Open.Fe h
    subst e
    have h2 : vizardref06_Open.vc z0 z1 z2 z3 (fun r0_0 r1_0 H => ∃ H', Heap.Le H' H ∧ K (.tuple #[(.string r0_0), (.int .i64 r1_0)]) H') E H := h.h
    rw [vizardref06_Open.eq z0 z1 z2 z3 (Fg K) E H]
    exact h2
end Go.Sh
