/- PRINTED by a program (sh.py): what the walk over each function asks, and that it asks just that. -/
import Derived.Test.YtjbfpeeigjjbdaaShP
namespace Go.Sh
open Go.Proofs
set_option linter.unusedVariables false
set_option maxRecDepth 8000
/-! vizard/tunnel.Pack -/
noncomputable def tunnel_Pack.body : Code := Try.f19.body.getD .skip
def tunnel_Pack.J1.vc (e0 : Addr) (x0 : Bool) (Kn : Heap → Prop) (Kr : ByteArray → Heap → Prop) (E : Value → Heap → Prop) (h0 : Heap) : Prop :=
  (if x0 = true then
  Kr (⟨#[]⟩ : ByteArray) h0
  else
  Kn h0)
structure tunnel_Pack.J1 (e0 : Addr) (x0 : Bool) (Kn : Heap → Prop) (Kr : ByteArray → Heap → Prop) (E : Value → Heap → Prop) (H : Heap) : Prop where
  h : tunnel_Pack.J1.vc e0 x0 Kn Kr E H
def tunnel_Pack.J3.vc (e0 : Addr) (b0 : Option Addr) (b1 : Nat) (b2 : Nat) (Kr : ByteArray → Heap → Prop) (E : Value → Heap → Prop) (h0 : Heap) : Prop :=
  rdBytes h0 b0 b1 fun x0 =>
  ldS h0 (e0.add 4) fun x1 =>
  x0.size + x1.size ≤ 9223372036854775807 ∧
  Kr (x0 ++ x1) h0
structure tunnel_Pack.J3 (e0 : Addr) (b0 : Option Addr) (b1 : Nat) (b2 : Nat) (Kr : ByteArray → Heap → Prop) (E : Value → Heap → Prop) (H : Heap) : Prop where
  h : tunnel_Pack.J3.vc e0 b0 b1 b2 Kr E H
def tunnel_Pack.J2.vc (e0 : Addr) (Kr : ByteArray → Heap → Prop) (E : Value → Heap → Prop) (h0 : Heap) : Prop :=
  ldI h0 .i64 (e0.add 1) fun x0 =>
  (0 : Int) ≤ 8 ∧
  ldI h0 .i64 (e0.add 1) fun x1 =>
  ldI h0 .i64 (e0.add 3) fun x2 =>
  (0 : Int) ≤ 8 ∧
  ldI h0 .i64 (e0.add 3) fun x3 =>
  ldI h0 .u32 (e0.add 2) fun x4 =>
  (0 : Int) ≤ 24 ∧
  ldI h0 .u32 (e0.add 2) fun x5 =>
  (0 : Int) ≤ 16 ∧
  ldI h0 .u32 (e0.add 2) fun x6 =>
  (0 : Int) ≤ 8 ∧
  ldI h0 .u32 (e0.add 2) fun x7 =>
  newB (.cells #[(.int .u8 0), (.int .u8 (IntKind.u8.wrap (shrI .i64 x0 8))), (.int .u8 (IntKind.u8.wrap x1)), (.int .u8 (IntKind.u8.wrap (shrI .i64 x2 8))), (.int .u8 (IntKind.u8.wrap x3)), (.int .u8 (IntKind.u8.wrap (shrI .u32 x4 24))), (.int .u8 (IntKind.u8.wrap (shrI .u32 x5 16))), (.int .u8 (IntKind.u8.wrap (shrI .u32 x6 8))), (.int .u8 (IntKind.u8.wrap x7))] 5) (fun b0 h1 =>
  ldB h1 (e0.add 0) fun x8 =>
  (if x8 = true then
  nilc (some (⟨b0, 0, none⟩ : Addr)) fun a0 => (0 : Int) ≤ 0 ∧ 0 < ((9 : Nat) : Int) ∧
  stc h1 (a0.add (0 * 1)) (.int .u8 1) fun h2 =>
  tunnel_Pack.J3 e0 (some (⟨b0, 0, none⟩ : Addr)) 9 9 Kr E h2
  else
  tunnel_Pack.J3 e0 (some (⟨b0, 0, none⟩ : Addr)) 9 9 Kr E h1)) h0
structure tunnel_Pack.J2 (e0 : Addr) (Kr : ByteArray → Heap → Prop) (E : Value → Heap → Prop) (H : Heap) : Prop where
  h : tunnel_Pack.J2.vc e0 Kr E H
def tunnel_Pack.vc (e0 : Bool) (e1 : Int) (e2 : Int) (e3 : Int) (e4 : ByteArray) (K : ByteArray → Heap → Prop) (E : Value → Heap → Prop) (h0 : Heap) : Prop :=
  newB (.cells #[(.bool e0), (.int .i64 e1), (.int .u32 e2), (.int .i64 e3), (.string e4)] 30) (fun b0 h1 =>
  ldI h1 .i64 ((⟨b0, 0, none⟩ : Addr).add 1) fun x0 =>
  (if (decide (x0 < 0)) = true then
  tunnel_Pack.J1 (⟨b0, 0, none⟩ : Addr) true (fun h2 =>
  tunnel_Pack.J2 (⟨b0, 0, none⟩ : Addr) K E h2) K E h1
  else
  ldI h1 .i64 ((⟨b0, 0, none⟩ : Addr).add 1) fun x3 =>
  (if (decide (x3 > 65535)) = true then
  tunnel_Pack.J1 (⟨b0, 0, none⟩ : Addr) true (fun h5 =>
  tunnel_Pack.J2 (⟨b0, 0, none⟩ : Addr) K E h5) K E h1
  else
  ldI h1 .i64 ((⟨b0, 0, none⟩ : Addr).add 3) fun x6 =>
  (if (decide (x6 < 0)) = true then
  tunnel_Pack.J1 (⟨b0, 0, none⟩ : Addr) true (fun h8 =>
  tunnel_Pack.J2 (⟨b0, 0, none⟩ : Addr) K E h8) K E h1
  else
  ldI h1 .i64 ((⟨b0, 0, none⟩ : Addr).add 3) fun x9 =>
  tunnel_Pack.J1 (⟨b0, 0, none⟩ : Addr) (decide (x9 > 65535)) (fun h11 =>
  tunnel_Pack.J2 (⟨b0, 0, none⟩ : Addr) K E h11) K E h1)))) h0
structure tunnel_Pack.c (e0 : Bool) (e1 : Int) (e2 : Int) (e3 : Int) (e4 : ByteArray) (K : ByteArray → Heap → Prop) (E : Value → Heap → Prop) (H : Heap) : Prop where
  h : tunnel_Pack.vc e0 e1 e2 e3 e4 (fun r0_0 H => ∃ H', Heap.Le H' H ∧ K r0_0 H') E H
def tunnel_Pack.F : FT := fun args K E H => match args with
  | [(.agg ⟨[(.bool e0), (.int .i64 e1), (.int .u32 e2), (.int .i64 e3), (.string e4)]⟩)] => tunnel_Pack.c e0 e1 e2 e3 e4 (fun r0_0 H => K (.string r0_0) H) E H
  | _ => False
noncomputable def tunnel_Pack.Γ : FuncId → Option FT := Γof []
theorem tunnel_Pack.hΓ : ∀ f F, tunnel_Pack.Γ f = some F → CalleeOk Try.prog f F := Γof_ok (fun _ h => nomatch h)
def tunnel_Pack.J1.t : CT := fun Q E fr H => lenIs 61 fr (slPA fr 1 fun e0 => slB fr 21 fun x0 => tunnel_Pack.J1 e0 x0 (fun  H => Q .normal (mkF 61 [(1, (.pointer (some e0)))]) H) (fun y2_0 H => Q .ret (mkF 61 [(2, (.string y2_0))]) H) E H)
noncomputable def tunnel_Pack.J1.plan : Plan := .go
theorem tunnel_Pack.J1.pok : PlanOk Try.prog tunnel_Pack.J1.plan (sub [1, 0, 1] tunnel_Pack.body) := by
  have e : PlanOk Try.prog tunnel_Pack.J1.plan (sub [1, 0, 1] tunnel_Pack.body) = (True) := by kernel_rfl
  exact e.mpr trivial
theorem tunnel_Pack.J1.eq (e0 : Addr) (x0 : Bool) (Q : Ex → Fr → Heap → Prop) (E : Value → Heap → Prop) (H : Heap) :
    tunnel_Pack.J1.vc e0 x0 (fun  H => Q .normal (mkF 61 [(1, (.pointer (some e0)))]) H) (fun y2_0 H => Q .ret (mkF 61 [(2, (.string y2_0))]) H) E H = keepT [1] [2] (fun i => []) (wC Try.prog tunnel_Pack.Γ tunnel_Pack.J1.plan (sub [1, 0, 1] tunnel_Pack.body)) Q E (mkF 61 [(1, (.pointer (some e0))), (21, (.bool x0))]) H := by
  kernel_rfl
theorem tunnel_Pack.J1.ok : SoundCode Try.prog (sub [1, 0, 1] tunnel_Pack.body) tunnel_Pack.J1.t := by
  refine piece_sound (keepT_sound [1] [2] (fun i => []) (wC_sound tunnel_Pack.hΓ Try.hm tunnel_Pack.J1.plan _ tunnel_Pack.J1.pok)) ?_
  intro Q E fr H h
  unfold tunnel_Pack.J1.t at h
  obtain ⟨hl, h⟩ := lenIs_elim h
  obtain ⟨e0, q1, h⟩ := slPA_elim h
  obtain ⟨x0, q21, h⟩ := slB_elim h
  refine ⟨(mkF 61 [(1, (.pointer (some e0))), (21, (.bool x0))]), fun a ha => ha.mk (Nat.le_of_eq hl.symm) (List.forall_mem_cons.2 ⟨q1, List.forall_mem_cons.2 ⟨q21, fun _ h => nomatch h⟩⟩), ?_⟩
  have e := tunnel_Pack.J1.eq e0 x0 Q E H
  rw [← e]
  exact h.h
def tunnel_Pack.J3.t : CT := fun Q E fr H => lenIs 61 fr (slPA fr 1 fun e0 => slSl fr 3 fun b0 b1 b2 => tunnel_Pack.J3 e0 b0 b1 b2 (fun y2_0 H => Q .ret (mkF 61 [(2, (.string y2_0))]) H) E H)
noncomputable def tunnel_Pack.J3.plan : Plan := .go
theorem tunnel_Pack.J3.pok : PlanOk Try.prog tunnel_Pack.J3.plan (sub [1, 1, 1, 1] tunnel_Pack.body) := by
  have e : PlanOk Try.prog tunnel_Pack.J3.plan (sub [1, 1, 1, 1] tunnel_Pack.body) = (True) := by kernel_rfl
  exact e.mpr trivial
theorem tunnel_Pack.J3.eq (e0 : Addr) (b0 : Option Addr) (b1 : Nat) (b2 : Nat) (Q : Ex → Fr → Heap → Prop) (E : Value → Heap → Prop) (H : Heap) :
    tunnel_Pack.J3.vc e0 b0 b1 b2 (fun y2_0 H => Q .ret (mkF 61 [(2, (.string y2_0))]) H) E H = keepT [] [2] (fun i => []) (wC Try.prog tunnel_Pack.Γ tunnel_Pack.J3.plan (sub [1, 1, 1, 1] tunnel_Pack.body)) Q E (mkF 61 [(1, (.pointer (some e0))), (3, (.slice b0 b1 b2))]) H := by
  kernel_rfl
theorem tunnel_Pack.J3.ok : SoundCode Try.prog (sub [1, 1, 1, 1] tunnel_Pack.body) tunnel_Pack.J3.t := by
  refine piece_sound (keepT_sound [] [2] (fun i => []) (wC_sound tunnel_Pack.hΓ Try.hm tunnel_Pack.J3.plan _ tunnel_Pack.J3.pok)) ?_
  intro Q E fr H h
  unfold tunnel_Pack.J3.t at h
  obtain ⟨hl, h⟩ := lenIs_elim h
  obtain ⟨e0, q1, h⟩ := slPA_elim h
  obtain ⟨b0, b1, b2, q3, h⟩ := slSl_elim h
  refine ⟨(mkF 61 [(1, (.pointer (some e0))), (3, (.slice b0 b1 b2))]), fun a ha => ha.mk (Nat.le_of_eq hl.symm) (List.forall_mem_cons.2 ⟨q1, List.forall_mem_cons.2 ⟨q3, fun _ h => nomatch h⟩⟩), ?_⟩
  have e := tunnel_Pack.J3.eq e0 b0 b1 b2 Q E H
  rw [← e]
  exact h.h
def tunnel_Pack.J2.t : CT := fun Q E fr H => lenIs 61 fr (slPA fr 1 fun e0 => tunnel_Pack.J2 e0 (fun y2_0 H => Q .ret (mkF 61 [(2, (.string y2_0))]) H) E H)
noncomputable def tunnel_Pack.J2.plan : Plan := .seq (.go) (.seq (.go) (.use tunnel_Pack.J3.t))
theorem tunnel_Pack.J2.pok : PlanOk Try.prog tunnel_Pack.J2.plan (sub [1, 1] tunnel_Pack.body) := by
  have e : PlanOk Try.prog tunnel_Pack.J2.plan (sub [1, 1] tunnel_Pack.body) = ((True) ∧ ((True) ∧ (SoundCode Try.prog (sub [1, 1, 1, 1] tunnel_Pack.body) tunnel_Pack.J3.t))) := by kernel_rfl
  exact e.mpr ⟨trivial, ⟨trivial, tunnel_Pack.J3.ok⟩⟩
theorem tunnel_Pack.J2.eq (e0 : Addr) (Q : Ex → Fr → Heap → Prop) (E : Value → Heap → Prop) (H : Heap) :
    tunnel_Pack.J2.vc e0 (fun y2_0 H => Q .ret (mkF 61 [(2, (.string y2_0))]) H) E H = keepT [] [2] (fun i => []) (wC Try.prog tunnel_Pack.Γ tunnel_Pack.J2.plan (sub [1, 1] tunnel_Pack.body)) Q E (mkF 61 [(1, (.pointer (some e0)))]) H := by
  kernel_rfl
theorem tunnel_Pack.J2.ok : SoundCode Try.prog (sub [1, 1] tunnel_Pack.body) tunnel_Pack.J2.t := by
  refine piece_sound (keepT_sound [] [2] (fun i => []) (wC_sound tunnel_Pack.hΓ Try.hm tunnel_Pack.J2.plan _ tunnel_Pack.J2.pok)) ?_
  intro Q E fr H h
  unfold tunnel_Pack.J2.t at h
  obtain ⟨hl, h⟩ := lenIs_elim h
  obtain ⟨e0, q1, h⟩ := slPA_elim h
  refine ⟨(mkF 61 [(1, (.pointer (some e0)))]), fun a ha => ha.mk (Nat.le_of_eq hl.symm) (List.forall_mem_cons.2 ⟨q1, fun _ h => nomatch h⟩), ?_⟩
  have e := tunnel_Pack.J2.eq e0 Q E H
  rw [← e]
  exact h.h
noncomputable def tunnel_Pack.plan : Plan := .seq (.go) (.seq (.seq (.go) (.use tunnel_Pack.J1.t)) (.use tunnel_Pack.J2.t))
theorem tunnel_Pack.pok : PlanOk Try.prog tunnel_Pack.plan tunnel_Pack.body := by
  have e : PlanOk Try.prog tunnel_Pack.plan tunnel_Pack.body = ((True) ∧ (((True) ∧ (SoundCode Try.prog (sub [1, 0, 1] tunnel_Pack.body) tunnel_Pack.J1.t)) ∧ (SoundCode Try.prog (sub [1, 1] tunnel_Pack.body) tunnel_Pack.J2.t))) := by kernel_rfl
  exact e.mpr ⟨trivial, ⟨⟨trivial, tunnel_Pack.J1.ok⟩, tunnel_Pack.J2.ok⟩⟩
theorem tunnel_Pack.eq (e0 : Bool) (e1 : Int) (e2 : Int) (e3 : Int) (e4 : ByteArray) (K : Value → Heap → Prop) (E : Value → Heap → Prop) (H : Heap) :
    fnT Try.prog Try.f19 (wC Try.prog tunnel_Pack.Γ tunnel_Pack.plan tunnel_Pack.body) [(.agg #[(.bool e0), (.int .i64 e1), (.int .u32 e2), (.int .i64 e3), (.string e4)])] K E H = tunnel_Pack.vc e0 e1 e2 e3 e4 (fun r0_0 H => K (.string r0_0) H) E H := by
  kernel_rfl
theorem tunnel_Pack.Fe {args : List Value} {K E : Value → Heap → Prop} {H : Heap} (h : tunnel_Pack.F args K E H) : ∃ e0 e1 e2 e3 e4, args = [(.agg #[(.bool e0), (.int .i64 e1), (.int .u32 e2), (.int .i64 e3), (.string e4)])] ∧ tunnel_Pack.c e0 e1 e2 e3 e4 (fun r0_0 H => K (.string r0_0) H) E H := by
  unfold tunnel_Pack.F at h
  split at h
  · exact ⟨_, _, _, _, _, rfl, h⟩
  · exact h.elim
theorem tunnel_Pack.ok : CalleeOk Try.prog 19 tunnel_Pack.F :=
  callee_ok tunnel_Pack.hΓ (fn := Try.f19) (c := tunnel_Pack.body) (T := wC Try.prog tunnel_Pack.Γ tunnel_Pack.plan tunnel_Pack.body) (by kernel_rfl) (by kernel_rfl) (by kernel_rfl) (wC_sound tunnel_Pack.hΓ Try.hm tunnel_Pack.plan _ tunnel_Pack.pok) fun _ K E H h => by
    obtain ⟨z0, z1, z2, z3, z4, e, h⟩ := tunnel_Pack.Fe h
    subst e
    have h2 : tunnel_Pack.vc z0 z1 z2 z3 z4 (fun r0_0 H => ∃ H', Heap.Le H' H ∧ K (.string r0_0) H') E H := h.h
    rw [tunnel_Pack.eq z0 z1 z2 z3 z4 (Fg K) E H]
    exact h2

/-! vizard/tunnel.Unpack$1 -/
noncomputable def tunnel_Unpack_1.body : Code := Try.f50.body.getD .skip
def tunnel_Unpack_1.W1.vc (x0 : Int) (x1 : Option Addr) (x2 : Nat) (x3 : Nat) (x4 : Int) (x5 : Int) (Kx0 : Int → Heap → Prop) (RR : Int → Int → Heap → Prop) (E : Value → Heap → Prop) (h0 : Heap) : Prop :=
  (if (decide (x5 < x4)) = true then
  nilc x1 fun a0 => (0 : Int) ≤ x5 ∧ x5 < (x2 : Int) ∧
  ldI h0 .u8 (a0.add (x5.toNat * 1)) fun x6 =>
  (0 : Int) ≤ 8 ∧
  RR (bits .or .u32 (shlI .u32 x0 8) (IntKind.u32.wrap x6)) (IntKind.i64.wrap (x5 + 1)) h0
  else
  Kx0 x0 h0)
structure tunnel_Unpack_1.W1 (x0 : Int) (x1 : Option Addr) (x2 : Nat) (x3 : Nat) (x4 : Int) (x5 : Int) (Kx0 : Int → Heap → Prop) (E : Value → Heap → Prop) (H : Heap) : Prop where
  h : Loop (fun (RR : Int × Int → Heap → Prop) (s : Int × Int) (H : Heap) => tunnel_Unpack_1.W1.vc s.1 x1 x2 x3 x4 s.2 Kx0 (fun x0 x5 H => RR (x0, x5) H) E H) (x0, x5) H
def tunnel_Unpack_1.vc (from0 : Int) (to0 : Int) (a0 : Addr) (K : Int → Heap → Prop) (E : Value → Heap → Prop) (h0 : Heap) : Prop :=
  ldS h0 a0 fun x0 =>
  (0 : Int) ≤ from0 ∧ from0 ≤ (to0 : Int) ∧ to0 ≤ (x0.size : Int) ∧
  ∀ j0, newB (.cells ((byteVals (x0.extract from0.toNat to0.toNat)).toArray ++ Array.replicate j0 (.int .u8 0)) 5 ((x0.extract from0.toNat to0.toNat).size + j0, (x0.extract from0.toNat to0.toNat).size + j0 + 1)) (fun b0 h1 =>
  tunnel_Unpack_1.W1 0 (some (⟨b0, 0, none⟩ : Addr)) (x0.extract from0.toNat to0.toNat).size ((x0.extract from0.toNat to0.toNat).size + j0) ((x0.extract from0.toNat to0.toNat).size : Int) 0 K E h1) h0
structure tunnel_Unpack_1.c (from0 : Int) (to0 : Int) (a0 : Addr) (K : Int → Heap → Prop) (E : Value → Heap → Prop) (H : Heap) : Prop where
  h : tunnel_Unpack_1.vc from0 to0 a0 (fun r0_0 H => ∃ H', Heap.Le H' H ∧ K r0_0 H') E H
def tunnel_Unpack_1.F : FT := fun args K E H => match args with
  | [(.int .i64 from0), (.int .i64 to0), (.pointer (some a0))] => tunnel_Unpack_1.c from0 to0 a0 (fun r0_0 H => K (.int .u32 r0_0) H) E H
  | _ => False
noncomputable def tunnel_Unpack_1.Γ : FuncId → Option FT := Γof []
theorem tunnel_Unpack_1.hΓ : ∀ f F, tunnel_Unpack_1.Γ f = some F → CalleeOk Try.prog f F := Γof_ok (fun _ h => nomatch h)
def tunnel_Unpack_1.W1.t : CT := fun Q E fr H => lenIs 25 fr (slI fr 5 .u32 fun x0 => slSl fr 12 fun x1 x2 x3 => slI fr 13 .i64 fun x4 => slI fr 14 .i64 fun x5 => tunnel_Unpack_1.W1 x0 x1 x2 x3 x4 x5 (fun y5_0 H => Q (.exit 0) (mkF 25 [(5, (.int .u32 y5_0))]) H) E H)
noncomputable def tunnel_Unpack_1.W1.plan : Plan := .go
theorem tunnel_Unpack_1.W1.pok : PlanOk Try.prog tunnel_Unpack_1.W1.plan (sub [1, 0, 1, 0, 0] tunnel_Unpack_1.body) := by
  have e : PlanOk Try.prog tunnel_Unpack_1.W1.plan (sub [1, 0, 1, 0, 0] tunnel_Unpack_1.body) = (True) := by kernel_rfl
  exact e.mpr trivial
theorem tunnel_Unpack_1.W1.eq (x1 : Option Addr) (x2 : Nat) (x3 : Nat) (x4 : Int) (Q : Ex → Fr → Heap → Prop) (E : Value → Heap → Prop) (RR : Fr → Heap → Prop) (s : Int × Int) (H : Heap) :
    (fun (RR : Int × Int → Heap → Prop) (s : Int × Int) (H : Heap) => tunnel_Unpack_1.W1.vc s.1 x1 x2 x3 x4 s.2 (fun y5_0 H => Q (.exit 0) (mkF 25 [(5, (.int .u32 y5_0))]) H) (fun x0 x5 H => RR (x0, x5) H) E H) (fun s' H' => RR ((fun (s : Int × Int) => (mkF 25 [(5, (.int .u32 s.1)), (12, (.slice x1 x2 x3)), (13, (.int .i64 x4)), (14, (.int .i64 s.2))])) s') H') s H = keepT [5, 12, 13, 14] [] (fun i => if i = 0 then [5] else []) (wC Try.prog tunnel_Unpack_1.Γ tunnel_Unpack_1.W1.plan (sub [1, 0, 1, 0, 0] tunnel_Unpack_1.body)) (fun e fr' H' => match e with | .normal => RR fr' H' | .exit id => Q (.exit id) fr' H' | .ret => Q .ret fr' H') E ((fun (s : Int × Int) => (mkF 25 [(5, (.int .u32 s.1)), (12, (.slice x1 x2 x3)), (13, (.int .i64 x4)), (14, (.int .i64 s.2))])) s) H := by
  kernel_rfl
theorem tunnel_Unpack_1.W1.ok : SoundCode Try.prog (sub [1, 0, 1, 0] tunnel_Unpack_1.body) tunnel_Unpack_1.W1.t := by
  have e : (sub [1, 0, 1, 0] tunnel_Unpack_1.body) = .loop (sub [1, 0, 1, 0, 0] tunnel_Unpack_1.body) := by kernel_rfl
  rw [e]
  refine piece_sound (loopN_sound (keepT_sound [5, 12, 13, 14] [] (fun i => if i = 0 then [5] else []) (wC_sound tunnel_Unpack_1.hΓ Try.hm tunnel_Unpack_1.W1.plan _ tunnel_Unpack_1.W1.pok))) ?_
  intro Q E fr H h
  unfold tunnel_Unpack_1.W1.t at h
  obtain ⟨hl, h⟩ := lenIs_elim h
  obtain ⟨x0, q5, h⟩ := slI_elim h
  obtain ⟨x1, x2, x3, q12, h⟩ := slSl_elim h
  obtain ⟨x4, q13, h⟩ := slI_elim h
  obtain ⟨x5, q14, h⟩ := slI_elim h
  obtain ⟨m, h⟩ := h.h
  refine ⟨(mkF 25 [(5, (.int .u32 x0)), (12, (.slice x1 x2 x3)), (13, (.int .i64 x4)), (14, (.int .i64 x5))]), fun a ha => ha.mk (Nat.le_of_eq hl.symm) (List.forall_mem_cons.2 ⟨q5, List.forall_mem_cons.2 ⟨q12, List.forall_mem_cons.2 ⟨q13, List.forall_mem_cons.2 ⟨q14, fun _ h => nomatch h⟩⟩⟩⟩), m, ?_⟩
  have e := loopS_eq (B := (fun (RR : Int × Int → Heap → Prop) (s : Int × Int) (H : Heap) => tunnel_Unpack_1.W1.vc s.1 x1 x2 x3 x4 s.2 (fun y5_0 H => Q (.exit 0) (mkF 25 [(5, (.int .u32 y5_0))]) H) (fun x0 x5 H => RR (x0, x5) H) E H)) (A := keepT [5, 12, 13, 14] [] (fun i => if i = 0 then [5] else []) (wC Try.prog tunnel_Unpack_1.Γ tunnel_Unpack_1.W1.plan (sub [1, 0, 1, 0, 0] tunnel_Unpack_1.body))) (m := (fun (s : Int × Int) => (mkF 25 [(5, (.int .u32 s.1)), (12, (.slice x1 x2 x3)), (13, (.int .i64 x4)), (14, (.int .i64 s.2))]))) (Q := Q) (E := E) (fun RR s H => tunnel_Unpack_1.W1.eq x1 x2 x3 x4 Q E RR s H) m (x0, x5) H
  exact cast e h
noncomputable def tunnel_Unpack_1.plan : Plan := .seq (.go) (.seq (.seq (.go) (.block (.use tunnel_Unpack_1.W1.t))) (.go))
theorem tunnel_Unpack_1.pok : PlanOk Try.prog tunnel_Unpack_1.plan tunnel_Unpack_1.body := by
  have e : PlanOk Try.prog tunnel_Unpack_1.plan tunnel_Unpack_1.body = ((True) ∧ (((True) ∧ (SoundCode Try.prog (sub [1, 0, 1, 0] tunnel_Unpack_1.body) tunnel_Unpack_1.W1.t)) ∧ (True))) := by kernel_rfl
  exact e.mpr ⟨trivial, ⟨⟨trivial, tunnel_Unpack_1.W1.ok⟩, trivial⟩⟩
theorem tunnel_Unpack_1.eq (from0 : Int) (to0 : Int) (a0 : Addr) (K : Value → Heap → Prop) (E : Value → Heap → Prop) (H : Heap) :
    fnT Try.prog Try.f50 (wC Try.prog tunnel_Unpack_1.Γ tunnel_Unpack_1.plan tunnel_Unpack_1.body) [(.int .i64 from0), (.int .i64 to0), (.pointer (some a0))] K E H = tunnel_Unpack_1.vc from0 to0 a0 (fun r0_0 H => K (.int .u32 r0_0) H) E H := by
  kernel_rfl
theorem tunnel_Unpack_1.Fe {args : List Value} {K E : Value → Heap → Prop} {H : Heap} (h : tunnel_Unpack_1.F args K E H) : ∃ from0 to0 a0, args = [(.int .i64 from0), (.int .i64 to0), (.pointer (some a0))] ∧ tunnel_Unpack_1.c from0 to0 a0 (fun r0_0 H => K (.int .u32 r0_0) H) E H := by
  unfold tunnel_Unpack_1.F at h
  split at h
  · exact ⟨_, _, _, rfl, h⟩
  · exact h.elim
theorem tunnel_Unpack_1.ok : CalleeOk Try.prog 50 tunnel_Unpack_1.F :=
  callee_ok tunnel_Unpack_1.hΓ (fn := Try.f50) (c := tunnel_Unpack_1.body) (T := wC Try.prog tunnel_Unpack_1.Γ tunnel_Unpack_1.plan tunnel_Unpack_1.body) (by kernel_rfl) (by kernel_rfl) (by kernel_rfl) (wC_sound tunnel_Unpack_1.hΓ Try.hm tunnel_Unpack_1.plan _ tunnel_Unpack_1.pok) fun _ K E H h => by
    obtain ⟨z0, z1, z2, e, h⟩ := tunnel_Unpack_1.Fe h
    subst e
    have h2 : tunnel_Unpack_1.vc z0 z1 z2 (fun r0_0 H => ∃ H', Heap.Le H' H ∧ K (.int .u32 r0_0) H') E H := h.h
    rw [tunnel_Unpack_1.eq z0 z1 z2 (Fg K) E H]
    exact h2

/-! vizard/tunnel.Unpack -/
noncomputable def tunnel_Unpack.body : Code := Try.f20.body.getD .skip
def tunnel_Unpack.vc (s0 : ByteArray) (K : Bool → Int → Int → Int → ByteArray → Int → Heap → Prop) (E : Value → Heap → Prop) (h0 : Heap) : Prop :=
  newB (.cells #[(.string s0)] 9) (fun b0 h1 =>
  newB (.cells #[(.bool false), (.int .i64 0), (.int .u32 0), (.int .i64 0), (.string (⟨#[]⟩ : ByteArray))] 30) (fun b1 h2 =>
  ldS h2 (⟨b0, 0, none⟩ : Addr) fun x0 =>
  (if (decide ((x0.size : Int) < 9)) = true then
  stc h2 ((⟨b1, 0, none⟩ : Addr).add 0) (.bool false) fun h3 =>
  stc h3 ((⟨b1, 0, none⟩ : Addr).add 1) (.int .i64 0) fun h4 =>
  stc h4 ((⟨b1, 0, none⟩ : Addr).add 2) (.int .u32 0) fun h5 =>
  stc h5 ((⟨b1, 0, none⟩ : Addr).add 3) (.int .i64 0) fun h6 =>
  stc h6 ((⟨b1, 0, none⟩ : Addr).add 4) (.string (⟨#[]⟩ : ByteArray)) fun h7 =>
  ldB h7 ((⟨b1, 0, none⟩ : Addr).add 0) fun r0 => ldI h7 .i64 ((⟨b1, 0, none⟩ : Addr).add 1) fun r1 => ldI h7 .u32 ((⟨b1, 0, none⟩ : Addr).add 2) fun r2 => ldI h7 .i64 ((⟨b1, 0, none⟩ : Addr).add 3) fun r3 => ldS h7 ((⟨b1, 0, none⟩ : Addr).add 4) fun r4 =>
  K r0 r1 r2 r3 r4 1 h7
  else
  ldS h2 (⟨b0, 0, none⟩ : Addr) fun x1 =>
  (0 : Int) ≤ 0 ∧ 0 < (x1.size : Int) ∧
  (if (decide ((bt x1 0) > 1)) = true then
  stc h2 ((⟨b1, 0, none⟩ : Addr).add 0) (.bool false) fun h8 =>
  stc h8 ((⟨b1, 0, none⟩ : Addr).add 1) (.int .i64 0) fun h9 =>
  stc h9 ((⟨b1, 0, none⟩ : Addr).add 2) (.int .u32 0) fun h10 =>
  stc h10 ((⟨b1, 0, none⟩ : Addr).add 3) (.int .i64 0) fun h11 =>
  stc h11 ((⟨b1, 0, none⟩ : Addr).add 4) (.string (⟨#[]⟩ : ByteArray)) fun h12 =>
  ldB h12 ((⟨b1, 0, none⟩ : Addr).add 0) fun r5 => ldI h12 .i64 ((⟨b1, 0, none⟩ : Addr).add 1) fun r6 => ldI h12 .u32 ((⟨b1, 0, none⟩ : Addr).add 2) fun r7 => ldI h12 .i64 ((⟨b1, 0, none⟩ : Addr).add 3) fun r8 => ldS h12 ((⟨b1, 0, none⟩ : Addr).add 4) fun r9 =>
  K r5 r6 r7 r8 r9 3 h12
  else
  ldS h2 (⟨b0, 0, none⟩ : Addr) fun x2 =>
  (0 : Int) ≤ 0 ∧ 0 < (x2.size : Int) ∧
  ldS h2 (⟨b0, 0, none⟩ : Addr) fun x3 =>
  (0 : Int) ≤ 9 ∧ 9 ≤ (x3.size : Int) ∧ x3.size ≤ x3.size ∧
  tunnel_Unpack_1.c 1 3 (⟨b0, 0, none⟩ : Addr) (fun x4 h13 =>
  (ldS h13 (⟨b0, 0, none⟩ : Addr) fun x5 =>
  eqv h13 h13 (some (.string x3)) (.string x5)) ∧
  (ldS h13 (⟨b0, 0, none⟩ : Addr) fun x6 =>
  eqv h13 h13 (some (.string x2)) (.string x6)) ∧
  tunnel_Unpack_1.c 3 5 (⟨b0, 0, none⟩ : Addr) (fun x7 h14 =>
  (eqv h14 h14 (some (.int .i64 (IntKind.i64.wrap x4))) (.int .i64 (IntKind.i64.wrap x4))) ∧
  (ldS h14 (⟨b0, 0, none⟩ : Addr) fun x8 =>
  eqv h14 h14 (some (.string x3)) (.string x8)) ∧
  (ldS h14 (⟨b0, 0, none⟩ : Addr) fun x9 =>
  eqv h14 h14 (some (.string x2)) (.string x9)) ∧
  tunnel_Unpack_1.c 5 9 (⟨b0, 0, none⟩ : Addr) (fun x10 h15 =>
  (eqv h15 h15 (some (.int .i64 (IntKind.i64.wrap x7))) (.int .i64 (IntKind.i64.wrap x7))) ∧
  (eqv h15 h15 (some (.int .i64 (IntKind.i64.wrap x4))) (.int .i64 (IntKind.i64.wrap x4))) ∧
  (ldS h15 (⟨b0, 0, none⟩ : Addr) fun x11 =>
  eqv h15 h15 (some (.string x3)) (.string x11)) ∧
  (ldS h15 (⟨b0, 0, none⟩ : Addr) fun x12 =>
  eqv h15 h15 (some (.string x2)) (.string x12)) ∧
  stc h15 ((⟨b1, 0, none⟩ : Addr).add 0) (.bool ((bt x2 0) == 1)) fun h16 =>
  stc h16 ((⟨b1, 0, none⟩ : Addr).add 1) (.int .i64 (IntKind.i64.wrap x4)) fun h17 =>
  stc h17 ((⟨b1, 0, none⟩ : Addr).add 2) (.int .u32 x10) fun h18 =>
  stc h18 ((⟨b1, 0, none⟩ : Addr).add 3) (.int .i64 (IntKind.i64.wrap x7)) fun h19 =>
  stc h19 ((⟨b1, 0, none⟩ : Addr).add 4) (.string (x3.extract 9 x3.size)) fun h20 =>
  ldB h20 ((⟨b1, 0, none⟩ : Addr).add 0) fun r10 => ldI h20 .i64 ((⟨b1, 0, none⟩ : Addr).add 1) fun r11 => ldI h20 .u32 ((⟨b1, 0, none⟩ : Addr).add 2) fun r12 => ldI h20 .i64 ((⟨b1, 0, none⟩ : Addr).add 3) fun r13 => ldS h20 ((⟨b1, 0, none⟩ : Addr).add 4) fun r14 =>
  K r10 r11 r12 r13 r14 0 h20) E h14) E h13) E h2))) h1) h0
structure tunnel_Unpack.c (s0 : ByteArray) (K : Bool → Int → Int → Int → ByteArray → Int → Heap → Prop) (E : Value → Heap → Prop) (H : Heap) : Prop where
  h : tunnel_Unpack.vc s0 (fun r0_0 r0_1 r0_2 r0_3 r0_4 r1_0 H => ∃ H', Heap.Le H' H ∧ K r0_0 r0_1 r0_2 r0_3 r0_4 r1_0 H') E H
def tunnel_Unpack.F : FT := fun args K E H => match args with
  | [(.string s0)] => tunnel_Unpack.c s0 (fun r0_0 r0_1 r0_2 r0_3 r0_4 r1_0 H => K (.tuple #[(.agg #[(.bool r0_0), (.int .i64 r0_1), (.int .u32 r0_2), (.int .i64 r0_3), (.string r0_4)]), (.int .i64 r1_0)]) H) E H
  | _ => False
noncomputable def tunnel_Unpack.Γ : FuncId → Option FT := Γof [(50, tunnel_Unpack_1.F)]
theorem tunnel_Unpack.hΓ : ∀ f F, tunnel_Unpack.Γ f = some F → CalleeOk Try.prog f F := Γof_ok (List.forall_mem_cons.2 ⟨tunnel_Unpack_1.ok, fun _ h => nomatch h⟩)
noncomputable def tunnel_Unpack.plan : Plan := .seq (.go) (.seq (.go) (.seq (.go) (.seq (.draw ⟨[0, 1, 2, 3, 4, 5, 6, 7, 8, 9, 10, 11, 12, 13, 14], (dl [(0, []), (1, []), (2, []), (3, []), (6, []), (9, []), (11, []), (12, []), (4, [3]), (5, []), (7, [6, 4, 3]), (8, []), (10, [9, 7, 6, 4, 3]), (13, []), (14, [13, 10, 0, 1, 2, 3, 4, 5, 6, 7, 8, 9, 11, 12])] .fin), [15]⟩) (.go))))
theorem tunnel_Unpack.pok : PlanOk Try.prog tunnel_Unpack.plan tunnel_Unpack.body := by
  have e : PlanOk Try.prog tunnel_Unpack.plan tunnel_Unpack.body = ((True) ∧ ((True) ∧ ((True) ∧ ((True) ∧ (True))))) := by kernel_rfl
  exact e.mpr ⟨trivial, ⟨trivial, ⟨trivial, ⟨trivial, trivial⟩⟩⟩⟩
theorem tunnel_Unpack.eq (s0 : ByteArray) (K : Value → Heap → Prop) (E : Value → Heap → Prop) (H : Heap) :
    fnT Try.prog Try.f20 (wC Try.prog tunnel_Unpack.Γ tunnel_Unpack.plan tunnel_Unpack.body) [(.string s0)] K E H = tunnel_Unpack.vc s0 (fun r0_0 r0_1 r0_2 r0_3 r0_4 r1_0 H => K (.tuple #[(.agg #[(.bool r0_0), (.int .i64 r0_1), (.int .u32 r0_2), (.int .i64 r0_3), (.string r0_4)]), (.int .i64 r1_0)]) H) E H := by
  kernel_rfl
theorem tunnel_Unpack.Fe {args : List Value} {K E : Value → Heap → Prop} {H : Heap} (h : tunnel_Unpack.F args K E H) : ∃ s0, args = [(.string s0)] ∧ tunnel_Unpack.c s0 (fun r0_0 r0_1 r0_2 r0_3 r0_4 r1_0 H => K (.tuple #[(.agg #[(.bool r0_0), (.int .i64 r0_1), (.int .u32 r0_2), (.int .i64 r0_3), (.string r0_4)]), (.int .i64 r1_0)]) H) E H := by
  unfold tunnel_Unpack.F at h
  split at h
  · exact ⟨_, rfl, h⟩
  · exact h.elim
theorem tunnel_Unpack.ok : CalleeOk Try.prog 20 tunnel_Unpack.F :=
  callee_ok tunnel_Unpack.hΓ (fn := Try.f20) (c := tunnel_Unpack.body) (T := wC Try.prog tunnel_Unpack.Γ tunnel_Unpack.plan tunnel_Unpack.body) (by kernel_rfl) (by kernel_rfl) (by kernel_rfl) (wC_sound tunnel_Unpack.hΓ Try.hm tunnel_Unpack.plan _ tunnel_Unpack.pok) fun _ K E H h => by
    obtain ⟨z0, e, h⟩ := tunnel_Unpack.Fe h
    subst e
    have h2 : tunnel_Unpack.vc z0 (fun r0_0 r0_1 r0_2 r0_3 r0_4 r1_0 H => ∃ H', Heap.Le H' H ∧ K (.tuple #[(.agg #[(.bool r0_0), (.int .i64 r0_1), (.int .u32 r0_2), (.int .i64 r0_3), (.string r0_4)]), (.int .i64 r1_0)]) H') E H := h.h
    rw [tunnel_Unpack.eq z0 (Fg K) E H]
    exact h2

/-! vizard/vizardref01.Number -/
noncomputable def vizardref01_Number.body : Code := Try.f51.body.getD .skip
def vizardref01_Number.W1.vc (s0 : ByteArray) (n0 : Int) (i0 : Int) (Kx0 : Int → Heap → Prop) (RR : Int → Int → Heap → Prop) (E : Value → Heap → Prop) (h0 : Heap) : Prop :=
  (if (decide (i0 < (s0.size : Int))) = true then
  (0 : Int) ≤ i0 ∧ i0 < (s0.size : Int) ∧
  RR (IntKind.i64.wrap ((IntKind.i64.wrap (n0 * 256)) + (IntKind.i64.wrap (bt s0 i0)))) (IntKind.i64.wrap (i0 + 1)) h0
  else
  Kx0 n0 h0)
structure vizardref01_Number.W1 (s0 : ByteArray) (n0 : Int) (i0 : Int) (Kx0 : Int → Heap → Prop) (E : Value → Heap → Prop) (H : Heap) : Prop where
  h : Loop (fun (RR : Int × Int → Heap → Prop) (s : Int × Int) (H : Heap) => vizardref01_Number.W1.vc s0 s.1 s.2 Kx0 (fun n0 i0 H => RR (n0, i0) H) E H) (n0, i0) H
def vizardref01_Number.vc (s0 : ByteArray) (K : Int → Heap → Prop) (E : Value → Heap → Prop) (h0 : Heap) : Prop :=
  vizardref01_Number.W1 s0 0 0 K E h0
structure vizardref01_Number.c (s0 : ByteArray) (K : Int → Heap → Prop) (E : Value → Heap → Prop) (H : Heap) : Prop where
  h : vizardref01_Number.vc s0 (fun r0_0 H => ∃ H', Heap.Le H' H ∧ K r0_0 H') E H
def vizardref01_Number.F : FT := fun args K E H => match args with
  | [(.string s0)] => vizardref01_Number.c s0 (fun r0_0 H => K (.int .i64 r0_0) H) E H
  | _ => False
noncomputable def vizardref01_Number.Γ : FuncId → Option FT := Γof []
theorem vizardref01_Number.hΓ : ∀ f F, vizardref01_Number.Γ f = some F → CalleeOk Try.prog f F := Γof_ok (fun _ h => nomatch h)
def vizardref01_Number.W1.t : CT := fun Q E fr H => lenIs 19 fr (slS fr 0 fun s0 => slI fr 3 .i64 fun n0 => slI fr 4 .i64 fun i0 => vizardref01_Number.W1 s0 n0 i0 (fun y3_0 H => Q (.exit 0) (mkF 19 [(3, (.int .i64 y3_0))]) H) E H)
noncomputable def vizardref01_Number.W1.plan : Plan := .go
theorem vizardref01_Number.W1.pok : PlanOk Try.prog vizardref01_Number.W1.plan (sub [1, 1, 0, 1, 0, 0] vizardref01_Number.body) := by
  have e : PlanOk Try.prog vizardref01_Number.W1.plan (sub [1, 1, 0, 1, 0, 0] vizardref01_Number.body) = (True) := by kernel_rfl
  exact e.mpr trivial
theorem vizardref01_Number.W1.eq (s0 : ByteArray) (Q : Ex → Fr → Heap → Prop) (E : Value → Heap → Prop) (RR : Fr → Heap → Prop) (s : Int × Int) (H : Heap) :
    (fun (RR : Int × Int → Heap → Prop) (s : Int × Int) (H : Heap) => vizardref01_Number.W1.vc s0 s.1 s.2 (fun y3_0 H => Q (.exit 0) (mkF 19 [(3, (.int .i64 y3_0))]) H) (fun n0 i0 H => RR (n0, i0) H) E H) (fun s' H' => RR ((fun (s : Int × Int) => (mkF 19 [(0, (.string s0)), (3, (.int .i64 s.1)), (4, (.int .i64 s.2))])) s') H') s H = keepT [0, 3, 4] [] (fun i => if i = 0 then [3] else []) (wC Try.prog vizardref01_Number.Γ vizardref01_Number.W1.plan (sub [1, 1, 0, 1, 0, 0] vizardref01_Number.body)) (fun e fr' H' => match e with | .normal => RR fr' H' | .exit id => Q (.exit id) fr' H' | .ret => Q .ret fr' H') E ((fun (s : Int × Int) => (mkF 19 [(0, (.string s0)), (3, (.int .i64 s.1)), (4, (.int .i64 s.2))])) s) H := by
  kernel_rfl
theorem vizardref01_Number.W1.ok : SoundCode Try.prog (sub [1, 1, 0, 1, 0] vizardref01_Number.body) vizardref01_Number.W1.t := by
  have e : (sub [1, 1, 0, 1, 0] vizardref01_Number.body) = .loop (sub [1, 1, 0, 1, 0, 0] vizardref01_Number.body) := by kernel_rfl
  rw [e]
  refine piece_sound (loopN_sound (keepT_sound [0, 3, 4] [] (fun i => if i = 0 then [3] else []) (wC_sound vizardref01_Number.hΓ Try.hm vizardref01_Number.W1.plan _ vizardref01_Number.W1.pok))) ?_
  intro Q E fr H h
  unfold vizardref01_Number.W1.t at h
  obtain ⟨hl, h⟩ := lenIs_elim h
  obtain ⟨s0, q0, h⟩ := slS_elim h
  obtain ⟨n0, q3, h⟩ := slI_elim h
  obtain ⟨i0, q4, h⟩ := slI_elim h
  obtain ⟨m, h⟩ := h.h
  refine ⟨(mkF 19 [(0, (.string s0)), (3, (.int .i64 n0)), (4, (.int .i64 i0))]), fun a ha => ha.mk (Nat.le_of_eq hl.symm) (List.forall_mem_cons.2 ⟨q0, List.forall_mem_cons.2 ⟨q3, List.forall_mem_cons.2 ⟨q4, fun _ h => nomatch h⟩⟩⟩), m, ?_⟩
  have e := loopS_eq (B := (fun (RR : Int × Int → Heap → Prop) (s : Int × Int) (H : Heap) => vizardref01_Number.W1.vc s0 s.1 s.2 (fun y3_0 H => Q (.exit 0) (mkF 19 [(3, (.int .i64 y3_0))]) H) (fun n0 i0 H => RR (n0, i0) H) E H)) (A := keepT [0, 3, 4] [] (fun i => if i = 0 then [3] else []) (wC Try.prog vizardref01_Number.Γ vizardref01_Number.W1.plan (sub [1, 1, 0, 1, 0, 0] vizardref01_Number.body))) (m := (fun (s : Int × Int) => (mkF 19 [(0, (.string s0)), (3, (.int .i64 s.1)), (4, (.int .i64 s.2))]))) (Q := Q) (E := E) (fun RR s H => vizardref01_Number.W1.eq s0 Q E RR s H) m (n0, i0) H
  exact cast e h
noncomputable def vizardref01_Number.plan : Plan := .seq (.go) (.seq (.go) (.seq (.seq (.go) (.block (.use vizardref01_Number.W1.t))) (.go)))
theorem vizardref01_Number.pok : PlanOk Try.prog vizardref01_Number.plan vizardref01_Number.body := by
  have e : PlanOk Try.prog vizardref01_Number.plan vizardref01_Number.body = ((True) ∧ ((True) ∧ (((True) ∧ (SoundCode Try.prog (sub [1, 1, 0, 1, 0] vizardref01_Number.body) vizardref01_Number.W1.t)) ∧ (True)))) := by kernel_rfl
  exact e.mpr ⟨trivial, ⟨trivial, ⟨⟨trivial, vizardref01_Number.W1.ok⟩, trivial⟩⟩⟩
theorem vizardref01_Number.eq (s0 : ByteArray) (K : Value → Heap → Prop) (E : Value → Heap → Prop) (H : Heap) :
    fnT Try.prog Try.f51 (wC Try.prog vizardref01_Number.Γ vizardref01_Number.plan vizardref01_Number.body) [(.string s0)] K E H = vizardref01_Number.vc s0 (fun r0_0 H => K (.int .i64 r0_0) H) E H := by
  kernel_rfl
theorem vizardref01_Number.Fe {args : List Value} {K E : Value → Heap → Prop} {H : Heap} (h : vizardref01_Number.F args K E H) : ∃ s0, args = [(.string s0)] ∧ vizardref01_Number.c s0 (fun r0_0 H => K (.int .i64 r0_0) H) E H := by
  unfold vizardref01_Number.F at h
  split at h
  · exact ⟨_, rfl, h⟩
  · exact h.elim
theorem vizardref01_Number.ok : CalleeOk Try.prog 51 vizardref01_Number.F :=
  callee_ok vizardref01_Number.hΓ (fn := Try.f51) (c := vizardref01_Number.body) (T := wC Try.prog vizardref01_Number.Γ vizardref01_Number.plan vizardref01_Number.body) (by kernel_rfl) (by kernel_rfl) (by kernel_rfl) (wC_sound vizardref01_Number.hΓ Try.hm vizardref01_Number.plan _ vizardref01_Number.pok) fun _ K E H h => by
    obtain ⟨z0, e, h⟩ := vizardref01_Number.Fe h
    subst e
    have h2 : vizardref01_Number.vc z0 (fun r0_0 H => ∃ H', Heap.Le H' H ∧ K (.int .i64 r0_0) H') E H := h.h
    rw [vizardref01_Number.eq z0 (Fg K) E H]
    exact h2

/-! vizard/vizardref22.Unpack -/
noncomputable def vizardref22_Unpack.body : Code := Try.f21.body.getD .skip
def vizardref22_Unpack.vc (s0 : ByteArray) (K : Bool → Int → Int → Int → ByteArray → Int → Heap → Prop) (E : Value → Heap → Prop) (h0 : Heap) : Prop :=
  newB (.cells #[(.bool false), (.int .i64 0), (.int .u32 0), (.int .i64 0), (.string (⟨#[]⟩ : ByteArray))] 30) (fun b0 h1 =>
  (if (decide ((s0.size : Int) < 9)) = true then
  stc h1 ((⟨b0, 0, none⟩ : Addr).add 0) (.bool false) fun h2 =>
  stc h2 ((⟨b0, 0, none⟩ : Addr).add 1) (.int .i64 0) fun h3 =>
  stc h3 ((⟨b0, 0, none⟩ : Addr).add 2) (.int .u32 0) fun h4 =>
  stc h4 ((⟨b0, 0, none⟩ : Addr).add 3) (.int .i64 0) fun h5 =>
  stc h5 ((⟨b0, 0, none⟩ : Addr).add 4) (.string (⟨#[]⟩ : ByteArray)) fun h6 =>
  ldB h6 ((⟨b0, 0, none⟩ : Addr).add 0) fun r0 => ldI h6 .i64 ((⟨b0, 0, none⟩ : Addr).add 1) fun r1 => ldI h6 .u32 ((⟨b0, 0, none⟩ : Addr).add 2) fun r2 => ldI h6 .i64 ((⟨b0, 0, none⟩ : Addr).add 3) fun r3 => ldS h6 ((⟨b0, 0, none⟩ : Addr).add 4) fun r4 =>
  K r0 r1 r2 r3 r4 1 h6
  else
  (0 : Int) ≤ 0 ∧ 0 < (s0.size : Int) ∧
  (if (decide ((bt s0 0) > 1)) = true then
  stc h1 ((⟨b0, 0, none⟩ : Addr).add 0) (.bool false) fun h7 =>
  stc h7 ((⟨b0, 0, none⟩ : Addr).add 1) (.int .i64 0) fun h8 =>
  stc h8 ((⟨b0, 0, none⟩ : Addr).add 2) (.int .u32 0) fun h9 =>
  stc h9 ((⟨b0, 0, none⟩ : Addr).add 3) (.int .i64 0) fun h10 =>
  stc h10 ((⟨b0, 0, none⟩ : Addr).add 4) (.string (⟨#[]⟩ : ByteArray)) fun h11 =>
  ldB h11 ((⟨b0, 0, none⟩ : Addr).add 0) fun r5 => ldI h11 .i64 ((⟨b0, 0, none⟩ : Addr).add 1) fun r6 => ldI h11 .u32 ((⟨b0, 0, none⟩ : Addr).add 2) fun r7 => ldI h11 .i64 ((⟨b0, 0, none⟩ : Addr).add 3) fun r8 => ldS h11 ((⟨b0, 0, none⟩ : Addr).add 4) fun r9 =>
  K r5 r6 r7 r8 r9 3 h11
  else
  (0 : Int) ≤ 0 ∧ 0 < (s0.size : Int) ∧
  (0 : Int) ≤ 1 ∧ 1 ≤ (3 : Int) ∧ 3 ≤ (s0.size : Int) ∧
  (0 : Int) ≤ 3 ∧ 3 ≤ (5 : Int) ∧ 5 ≤ (s0.size : Int) ∧
  (0 : Int) ≤ 5 ∧ 5 ≤ (9 : Int) ∧ 9 ≤ (s0.size : Int) ∧
  (0 : Int) ≤ 9 ∧ 9 ≤ (s0.size : Int) ∧ s0.size ≤ s0.size ∧
  vizardref01_Number.c (s0.extract 1 3) (fun x0 h12 =>
  vizardref01_Number.c (s0.extract 3 5) (fun x1 h13 =>
  vizardref01_Number.c (s0.extract 5 9) (fun x2 h14 =>
  stc h14 ((⟨b0, 0, none⟩ : Addr).add 0) (.bool ((bt s0 0) == 1)) fun h15 =>
  stc h15 ((⟨b0, 0, none⟩ : Addr).add 1) (.int .i64 x0) fun h16 =>
  stc h16 ((⟨b0, 0, none⟩ : Addr).add 2) (.int .u32 (IntKind.u32.wrap x2)) fun h17 =>
  stc h17 ((⟨b0, 0, none⟩ : Addr).add 3) (.int .i64 x1) fun h18 =>
  stc h18 ((⟨b0, 0, none⟩ : Addr).add 4) (.string (s0.extract 9 s0.size)) fun h19 =>
  ldB h19 ((⟨b0, 0, none⟩ : Addr).add 0) fun r10 => ldI h19 .i64 ((⟨b0, 0, none⟩ : Addr).add 1) fun r11 => ldI h19 .u32 ((⟨b0, 0, none⟩ : Addr).add 2) fun r12 => ldI h19 .i64 ((⟨b0, 0, none⟩ : Addr).add 3) fun r13 => ldS h19 ((⟨b0, 0, none⟩ : Addr).add 4) fun r14 =>
  K r10 r11 r12 r13 r14 0 h19) E h13) E h12) E h1))) h0
structure vizardref22_Unpack.c (s0 : ByteArray) (K : Bool → Int → Int → Int → ByteArray → Int → Heap → Prop) (E : Value → Heap → Prop) (H : Heap) : Prop where
  h : vizardref22_Unpack.vc s0 (fun r0_0 r0_1 r0_2 r0_3 r0_4 r1_0 H => ∃ H', Heap.Le H' H ∧ K r0_0 r0_1 r0_2 r0_3 r0_4 r1_0 H') E H
def vizardref22_Unpack.F : FT := fun args K E H => match args with
  | [(.string s0)] => vizardref22_Unpack.c s0 (fun r0_0 r0_1 r0_2 r0_3 r0_4 r1_0 H => K (.tuple #[(.agg #[(.bool r0_0), (.int .i64 r0_1), (.int .u32 r0_2), (.int .i64 r0_3), (.string r0_4)]), (.int .i64 r1_0)]) H) E H
  | _ => False
noncomputable def vizardref22_Unpack.Γ : FuncId → Option FT := Γof [(51, vizardref01_Number.F)]
theorem vizardref22_Unpack.hΓ : ∀ f F, vizardref22_Unpack.Γ f = some F → CalleeOk Try.prog f F := Γof_ok (List.forall_mem_cons.2 ⟨vizardref01_Number.ok, fun _ h => nomatch h⟩)
noncomputable def vizardref22_Unpack.plan : Plan := .seq (.go) (.seq (.go) (.seq (.go) (.seq (.draw ⟨[0, 1, 2, 3, 4, 5, 6, 7, 8, 9, 10, 11, 12, 13, 14, 15, 16], (dl [(0, []), (1, []), (2, []), (3, []), (4, []), (6, []), (7, []), (9, []), (10, []), (13, []), (14, []), (5, [4, 3]), (8, [7, 5, 6, 4, 3]), (11, [10, 8, 9, 7, 5, 6, 4, 3]), (12, []), (15, []), (16, [15, 11, 0, 1, 2, 3, 4, 5, 6, 7, 8, 9, 10, 12, 13, 14])] .fin), [17]⟩) (.go))))
theorem vizardref22_Unpack.pok : PlanOk Try.prog vizardref22_Unpack.plan vizardref22_Unpack.body := by
  have e : PlanOk Try.prog vizardref22_Unpack.plan vizardref22_Unpack.body = ((True) ∧ ((True) ∧ ((True) ∧ ((True) ∧ (True))))) := by kernel_rfl
  exact e.mpr ⟨trivial, ⟨trivial, ⟨trivial, ⟨trivial, trivial⟩⟩⟩⟩
theorem vizardref22_Unpack.eq (s0 : ByteArray) (K : Value → Heap → Prop) (E : Value → Heap → Prop) (H : Heap) :
    fnT Try.prog Try.f21 (wC Try.prog vizardref22_Unpack.Γ vizardref22_Unpack.plan vizardref22_Unpack.body) [(.string s0)] K E H = vizardref22_Unpack.vc s0 (fun r0_0 r0_1 r0_2 r0_3 r0_4 r1_0 H => K (.tuple #[(.agg #[(.bool r0_0), (.int .i64 r0_1), (.int .u32 r0_2), (.int .i64 r0_3), (.string r0_4)]), (.int .i64 r1_0)]) H) E H := by
  kernel_rfl
theorem vizardref22_Unpack.Fe {args : List Value} {K E : Value → Heap → Prop} {H : Heap} (h : vizardref22_Unpack.F args K E H) : ∃ s0, args = [(.string s0)] ∧ vizardref22_Unpack.c s0 (fun r0_0 r0_1 r0_2 r0_3 r0_4 r1_0 H => K (.tuple #[(.agg #[(.bool r0_0), (.int .i64 r0_1), (.int .u32 r0_2), (.int .i64 r0_3), (.string r0_4)]), (.int .i64 r1_0)]) H) E H := by
  unfold vizardref22_Unpack.F at h
  split at h
  · exact ⟨_, rfl, h⟩
  · exact h.elim
theorem vizardref22_Unpack.ok : CalleeOk Try.prog 21 vizardref22_Unpack.F :=
  callee_ok vizardref22_Unpack.hΓ (fn := Try.f21) (c := vizardref22_Unpack.body) (T := wC Try.prog vizardref22_Unpack.Γ vizardref22_Unpack.plan vizardref22_Unpack.body) (by kernel_rfl) (by kernel_rfl) (by kernel_rfl) (wC_sound vizardref22_Unpack.hΓ Try.hm vizardref22_Unpack.plan _ vizardref22_Unpack.pok) fun _ K E H h => by
    obtain ⟨z0, e, h⟩ := vizardref22_Unpack.Fe h
    subst e
    have h2 : vizardref22_Unpack.vc z0 (fun r0_0 r0_1 r0_2 r0_3 r0_4 r1_0 H => ∃ H', Heap.Le H' H ∧ K (.tuple #[(.agg #[(.bool r0_0), (.int .i64 r0_1), (.int .u32 r0_2), (.int .i64 r0_3), (.string r0_4)]), (.int .i64 r1_0)]) H') E H := h.h
    rw [vizardref22_Unpack.eq z0 (Fg K) E H]
    exact h2

/-! vizard/vizardref22.port -/
noncomputable def vizardref22_port.body : Code := Try.f52.body.getD .skip
def vizardref22_port.vc (n0 : Int) (K : Bool → Heap → Prop) (E : Value → Heap → Prop) (h0 : Heap) : Prop :=
  (if (decide (n0 ≥ 0)) = true then
  K (decide (n0 ≤ 65535)) h0
  else
  K false h0)
structure vizardref22_port.c (n0 : Int) (K : Bool → Heap → Prop) (E : Value → Heap → Prop) (H : Heap) : Prop where
  h : vizardref22_port.vc n0 (fun r0_0 H => ∃ H', Heap.Le H' H ∧ K r0_0 H') E H
def vizardref22_port.F : FT := fun args K E H => match args with
  | [(.int .i64 n0)] => vizardref22_port.c n0 (fun r0_0 H => K (.bool r0_0) H) E H
  | _ => False
noncomputable def vizardref22_port.Γ : FuncId → Option FT := Γof []
theorem vizardref22_port.hΓ : ∀ f F, vizardref22_port.Γ f = some F → CalleeOk Try.prog f F := Γof_ok (fun _ h => nomatch h)
noncomputable def vizardref22_port.plan : Plan := .go
theorem vizardref22_port.pok : PlanOk Try.prog vizardref22_port.plan vizardref22_port.body := by
  have e : PlanOk Try.prog vizardref22_port.plan vizardref22_port.body = (True) := by kernel_rfl
  exact e.mpr trivial
theorem vizardref22_port.eq (n0 : Int) (K : Value → Heap → Prop) (E : Value → Heap → Prop) (H : Heap) :
    fnT Try.prog Try.f52 (wC Try.prog vizardref22_port.Γ vizardref22_port.plan vizardref22_port.body) [(.int .i64 n0)] K E H = vizardref22_port.vc n0 (fun r0_0 H => K (.bool r0_0) H) E H := by
  kernel_rfl
theorem vizardref22_port.Fe {args : List Value} {K E : Value → Heap → Prop} {H : Heap} (h : vizardref22_port.F args K E H) : ∃ n0, args = [(.int .i64 n0)] ∧ vizardref22_port.c n0 (fun r0_0 H => K (.bool r0_0) H) E H := by
  unfold vizardref22_port.F at h
  split at h
  · exact ⟨_, rfl, h⟩
  · exact h.elim
theorem vizardref22_port.ok : CalleeOk Try.prog 52 vizardref22_port.F :=
  callee_ok vizardref22_port.hΓ (fn := Try.f52) (c := vizardref22_port.body) (T := wC Try.prog vizardref22_port.Γ vizardref22_port.plan vizardref22_port.body) (by kernel_rfl) (by kernel_rfl) (by kernel_rfl) (wC_sound vizardref22_port.hΓ Try.hm vizardref22_port.plan _ vizardref22_port.pok) fun _ K E H h => by
    obtain ⟨z0, e, h⟩ := vizardref22_port.Fe h
    subst e
    have h2 : vizardref22_port.vc z0 (fun r0_0 H => ∃ H', Heap.Le H' H ∧ K (.bool r0_0) H') E H := h.h
    rw [vizardref22_port.eq z0 (Fg K) E H]
    exact h2

/-! vizard/vizardref01.Bytes -/
noncomputable def vizardref01_Bytes.body : Code := Try.f53.body.getD .skip
def vizardref01_Bytes.vc (self : Int → Int → (ByteArray → Heap → Prop) → (Value → Heap → Prop) → Heap → Prop) (n0 : Int) (k0 : Int) (K : ByteArray → Heap → Prop) (E : Value → Heap → Prop) (h0 : Heap) : Prop :=
  (if (k0 == 0) = true then
  K (⟨#[]⟩ : ByteArray) h0
  else
  256 ≠ (0 : Int) ∧
  256 ≠ (0 : Int) ∧
  (self (IntKind.i64.wrap (Int.tdiv n0 256)) (IntKind.i64.wrap (k0 - 1)) (fun x0 h1 =>
  (eqv h1 h1 (some (.int .u8 (IntKind.u8.wrap (Int.tmod n0 256)))) (.int .u8 (IntKind.u8.wrap (Int.tmod n0 256)))) ∧
  newB (.cells #[(.int .u8 (IntKind.u8.wrap (Int.tmod n0 256)))] 5) (fun b0 h2 =>
  rdBytes h2 (some (⟨b0, 0, none⟩ : Addr)) 1 fun x1 =>
  x0.size + x1.size ≤ 9223372036854775807 ∧
  K (x0 ++ x1) h2) h1) E h0) ∧
  newB (.cells #[(.int .u8 (IntKind.u8.wrap (Int.tmod n0 256)))] 5) (fun b1 h3 =>
  rdBytes h3 (some (⟨b1, 0, none⟩ : Addr)) 1 fun x2 =>
  self (IntKind.i64.wrap (Int.tdiv n0 256)) (IntKind.i64.wrap (k0 - 1)) (fun x3 h4 =>
  (rdBytes h4 (some (⟨b1, 0, none⟩ : Addr)) 1 fun x4 =>
  eqv h4 h4 (some (.string x2)) (.string x4)) ∧
  (eqv h4 h4 (some (.int .u8 (IntKind.u8.wrap (Int.tmod n0 256)))) (.int .u8 (IntKind.u8.wrap (Int.tmod n0 256)))) ∧
  x3.size + x2.size ≤ 9223372036854775807 ∧
  K (x3 ++ x2) h4) E h3) h0)
def vizardref01_Bytes.cn : Nat → Int → Int → (ByteArray → Heap → Prop) → (Value → Heap → Prop) → Heap → Prop
  | 0, _, _, _, _, _ => False
  | n + 1, n0, k0, K, E, H => vizardref01_Bytes.vc (vizardref01_Bytes.cn n) n0 k0 (fun r0_0 H => ∃ H', Heap.Le H' H ∧ K r0_0 H') E H
structure vizardref01_Bytes.c (n0 : Int) (k0 : Int) (K : ByteArray → Heap → Prop) (E : Value → Heap → Prop) (H : Heap) : Prop where
  h : ∃ n, vizardref01_Bytes.cn n n0 k0 K E H
def vizardref01_Bytes.Fn (n : Nat) : FT := fun args K E H => match args with
  | [(.int .i64 n0), (.int .i64 k0)] => vizardref01_Bytes.cn n n0 k0 (fun r0_0 H => K (.string r0_0) H) E H
  | _ => False
def vizardref01_Bytes.F : FT := fun args K E H => match args with
  | [(.int .i64 n0), (.int .i64 k0)] => vizardref01_Bytes.c n0 k0 (fun r0_0 H => K (.string r0_0) H) E H
  | _ => False
noncomputable def vizardref01_Bytes.Γ (n : Nat) : FuncId → Option FT := Γof [(53, vizardref01_Bytes.Fn n)]
theorem vizardref01_Bytes.hΓ (n : Nat) (hr : CalleeOk Try.prog 53 (vizardref01_Bytes.Fn n)) : ∀ f F, (vizardref01_Bytes.Γ n) f = some F → CalleeOk Try.prog f F := Γof_ok (List.forall_mem_cons.2 ⟨hr, fun _ h => nomatch h⟩)
noncomputable def vizardref01_Bytes.plan (n : Nat) : Plan := .seq (.go) (.seq (.go) (.seq (.draw ⟨[0, 1, 2, 3, 4, 5, 6, 7, 8, 9, 10], (dl [(0, []), (1, []), (2, []), (3, []), (5, []), (6, []), (7, [])] (.alt (dl [(4, [1, 3, 0, 2]), (8, [7, 6, 5]), (9, []), (10, [])] .fin) (dl [(8, [7, 6, 5]), (9, []), (4, [1, 3, 0, 2]), (10, [])] .fin))), [11]⟩) (.go)))
theorem vizardref01_Bytes.pok (n : Nat) (hr : CalleeOk Try.prog 53 (vizardref01_Bytes.Fn n)) : PlanOk Try.prog (vizardref01_Bytes.plan n) vizardref01_Bytes.body := by
  have e : PlanOk Try.prog (vizardref01_Bytes.plan n) vizardref01_Bytes.body = ((True) ∧ ((True) ∧ ((True) ∧ (True)))) := by kernel_rfl
  exact e.mpr ⟨trivial, ⟨trivial, ⟨trivial, trivial⟩⟩⟩
theorem vizardref01_Bytes.eq (n : Nat) (n0 : Int) (k0 : Int) (K : Value → Heap → Prop) (E : Value → Heap → Prop) (H : Heap) :
    fnT Try.prog Try.f53 (wC Try.prog (vizardref01_Bytes.Γ n) (vizardref01_Bytes.plan n) vizardref01_Bytes.body) [(.int .i64 n0), (.int .i64 k0)] K E H = vizardref01_Bytes.vc (vizardref01_Bytes.cn n) n0 k0 (fun r0_0 H => K (.string r0_0) H) E H := by
  kernel_rfl
theorem vizardref01_Bytes.Fne {n : Nat} {args : List Value} {K E : Value → Heap → Prop} {H : Heap} (h : vizardref01_Bytes.Fn n args K E H) : ∃ n0 k0, args = [(.int .i64 n0), (.int .i64 k0)] ∧ vizardref01_Bytes.cn n n0 k0 (fun r0_0 H => K (.string r0_0) H) E H := by
  unfold vizardref01_Bytes.Fn at h
  split at h
  · exact ⟨_, _, rfl, h⟩
  · exact h.elim
theorem vizardref01_Bytes.Fe {args : List Value} {K E : Value → Heap → Prop} {H : Heap} (h : vizardref01_Bytes.F args K E H) : ∃ n0 k0, args = [(.int .i64 n0), (.int .i64 k0)] ∧ vizardref01_Bytes.c n0 k0 (fun r0_0 H => K (.string r0_0) H) E H := by
  unfold vizardref01_Bytes.F at h
  split at h
  · exact ⟨_, _, rfl, h⟩
  · exact h.elim
theorem vizardref01_Bytes.okn : ∀ n, CalleeOk Try.prog 53 (vizardref01_Bytes.Fn n)
  | 0 => fun args K E H w hS h => by
    obtain ⟨z0, z1, e, h⟩ := vizardref01_Bytes.Fne h
    exact (show False from h).elim
  | n + 1 => have hr := vizardref01_Bytes.okn n
    callee_ok (vizardref01_Bytes.hΓ n hr) (fn := Try.f53) (c := vizardref01_Bytes.body) (T := wC Try.prog (vizardref01_Bytes.Γ n) (vizardref01_Bytes.plan n) vizardref01_Bytes.body) (by kernel_rfl) (by kernel_rfl) (by kernel_rfl) (wC_sound (vizardref01_Bytes.hΓ n hr) Try.hm (vizardref01_Bytes.plan n) _ (vizardref01_Bytes.pok n hr)) fun _ K E H h => by
    obtain ⟨z0, z1, e, h⟩ := vizardref01_Bytes.Fne h
    subst e
    have h2 : vizardref01_Bytes.vc (vizardref01_Bytes.cn n) z0 z1 (fun r0_0 H => ∃ H', Heap.Le H' H ∧ K (.string r0_0) H') E H := h
    rw [vizardref01_Bytes.eq n z0 z1 (Fg K) E H]
    exact h2
theorem vizardref01_Bytes.ok : CalleeOk Try.prog 53 vizardref01_Bytes.F := by
  intro args K E H w hS h
  obtain ⟨z0, z1, e, h⟩ := vizardref01_Bytes.Fe h
  subst e
  obtain ⟨n, h⟩ := h.h
  exact vizardref01_Bytes.okn n _ K E H w hS h

/-! vizard/vizardref22.Pack -/
noncomputable def vizardref22_Pack.body : Code := Try.f22.body.getD .skip
def vizardref22_Pack.J1.vc (e0 : Addr) (x0 : Bool) (Kn : Heap → Prop) (Kr : ByteArray → Heap → Prop) (E : Value → Heap → Prop) (h0 : Heap) : Prop :=
  (if x0 = true then
  Kr (⟨#[]⟩ : ByteArray) h0
  else
  Kn h0)
structure vizardref22_Pack.J1 (e0 : Addr) (x0 : Bool) (Kn : Heap → Prop) (Kr : ByteArray → Heap → Prop) (E : Value → Heap → Prop) (H : Heap) : Prop where
  h : vizardref22_Pack.J1.vc e0 x0 Kn Kr E H
def vizardref22_Pack.J3.vc (e0 : Addr) (s0 : ByteArray) (Kr : ByteArray → Heap → Prop) (E : Value → Heap → Prop) (h0 : Heap) : Prop :=
  ldI h0 .i64 (e0.add 1) fun x0 =>
  ldI h0 .i64 (e0.add 3) fun x1 =>
  ldI h0 .u32 (e0.add 2) fun x2 =>
  ldS h0 (e0.add 4) fun x3 =>
  vizardref01_Bytes.c x0 2 (fun x4 h1 =>
  (ldS h1 (e0.add 4) fun x5 =>
  eqv h1 h1 (some (.string x3)) (.string x5)) ∧
  (eqv h1 h1 (some (.int .i64 (IntKind.i64.wrap x2))) (.int .i64 (IntKind.i64.wrap x2))) ∧
  (ldI h1 .u32 (e0.add 2) fun x6 =>
  eqv h1 h1 (some (.int .u32 x2)) (.int .u32 x6)) ∧
  (ldI h1 .i64 (e0.add 3) fun x7 =>
  eqv h1 h1 (some (.int .i64 x1)) (.int .i64 x7)) ∧
  s0.size + x4.size ≤ 9223372036854775807 ∧
  vizardref01_Bytes.c x1 2 (fun x8 h2 =>
  (ldS h2 (e0.add 4) fun x9 =>
  eqv h2 h2 (some (.string x3)) (.string x9)) ∧
  (eqv h2 h2 (some (.int .i64 (IntKind.i64.wrap x2))) (.int .i64 (IntKind.i64.wrap x2))) ∧
  (ldI h2 .u32 (e0.add 2) fun x10 =>
  eqv h2 h2 (some (.int .u32 x2)) (.int .u32 x10)) ∧
  (s0 ++ x4).size + x8.size ≤ 9223372036854775807 ∧
  vizardref01_Bytes.c (IntKind.i64.wrap x2) 4 (fun x11 h3 =>
  (ldS h3 (e0.add 4) fun x12 =>
  eqv h3 h3 (some (.string x3)) (.string x12)) ∧
  ((s0 ++ x4) ++ x8).size + x11.size ≤ 9223372036854775807 ∧
  (((s0 ++ x4) ++ x8) ++ x11).size + x3.size ≤ 9223372036854775807 ∧
  Kr ((((s0 ++ x4) ++ x8) ++ x11) ++ x3) h3) E h2) E h1) E h0
structure vizardref22_Pack.J3 (e0 : Addr) (s0 : ByteArray) (Kr : ByteArray → Heap → Prop) (E : Value → Heap → Prop) (H : Heap) : Prop where
  h : vizardref22_Pack.J3.vc e0 s0 Kr E H
def vizardref22_Pack.J2.vc (e0 : Addr) (Kr : ByteArray → Heap → Prop) (E : Value → Heap → Prop) (h0 : Heap) : Prop :=
  ldB h0 (e0.add 0) fun x0 =>
  (if x0 = true then
  vizardref22_Pack.J3 e0 (⟨#[1]⟩ : ByteArray) Kr E h0
  else
  vizardref22_Pack.J3 e0 (⟨#[0]⟩ : ByteArray) Kr E h0)
structure vizardref22_Pack.J2 (e0 : Addr) (Kr : ByteArray → Heap → Prop) (E : Value → Heap → Prop) (H : Heap) : Prop where
  h : vizardref22_Pack.J2.vc e0 Kr E H
def vizardref22_Pack.vc (e0 : Bool) (e1 : Int) (e2 : Int) (e3 : Int) (e4 : ByteArray) (K : ByteArray → Heap → Prop) (E : Value → Heap → Prop) (h0 : Heap) : Prop :=
  newB (.cells #[(.bool e0), (.int .i64 e1), (.int .u32 e2), (.int .i64 e3), (.string e4)] 30) (fun b0 h1 =>
  ldI h1 .i64 ((⟨b0, 0, none⟩ : Addr).add 1) fun x0 =>
  vizardref22_port.c x0 (fun x1 h2 =>
  (if (!x1) = true then
  vizardref22_Pack.J1 (⟨b0, 0, none⟩ : Addr) true (fun h3 =>
  vizardref22_Pack.J2 (⟨b0, 0, none⟩ : Addr) K E h3) K E h2
  else
  ldI h2 .i64 ((⟨b0, 0, none⟩ : Addr).add 3) fun x4 =>
  vizardref22_port.c x4 (fun x5 h6 =>
  vizardref22_Pack.J1 (⟨b0, 0, none⟩ : Addr) (!x5) (fun h7 =>
  vizardref22_Pack.J2 (⟨b0, 0, none⟩ : Addr) K E h7) K E h6) E h2)) E h1) h0
structure vizardref22_Pack.c (e0 : Bool) (e1 : Int) (e2 : Int) (e3 : Int) (e4 : ByteArray) (K : ByteArray → Heap → Prop) (E : Value → Heap → Prop) (H : Heap) : Prop where
  h : vizardref22_Pack.vc e0 e1 e2 e3 e4 (fun r0_0 H => ∃ H', Heap.Le H' H ∧ K r0_0 H') E H
def vizardref22_Pack.F : FT := fun args K E H => match args with
  | [(.agg ⟨[(.bool e0), (.int .i64 e1), (.int .u32 e2), (.int .i64 e3), (.string e4)]⟩)] => vizardref22_Pack.c e0 e1 e2 e3 e4 (fun r0_0 H => K (.string r0_0) H) E H
  | _ => False
noncomputable def vizardref22_Pack.Γ : FuncId → Option FT := Γof [(52, vizardref22_port.F), (53, vizardref01_Bytes.F)]
theorem vizardref22_Pack.hΓ : ∀ f F, vizardref22_Pack.Γ f = some F → CalleeOk Try.prog f F := Γof_ok (List.forall_mem_cons.2 ⟨vizardref22_port.ok, List.forall_mem_cons.2 ⟨vizardref01_Bytes.ok, fun _ h => nomatch h⟩⟩)
def vizardref22_Pack.J1.t : CT := fun Q E fr H => lenIs 33 fr (slPA fr 1 fun e0 => slB fr 13 fun x0 => vizardref22_Pack.J1 e0 x0 (fun  H => Q .normal (mkF 33 [(1, (.pointer (some e0)))]) H) (fun y2_0 H => Q .ret (mkF 33 [(2, (.string y2_0))]) H) E H)
noncomputable def vizardref22_Pack.J1.plan : Plan := .go
theorem vizardref22_Pack.J1.pok : PlanOk Try.prog vizardref22_Pack.J1.plan (sub [1, 0, 1] vizardref22_Pack.body) := by
  have e : PlanOk Try.prog vizardref22_Pack.J1.plan (sub [1, 0, 1] vizardref22_Pack.body) = (True) := by kernel_rfl
  exact e.mpr trivial
theorem vizardref22_Pack.J1.eq (e0 : Addr) (x0 : Bool) (Q : Ex → Fr → Heap → Prop) (E : Value → Heap → Prop) (H : Heap) :
    vizardref22_Pack.J1.vc e0 x0 (fun  H => Q .normal (mkF 33 [(1, (.pointer (some e0)))]) H) (fun y2_0 H => Q .ret (mkF 33 [(2, (.string y2_0))]) H) E H = keepT [1] [2] (fun i => []) (wC Try.prog vizardref22_Pack.Γ vizardref22_Pack.J1.plan (sub [1, 0, 1] vizardref22_Pack.body)) Q E (mkF 33 [(1, (.pointer (some e0))), (13, (.bool x0))]) H := by
  kernel_rfl
theorem vizardref22_Pack.J1.ok : SoundCode Try.prog (sub [1, 0, 1] vizardref22_Pack.body) vizardref22_Pack.J1.t := by
  refine piece_sound (keepT_sound [1] [2] (fun i => []) (wC_sound vizardref22_Pack.hΓ Try.hm vizardref22_Pack.J1.plan _ vizardref22_Pack.J1.pok)) ?_
  intro Q E fr H h
  unfold vizardref22_Pack.J1.t at h
  obtain ⟨hl, h⟩ := lenIs_elim h
  obtain ⟨e0, q1, h⟩ := slPA_elim h
  obtain ⟨x0, q13, h⟩ := slB_elim h
  refine ⟨(mkF 33 [(1, (.pointer (some e0))), (13, (.bool x0))]), fun a ha => ha.mk (Nat.le_of_eq hl.symm) (List.forall_mem_cons.2 ⟨q1, List.forall_mem_cons.2 ⟨q13, fun _ h => nomatch h⟩⟩), ?_⟩
  have e := vizardref22_Pack.J1.eq e0 x0 Q E H
  rw [← e]
  exact h.h
def vizardref22_Pack.J3.t : CT := fun Q E fr H => lenIs 33 fr (slPA fr 1 fun e0 => slS fr 3 fun s0 => vizardref22_Pack.J3 e0 s0 (fun y2_0 H => Q .ret (mkF 33 [(2, (.string y2_0))]) H) E H)
noncomputable def vizardref22_Pack.J3.plan : Plan := .seq (.draw ⟨[0, 1, 2, 3, 4, 5, 6, 7, 8, 9, 10, 11, 12, 13, 14, 15, 16], (dl [(0, []), (1, []), (2, []), (5, []), (6, []), (9, []), (10, []), (11, []), (14, []), (15, []), (3, [2, 1]), (4, []), (7, [6, 3, 5, 2, 1]), (8, []), (12, [11, 7, 10, 6, 3, 9, 5, 2, 1]), (13, []), (16, [])] .fin), [17]⟩) (.go)
theorem vizardref22_Pack.J3.pok : PlanOk Try.prog vizardref22_Pack.J3.plan (sub [1, 1, 1, 1] vizardref22_Pack.body) := by
  have e : PlanOk Try.prog vizardref22_Pack.J3.plan (sub [1, 1, 1, 1] vizardref22_Pack.body) = ((True) ∧ (True)) := by kernel_rfl
  exact e.mpr ⟨trivial, trivial⟩
theorem vizardref22_Pack.J3.eq (e0 : Addr) (s0 : ByteArray) (Q : Ex → Fr → Heap → Prop) (E : Value → Heap → Prop) (H : Heap) :
    vizardref22_Pack.J3.vc e0 s0 (fun y2_0 H => Q .ret (mkF 33 [(2, (.string y2_0))]) H) E H = keepT [] [2] (fun i => []) (wC Try.prog vizardref22_Pack.Γ vizardref22_Pack.J3.plan (sub [1, 1, 1, 1] vizardref22_Pack.body)) Q E (mkF 33 [(1, (.pointer (some e0))), (3, (.string s0))]) H := by
  kernel_rfl
theorem vizardref22_Pack.J3.ok : SoundCode Try.prog (sub [1, 1, 1, 1] vizardref22_Pack.body) vizardref22_Pack.J3.t := by
  refine piece_sound (keepT_sound [] [2] (fun i => []) (wC_sound vizardref22_Pack.hΓ Try.hm vizardref22_Pack.J3.plan _ vizardref22_Pack.J3.pok)) ?_
  intro Q E fr H h
  unfold vizardref22_Pack.J3.t at h
  obtain ⟨hl, h⟩ := lenIs_elim h
  obtain ⟨e0, q1, h⟩ := slPA_elim h
  obtain ⟨s0, q3, h⟩ := slS_elim h
  refine ⟨(mkF 33 [(1, (.pointer (some e0))), (3, (.string s0))]), fun a ha => ha.mk (Nat.le_of_eq hl.symm) (List.forall_mem_cons.2 ⟨q1, List.forall_mem_cons.2 ⟨q3, fun _ h => nomatch h⟩⟩), ?_⟩
  have e := vizardref22_Pack.J3.eq e0 s0 Q E H
  rw [← e]
  exact h.h
def vizardref22_Pack.J2.t : CT := fun Q E fr H => lenIs 33 fr (slPA fr 1 fun e0 => vizardref22_Pack.J2 e0 (fun y2_0 H => Q .ret (mkF 33 [(2, (.string y2_0))]) H) E H)
noncomputable def vizardref22_Pack.J2.plan : Plan := .seq (.go) (.seq (.go) (.use vizardref22_Pack.J3.t))
theorem vizardref22_Pack.J2.pok : PlanOk Try.prog vizardref22_Pack.J2.plan (sub [1, 1] vizardref22_Pack.body) := by
  have e : PlanOk Try.prog vizardref22_Pack.J2.plan (sub [1, 1] vizardref22_Pack.body) = ((True) ∧ ((True) ∧ (SoundCode Try.prog (sub [1, 1, 1, 1] vizardref22_Pack.body) vizardref22_Pack.J3.t))) := by kernel_rfl
  exact e.mpr ⟨trivial, ⟨trivial, vizardref22_Pack.J3.ok⟩⟩
theorem vizardref22_Pack.J2.eq (e0 : Addr) (Q : Ex → Fr → Heap → Prop) (E : Value → Heap → Prop) (H : Heap) :
    vizardref22_Pack.J2.vc e0 (fun y2_0 H => Q .ret (mkF 33 [(2, (.string y2_0))]) H) E H = keepT [] [2] (fun i => []) (wC Try.prog vizardref22_Pack.Γ vizardref22_Pack.J2.plan (sub [1, 1] vizardref22_Pack.body)) Q E (mkF 33 [(1, (.pointer (some e0)))]) H := by
  kernel_rfl
theorem vizardref22_Pack.J2.ok : SoundCode Try.prog (sub [1, 1] vizardref22_Pack.body) vizardref22_Pack.J2.t := by
  refine piece_sound (keepT_sound [] [2] (fun i => []) (wC_sound vizardref22_Pack.hΓ Try.hm vizardref22_Pack.J2.plan _ vizardref22_Pack.J2.pok)) ?_
  intro Q E fr H h
  unfold vizardref22_Pack.J2.t at h
  obtain ⟨hl, h⟩ := lenIs_elim h
  obtain ⟨e0, q1, h⟩ := slPA_elim h
  refine ⟨(mkF 33 [(1, (.pointer (some e0)))]), fun a ha => ha.mk (Nat.le_of_eq hl.symm) (List.forall_mem_cons.2 ⟨q1, fun _ h => nomatch h⟩), ?_⟩
  have e := vizardref22_Pack.J2.eq e0 Q E H
  rw [← e]
  exact h.h
noncomputable def vizardref22_Pack.plan : Plan := .seq (.go) (.seq (.seq (.go) (.use vizardref22_Pack.J1.t)) (.use vizardref22_Pack.J2.t))
theorem vizardref22_Pack.pok : PlanOk Try.prog vizardref22_Pack.plan vizardref22_Pack.body := by
  have e : PlanOk Try.prog vizardref22_Pack.plan vizardref22_Pack.body = ((True) ∧ (((True) ∧ (SoundCode Try.prog (sub [1, 0, 1] vizardref22_Pack.body) vizardref22_Pack.J1.t)) ∧ (SoundCode Try.prog (sub [1, 1] vizardref22_Pack.body) vizardref22_Pack.J2.t))) := by kernel_rfl
  exact e.mpr ⟨trivial, ⟨⟨trivial, vizardref22_Pack.J1.ok⟩, vizardref22_Pack.J2.ok⟩⟩
theorem vizardref22_Pack.eq (e0 : Bool) (e1 : Int) (e2 : Int) (e3 : Int) (e4 : ByteArray) (K : Value → Heap → Prop) (E : Value → Heap → Prop) (H : Heap) :
    fnT Try.prog Try.f22 (wC Try.prog vizardref22_Pack.Γ vizardref22_Pack.plan vizardref22_Pack.body) [(.agg #[(.bool e0), (.int .i64 e1), (.int .u32 e2), (.int .i64 e3), (.string e4)])] K E H = vizardref22_Pack.vc e0 e1 e2 e3 e4 (fun r0_0 H => K (.string r0_0) H) E H := by
  kernel_rfl
theorem vizardref22_Pack.Fe {args : List Value} {K E : Value → Heap → Prop} {H : Heap} (h : vizardref22_Pack.F args K E H) : ∃ e0 e1 e2 e3 e4, args = [(.agg #[(.bool e0), (.int .i64 e1), (.int .u32 e2), (.int .i64 e3), (.string e4)])] ∧ vizardref22_Pack.c e0 e1 e2 e3 e4 (fun r0_0 H => K (.string r0_0) H) E H := by
  unfold vizardref22_Pack.F at h
  split at h
  · exact ⟨_, _, _, _, _, rfl, h⟩
  · exact h.elim
theorem vizardref22_Pack.ok : CalleeOk Try.prog 22 vizardref22_Pack.F :=
  callee_ok vizardref22_Pack.hΓ (fn := Try.f22) (c := vizardref22_Pack.body) (T := wC Try.prog vizardref22_Pack.Γ vizardref22_Pack.plan vizardref22_Pack.body) (by kernel_rfl) (by kernel_rfl) (by kernel_rfl) (wC_sound vizardref22_Pack.hΓ Try.hm vizardref22_Pack.plan _ vizardref22_Pack.pok) fun _ K E H h => by
    obtain ⟨z0, z1, z2, z3, z4, e, h⟩ := vizardref22_Pack.Fe h
    subst e
    have h2 : vizardref22_Pack.vc z0 z1 z2 z3 z4 (fun r0_0 H => ∃ H', Heap.Le H' H ∧ K (.string r0_0) H') E H := h.h
    rw [vizardref22_Pack.eq z0 z1 z2 z3 z4 (Fg K) E H]
    exact h2

/-! vizard/vizardlaw22.TunnelPacks -/
noncomputable def vizardlaw22_TunnelPacks.body : Code := Try.f4.body.getD .skip
def vizardlaw22_TunnelPacks.J1.vc (s0 : ByteArray) (e0 : Addr) (t0 : ByteArray) (x0 : Addr) (f0 : Int) (x1 : Bool) (Kn : Heap → Prop) (Kr : Bool → Heap → Prop) (E : Value → Heap → Prop) (h0 : Heap) : Prop :=
  (if x1 = true then
  Kr false h0
  else
  Kn h0)
structure vizardlaw22_TunnelPacks.J1 (s0 : ByteArray) (e0 : Addr) (t0 : ByteArray) (x0 : Addr) (f0 : Int) (x1 : Bool) (Kn : Heap → Prop) (Kr : Bool → Heap → Prop) (E : Value → Heap → Prop) (H : Heap) : Prop where
  h : vizardlaw22_TunnelPacks.J1.vc s0 e0 t0 x0 f0 x1 Kn Kr E H
def vizardlaw22_TunnelPacks.J2.vc (s0 : ByteArray) (e0 : Addr) (t0 : ByteArray) (x0 : Addr) (f0 : Int) (Kr : Bool → Heap → Prop) (E : Value → Heap → Prop) (h0 : Heap) : Prop :=
  tunnel_Unpack.c t0 (fun x1 x2 x3 x4 x5 x6 h1 =>
  newB (.cells #[(.bool false), (.int .i64 0), (.int .u32 0), (.int .i64 0), (.string (⟨#[]⟩ : ByteArray))] 30) (fun b0 h2 =>
  stc h2 ((⟨b0, 0, none⟩ : Addr).add 0) (.bool x1) fun h3 =>
  stc h3 ((⟨b0, 0, none⟩ : Addr).add 1) (.int .i64 x2) fun h4 =>
  stc h4 ((⟨b0, 0, none⟩ : Addr).add 2) (.int .u32 x3) fun h5 =>
  stc h5 ((⟨b0, 0, none⟩ : Addr).add 3) (.int .i64 x4) fun h6 =>
  stc h6 ((⟨b0, 0, none⟩ : Addr).add 4) (.string x5) fun h7 =>
  (if (t0.toList == (⟨#[]⟩ : ByteArray).toList) = true then
  (if (f0 != 0) = true then
  Kr true h7
  else
  ldB h7 (x0.add 0) fun x7 => ldI h7 .i64 (x0.add 1) fun x8 => ldI h7 .u32 (x0.add 2) fun x9 => ldI h7 .i64 (x0.add 3) fun x10 => ldS h7 (x0.add 4) fun x11 =>
  tunnel_Pack.c x7 x8 x9 x10 x11 (fun x12 h8 =>
  Kr (x12.toList == s0.toList) h8) E h7)
  else
  (if (x6 == 0) = true then
  ldB h7 ((⟨b0, 0, none⟩ : Addr).add 0) fun x13 => ldI h7 .i64 ((⟨b0, 0, none⟩ : Addr).add 1) fun x14 => ldI h7 .u32 ((⟨b0, 0, none⟩ : Addr).add 2) fun x15 => ldI h7 .i64 ((⟨b0, 0, none⟩ : Addr).add 3) fun x16 => ldS h7 ((⟨b0, 0, none⟩ : Addr).add 4) fun x17 =>
  ldB h7 (e0.add 0) fun x18 => ldI h7 .i64 (e0.add 1) fun x19 => ldI h7 .u32 (e0.add 2) fun x20 => ldI h7 .i64 (e0.add 3) fun x21 => ldS h7 (e0.add 4) fun x22 =>
  (if ((x13 == x18) && ((x14 == x19) && ((x15 == x20) && ((x16 == x21) && ((x17 == x22) && true))))) = true then
  (if (f0 != 0) = true then
  Kr true h7
  else
  ldB h7 (x0.add 0) fun x23 => ldI h7 .i64 (x0.add 1) fun x24 => ldI h7 .u32 (x0.add 2) fun x25 => ldI h7 .i64 (x0.add 3) fun x26 => ldS h7 (x0.add 4) fun x27 =>
  tunnel_Pack.c x23 x24 x25 x26 x27 (fun x28 h9 =>
  Kr (x28.toList == s0.toList) h9) E h7)
  else
  Kr false h7)
  else
  Kr false h7))) h1) E h0
structure vizardlaw22_TunnelPacks.J2 (s0 : ByteArray) (e0 : Addr) (t0 : ByteArray) (x0 : Addr) (f0 : Int) (Kr : Bool → Heap → Prop) (E : Value → Heap → Prop) (H : Heap) : Prop where
  h : vizardlaw22_TunnelPacks.J2.vc s0 e0 t0 x0 f0 Kr E H
def vizardlaw22_TunnelPacks.vc (e0 : Bool) (e1 : Int) (e2 : Int) (e3 : Int) (e4 : ByteArray) (s0 : ByteArray) (K : Bool → Heap → Prop) (E : Value → Heap → Prop) (h0 : Heap) : Prop :=
  newB (.cells #[(.bool e0), (.int .i64 e1), (.int .u32 e2), (.int .i64 e3), (.string e4)] 30) (fun b0 h1 =>
  ldB h1 ((⟨b0, 0, none⟩ : Addr).add 0) fun x0 => ldI h1 .i64 ((⟨b0, 0, none⟩ : Addr).add 1) fun x1 => ldI h1 .u32 ((⟨b0, 0, none⟩ : Addr).add 2) fun x2 => ldI h1 .i64 ((⟨b0, 0, none⟩ : Addr).add 3) fun x3 => ldS h1 ((⟨b0, 0, none⟩ : Addr).add 4) fun x4 =>
  tunnel_Pack.c x0 x1 x2 x3 x4 (fun x5 h2 =>
  tunnel_Unpack.c s0 (fun x6 x7 x8 x9 x10 x11 h3 =>
  newB (.cells #[(.bool false), (.int .i64 0), (.int .u32 0), (.int .i64 0), (.string (⟨#[]⟩ : ByteArray))] 30) (fun b1 h4 =>
  stc h4 ((⟨b1, 0, none⟩ : Addr).add 0) (.bool x6) fun h5 =>
  stc h5 ((⟨b1, 0, none⟩ : Addr).add 1) (.int .i64 x7) fun h6 =>
  stc h6 ((⟨b1, 0, none⟩ : Addr).add 2) (.int .u32 x8) fun h7 =>
  stc h7 ((⟨b1, 0, none⟩ : Addr).add 3) (.int .i64 x9) fun h8 =>
  stc h8 ((⟨b1, 0, none⟩ : Addr).add 4) (.string x10) fun h9 =>
  vizardref22_Unpack.c s0 (fun x12 x13 x14 x15 x16 x17 h10 =>
  newB (.cells #[(.bool false), (.int .i64 0), (.int .u32 0), (.int .i64 0), (.string (⟨#[]⟩ : ByteArray))] 30) (fun b2 h11 =>
  stc h11 ((⟨b2, 0, none⟩ : Addr).add 0) (.bool x12) fun h12 =>
  stc h12 ((⟨b2, 0, none⟩ : Addr).add 1) (.int .i64 x13) fun h13 =>
  stc h13 ((⟨b2, 0, none⟩ : Addr).add 2) (.int .u32 x14) fun h14 =>
  stc h14 ((⟨b2, 0, none⟩ : Addr).add 3) (.int .i64 x15) fun h15 =>
  stc h15 ((⟨b2, 0, none⟩ : Addr).add 4) (.string x16) fun h16 =>
  ldB h16 ((⟨b0, 0, none⟩ : Addr).add 0) fun x18 => ldI h16 .i64 ((⟨b0, 0, none⟩ : Addr).add 1) fun x19 => ldI h16 .u32 ((⟨b0, 0, none⟩ : Addr).add 2) fun x20 => ldI h16 .i64 ((⟨b0, 0, none⟩ : Addr).add 3) fun x21 => ldS h16 ((⟨b0, 0, none⟩ : Addr).add 4) fun x22 =>
  vizardref22_Pack.c x18 x19 x20 x21 x22 (fun x23 h17 =>
  (if (!(x5.toList == x23.toList)) = true then
  vizardlaw22_TunnelPacks.J1 s0 (⟨b0, 0, none⟩ : Addr) x5 (⟨b1, 0, none⟩ : Addr) x11 true (fun h18 =>
  vizardlaw22_TunnelPacks.J2 s0 (⟨b0, 0, none⟩ : Addr) x5 (⟨b1, 0, none⟩ : Addr) x11 K E h18) K E h17
  else
  ldB h17 ((⟨b1, 0, none⟩ : Addr).add 0) fun x26 => ldI h17 .i64 ((⟨b1, 0, none⟩ : Addr).add 1) fun x27 => ldI h17 .u32 ((⟨b1, 0, none⟩ : Addr).add 2) fun x28 => ldI h17 .i64 ((⟨b1, 0, none⟩ : Addr).add 3) fun x29 => ldS h17 ((⟨b1, 0, none⟩ : Addr).add 4) fun x30 =>
  ldB h17 ((⟨b2, 0, none⟩ : Addr).add 0) fun x31 => ldI h17 .i64 ((⟨b2, 0, none⟩ : Addr).add 1) fun x32 => ldI h17 .u32 ((⟨b2, 0, none⟩ : Addr).add 2) fun x33 => ldI h17 .i64 ((⟨b2, 0, none⟩ : Addr).add 3) fun x34 => ldS h17 ((⟨b2, 0, none⟩ : Addr).add 4) fun x35 =>
  (if (!((x26 == x31) && ((x27 == x32) && ((x28 == x33) && ((x29 == x34) && ((x30 == x35) && true)))))) = true then
  vizardlaw22_TunnelPacks.J1 s0 (⟨b0, 0, none⟩ : Addr) x5 (⟨b1, 0, none⟩ : Addr) x11 true (fun h21 =>
  vizardlaw22_TunnelPacks.J2 s0 (⟨b0, 0, none⟩ : Addr) x5 (⟨b1, 0, none⟩ : Addr) x11 K E h21) K E h17
  else
  vizardlaw22_TunnelPacks.J1 s0 (⟨b0, 0, none⟩ : Addr) x5 (⟨b1, 0, none⟩ : Addr) x11 (x11 != x17) (fun h24 =>
  vizardlaw22_TunnelPacks.J2 s0 (⟨b0, 0, none⟩ : Addr) x5 (⟨b1, 0, none⟩ : Addr) x11 K E h24) K E h17))) E h16) h10) E h9) h3) E h2) E h1) h0
structure vizardlaw22_TunnelPacks.c (e0 : Bool) (e1 : Int) (e2 : Int) (e3 : Int) (e4 : ByteArray) (s0 : ByteArray) (K : Bool → Heap → Prop) (E : Value → Heap → Prop) (H : Heap) : Prop where
  h : vizardlaw22_TunnelPacks.vc e0 e1 e2 e3 e4 s0 (fun r0_0 H => ∃ H', Heap.Le H' H ∧ K r0_0 H') E H
def vizardlaw22_TunnelPacks.F : FT := fun args K E H => match args with
  | [(.agg ⟨[(.bool e0), (.int .i64 e1), (.int .u32 e2), (.int .i64 e3), (.string e4)]⟩), (.string s0)] => vizardlaw22_TunnelPacks.c e0 e1 e2 e3 e4 s0 (fun r0_0 H => K (.bool r0_0) H) E H
  | _ => False
noncomputable def vizardlaw22_TunnelPacks.Γ : FuncId → Option FT := Γof [(19, tunnel_Pack.F), (20, tunnel_Unpack.F), (21, vizardref22_Unpack.F), (22, vizardref22_Pack.F)]
theorem vizardlaw22_TunnelPacks.hΓ : ∀ f F, vizardlaw22_TunnelPacks.Γ f = some F → CalleeOk Try.prog f F := Γof_ok (List.forall_mem_cons.2 ⟨tunnel_Pack.ok, List.forall_mem_cons.2 ⟨tunnel_Unpack.ok, List.forall_mem_cons.2 ⟨vizardref22_Unpack.ok, List.forall_mem_cons.2 ⟨vizardref22_Pack.ok, fun _ h => nomatch h⟩⟩⟩⟩)
def vizardlaw22_TunnelPacks.J1.t : CT := fun Q E fr H => lenIs 64 fr (slS fr 1 fun s0 => slPA fr 2 fun e0 => slS fr 5 fun t0 => slPA fr 6 fun x0 => slI fr 7 .i64 fun f0 => slB fr 37 fun x1 => vizardlaw22_TunnelPacks.J1 s0 e0 t0 x0 f0 x1 (fun  H => Q .normal (mkF 64 [(1, (.string s0)), (2, (.pointer (some e0))), (5, (.string t0)), (6, (.pointer (some x0))), (7, (.int .i64 f0))]) H) (fun y4_0 H => Q .ret (mkF 64 [(4, (.bool y4_0))]) H) E H)
noncomputable def vizardlaw22_TunnelPacks.J1.plan : Plan := .go
theorem vizardlaw22_TunnelPacks.J1.pok : PlanOk Try.prog vizardlaw22_TunnelPacks.J1.plan (sub [1, 1, 1, 1, 0, 1] vizardlaw22_TunnelPacks.body) := by
  have e : PlanOk Try.prog vizardlaw22_TunnelPacks.J1.plan (sub [1, 1, 1, 1, 0, 1] vizardlaw22_TunnelPacks.body) = (True) := by kernel_rfl
  exact e.mpr trivial
theorem vizardlaw22_TunnelPacks.J1.eq (s0 : ByteArray) (e0 : Addr) (t0 : ByteArray) (x0 : Addr) (f0 : Int) (x1 : Bool) (Q : Ex → Fr → Heap → Prop) (E : Value → Heap → Prop) (H : Heap) :
    vizardlaw22_TunnelPacks.J1.vc s0 e0 t0 x0 f0 x1 (fun  H => Q .normal (mkF 64 [(1, (.string s0)), (2, (.pointer (some e0))), (5, (.string t0)), (6, (.pointer (some x0))), (7, (.int .i64 f0))]) H) (fun y4_0 H => Q .ret (mkF 64 [(4, (.bool y4_0))]) H) E H = keepT [1, 2, 5, 6, 7] [4] (fun i => []) (wC Try.prog vizardlaw22_TunnelPacks.Γ vizardlaw22_TunnelPacks.J1.plan (sub [1, 1, 1, 1, 0, 1] vizardlaw22_TunnelPacks.body)) Q E (mkF 64 [(1, (.string s0)), (2, (.pointer (some e0))), (5, (.string t0)), (6, (.pointer (some x0))), (7, (.int .i64 f0)), (37, (.bool x1))]) H := by
  kernel_rfl
theorem vizardlaw22_TunnelPacks.J1.ok : SoundCode Try.prog (sub [1, 1, 1, 1, 0, 1] vizardlaw22_TunnelPacks.body) vizardlaw22_TunnelPacks.J1.t := by
  refine piece_sound (keepT_sound [1, 2, 5, 6, 7] [4] (fun i => []) (wC_sound vizardlaw22_TunnelPacks.hΓ Try.hm vizardlaw22_TunnelPacks.J1.plan _ vizardlaw22_TunnelPacks.J1.pok)) ?_
  intro Q E fr H h
  unfold vizardlaw22_TunnelPacks.J1.t at h
  obtain ⟨hl, h⟩ := lenIs_elim h
  obtain ⟨s0, q1, h⟩ := slS_elim h
  obtain ⟨e0, q2, h⟩ := slPA_elim h
  obtain ⟨t0, q5, h⟩ := slS_elim h
  obtain ⟨x0, q6, h⟩ := slPA_elim h
  obtain ⟨f0, q7, h⟩ := slI_elim h
  obtain ⟨x1, q37, h⟩ := slB_elim h
  refine ⟨(mkF 64 [(1, (.string s0)), (2, (.pointer (some e0))), (5, (.string t0)), (6, (.pointer (some x0))), (7, (.int .i64 f0)), (37, (.bool x1))]), fun a ha => ha.mk (Nat.le_of_eq hl.symm) (List.forall_mem_cons.2 ⟨q1, List.forall_mem_cons.2 ⟨q2, List.forall_mem_cons.2 ⟨q5, List.forall_mem_cons.2 ⟨q6, List.forall_mem_cons.2 ⟨q7, List.forall_mem_cons.2 ⟨q37, fun _ h => nomatch h⟩⟩⟩⟩⟩⟩), ?_⟩
  have e := vizardlaw22_TunnelPacks.J1.eq s0 e0 t0 x0 f0 x1 Q E H
  rw [← e]
  exact h.h
def vizardlaw22_TunnelPacks.J2.t : CT := fun Q E fr H => lenIs 64 fr (slS fr 1 fun s0 => slPA fr 2 fun e0 => slS fr 5 fun t0 => slPA fr 6 fun x0 => slI fr 7 .i64 fun f0 => vizardlaw22_TunnelPacks.J2 s0 e0 t0 x0 f0 (fun y4_0 H => Q .ret (mkF 64 [(4, (.bool y4_0))]) H) E H)
noncomputable def vizardlaw22_TunnelPacks.J2.plan : Plan := .go
theorem vizardlaw22_TunnelPacks.J2.pok : PlanOk Try.prog vizardlaw22_TunnelPacks.J2.plan (sub [1, 1, 1, 1, 1] vizardlaw22_TunnelPacks.body) := by
  have e : PlanOk Try.prog vizardlaw22_TunnelPacks.J2.plan (sub [1, 1, 1, 1, 1] vizardlaw22_TunnelPacks.body) = (True) := by kernel_rfl
  exact e.mpr trivial
theorem vizardlaw22_TunnelPacks.J2.eq (s0 : ByteArray) (e0 : Addr) (t0 : ByteArray) (x0 : Addr) (f0 : Int) (Q : Ex → Fr → Heap → Prop) (E : Value → Heap → Prop) (H : Heap) :
    vizardlaw22_TunnelPacks.J2.vc s0 e0 t0 x0 f0 (fun y4_0 H => Q .ret (mkF 64 [(4, (.bool y4_0))]) H) E H = keepT [] [4] (fun i => []) (wC Try.prog vizardlaw22_TunnelPacks.Γ vizardlaw22_TunnelPacks.J2.plan (sub [1, 1, 1, 1, 1] vizardlaw22_TunnelPacks.body)) Q E (mkF 64 [(1, (.string s0)), (2, (.pointer (some e0))), (5, (.string t0)), (6, (.pointer (some x0))), (7, (.int .i64 f0))]) H := by
  kernel_rfl
theorem vizardlaw22_TunnelPacks.J2.ok : SoundCode Try.prog (sub [1, 1, 1, 1, 1] vizardlaw22_TunnelPacks.body) vizardlaw22_TunnelPacks.J2.t := by
  refine piece_sound (keepT_sound [] [4] (fun i => []) (wC_sound vizardlaw22_TunnelPacks.hΓ Try.hm vizardlaw22_TunnelPacks.J2.plan _ vizardlaw22_TunnelPacks.J2.pok)) ?_
  intro Q E fr H h
  unfold vizardlaw22_TunnelPacks.J2.t at h
  obtain ⟨hl, h⟩ := lenIs_elim h
  obtain ⟨s0, q1, h⟩ := slS_elim h
  obtain ⟨e0, q2, h⟩ := slPA_elim h
  obtain ⟨t0, q5, h⟩ := slS_elim h
  obtain ⟨x0, q6, h⟩ := slPA_elim h
  obtain ⟨f0, q7, h⟩ := slI_elim h
  refine ⟨(mkF 64 [(1, (.string s0)), (2, (.pointer (some e0))), (5, (.string t0)), (6, (.pointer (some x0))), (7, (.int .i64 f0))]), fun a ha => ha.mk (Nat.le_of_eq hl.symm) (List.forall_mem_cons.2 ⟨q1, List.forall_mem_cons.2 ⟨q2, List.forall_mem_cons.2 ⟨q5, List.forall_mem_cons.2 ⟨q6, List.forall_mem_cons.2 ⟨q7, fun _ h => nomatch h⟩⟩⟩⟩⟩), ?_⟩
  have e := vizardlaw22_TunnelPacks.J2.eq s0 e0 t0 x0 f0 Q E H
  rw [← e]
  exact h.h
noncomputable def vizardlaw22_TunnelPacks.plan : Plan := .seq (.go) (.seq (.go) (.seq (.go) (.seq (.go) (.seq (.seq (.go) (.use vizardlaw22_TunnelPacks.J1.t)) (.use vizardlaw22_TunnelPacks.J2.t)))))
theorem vizardlaw22_TunnelPacks.pok : PlanOk Try.prog vizardlaw22_TunnelPacks.plan vizardlaw22_TunnelPacks.body := by
  have e : PlanOk Try.prog vizardlaw22_TunnelPacks.plan vizardlaw22_TunnelPacks.body = ((True) ∧ ((True) ∧ ((True) ∧ ((True) ∧ (((True) ∧ (SoundCode Try.prog (sub [1, 1, 1, 1, 0, 1] vizardlaw22_TunnelPacks.body) vizardlaw22_TunnelPacks.J1.t)) ∧ (SoundCode Try.prog (sub [1, 1, 1, 1, 1] vizardlaw22_TunnelPacks.body) vizardlaw22_TunnelPacks.J2.t)))))) := by kernel_rfl
  exact e.mpr ⟨trivial, ⟨trivial, ⟨trivial, ⟨trivial, ⟨⟨trivial, vizardlaw22_TunnelPacks.J1.ok⟩, vizardlaw22_TunnelPacks.J2.ok⟩⟩⟩⟩⟩
theorem vizardlaw22_TunnelPacks.eq (e0 : Bool) (e1 : Int) (e2 : Int) (e3 : Int) (e4 : ByteArray) (s0 : ByteArray) (K : Value → Heap → Prop) (E : Value → Heap → Prop) (H : Heap) :
    fnT Try.prog Try.f4 (wC Try.prog vizardlaw22_TunnelPacks.Γ vizardlaw22_TunnelPacks.plan vizardlaw22_TunnelPacks.body) [(.agg #[(.bool e0), (.int .i64 e1), (.int .u32 e2), (.int .i64 e3), (.string e4)]), (.string s0)] K E H = vizardlaw22_TunnelPacks.vc e0 e1 e2 e3 e4 s0 (fun r0_0 H => K (.bool r0_0) H) E H := by
  kernel_rfl
theorem vizardlaw22_TunnelPacks.Fe {args : List Value} {K E : Value → Heap → Prop} {H : Heap} (h : vizardlaw22_TunnelPacks.F args K E H) : ∃ e0 e1 e2 e3 e4 s0, args = [(.agg #[(.bool e0), (.int .i64 e1), (.int .u32 e2), (.int .i64 e3), (.string e4)]), (.string s0)] ∧ vizardlaw22_TunnelPacks.c e0 e1 e2 e3 e4 s0 (fun r0_0 H => K (.bool r0_0) H) E H := by
  unfold vizardlaw22_TunnelPacks.F at h
  split at h
  · exact ⟨_, _, _, _, _, _, rfl, h⟩
  · exact h.elim
theorem vizardlaw22_TunnelPacks.ok : CalleeOk Try.prog 4 vizardlaw22_TunnelPacks.F :=
  callee_ok vizardlaw22_TunnelPacks.hΓ (fn := Try.f4) (c := vizardlaw22_TunnelPacks.body) (T := wC Try.prog vizardlaw22_TunnelPacks.Γ vizardlaw22_TunnelPacks.plan vizardlaw22_TunnelPacks.body) (by kernel_rfl) (by kernel_rfl) (by kernel_rfl) (wC_sound vizardlaw22_TunnelPacks.hΓ Try.hm vizardlaw22_TunnelPacks.plan _ vizardlaw22_TunnelPacks.pok) fun _ K E H h => by
    obtain ⟨z0, z1, z2, z3, z4, z5, e, h⟩ := vizardlaw22_TunnelPacks.Fe h
    subst e
    have h2 : vizardlaw22_TunnelPacks.vc z0 z1 z2 z3 z4 z5 (fun r0_0 H => ∃ H', Heap.Le H' H ∧ K (.bool r0_0) H') E H := h.h
    rw [vizardlaw22_TunnelPacks.eq z0 z1 z2 z3 z4 z5 (Fg K) E H]
    exact h2
end Go.Sh
