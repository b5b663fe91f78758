/- PRINTED by a program (shrf.py): what the walks over parts of a function ask, and that they ask just that. -/
import Derived.Test.YtpmgchippfmakaaDoorGtp
import Derived.Test.YtpmgchippfmakaaDoorDefC
namespace Go.Sh
open Go.Proofs
set_option linter.unusedVariables false
set_option maxRecDepth 8000
/-! vizard/target.Parse -/
noncomputable def target_Parse.body : Code := Tryd.f13.body.getD .skip
def target_Parse.J1.vc (l0 : Option Addr) (l1 : Nat) (l2 : Nat) (Kn : Addr → Addr → Heap → Prop) (E : Value → Heap → Prop) (h0 : Heap) : Prop :=
  newB (.cells #[(.bool false), (.int .u32 0), (.int .i64 0)] 24) (fun b0 h1 =>
  newB (.cells #[(.int .i64 0)] 3) (fun b1 h2 =>
  Kn (⟨b0, 0, none⟩ : Addr) (⟨b1, 0, none⟩ : Addr) h2) h1) h0
structure target_Parse.J1 (l0 : Option Addr) (l1 : Nat) (l2 : Nat) (Kn : Addr → Addr → Heap → Prop) (E : Value → Heap → Prop) (H : Heap) : Prop where
  h : target_Parse.J1.vc l0 l1 l2 Kn E H
def target_Parse.W3.vc (l0 : Option Addr) (l1 : Nat) (l2 : Nat) (t0 : Addr) (n0 : Addr) (value0 : Option Nat) (x0 : Option Addr) (x1 : Nat) (x2 : Nat) (x3 : Int) (x4 : Int) (Kx0 : Heap → Prop) (RR : Int → Heap → Prop) (E : Value → Heap → Prop) (h0 : Heap) : Prop :=
  (if (decide (x4 < x3)) = true then
  nilc x0 fun a0 => (0 : Int) ≤ x4 ∧ x4 < (x1 : Int) ∧
  ldS h0 (a0.add (x4.toNat * 1)) fun x5 =>
  fields_Get.c l0 l1 l2 x5 (fun x6 x7 h1 =>
  target_check.c x7 400 (fun h2 =>
  putW .string value0 (.string x5) (.string x6) (fun h3 =>
  RR (IntKind.i64.wrap (x4 + 1)) h3) h2) E h1) E h0
  else
  Kx0 h0)
structure target_Parse.W3 (l0 : Option Addr) (l1 : Nat) (l2 : Nat) (t0 : Addr) (n0 : Addr) (value0 : Option Nat) (x0 : Option Addr) (x1 : Nat) (x2 : Nat) (x3 : Int) (x4 : Int) (Kx0 : Heap → Prop) (E : Value → Heap → Prop) (H : Heap) : Prop where
  h : Loop (fun (RR : Int → Heap → Prop) (s : Int) (H : Heap) => target_Parse.W3.vc l0 l1 l2 t0 n0 value0 x0 x1 x2 x3 s Kx0 (fun x4 H => RR (x4) H) E H) (x4) H
def target_Parse.J8.vc (t0 : Addr) (n0 : Addr) (Kr : Heap → Prop) (E : Value → Heap → Prop) (h0 : Heap) : Prop :=
  stc h0 (t0.add 0) (.bool true) fun h1 =>
  stc h1 (t0.add 1) (.int .u32 0) fun h2 =>
  stc h2 (t0.add 2) (.int .i64 0) fun h3 =>
  stc h3 n0 (.int .i64 200) fun h4 =>
  Kr h4
structure target_Parse.J8 (t0 : Addr) (n0 : Addr) (Kr : Heap → Prop) (E : Value → Heap → Prop) (H : Heap) : Prop where
  h : target_Parse.J8.vc t0 n0 Kr E H
def target_Parse.J7.vc (t0 : Addr) (n0 : Addr) (value0 : Option Nat) (protocol0 : ByteArray) (Kr : Heap → Prop) (E : Value → Heap → Prop) (h0 : Heap) : Prop :=
  (if (protocol0.toList == (⟨#[99, 111, 110, 110, 101, 99, 116, 45, 105, 112]⟩ : ByteArray).toList) = true then
  lookS .string value0 (.string (⟨#[58, 112, 97, 116, 104]⟩ : ByteArray)) (⟨#[]⟩ : ByteArray) (fun x0 ok0 =>
  target_check.c (x0.toList == (⟨#[47, 46, 119, 101, 108, 108, 45, 107, 110, 111, 119, 110, 47, 109, 97, 115, 113, 117, 101, 47, 105, 112, 47, 42, 47, 42, 47]⟩ : ByteArray).toList) 404 (fun h1 =>
  target_Parse.J8 t0 n0 Kr E h1) E h0) h0
  else
  lookS .string value0 (.string (⟨#[58, 112, 97, 116, 104]⟩ : ByteArray)) (⟨#[]⟩ : ByteArray) (fun x1 ok1 =>
  target_parse.c x1 (fun x2 x3 x4 h3 =>
  stc h3 (t0.add 0) (.bool x2) fun h4 =>
  stc h4 (t0.add 1) (.int .u32 x3) fun h5 =>
  stc h5 (t0.add 2) (.int .i64 x4) fun h6 =>
  stc h6 n0 (.int .i64 200) fun h7 =>
  Kr h7) E h0) h0)
structure target_Parse.J7 (t0 : Addr) (n0 : Addr) (value0 : Option Nat) (protocol0 : ByteArray) (Kr : Heap → Prop) (E : Value → Heap → Prop) (H : Heap) : Prop where
  h : target_Parse.J7.vc t0 n0 value0 protocol0 Kr E H
def target_Parse.J6.vc (l0 : Option Addr) (l1 : Nat) (l2 : Nat) (t0 : Addr) (n0 : Addr) (value0 : Option Nat) (protocol0 : ByteArray) (Kr : Heap → Prop) (E : Value → Heap → Prop) (h0 : Heap) : Prop :=
  fields_Get.c l0 l1 l2 (⟨#[99, 97, 112, 115, 117, 108, 101, 45, 112, 114, 111, 116, 111, 99, 111, 108]⟩ : ByteArray) (fun x0 x1 h1 =>
  lookS .string value0 (.string (⟨#[58, 115, 99, 104, 101, 109, 101]⟩ : ByteArray)) (⟨#[]⟩ : ByteArray) (fun x2 ok0 =>
  (if (x2.toList == (⟨#[104, 116, 116, 112, 115]⟩ : ByteArray).toList) = true then
  lookS .string value0 (.string (⟨#[58, 97, 117, 116, 104, 111, 114, 105, 116, 121]⟩ : ByteArray)) (⟨#[]⟩ : ByteArray) (fun x3 ok1 =>
  (if (!(x3.toList == (⟨#[]⟩ : ByteArray).toList)) = true then
  (if x1 = true then
  target_check.c (x0.toList == (⟨#[63, 49]⟩ : ByteArray).toList) 400 (fun h2 =>
  target_Parse.J7 t0 n0 value0 protocol0 Kr E h2) E h1
  else
  target_check.c false 400 (fun h4 =>
  target_Parse.J7 t0 n0 value0 protocol0 Kr E h4) E h1)
  else
  target_check.c false 400 (fun h6 =>
  target_Parse.J7 t0 n0 value0 protocol0 Kr E h6) E h1)) h1
  else
  target_check.c false 400 (fun h8 =>
  target_Parse.J7 t0 n0 value0 protocol0 Kr E h8) E h1)) h1) E h0
structure target_Parse.J6 (l0 : Option Addr) (l1 : Nat) (l2 : Nat) (t0 : Addr) (n0 : Addr) (value0 : Option Nat) (protocol0 : ByteArray) (Kr : Heap → Prop) (E : Value → Heap → Prop) (H : Heap) : Prop where
  h : target_Parse.J6.vc l0 l1 l2 t0 n0 value0 protocol0 Kr E H
def target_Parse.J5.vc (l0 : Option Addr) (l1 : Nat) (l2 : Nat) (t0 : Addr) (n0 : Addr) (value0 : Option Nat) (protocol0 : ByteArray) (connect0 : Bool) (Kr : Heap → Prop) (E : Value → Heap → Prop) (h0 : Heap) : Prop :=
  target_check.c connect0 405 (fun h1 =>
  (if (protocol0.toList == (⟨#[99, 111, 110, 110, 101, 99, 116, 45, 117, 100, 112]⟩ : ByteArray).toList) = true then
  target_check.c true 501 (fun h2 =>
  target_Parse.J6 l0 l1 l2 t0 n0 value0 protocol0 Kr E h2) E h1
  else
  target_check.c (protocol0.toList == (⟨#[99, 111, 110, 110, 101, 99, 116, 45, 105, 112]⟩ : ByteArray).toList) 501 (fun h4 =>
  target_Parse.J6 l0 l1 l2 t0 n0 value0 protocol0 Kr E h4) E h1)) E h0
structure target_Parse.J5 (l0 : Option Addr) (l1 : Nat) (l2 : Nat) (t0 : Addr) (n0 : Addr) (value0 : Option Nat) (protocol0 : ByteArray) (connect0 : Bool) (Kr : Heap → Prop) (E : Value → Heap → Prop) (H : Heap) : Prop where
  h : target_Parse.J5.vc l0 l1 l2 t0 n0 value0 protocol0 connect0 Kr E H
def target_Parse.J4.vc (l0 : Option Addr) (l1 : Nat) (l2 : Nat) (t0 : Addr) (n0 : Addr) (value0 : Option Nat) (protocol0 : ByteArray) (ok0 : Bool) (connect0 : Bool) (Kr : Heap → Prop) (E : Value → Heap → Prop) (h0 : Heap) : Prop :=
  (if ok0 = true then
  target_check.c true 400 (fun h1 =>
  target_Parse.J5 l0 l1 l2 t0 n0 value0 protocol0 connect0 Kr E h1) E h0
  else
  target_check.c (!connect0) 400 (fun h3 =>
  target_Parse.J5 l0 l1 l2 t0 n0 value0 protocol0 connect0 Kr E h3) E h0)
structure target_Parse.J4 (l0 : Option Addr) (l1 : Nat) (l2 : Nat) (t0 : Addr) (n0 : Addr) (value0 : Option Nat) (protocol0 : ByteArray) (ok0 : Bool) (connect0 : Bool) (Kr : Heap → Prop) (E : Value → Heap → Prop) (H : Heap) : Prop where
  h : target_Parse.J4.vc l0 l1 l2 t0 n0 value0 protocol0 ok0 connect0 Kr E H
def target_Parse.J2.vc (l0 : Option Addr) (l1 : Nat) (l2 : Nat) (t0 : Addr) (n0 : Addr) (Kr : Heap → Prop) (E : Value → Heap → Prop) (h0 : Heap) : Prop :=
  fields_Check.c l0 l1 l2 (fun x0 h1 =>
  target_check.c (x0 == 0) 400 (fun h2 =>
  target_shape.c l0 l1 l2 (fun h3 =>
  newB (.map #[] 0) (fun b0 h4 =>
  newB (.cells #[(.string (⟨#[58, 109, 101, 116, 104, 111, 100]⟩ : ByteArray)), (.string (⟨#[58, 115, 99, 104, 101, 109, 101]⟩ : ByteArray)), (.string (⟨#[58, 97, 117, 116, 104, 111, 114, 105, 116, 121]⟩ : ByteArray)), (.string (⟨#[58, 112, 97, 116, 104]⟩ : ByteArray))] 9) (fun b1 h5 =>
  target_Parse.W3 l0 l1 l2 t0 n0 (some b0) (some (⟨b1, 0, none⟩ : Addr)) 4 4 ((4 : Nat) : Int) 0 (fun h6 =>
  fields_Get.c l0 l1 l2 (⟨#[58, 112, 114, 111, 116, 111, 99, 111, 108]⟩ : ByteArray) (fun x1 x2 h7 =>
  lookS .string (some b0) (.string (⟨#[58, 109, 101, 116, 104, 111, 100]⟩ : ByteArray)) (⟨#[]⟩ : ByteArray) (fun x3 ok0 =>
  target_Parse.J4 l0 l1 l2 t0 n0 (some b0) x1 x2 (x3.toList == (⟨#[67, 79, 78, 78, 69, 67, 84]⟩ : ByteArray).toList) Kr E h7) h7) E h6) E h5) h4) h3) E h2) E h1) E h0
structure target_Parse.J2 (l0 : Option Addr) (l1 : Nat) (l2 : Nat) (t0 : Addr) (n0 : Addr) (Kr : Heap → Prop) (E : Value → Heap → Prop) (H : Heap) : Prop where
  h : target_Parse.J2.vc l0 l1 l2 t0 n0 Kr E H
noncomputable def target_Parse.Γ : FuncId → Option FT := Γof [(24, target_check.F), (25, fields_Check.F), (26, target_shape.F), (27, fields_Get.F), (28, target_parse.F)]
theorem target_Parse.hΓ : ∀ f F, target_Parse.Γ f = some F → CalleeOk Tryd.prog f F := Γof_ok (List.forall_mem_cons.2 ⟨target_check.ok, List.forall_mem_cons.2 ⟨fields_Check.ok, List.forall_mem_cons.2 ⟨target_shape.ok, List.forall_mem_cons.2 ⟨fields_Get.ok, List.forall_mem_cons.2 ⟨target_parse.ok, fun _ h => nomatch h⟩⟩⟩⟩⟩)
def target_Parse.J1.t : CT := fun Q E fr H => lenIs 93 fr (slSl fr 0 fun l0 l1 l2 => target_Parse.J1 l0 l1 l2 (fun y2_0 y3_0 H => Q .normal (mkF 93 [(0, (.slice l0 l1 l2)), (2, (.pointer (some y2_0))), (3, (.pointer (some y3_0)))]) H) E H)
noncomputable def target_Parse.J1.plan : Plan := .go
theorem target_Parse.J1.pok : PlanOk Tryd.prog target_Parse.J1.plan (sub [0] target_Parse.body) := by
  have e : PlanOk Tryd.prog target_Parse.J1.plan (sub [0] target_Parse.body) = (True) := by kernel_rfl
  exact e.mpr trivial
theorem target_Parse.J1.eq (l0 : Option Addr) (l1 : Nat) (l2 : Nat) (Q : Ex → Fr → Heap → Prop) (E : Value → Heap → Prop) (H : Heap) :
    target_Parse.J1.vc l0 l1 l2 (fun y2_0 y3_0 H => Q .normal (mkF 93 [(0, (.slice l0 l1 l2)), (2, (.pointer (some y2_0))), (3, (.pointer (some y3_0)))]) H) E H = keepT [0, 2, 3] [] (fun i => []) (wC Tryd.prog target_Parse.Γ target_Parse.J1.plan (sub [0] target_Parse.body)) Q E (mkF 93 [(0, (.slice l0 l1 l2))]) H := by
  kernel_rfl
theorem target_Parse.J1.ok : SoundCode Tryd.prog (sub [0] target_Parse.body) target_Parse.J1.t := by
  refine piece_sound (keepT_sound [0, 2, 3] [] (fun i => []) (wC_sound target_Parse.hΓ Tryd.hm target_Parse.J1.plan _ target_Parse.J1.pok)) ?_
  intro Q E fr H h
  unfold target_Parse.J1.t at h
  obtain ⟨hl, h⟩ := lenIs_elim h
  obtain ⟨l0, l1, l2, q0, h⟩ := slSl_elim h
  refine ⟨(mkF 93 [(0, (.slice l0 l1 l2))]), fun a ha => ha.mk (Nat.le_of_eq hl.symm) (List.forall_mem_cons.2 ⟨q0, fun _ h => nomatch h⟩), ?_⟩
  have e := target_Parse.J1.eq l0 l1 l2 Q E H
  rw [← e]
  exact h.h
def target_Parse.W3.t : CT := fun Q E fr H => lenIs 93 fr (slSl fr 0 fun l0 l1 l2 => slPA fr 2 fun t0 => slPA fr 3 fun n0 => slM fr 4 fun value0 => slSl fr 21 fun x0 x1 x2 => slI fr 22 .i64 fun x3 => slI fr 23 .i64 fun x4 => target_Parse.W3 l0 l1 l2 t0 n0 value0 x0 x1 x2 x3 x4 (fun  H => Q (.exit 0) (mkF 93 [(0, (.slice l0 l1 l2)), (2, (.pointer (some t0))), (3, (.pointer (some n0))), (4, (.map value0))]) H) E H)
noncomputable def target_Parse.W3.plan : Plan := .go
theorem target_Parse.W3.pok : PlanOk Tryd.prog target_Parse.W3.plan (sub [1, 1, 1, 1, 1, 0, 1, 0, 0] target_Parse.body) := by
  have e : PlanOk Tryd.prog target_Parse.W3.plan (sub [1, 1, 1, 1, 1, 0, 1, 0, 0] target_Parse.body) = (True) := by kernel_rfl
  exact e.mpr trivial
theorem target_Parse.W3.eq (l0 : Option Addr) (l1 : Nat) (l2 : Nat) (t0 : Addr) (n0 : Addr) (value0 : Option Nat) (x0 : Option Addr) (x1 : Nat) (x2 : Nat) (x3 : Int) (Q : Ex → Fr → Heap → Prop) (E : Value → Heap → Prop) (RR : Fr → Heap → Prop) (s : Int) (H : Heap) :
    (fun (RR : Int → Heap → Prop) (s : Int) (H : Heap) => target_Parse.W3.vc l0 l1 l2 t0 n0 value0 x0 x1 x2 x3 s (fun  H => Q (.exit 0) (mkF 93 [(0, (.slice l0 l1 l2)), (2, (.pointer (some t0))), (3, (.pointer (some n0))), (4, (.map value0))]) H) (fun x4 H => RR (x4) H) E H) (fun s' H' => RR ((fun (s : Int) => (mkF 93 [(0, (.slice l0 l1 l2)), (2, (.pointer (some t0))), (3, (.pointer (some n0))), (4, (.map value0)), (21, (.slice x0 x1 x2)), (22, (.int .i64 x3)), (23, (.int .i64 s))])) s') H') s H = keepT [0, 2, 3, 4, 21, 22, 23] [] (fun i => if i = 0 then [0, 2, 3, 4] else []) (wC Tryd.prog target_Parse.Γ target_Parse.W3.plan (sub [1, 1, 1, 1, 1, 0, 1, 0, 0] target_Parse.body)) (fun e fr' H' => match e with | .normal => RR fr' H' | .exit id => Q (.exit id) fr' H' | .ret => Q .ret fr' H') E ((fun (s : Int) => (mkF 93 [(0, (.slice l0 l1 l2)), (2, (.pointer (some t0))), (3, (.pointer (some n0))), (4, (.map value0)), (21, (.slice x0 x1 x2)), (22, (.int .i64 x3)), (23, (.int .i64 s))])) s) H := by
  kernel_rfl
theorem target_Parse.W3.ok : SoundCode Tryd.prog (sub [1, 1, 1, 1, 1, 0, 1, 0] target_Parse.body) target_Parse.W3.t := by
  have e : (sub [1, 1, 1, 1, 1, 0, 1, 0] target_Parse.body) = .loop (sub [1, 1, 1, 1, 1, 0, 1, 0, 0] target_Parse.body) := by kernel_rfl
  rw [e]
  refine piece_sound (loopN_sound (keepT_sound [0, 2, 3, 4, 21, 22, 23] [] (fun i => if i = 0 then [0, 2, 3, 4] else []) (wC_sound target_Parse.hΓ Tryd.hm target_Parse.W3.plan _ target_Parse.W3.pok))) ?_
  intro Q E fr H h
  unfold target_Parse.W3.t at h
  obtain ⟨hl, h⟩ := lenIs_elim h
  obtain ⟨l0, l1, l2, q0, h⟩ := slSl_elim h
  obtain ⟨t0, q2, h⟩ := slPA_elim h
  obtain ⟨n0, q3, h⟩ := slPA_elim h
  obtain ⟨value0, q4, h⟩ := slM_elim h
  obtain ⟨x0, x1, x2, q21, h⟩ := slSl_elim h
  obtain ⟨x3, q22, h⟩ := slI_elim h
  obtain ⟨x4, q23, h⟩ := slI_elim h
  obtain ⟨m, h⟩ := h.h
  refine ⟨(mkF 93 [(0, (.slice l0 l1 l2)), (2, (.pointer (some t0))), (3, (.pointer (some n0))), (4, (.map value0)), (21, (.slice x0 x1 x2)), (22, (.int .i64 x3)), (23, (.int .i64 x4))]), fun a ha => ha.mk (Nat.le_of_eq hl.symm) (List.forall_mem_cons.2 ⟨q0, List.forall_mem_cons.2 ⟨q2, List.forall_mem_cons.2 ⟨q3, List.forall_mem_cons.2 ⟨q4, List.forall_mem_cons.2 ⟨q21, List.forall_mem_cons.2 ⟨q22, List.forall_mem_cons.2 ⟨q23, fun _ h => nomatch h⟩⟩⟩⟩⟩⟩⟩), m, ?_⟩
  have e := loopS_eq (B := (fun (RR : Int → Heap → Prop) (s : Int) (H : Heap) => target_Parse.W3.vc l0 l1 l2 t0 n0 value0 x0 x1 x2 x3 s (fun  H => Q (.exit 0) (mkF 93 [(0, (.slice l0 l1 l2)), (2, (.pointer (some t0))), (3, (.pointer (some n0))), (4, (.map value0))]) H) (fun x4 H => RR (x4) H) E H)) (A := keepT [0, 2, 3, 4, 21, 22, 23] [] (fun i => if i = 0 then [0, 2, 3, 4] else []) (wC Tryd.prog target_Parse.Γ target_Parse.W3.plan (sub [1, 1, 1, 1, 1, 0, 1, 0, 0] target_Parse.body))) (m := (fun (s : Int) => (mkF 93 [(0, (.slice l0 l1 l2)), (2, (.pointer (some t0))), (3, (.pointer (some n0))), (4, (.map value0)), (21, (.slice x0 x1 x2)), (22, (.int .i64 x3)), (23, (.int .i64 s))]))) (Q := Q) (E := E) (fun RR s H => target_Parse.W3.eq l0 l1 l2 t0 n0 value0 x0 x1 x2 x3 Q E RR s H) m (x4) H
  exact cast e h
def target_Parse.J8.t : CT := fun Q E fr H => lenIs 93 fr (slPA fr 2 fun t0 => slPA fr 3 fun n0 => target_Parse.J8 t0 n0 (fun  H => Q .ret (mkF 93 [(2, (.pointer (some t0))), (3, (.pointer (some n0)))]) H) E H)
noncomputable def target_Parse.J8.plan : Plan := .go
theorem target_Parse.J8.pok : PlanOk Tryd.prog target_Parse.J8.plan (sub [1, 1, 1, 1, 1, 1, 1, 1, 1, 1, 1, 1, 1, 0, 1, 0, 1] target_Parse.body) := by
  have e : PlanOk Tryd.prog target_Parse.J8.plan (sub [1, 1, 1, 1, 1, 1, 1, 1, 1, 1, 1, 1, 1, 0, 1, 0, 1] target_Parse.body) = (True) := by kernel_rfl
  exact e.mpr trivial
theorem target_Parse.J8.eq (t0 : Addr) (n0 : Addr) (Q : Ex → Fr → Heap → Prop) (E : Value → Heap → Prop) (H : Heap) :
    target_Parse.J8.vc t0 n0 (fun  H => Q .ret (mkF 93 [(2, (.pointer (some t0))), (3, (.pointer (some n0)))]) H) E H = keepT [] [2, 3] (fun i => []) (wC Tryd.prog target_Parse.Γ target_Parse.J8.plan (sub [1, 1, 1, 1, 1, 1, 1, 1, 1, 1, 1, 1, 1, 0, 1, 0, 1] target_Parse.body)) Q E (mkF 93 [(2, (.pointer (some t0))), (3, (.pointer (some n0)))]) H := by
  kernel_rfl
theorem target_Parse.J8.ok : SoundCode Tryd.prog (sub [1, 1, 1, 1, 1, 1, 1, 1, 1, 1, 1, 1, 1, 0, 1, 0, 1] target_Parse.body) target_Parse.J8.t := by
  refine piece_sound (keepT_sound [] [2, 3] (fun i => []) (wC_sound target_Parse.hΓ Tryd.hm target_Parse.J8.plan _ target_Parse.J8.pok)) ?_
  intro Q E fr H h
  unfold target_Parse.J8.t at h
  obtain ⟨hl, h⟩ := lenIs_elim h
  obtain ⟨t0, q2, h⟩ := slPA_elim h
  obtain ⟨n0, q3, h⟩ := slPA_elim h
  refine ⟨(mkF 93 [(2, (.pointer (some t0))), (3, (.pointer (some n0)))]), fun a ha => ha.mk (Nat.le_of_eq hl.symm) (List.forall_mem_cons.2 ⟨q2, List.forall_mem_cons.2 ⟨q3, fun _ h => nomatch h⟩⟩), ?_⟩
  have e := target_Parse.J8.eq t0 n0 Q E H
  rw [← e]
  exact h.h
def target_Parse.J7.t : CT := fun Q E fr H => lenIs 93 fr (slPA fr 2 fun t0 => slPA fr 3 fun n0 => slM fr 4 fun value0 => slS fr 9 fun protocol0 => target_Parse.J7 t0 n0 value0 protocol0 (fun  H => Q .ret (mkF 93 [(2, (.pointer (some t0))), (3, (.pointer (some n0)))]) H) E H)
noncomputable def target_Parse.J7.plan : Plan := .seq (.seq (.go) (.cond (.seq (.go) (.use target_Parse.J8.t)) (.go))) (.go)
theorem target_Parse.J7.pok : PlanOk Tryd.prog target_Parse.J7.plan (sub [1, 1, 1, 1, 1, 1, 1, 1, 1, 1, 1, 1, 1] target_Parse.body) := by
  have e : PlanOk Tryd.prog target_Parse.J7.plan (sub [1, 1, 1, 1, 1, 1, 1, 1, 1, 1, 1, 1, 1] target_Parse.body) = (((True) ∧ (((True) ∧ (SoundCode Tryd.prog (sub [1, 1, 1, 1, 1, 1, 1, 1, 1, 1, 1, 1, 1, 0, 1, 0, 1] target_Parse.body) target_Parse.J8.t)) ∧ (True))) ∧ (True)) := by kernel_rfl
  exact e.mpr ⟨⟨trivial, ⟨⟨trivial, target_Parse.J8.ok⟩, trivial⟩⟩, trivial⟩
theorem target_Parse.J7.eq (t0 : Addr) (n0 : Addr) (value0 : Option Nat) (protocol0 : ByteArray) (Q : Ex → Fr → Heap → Prop) (E : Value → Heap → Prop) (H : Heap) :
    target_Parse.J7.vc t0 n0 value0 protocol0 (fun  H => Q .ret (mkF 93 [(2, (.pointer (some t0))), (3, (.pointer (some n0)))]) H) E H = keepT [] [2, 3] (fun i => []) (wC Tryd.prog target_Parse.Γ target_Parse.J7.plan (sub [1, 1, 1, 1, 1, 1, 1, 1, 1, 1, 1, 1, 1] target_Parse.body)) Q E (mkF 93 [(2, (.pointer (some t0))), (3, (.pointer (some n0))), (4, (.map value0)), (9, (.string protocol0))]) H := by
  kernel_rfl
theorem target_Parse.J7.ok : SoundCode Tryd.prog (sub [1, 1, 1, 1, 1, 1, 1, 1, 1, 1, 1, 1, 1] target_Parse.body) target_Parse.J7.t := by
  refine piece_sound (keepT_sound [] [2, 3] (fun i => []) (wC_sound target_Parse.hΓ Tryd.hm target_Parse.J7.plan _ target_Parse.J7.pok)) ?_
  intro Q E fr H h
  unfold target_Parse.J7.t at h
  obtain ⟨hl, h⟩ := lenIs_elim h
  obtain ⟨t0, q2, h⟩ := slPA_elim h
  obtain ⟨n0, q3, h⟩ := slPA_elim h
  obtain ⟨value0, q4, h⟩ := slM_elim h
  obtain ⟨protocol0, q9, h⟩ := slS_elim h
  refine ⟨(mkF 93 [(2, (.pointer (some t0))), (3, (.pointer (some n0))), (4, (.map value0)), (9, (.string protocol0))]), fun a ha => ha.mk (Nat.le_of_eq hl.symm) (List.forall_mem_cons.2 ⟨q2, List.forall_mem_cons.2 ⟨q3, List.forall_mem_cons.2 ⟨q4, List.forall_mem_cons.2 ⟨q9, fun _ h => nomatch h⟩⟩⟩⟩), ?_⟩
  have e := target_Parse.J7.eq t0 n0 value0 protocol0 Q E H
  rw [← e]
  exact h.h
def target_Parse.J6.t : CT := fun Q E fr H => lenIs 93 fr (slSl fr 0 fun l0 l1 l2 => slPA fr 2 fun t0 => slPA fr 3 fun n0 => slM fr 4 fun value0 => slS fr 9 fun protocol0 => target_Parse.J6 l0 l1 l2 t0 n0 value0 protocol0 (fun  H => Q .ret (mkF 93 [(2, (.pointer (some t0))), (3, (.pointer (some n0)))]) H) E H)
noncomputable def target_Parse.J6.plan : Plan := .seq (.go) (.seq (.go) (.use target_Parse.J7.t))
theorem target_Parse.J6.pok : PlanOk Tryd.prog target_Parse.J6.plan (sub [1, 1, 1, 1, 1, 1, 1, 1, 1, 1, 1] target_Parse.body) := by
  have e : PlanOk Tryd.prog target_Parse.J6.plan (sub [1, 1, 1, 1, 1, 1, 1, 1, 1, 1, 1] target_Parse.body) = ((True) ∧ ((True) ∧ (SoundCode Tryd.prog (sub [1, 1, 1, 1, 1, 1, 1, 1, 1, 1, 1, 1, 1] target_Parse.body) target_Parse.J7.t))) := by kernel_rfl
  exact e.mpr ⟨trivial, ⟨trivial, target_Parse.J7.ok⟩⟩
theorem target_Parse.J6.eq (l0 : Option Addr) (l1 : Nat) (l2 : Nat) (t0 : Addr) (n0 : Addr) (value0 : Option Nat) (protocol0 : ByteArray) (Q : Ex → Fr → Heap → Prop) (E : Value → Heap → Prop) (H : Heap) :
    target_Parse.J6.vc l0 l1 l2 t0 n0 value0 protocol0 (fun  H => Q .ret (mkF 93 [(2, (.pointer (some t0))), (3, (.pointer (some n0)))]) H) E H = keepT [] [2, 3] (fun i => []) (wC Tryd.prog target_Parse.Γ target_Parse.J6.plan (sub [1, 1, 1, 1, 1, 1, 1, 1, 1, 1, 1] target_Parse.body)) Q E (mkF 93 [(0, (.slice l0 l1 l2)), (2, (.pointer (some t0))), (3, (.pointer (some n0))), (4, (.map value0)), (9, (.string protocol0))]) H := by
  kernel_rfl
theorem target_Parse.J6.ok : SoundCode Tryd.prog (sub [1, 1, 1, 1, 1, 1, 1, 1, 1, 1, 1] target_Parse.body) target_Parse.J6.t := by
  refine piece_sound (keepT_sound [] [2, 3] (fun i => []) (wC_sound target_Parse.hΓ Tryd.hm target_Parse.J6.plan _ target_Parse.J6.pok)) ?_
  intro Q E fr H h
  unfold target_Parse.J6.t at h
  obtain ⟨hl, h⟩ := lenIs_elim h
  obtain ⟨l0, l1, l2, q0, h⟩ := slSl_elim h
  obtain ⟨t0, q2, h⟩ := slPA_elim h
  obtain ⟨n0, q3, h⟩ := slPA_elim h
  obtain ⟨value0, q4, h⟩ := slM_elim h
  obtain ⟨protocol0, q9, h⟩ := slS_elim h
  refine ⟨(mkF 93 [(0, (.slice l0 l1 l2)), (2, (.pointer (some t0))), (3, (.pointer (some n0))), (4, (.map value0)), (9, (.string protocol0))]), fun a ha => ha.mk (Nat.le_of_eq hl.symm) (List.forall_mem_cons.2 ⟨q0, List.forall_mem_cons.2 ⟨q2, List.forall_mem_cons.2 ⟨q3, List.forall_mem_cons.2 ⟨q4, List.forall_mem_cons.2 ⟨q9, fun _ h => nomatch h⟩⟩⟩⟩⟩), ?_⟩
  have e := target_Parse.J6.eq l0 l1 l2 t0 n0 value0 protocol0 Q E H
  rw [← e]
  exact h.h
def target_Parse.J5.t : CT := fun Q E fr H => lenIs 93 fr (slSl fr 0 fun l0 l1 l2 => slPA fr 2 fun t0 => slPA fr 3 fun n0 => slM fr 4 fun value0 => slS fr 9 fun protocol0 => slB fr 11 fun connect0 => target_Parse.J5 l0 l1 l2 t0 n0 value0 protocol0 connect0 (fun  H => Q .ret (mkF 93 [(2, (.pointer (some t0))), (3, (.pointer (some n0)))]) H) E H)
noncomputable def target_Parse.J5.plan : Plan := .seq (.go) (.seq (.go) (.use target_Parse.J6.t))
theorem target_Parse.J5.pok : PlanOk Tryd.prog target_Parse.J5.plan (sub [1, 1, 1, 1, 1, 1, 1, 1, 1] target_Parse.body) := by
  have e : PlanOk Tryd.prog target_Parse.J5.plan (sub [1, 1, 1, 1, 1, 1, 1, 1, 1] target_Parse.body) = ((True) ∧ ((True) ∧ (SoundCode Tryd.prog (sub [1, 1, 1, 1, 1, 1, 1, 1, 1, 1, 1] target_Parse.body) target_Parse.J6.t))) := by kernel_rfl
  exact e.mpr ⟨trivial, ⟨trivial, target_Parse.J6.ok⟩⟩
theorem target_Parse.J5.eq (l0 : Option Addr) (l1 : Nat) (l2 : Nat) (t0 : Addr) (n0 : Addr) (value0 : Option Nat) (protocol0 : ByteArray) (connect0 : Bool) (Q : Ex → Fr → Heap → Prop) (E : Value → Heap → Prop) (H : Heap) :
    target_Parse.J5.vc l0 l1 l2 t0 n0 value0 protocol0 connect0 (fun  H => Q .ret (mkF 93 [(2, (.pointer (some t0))), (3, (.pointer (some n0)))]) H) E H = keepT [] [2, 3] (fun i => []) (wC Tryd.prog target_Parse.Γ target_Parse.J5.plan (sub [1, 1, 1, 1, 1, 1, 1, 1, 1] target_Parse.body)) Q E (mkF 93 [(0, (.slice l0 l1 l2)), (2, (.pointer (some t0))), (3, (.pointer (some n0))), (4, (.map value0)), (9, (.string protocol0)), (11, (.bool connect0))]) H := by
  kernel_rfl
theorem target_Parse.J5.ok : SoundCode Tryd.prog (sub [1, 1, 1, 1, 1, 1, 1, 1, 1] target_Parse.body) target_Parse.J5.t := by
  refine piece_sound (keepT_sound [] [2, 3] (fun i => []) (wC_sound target_Parse.hΓ Tryd.hm target_Parse.J5.plan _ target_Parse.J5.pok)) ?_
  intro Q E fr H h
  unfold target_Parse.J5.t at h
  obtain ⟨hl, h⟩ := lenIs_elim h
  obtain ⟨l0, l1, l2, q0, h⟩ := slSl_elim h
  obtain ⟨t0, q2, h⟩ := slPA_elim h
  obtain ⟨n0, q3, h⟩ := slPA_elim h
  obtain ⟨value0, q4, h⟩ := slM_elim h
  obtain ⟨protocol0, q9, h⟩ := slS_elim h
  obtain ⟨connect0, q11, h⟩ := slB_elim h
  refine ⟨(mkF 93 [(0, (.slice l0 l1 l2)), (2, (.pointer (some t0))), (3, (.pointer (some n0))), (4, (.map value0)), (9, (.string protocol0)), (11, (.bool connect0))]), fun a ha => ha.mk (Nat.le_of_eq hl.symm) (List.forall_mem_cons.2 ⟨q0, List.forall_mem_cons.2 ⟨q2, List.forall_mem_cons.2 ⟨q3, List.forall_mem_cons.2 ⟨q4, List.forall_mem_cons.2 ⟨q9, List.forall_mem_cons.2 ⟨q11, fun _ h => nomatch h⟩⟩⟩⟩⟩⟩), ?_⟩
  have e := target_Parse.J5.eq l0 l1 l2 t0 n0 value0 protocol0 connect0 Q E H
  rw [← e]
  exact h.h
def target_Parse.J4.t : CT := fun Q E fr H => lenIs 93 fr (slSl fr 0 fun l0 l1 l2 => slPA fr 2 fun t0 => slPA fr 3 fun n0 => slM fr 4 fun value0 => slS fr 9 fun protocol0 => slB fr 10 fun ok0 => slB fr 11 fun connect0 => target_Parse.J4 l0 l1 l2 t0 n0 value0 protocol0 ok0 connect0 (fun  H => Q .ret (mkF 93 [(2, (.pointer (some t0))), (3, (.pointer (some n0)))]) H) E H)
noncomputable def target_Parse.J4.plan : Plan := .seq (.go) (.use target_Parse.J5.t)
theorem target_Parse.J4.pok : PlanOk Tryd.prog target_Parse.J4.plan (sub [1, 1, 1, 1, 1, 1, 1, 1] target_Parse.body) := by
  have e : PlanOk Tryd.prog target_Parse.J4.plan (sub [1, 1, 1, 1, 1, 1, 1, 1] target_Parse.body) = ((True) ∧ (SoundCode Tryd.prog (sub [1, 1, 1, 1, 1, 1, 1, 1, 1] target_Parse.body) target_Parse.J5.t)) := by kernel_rfl
  exact e.mpr ⟨trivial, target_Parse.J5.ok⟩
theorem target_Parse.J4.eq (l0 : Option Addr) (l1 : Nat) (l2 : Nat) (t0 : Addr) (n0 : Addr) (value0 : Option Nat) (protocol0 : ByteArray) (ok0 : Bool) (connect0 : Bool) (Q : Ex → Fr → Heap → Prop) (E : Value → Heap → Prop) (H : Heap) :
    target_Parse.J4.vc l0 l1 l2 t0 n0 value0 protocol0 ok0 connect0 (fun  H => Q .ret (mkF 93 [(2, (.pointer (some t0))), (3, (.pointer (some n0)))]) H) E H = keepT [] [2, 3] (fun i => []) (wC Tryd.prog target_Parse.Γ target_Parse.J4.plan (sub [1, 1, 1, 1, 1, 1, 1, 1] target_Parse.body)) Q E (mkF 93 [(0, (.slice l0 l1 l2)), (2, (.pointer (some t0))), (3, (.pointer (some n0))), (4, (.map value0)), (9, (.string protocol0)), (10, (.bool ok0)), (11, (.bool connect0))]) H := by
  kernel_rfl
theorem target_Parse.J4.ok : SoundCode Tryd.prog (sub [1, 1, 1, 1, 1, 1, 1, 1] target_Parse.body) target_Parse.J4.t := by
  refine piece_sound (keepT_sound [] [2, 3] (fun i => []) (wC_sound target_Parse.hΓ Tryd.hm target_Parse.J4.plan _ target_Parse.J4.pok)) ?_
  intro Q E fr H h
  unfold target_Parse.J4.t at h
  obtain ⟨hl, h⟩ := lenIs_elim h
  obtain ⟨l0, l1, l2, q0, h⟩ := slSl_elim h
  obtain ⟨t0, q2, h⟩ := slPA_elim h
  obtain ⟨n0, q3, h⟩ := slPA_elim h
  obtain ⟨value0, q4, h⟩ := slM_elim h
  obtain ⟨protocol0, q9, h⟩ := slS_elim h
  obtain ⟨ok0, q10, h⟩ := slB_elim h
  obtain ⟨connect0, q11, h⟩ := slB_elim h
  refine ⟨(mkF 93 [(0, (.slice l0 l1 l2)), (2, (.pointer (some t0))), (3, (.pointer (some n0))), (4, (.map value0)), (9, (.string protocol0)), (10, (.bool ok0)), (11, (.bool connect0))]), fun a ha => ha.mk (Nat.le_of_eq hl.symm) (List.forall_mem_cons.2 ⟨q0, List.forall_mem_cons.2 ⟨q2, List.forall_mem_cons.2 ⟨q3, List.forall_mem_cons.2 ⟨q4, List.forall_mem_cons.2 ⟨q9, List.forall_mem_cons.2 ⟨q10, List.forall_mem_cons.2 ⟨q11, fun _ h => nomatch h⟩⟩⟩⟩⟩⟩⟩), ?_⟩
  have e := target_Parse.J4.eq l0 l1 l2 t0 n0 value0 protocol0 ok0 connect0 Q E H
  rw [← e]
  exact h.h
def target_Parse.J2.t : CT := fun Q E fr H => lenIs 93 fr (slSl fr 0 fun l0 l1 l2 => slPA fr 2 fun t0 => slPA fr 3 fun n0 => target_Parse.J2 l0 l1 l2 t0 n0 (fun  H => Q .ret (mkF 93 [(2, (.pointer (some t0))), (3, (.pointer (some n0)))]) H) E H)
noncomputable def target_Parse.J2.plan : Plan := .seq (.go) (.seq (.go) (.seq (.go) (.seq (.seq (.go) (.block (.use target_Parse.W3.t))) (.seq (.go) (.seq (.go) (.use target_Parse.J4.t))))))
theorem target_Parse.J2.pok : PlanOk Tryd.prog target_Parse.J2.plan (sub [1, 1] target_Parse.body) := by
  have e : PlanOk Tryd.prog target_Parse.J2.plan (sub [1, 1] target_Parse.body) = ((True) ∧ ((True) ∧ ((True) ∧ (((True) ∧ (SoundCode Tryd.prog (sub [1, 1, 1, 1, 1, 0, 1, 0] target_Parse.body) target_Parse.W3.t)) ∧ ((True) ∧ ((True) ∧ (SoundCode Tryd.prog (sub [1, 1, 1, 1, 1, 1, 1, 1] target_Parse.body) target_Parse.J4.t))))))) := by kernel_rfl
  exact e.mpr ⟨trivial, ⟨trivial, ⟨trivial, ⟨⟨trivial, target_Parse.W3.ok⟩, ⟨trivial, ⟨trivial, target_Parse.J4.ok⟩⟩⟩⟩⟩⟩
theorem target_Parse.J2.eq (l0 : Option Addr) (l1 : Nat) (l2 : Nat) (t0 : Addr) (n0 : Addr) (Q : Ex → Fr → Heap → Prop) (E : Value → Heap → Prop) (H : Heap) :
    target_Parse.J2.vc l0 l1 l2 t0 n0 (fun  H => Q .ret (mkF 93 [(2, (.pointer (some t0))), (3, (.pointer (some n0)))]) H) E H = keepT [] [2, 3] (fun i => []) (wC Tryd.prog target_Parse.Γ target_Parse.J2.plan (sub [1, 1] target_Parse.body)) Q E (mkF 93 [(0, (.slice l0 l1 l2)), (2, (.pointer (some t0))), (3, (.pointer (some n0)))]) H := by
  kernel_rfl
theorem target_Parse.J2.ok : SoundCode Tryd.prog (sub [1, 1] target_Parse.body) target_Parse.J2.t := by
  refine piece_sound (keepT_sound [] [2, 3] (fun i => []) (wC_sound target_Parse.hΓ Tryd.hm target_Parse.J2.plan _ target_Parse.J2.pok)) ?_
  intro Q E fr H h
  unfold target_Parse.J2.t at h
  obtain ⟨hl, h⟩ := lenIs_elim h
  obtain ⟨l0, l1, l2, q0, h⟩ := slSl_elim h
  obtain ⟨t0, q2, h⟩ := slPA_elim h
  obtain ⟨n0, q3, h⟩ := slPA_elim h
  refine ⟨(mkF 93 [(0, (.slice l0 l1 l2)), (2, (.pointer (some t0))), (3, (.pointer (some n0)))]), fun a ha => ha.mk (Nat.le_of_eq hl.symm) (List.forall_mem_cons.2 ⟨q0, List.forall_mem_cons.2 ⟨q2, List.forall_mem_cons.2 ⟨q3, fun _ h => nomatch h⟩⟩⟩), ?_⟩
  have e := target_Parse.J2.eq l0 l1 l2 t0 n0 Q E H
  rw [← e]
  exact h.h
end Go.Sh
