/- PRINTED by a program (shrf.py): what the walks over parts of a function ask, and that they ask just that. -/
import Derived.Test.YtpmgchippfmakaaDoorGsp
namespace Go.Sh
open Go.Proofs
set_option linter.unusedVariables false
set_option maxRecDepth 8000
/-! vizard/prefix.Parse -/
noncomputable def prefix_Parse.body : Code := Tryd.f39.body.getD .skip
def prefix_Parse.J1.vc (s0 : ByteArray) (Kn : Addr → Addr → Heap → Prop) (E : Value → Heap → Prop) (h0 : Heap) : Prop :=
  newB (.cells #[(.int .u32 0)] 22) (fun b0 h1 =>
  newB (.cells #[(.bool false)] 4) (fun b1 h2 =>
  Kn (⟨b0, 0, none⟩ : Addr) (⟨b1, 0, none⟩ : Addr) h2) h1) h0
structure prefix_Parse.J1 (s0 : ByteArray) (Kn : Addr → Addr → Heap → Prop) (E : Value → Heap → Prop) (H : Heap) : Prop where
  h : prefix_Parse.J1.vc s0 Kn E H
def prefix_Parse.J2.vc (s0 : ByteArray) (x0 : Addr) (x1 : Addr) (Kn : Addr → Addr → Heap → Prop) (E : Value → Heap → Prop) (h0 : Heap) : Prop :=
  newB (.cells #[(.int .u32 0)] 22) (fun b0 h1 =>
  newB (.cells #[(.int .i64 0)] 3) (fun b1 h2 =>
  stc h2 (⟨b0, 0, none⟩ : Addr) (.int .u32 0) fun h3 =>
  stc h3 (⟨b1, 0, none⟩ : Addr) (.int .i64 0) fun h4 =>
  Kn (⟨b0, 0, none⟩ : Addr) (⟨b1, 0, none⟩ : Addr) h4) h1) h0
structure prefix_Parse.J2 (s0 : ByteArray) (x0 : Addr) (x1 : Addr) (Kn : Addr → Addr → Heap → Prop) (E : Value → Heap → Prop) (H : Heap) : Prop where
  h : prefix_Parse.J2.vc s0 x0 x1 Kn E H
def prefix_Parse.J3.vc (s0 : ByteArray) (x0 : Addr) (x1 : Addr) (a0 : Addr) (count0 : Addr) (Kn : Value → Heap → Prop) (E : Value → Heap → Prop) (h0 : Heap) : Prop :=
  strings_SplitSeq.c s0 (⟨#[46]⟩ : ByteArray) Kn E h0
structure prefix_Parse.J3 (s0 : ByteArray) (x0 : Addr) (x1 : Addr) (a0 : Addr) (count0 : Addr) (Kn : Value → Heap → Prop) (E : Value → Heap → Prop) (H : Heap) : Prop where
  h : prefix_Parse.J3.vc s0 x0 x1 a0 count0 Kn E H
def prefix_Parse.J5.vc (x0 : Addr) (x1 : Addr) (a0 : Addr) (count0 : Addr) (n0 : Int) (x2 : Bool) (Kn : Heap → Prop) (Kr : Heap → Prop) (E : Value → Heap → Prop) (h0 : Heap) : Prop :=
  (if x2 = true then
  stc h0 x0 (.int .u32 0) fun h1 =>
  stc h1 x1 (.bool false) fun h2 =>
  Kr h2
  else
  Kn h0)
structure prefix_Parse.J5 (x0 : Addr) (x1 : Addr) (a0 : Addr) (count0 : Addr) (n0 : Int) (x2 : Bool) (Kn : Heap → Prop) (Kr : Heap → Prop) (E : Value → Heap → Prop) (H : Heap) : Prop where
  h : prefix_Parse.J5.vc x0 x1 a0 count0 n0 x2 Kn Kr E H
def prefix_Parse.J6.vc (a0 : Addr) (count0 : Addr) (n0 : Int) (Kn : Heap → Prop) (E : Value → Heap → Prop) (h0 : Heap) : Prop :=
  ldI h0 .u32 a0 fun x0 =>
  (0 : Int) ≤ 8 ∧
  ldI h0 .i64 count0 fun x1 =>
  stc h0 a0 (.int .u32 (bits .or .u32 (shlI .u32 x0 8) (IntKind.u32.wrap n0))) fun h1 =>
  (ldI h1 .i64 count0 fun x2 =>
  eqv h1 h1 (some (.int .i64 x1)) (.int .i64 x2)) ∧
  stc h1 count0 (.int .i64 (IntKind.i64.wrap (x1 + 1))) fun h2 =>
  Kn h2
structure prefix_Parse.J6 (a0 : Addr) (count0 : Addr) (n0 : Int) (Kn : Heap → Prop) (E : Value → Heap → Prop) (H : Heap) : Prop where
  h : prefix_Parse.J6.vc a0 count0 n0 Kn E H
def prefix_Parse.J4.vc (x0 : Addr) (x1 : Addr) (a0 : Addr) (count0 : Addr) (part0 : ByteArray) (Kn : Heap → Prop) (Kr : Heap → Prop) (E : Value → Heap → Prop) (h0 : Heap) : Prop :=
  strconv_Atoi.c part0 (fun x2 x3 h1 =>
  nilV (.tmp 17) (.const .nilIface) x3
  ((if (decide (x2 < 0)) = true then
  prefix_Parse.J5 x0 x1 a0 count0 x2 true (fun h2 =>
  prefix_Parse.J6 a0 count0 x2 Kn E h2) Kr E h1
  else
  (if (decide (x2 > 255)) = true then
  prefix_Parse.J5 x0 x1 a0 count0 x2 true (fun h5 =>
  prefix_Parse.J6 a0 count0 x2 Kn E h5) Kr E h1
  else
  strconv_Itoa.c x2 (fun x4 h8 =>
  prefix_Parse.J5 x0 x1 a0 count0 x2 (!(x4.toList == part0.toList)) (fun h9 =>
  prefix_Parse.J6 a0 count0 x2 Kn E h9) Kr E h8) E h1)))
  (prefix_Parse.J5 x0 x1 a0 count0 x2 true (fun h12 =>
  prefix_Parse.J6 a0 count0 x2 Kn E h12) Kr E h1)) E h0
structure prefix_Parse.J4 (x0 : Addr) (x1 : Addr) (a0 : Addr) (count0 : Addr) (part0 : ByteArray) (Kn : Heap → Prop) (Kr : Heap → Prop) (E : Value → Heap → Prop) (H : Heap) : Prop where
  h : prefix_Parse.J4.vc x0 x1 a0 count0 part0 Kn Kr E H
def prefix_Parse.J7.vc (x0 : Addr) (x1 : Addr) (a0 : Addr) (count0 : Addr) (Kr : Heap → Prop) (E : Value → Heap → Prop) (h0 : Heap) : Prop :=
  ldI h0 .i64 count0 fun x2 =>
  (if (x2 != 4) = true then
  stc h0 x0 (.int .u32 0) fun h1 =>
  stc h1 x1 (.bool false) fun h2 =>
  Kr h2
  else
  ldI h0 .u32 a0 fun x3 =>
  stc h0 x0 (.int .u32 x3) fun h3 =>
  stc h3 x1 (.bool true) fun h4 =>
  Kr h4)
structure prefix_Parse.J7 (x0 : Addr) (x1 : Addr) (a0 : Addr) (count0 : Addr) (Kr : Heap → Prop) (E : Value → Heap → Prop) (H : Heap) : Prop where
  h : prefix_Parse.J7.vc x0 x1 a0 count0 Kr E H
noncomputable def prefix_Parse.Γ : FuncId → Option FT := Γof [(19, strconv_Itoa.F), (40, strconv_Atoi.F), (51, strings_SplitSeq.F)]
theorem prefix_Parse.hΓ : ∀ f F, prefix_Parse.Γ f = some F → CalleeOk Tryd.prog f F := Γof_ok (List.forall_mem_cons.2 ⟨strconv_Itoa.ok, List.forall_mem_cons.2 ⟨strconv_Atoi.ok, List.forall_mem_cons.2 ⟨strings_SplitSeq.ok, fun _ h => nomatch h⟩⟩⟩)
def prefix_Parse.J1.t : CT := fun Q E fr H => lenIs 43 fr (slS fr 0 fun s0 => prefix_Parse.J1 s0 (fun y2_0 y3_0 H => Q .normal (mkF 43 [(0, (.string s0)), (2, (.pointer (some y2_0))), (3, (.pointer (some y3_0)))]) H) E H)
noncomputable def prefix_Parse.J1.plan : Plan := .go
theorem prefix_Parse.J1.pok : PlanOk Tryd.prog prefix_Parse.J1.plan (sub [0] prefix_Parse.body) := by
  have e : PlanOk Tryd.prog prefix_Parse.J1.plan (sub [0] prefix_Parse.body) = (True) := by kernel_rfl
  exact e.mpr trivial
theorem prefix_Parse.J1.eq (s0 : ByteArray) (Q : Ex → Fr → Heap → Prop) (E : Value → Heap → Prop) (H : Heap) :
    prefix_Parse.J1.vc s0 (fun y2_0 y3_0 H => Q .normal (mkF 43 [(0, (.string s0)), (2, (.pointer (some y2_0))), (3, (.pointer (some y3_0)))]) H) E H = keepT [0, 2, 3] [] (fun i => []) (wC Tryd.prog prefix_Parse.Γ prefix_Parse.J1.plan (sub [0] prefix_Parse.body)) Q E (mkF 43 [(0, (.string s0))]) H := by
  kernel_rfl
theorem prefix_Parse.J1.ok : SoundCode Tryd.prog (sub [0] prefix_Parse.body) prefix_Parse.J1.t := by
  refine piece_sound (keepT_sound [0, 2, 3] [] (fun i => []) (wC_sound prefix_Parse.hΓ Tryd.hm prefix_Parse.J1.plan _ prefix_Parse.J1.pok)) ?_
  intro Q E fr H h
  unfold prefix_Parse.J1.t at h
  obtain ⟨hl, h⟩ := lenIs_elim h
  obtain ⟨s0, q0, h⟩ := slS_elim h
  refine ⟨(mkF 43 [(0, (.string s0))]), fun a ha => ha.mk (Nat.le_of_eq hl.symm) (List.forall_mem_cons.2 ⟨q0, fun _ h => nomatch h⟩), ?_⟩
  have e := prefix_Parse.J1.eq s0 Q E H
  rw [← e]
  exact h.h
def prefix_Parse.J2.t : CT := fun Q E fr H => lenIs 43 fr (slS fr 0 fun s0 => slPA fr 2 fun x0 => slPA fr 3 fun x1 => prefix_Parse.J2 s0 x0 x1 (fun y4_0 y5_0 H => Q .normal (mkF 43 [(0, (.string s0)), (2, (.pointer (some x0))), (3, (.pointer (some x1))), (4, (.pointer (some y4_0))), (5, (.pointer (some y5_0)))]) H) E H)
noncomputable def prefix_Parse.J2.plan : Plan := .go
theorem prefix_Parse.J2.pok : PlanOk Tryd.prog prefix_Parse.J2.plan (sub [1, 0] prefix_Parse.body) := by
  have e : PlanOk Tryd.prog prefix_Parse.J2.plan (sub [1, 0] prefix_Parse.body) = (True) := by kernel_rfl
  exact e.mpr trivial
theorem prefix_Parse.J2.eq (s0 : ByteArray) (x0 : Addr) (x1 : Addr) (Q : Ex → Fr → Heap → Prop) (E : Value → Heap → Prop) (H : Heap) :
    prefix_Parse.J2.vc s0 x0 x1 (fun y4_0 y5_0 H => Q .normal (mkF 43 [(0, (.string s0)), (2, (.pointer (some x0))), (3, (.pointer (some x1))), (4, (.pointer (some y4_0))), (5, (.pointer (some y5_0)))]) H) E H = keepT [0, 2, 3, 4, 5] [] (fun i => []) (wC Tryd.prog prefix_Parse.Γ prefix_Parse.J2.plan (sub [1, 0] prefix_Parse.body)) Q E (mkF 43 [(0, (.string s0)), (2, (.pointer (some x0))), (3, (.pointer (some x1)))]) H := by
  kernel_rfl
theorem prefix_Parse.J2.ok : SoundCode Tryd.prog (sub [1, 0] prefix_Parse.body) prefix_Parse.J2.t := by
  refine piece_sound (keepT_sound [0, 2, 3, 4, 5] [] (fun i => []) (wC_sound prefix_Parse.hΓ Tryd.hm prefix_Parse.J2.plan _ prefix_Parse.J2.pok)) ?_
  intro Q E fr H h
  unfold prefix_Parse.J2.t at h
  obtain ⟨hl, h⟩ := lenIs_elim h
  obtain ⟨s0, q0, h⟩ := slS_elim h
  obtain ⟨x0, q2, h⟩ := slPA_elim h
  obtain ⟨x1, q3, h⟩ := slPA_elim h
  refine ⟨(mkF 43 [(0, (.string s0)), (2, (.pointer (some x0))), (3, (.pointer (some x1)))]), fun a ha => ha.mk (Nat.le_of_eq hl.symm) (List.forall_mem_cons.2 ⟨q0, List.forall_mem_cons.2 ⟨q2, List.forall_mem_cons.2 ⟨q3, fun _ h => nomatch h⟩⟩⟩), ?_⟩
  have e := prefix_Parse.J2.eq s0 x0 x1 Q E H
  rw [← e]
  exact h.h
def prefix_Parse.J3.t : CT := fun Q E fr H => lenIs 43 fr (slS fr 0 fun s0 => slPA fr 2 fun x0 => slPA fr 3 fun x1 => slPA fr 4 fun a0 => slPA fr 5 fun count0 => prefix_Parse.J3 s0 x0 x1 a0 count0 (fun y10_0 H => Q .normal (mkF 43 [(2, (.pointer (some x0))), (3, (.pointer (some x1))), (4, (.pointer (some a0))), (5, (.pointer (some count0))), (10, y10_0)]) H) E H)
noncomputable def prefix_Parse.J3.plan : Plan := .go
theorem prefix_Parse.J3.pok : PlanOk Tryd.prog prefix_Parse.J3.plan (sub [1, 1, 0, 0] prefix_Parse.body) := by
  have e : PlanOk Tryd.prog prefix_Parse.J3.plan (sub [1, 1, 0, 0] prefix_Parse.body) = (True) := by kernel_rfl
  exact e.mpr trivial
theorem prefix_Parse.J3.eq (s0 : ByteArray) (x0 : Addr) (x1 : Addr) (a0 : Addr) (count0 : Addr) (Q : Ex → Fr → Heap → Prop) (E : Value → Heap → Prop) (H : Heap) :
    prefix_Parse.J3.vc s0 x0 x1 a0 count0 (fun y10_0 H => Q .normal (mkF 43 [(2, (.pointer (some x0))), (3, (.pointer (some x1))), (4, (.pointer (some a0))), (5, (.pointer (some count0))), (10, y10_0)]) H) E H = keepT [2, 3, 4, 5, 10] [] (fun i => []) (wC Tryd.prog prefix_Parse.Γ prefix_Parse.J3.plan (sub [1, 1, 0, 0] prefix_Parse.body)) Q E (mkF 43 [(0, (.string s0)), (2, (.pointer (some x0))), (3, (.pointer (some x1))), (4, (.pointer (some a0))), (5, (.pointer (some count0)))]) H := by
  kernel_rfl
theorem prefix_Parse.J3.ok : SoundCode Tryd.prog (sub [1, 1, 0, 0] prefix_Parse.body) prefix_Parse.J3.t := by
  refine piece_sound (keepT_sound [2, 3, 4, 5, 10] [] (fun i => []) (wC_sound prefix_Parse.hΓ Tryd.hm prefix_Parse.J3.plan _ prefix_Parse.J3.pok)) ?_
  intro Q E fr H h
  unfold prefix_Parse.J3.t at h
  obtain ⟨hl, h⟩ := lenIs_elim h
  obtain ⟨s0, q0, h⟩ := slS_elim h
  obtain ⟨x0, q2, h⟩ := slPA_elim h
  obtain ⟨x1, q3, h⟩ := slPA_elim h
  obtain ⟨a0, q4, h⟩ := slPA_elim h
  obtain ⟨count0, q5, h⟩ := slPA_elim h
  refine ⟨(mkF 43 [(0, (.string s0)), (2, (.pointer (some x0))), (3, (.pointer (some x1))), (4, (.pointer (some a0))), (5, (.pointer (some count0)))]), fun a ha => ha.mk (Nat.le_of_eq hl.symm) (List.forall_mem_cons.2 ⟨q0, List.forall_mem_cons.2 ⟨q2, List.forall_mem_cons.2 ⟨q3, List.forall_mem_cons.2 ⟨q4, List.forall_mem_cons.2 ⟨q5, fun _ h => nomatch h⟩⟩⟩⟩⟩), ?_⟩
  have e := prefix_Parse.J3.eq s0 x0 x1 a0 count0 Q E H
  rw [← e]
  exact h.h
def prefix_Parse.J5.t : CT := fun Q E fr H => lenIs 43 fr (slPA fr 2 fun x0 => slPA fr 3 fun x1 => slPA fr 4 fun a0 => slPA fr 5 fun count0 => slI fr 7 .i64 fun n0 => slB fr 32 fun x2 => prefix_Parse.J5 x0 x1 a0 count0 n0 x2 (fun  H => Q .normal (mkF 43 [(4, (.pointer (some a0))), (5, (.pointer (some count0))), (7, (.int .i64 n0))]) H) (fun  H => Q .ret (mkF 43 []) H) E H)
noncomputable def prefix_Parse.J5.plan : Plan := .go
theorem prefix_Parse.J5.pok : PlanOk Tryd.prog prefix_Parse.J5.plan (sub [1, 1, 0, 1, 0, 1, 0, 1, 0, 1] prefix_Parse.body) := by
  have e : PlanOk Tryd.prog prefix_Parse.J5.plan (sub [1, 1, 0, 1, 0, 1, 0, 1, 0, 1] prefix_Parse.body) = (True) := by kernel_rfl
  exact e.mpr trivial
theorem prefix_Parse.J5.eq (x0 : Addr) (x1 : Addr) (a0 : Addr) (count0 : Addr) (n0 : Int) (x2 : Bool) (Q : Ex → Fr → Heap → Prop) (E : Value → Heap → Prop) (H : Heap) :
    prefix_Parse.J5.vc x0 x1 a0 count0 n0 x2 (fun  H => Q .normal (mkF 43 [(4, (.pointer (some a0))), (5, (.pointer (some count0))), (7, (.int .i64 n0))]) H) (fun  H => Q .ret (mkF 43 []) H) E H = keepT [4, 5, 7] [] (fun i => []) (wC Tryd.prog prefix_Parse.Γ prefix_Parse.J5.plan (sub [1, 1, 0, 1, 0, 1, 0, 1, 0, 1] prefix_Parse.body)) Q E (mkF 43 [(2, (.pointer (some x0))), (3, (.pointer (some x1))), (4, (.pointer (some a0))), (5, (.pointer (some count0))), (7, (.int .i64 n0)), (32, (.bool x2))]) H := by
  kernel_rfl
theorem prefix_Parse.J5.ok : SoundCode Tryd.prog (sub [1, 1, 0, 1, 0, 1, 0, 1, 0, 1] prefix_Parse.body) prefix_Parse.J5.t := by
  refine piece_sound (keepT_sound [4, 5, 7] [] (fun i => []) (wC_sound prefix_Parse.hΓ Tryd.hm prefix_Parse.J5.plan _ prefix_Parse.J5.pok)) ?_
  intro Q E fr H h
  unfold prefix_Parse.J5.t at h
  obtain ⟨hl, h⟩ := lenIs_elim h
  obtain ⟨x0, q2, h⟩ := slPA_elim h
  obtain ⟨x1, q3, h⟩ := slPA_elim h
  obtain ⟨a0, q4, h⟩ := slPA_elim h
  obtain ⟨count0, q5, h⟩ := slPA_elim h
  obtain ⟨n0, q7, h⟩ := slI_elim h
  obtain ⟨x2, q32, h⟩ := slB_elim h
  refine ⟨(mkF 43 [(2, (.pointer (some x0))), (3, (.pointer (some x1))), (4, (.pointer (some a0))), (5, (.pointer (some count0))), (7, (.int .i64 n0)), (32, (.bool x2))]), fun a ha => ha.mk (Nat.le_of_eq hl.symm) (List.forall_mem_cons.2 ⟨q2, List.forall_mem_cons.2 ⟨q3, List.forall_mem_cons.2 ⟨q4, List.forall_mem_cons.2 ⟨q5, List.forall_mem_cons.2 ⟨q7, List.forall_mem_cons.2 ⟨q32, fun _ h => nomatch h⟩⟩⟩⟩⟩⟩), ?_⟩
  have e := prefix_Parse.J5.eq x0 x1 a0 count0 n0 x2 Q E H
  rw [← e]
  exact h.h
def prefix_Parse.J6.t : CT := fun Q E fr H => lenIs 43 fr (slPA fr 4 fun a0 => slPA fr 5 fun count0 => slI fr 7 .i64 fun n0 => prefix_Parse.J6 a0 count0 n0 (fun  H => Q .normal (mkF 43 []) H) E H)
noncomputable def prefix_Parse.J6.plan : Plan := .draw ⟨[0, 1, 2, 3, 4, 5, 6, 7, 8], (dl [(0, []), (1, []), (2, []), (3, []), (4, []), (5, []), (6, []), (7, [4, 0, 1, 2, 3]), (8, [6, 7, 0, 1, 2, 3, 4, 5])] .fin), []⟩
theorem prefix_Parse.J6.pok : PlanOk Tryd.prog prefix_Parse.J6.plan (sub [1, 1, 0, 1, 0, 1, 0, 1, 1] prefix_Parse.body) := by
  have e : PlanOk Tryd.prog prefix_Parse.J6.plan (sub [1, 1, 0, 1, 0, 1, 0, 1, 1] prefix_Parse.body) = (True) := by kernel_rfl
  exact e.mpr trivial
theorem prefix_Parse.J6.eq (a0 : Addr) (count0 : Addr) (n0 : Int) (Q : Ex → Fr → Heap → Prop) (E : Value → Heap → Prop) (H : Heap) :
    prefix_Parse.J6.vc a0 count0 n0 (fun  H => Q .normal (mkF 43 []) H) E H = keepT [] [] (fun i => []) (wC Tryd.prog prefix_Parse.Γ prefix_Parse.J6.plan (sub [1, 1, 0, 1, 0, 1, 0, 1, 1] prefix_Parse.body)) Q E (mkF 43 [(4, (.pointer (some a0))), (5, (.pointer (some count0))), (7, (.int .i64 n0))]) H := by
  kernel_rfl
theorem prefix_Parse.J6.ok : SoundCode Tryd.prog (sub [1, 1, 0, 1, 0, 1, 0, 1, 1] prefix_Parse.body) prefix_Parse.J6.t := by
  refine piece_sound (keepT_sound [] [] (fun i => []) (wC_sound prefix_Parse.hΓ Tryd.hm prefix_Parse.J6.plan _ prefix_Parse.J6.pok)) ?_
  intro Q E fr H h
  unfold prefix_Parse.J6.t at h
  obtain ⟨hl, h⟩ := lenIs_elim h
  obtain ⟨a0, q4, h⟩ := slPA_elim h
  obtain ⟨count0, q5, h⟩ := slPA_elim h
  obtain ⟨n0, q7, h⟩ := slI_elim h
  refine ⟨(mkF 43 [(4, (.pointer (some a0))), (5, (.pointer (some count0))), (7, (.int .i64 n0))]), fun a ha => ha.mk (Nat.le_of_eq hl.symm) (List.forall_mem_cons.2 ⟨q4, List.forall_mem_cons.2 ⟨q5, List.forall_mem_cons.2 ⟨q7, fun _ h => nomatch h⟩⟩⟩), ?_⟩
  have e := prefix_Parse.J6.eq a0 count0 n0 Q E H
  rw [← e]
  exact h.h
def prefix_Parse.J4.t : CT := fun Q E fr H => lenIs 43 fr (slPA fr 2 fun x0 => slPA fr 3 fun x1 => slPA fr 4 fun a0 => slPA fr 5 fun count0 => slS fr 6 fun part0 => prefix_Parse.J4 x0 x1 a0 count0 part0 (fun  H => Q .normal (mkF 43 []) H) (fun  H => Q .ret (mkF 43 []) H) E H)
noncomputable def prefix_Parse.J4.plan : Plan := .block (.seq (.go) (.seq (.seq (.go) (.use prefix_Parse.J5.t)) (.use prefix_Parse.J6.t)))
theorem prefix_Parse.J4.pok : PlanOk Tryd.prog prefix_Parse.J4.plan (sub [1, 1, 0, 1, 0, 1] prefix_Parse.body) := by
  have e : PlanOk Tryd.prog prefix_Parse.J4.plan (sub [1, 1, 0, 1, 0, 1] prefix_Parse.body) = ((True) ∧ (((True) ∧ (SoundCode Tryd.prog (sub [1, 1, 0, 1, 0, 1, 0, 1, 0, 1] prefix_Parse.body) prefix_Parse.J5.t)) ∧ (SoundCode Tryd.prog (sub [1, 1, 0, 1, 0, 1, 0, 1, 1] prefix_Parse.body) prefix_Parse.J6.t))) := by kernel_rfl
  exact e.mpr ⟨trivial, ⟨⟨trivial, prefix_Parse.J5.ok⟩, prefix_Parse.J6.ok⟩⟩
theorem prefix_Parse.J4.eq (x0 : Addr) (x1 : Addr) (a0 : Addr) (count0 : Addr) (part0 : ByteArray) (Q : Ex → Fr → Heap → Prop) (E : Value → Heap → Prop) (H : Heap) :
    prefix_Parse.J4.vc x0 x1 a0 count0 part0 (fun  H => Q .normal (mkF 43 []) H) (fun  H => Q .ret (mkF 43 []) H) E H = keepT [] [] (fun i => []) (wC Tryd.prog prefix_Parse.Γ prefix_Parse.J4.plan (sub [1, 1, 0, 1, 0, 1] prefix_Parse.body)) Q E (mkF 43 [(2, (.pointer (some x0))), (3, (.pointer (some x1))), (4, (.pointer (some a0))), (5, (.pointer (some count0))), (6, (.string part0))]) H := by
  kernel_rfl
theorem prefix_Parse.J4.ok : SoundCode Tryd.prog (sub [1, 1, 0, 1, 0, 1] prefix_Parse.body) prefix_Parse.J4.t := by
  refine piece_sound (keepT_sound [] [] (fun i => []) (wC_sound prefix_Parse.hΓ Tryd.hm prefix_Parse.J4.plan _ prefix_Parse.J4.pok)) ?_
  intro Q E fr H h
  unfold prefix_Parse.J4.t at h
  obtain ⟨hl, h⟩ := lenIs_elim h
  obtain ⟨x0, q2, h⟩ := slPA_elim h
  obtain ⟨x1, q3, h⟩ := slPA_elim h
  obtain ⟨a0, q4, h⟩ := slPA_elim h
  obtain ⟨count0, q5, h⟩ := slPA_elim h
  obtain ⟨part0, q6, h⟩ := slS_elim h
  refine ⟨(mkF 43 [(2, (.pointer (some x0))), (3, (.pointer (some x1))), (4, (.pointer (some a0))), (5, (.pointer (some count0))), (6, (.string part0))]), fun a ha => ha.mk (Nat.le_of_eq hl.symm) (List.forall_mem_cons.2 ⟨q2, List.forall_mem_cons.2 ⟨q3, List.forall_mem_cons.2 ⟨q4, List.forall_mem_cons.2 ⟨q5, List.forall_mem_cons.2 ⟨q6, fun _ h => nomatch h⟩⟩⟩⟩⟩), ?_⟩
  have e := prefix_Parse.J4.eq x0 x1 a0 count0 part0 Q E H
  rw [← e]
  exact h.h
def prefix_Parse.J7.t : CT := fun Q E fr H => lenIs 43 fr (slPA fr 2 fun x0 => slPA fr 3 fun x1 => slPA fr 4 fun a0 => slPA fr 5 fun count0 => prefix_Parse.J7 x0 x1 a0 count0 (fun  H => Q .ret (mkF 43 [(2, (.pointer (some x0))), (3, (.pointer (some x1)))]) H) E H)
noncomputable def prefix_Parse.J7.plan : Plan := .go
theorem prefix_Parse.J7.pok : PlanOk Tryd.prog prefix_Parse.J7.plan (sub [1, 1, 1] prefix_Parse.body) := by
  have e : PlanOk Tryd.prog prefix_Parse.J7.plan (sub [1, 1, 1] prefix_Parse.body) = (True) := by kernel_rfl
  exact e.mpr trivial
theorem prefix_Parse.J7.eq (x0 : Addr) (x1 : Addr) (a0 : Addr) (count0 : Addr) (Q : Ex → Fr → Heap → Prop) (E : Value → Heap → Prop) (H : Heap) :
    prefix_Parse.J7.vc x0 x1 a0 count0 (fun  H => Q .ret (mkF 43 [(2, (.pointer (some x0))), (3, (.pointer (some x1)))]) H) E H = keepT [] [2, 3] (fun i => []) (wC Tryd.prog prefix_Parse.Γ prefix_Parse.J7.plan (sub [1, 1, 1] prefix_Parse.body)) Q E (mkF 43 [(2, (.pointer (some x0))), (3, (.pointer (some x1))), (4, (.pointer (some a0))), (5, (.pointer (some count0)))]) H := by
  kernel_rfl
theorem prefix_Parse.J7.ok : SoundCode Tryd.prog (sub [1, 1, 1] prefix_Parse.body) prefix_Parse.J7.t := by
  refine piece_sound (keepT_sound [] [2, 3] (fun i => []) (wC_sound prefix_Parse.hΓ Tryd.hm prefix_Parse.J7.plan _ prefix_Parse.J7.pok)) ?_
  intro Q E fr H h
  unfold prefix_Parse.J7.t at h
  obtain ⟨hl, h⟩ := lenIs_elim h
  obtain ⟨x0, q2, h⟩ := slPA_elim h
  obtain ⟨x1, q3, h⟩ := slPA_elim h
  obtain ⟨a0, q4, h⟩ := slPA_elim h
  obtain ⟨count0, q5, h⟩ := slPA_elim h
  refine ⟨(mkF 43 [(2, (.pointer (some x0))), (3, (.pointer (some x1))), (4, (.pointer (some a0))), (5, (.pointer (some count0)))]), fun a ha => ha.mk (Nat.le_of_eq hl.symm) (List.forall_mem_cons.2 ⟨q2, List.forall_mem_cons.2 ⟨q3, List.forall_mem_cons.2 ⟨q4, List.forall_mem_cons.2 ⟨q5, fun _ h => nomatch h⟩⟩⟩⟩), ?_⟩
  have e := prefix_Parse.J7.eq x0 x1 a0 count0 Q E H
  rw [← e]
  exact h.h
end Go.Sh
