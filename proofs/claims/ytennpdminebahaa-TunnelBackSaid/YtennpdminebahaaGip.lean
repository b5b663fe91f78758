/- PRINTED by a program (sh.py): what the walk over each function asks, and that it asks just that. -/
import Derived.Test.YtennpdminebahaaShP
namespace Go.Sh
open Go.Proofs
set_option linter.unusedVariables false
set_option maxRecDepth 8000
/-! vizard/ipv4.get -/
noncomputable def ipv4_get.body : Code := Try.f58.body.getD .skip
def ipv4_get.W1.vc (s0 : ByteArray) (n0 : Int) (x0 : Int) (x1 : Int) (Kx0 : Int → Heap → Prop) (RR : Int → Int → Heap → Prop) (E : Value → Heap → Prop) (h0 : Heap) : Prop :=
  (if (decide (x1 < x0)) = true then
  (0 : Int) ≤ 8 ∧
  (0 : Int) ≤ x1 ∧ x1 < (s0.size : Int) ∧
  RR (bits .or .u32 (shlI .u32 n0 8) (IntKind.u32.wrap (bt s0 x1))) (IntKind.i64.wrap (x1 + 1)) h0
  else
  Kx0 n0 h0)
structure ipv4_get.W1 (s0 : ByteArray) (n0 : Int) (x0 : Int) (x1 : Int) (Kx0 : Int → Heap → Prop) (E : Value → Heap → Prop) (H : Heap) : Prop where
  h : Loop (fun (RR : Int × Int → Heap → Prop) (s : Int × Int) (H : Heap) => ipv4_get.W1.vc s0 s.1 x0 s.2 Kx0 (fun n0 x1 H => RR (n0, x1) H) E H) (n0, x1) H
def ipv4_get.vc (s0 : ByteArray) (K : Int → Heap → Prop) (E : Value → Heap → Prop) (h0 : Heap) : Prop :=
  ipv4_get.W1 s0 0 (s0.size : Int) 0 K E h0
structure ipv4_get.c (s0 : ByteArray) (K : Int → Heap → Prop) (E : Value → Heap → Prop) (H : Heap) : Prop where
  h : ipv4_get.vc s0 (fun r0_0 H => ∃ H', Heap.Le H' H ∧ K r0_0 H') E H
def ipv4_get.F : FT := fun args K E H => match args with
  | [(.string s0)] => ipv4_get.c s0 (fun r0_0 H => K (.int .u32 r0_0) H) E H
  | _ => False
noncomputable def ipv4_get.Γ : FuncId → Option FT := Γof []
theorem ipv4_get.hΓ : ∀ f F, ipv4_get.Γ f = some F → CalleeOk Try.prog f F := Γof_ok (fun _ h => nomatch h)
def ipv4_get.W1.t : CT := fun Q E fr H => lenIs 18 fr (slS fr 0 fun s0 => slI fr 2 .u32 fun n0 => slI fr 5 .i64 fun x0 => slI fr 6 .i64 fun x1 => ipv4_get.W1 s0 n0 x0 x1 (fun y2_0 H => Q (.exit 0) (mkF 18 [(2, (.int .u32 y2_0))]) H) E H)
noncomputable def ipv4_get.W1.plan : Plan := .go
theorem ipv4_get.W1.pok : PlanOk Try.prog ipv4_get.W1.plan (sub [1, 0, 1, 0, 0] ipv4_get.body) := by
  have e : PlanOk Try.prog ipv4_get.W1.plan (sub [1, 0, 1, 0, 0] ipv4_get.body) = (True) := by kernel_rfl
  exact e.mpr trivial
theorem ipv4_get.W1.eq (s0 : ByteArray) (x0 : Int) (Q : Ex → Fr → Heap → Prop) (E : Value → Heap → Prop) (RR : Fr → Heap → Prop) (s : Int × Int) (H : Heap) :
    (fun (RR : Int × Int → Heap → Prop) (s : Int × Int) (H : Heap) => ipv4_get.W1.vc s0 s.1 x0 s.2 (fun y2_0 H => Q (.exit 0) (mkF 18 [(2, (.int .u32 y2_0))]) H) (fun n0 x1 H => RR (n0, x1) H) E H) (fun s' H' => RR ((fun (s : Int × Int) => (mkF 18 [(0, (.string s0)), (2, (.int .u32 s.1)), (5, (.int .i64 x0)), (6, (.int .i64 s.2))])) s') H') s H = keepT [0, 2, 5, 6] [] (fun i => if i = 0 then [2] else []) (wC Try.prog ipv4_get.Γ ipv4_get.W1.plan (sub [1, 0, 1, 0, 0] ipv4_get.body)) (fun e fr' H' => match e with | .normal => RR fr' H' | .exit id => Q (.exit id) fr' H' | .ret => Q .ret fr' H') E ((fun (s : Int × Int) => (mkF 18 [(0, (.string s0)), (2, (.int .u32 s.1)), (5, (.int .i64 x0)), (6, (.int .i64 s.2))])) s) H := by
  kernel_rfl
theorem ipv4_get.W1.ok : SoundCode Try.prog (sub [1, 0, 1, 0] ipv4_get.body) ipv4_get.W1.t := by
  have e : (sub [1, 0, 1, 0] ipv4_get.body) = .loop (sub [1, 0, 1, 0, 0] ipv4_get.body) := by kernel_rfl
  rw [e]
  refine piece_sound (loopN_sound (keepT_sound [0, 2, 5, 6] [] (fun i => if i = 0 then [2] else []) (wC_sound ipv4_get.hΓ Try.hm ipv4_get.W1.plan _ ipv4_get.W1.pok))) ?_
  intro Q E fr H h
  unfold ipv4_get.W1.t at h
  obtain ⟨hl, h⟩ := lenIs_elim h
  obtain ⟨s0, q0, h⟩ := slS_elim h
  obtain ⟨n0, q2, h⟩ := slI_elim h
  obtain ⟨x0, q5, h⟩ := slI_elim h
  obtain ⟨x1, q6, h⟩ := slI_elim h
  obtain ⟨m, h⟩ := h.h
  refine ⟨(mkF 18 [(0, (.string s0)), (2, (.int .u32 n0)), (5, (.int .i64 x0)), (6, (.int .i64 x1))]), fun a ha => ha.mk (Nat.le_of_eq hl.symm) (List.forall_mem_cons.2 ⟨q0, List.forall_mem_cons.2 ⟨q2, List.forall_mem_cons.2 ⟨q5, List.forall_mem_cons.2 ⟨q6, fun _ h => nomatch h⟩⟩⟩⟩), m, ?_⟩
  have e := loopS_eq (B := (fun (RR : Int × Int → Heap → Prop) (s : Int × Int) (H : Heap) => ipv4_get.W1.vc s0 s.1 x0 s.2 (fun y2_0 H => Q (.exit 0) (mkF 18 [(2, (.int .u32 y2_0))]) H) (fun n0 x1 H => RR (n0, x1) H) E H)) (A := keepT [0, 2, 5, 6] [] (fun i => if i = 0 then [2] else []) (wC Try.prog ipv4_get.Γ ipv4_get.W1.plan (sub [1, 0, 1, 0, 0] ipv4_get.body))) (m := (fun (s : Int × Int) => (mkF 18 [(0, (.string s0)), (2, (.int .u32 s.1)), (5, (.int .i64 x0)), (6, (.int .i64 s.2))]))) (Q := Q) (E := E) (fun RR s H => ipv4_get.W1.eq s0 x0 Q E RR s H) m (n0, x1) H
  exact cast e h
noncomputable def ipv4_get.plan : Plan := .seq (.go) (.seq (.seq (.go) (.block (.use ipv4_get.W1.t))) (.go))
theorem ipv4_get.pok : PlanOk Try.prog ipv4_get.plan ipv4_get.body := by
  have e : PlanOk Try.prog ipv4_get.plan ipv4_get.body = ((True) ∧ (((True) ∧ (SoundCode Try.prog (sub [1, 0, 1, 0] ipv4_get.body) ipv4_get.W1.t)) ∧ (True))) := by kernel_rfl
  exact e.mpr ⟨trivial, ⟨⟨trivial, ipv4_get.W1.ok⟩, trivial⟩⟩
theorem ipv4_get.eq (s0 : ByteArray) (K : Value → Heap → Prop) (E : Value → Heap → Prop) (H : Heap) :
    fnT Try.prog Try.f58 (wC Try.prog ipv4_get.Γ ipv4_get.plan ipv4_get.body) [(.string s0)] K E H = ipv4_get.vc s0 (fun r0_0 H => K (.int .u32 r0_0) H) E H := by
  kernel_rfl
theorem ipv4_get.Fe {args : List Value} {K E : Value → Heap → Prop} {H : Heap} (h : ipv4_get.F args K E H) : ∃ s0, args = [(.string s0)] ∧ ipv4_get.c s0 (fun r0_0 H => K (.int .u32 r0_0) H) E H := by
  unfold ipv4_get.F at h
  split at h
  · exact ⟨_, rfl, h⟩
  · exact h.elim
theorem ipv4_get.ok : CalleeOk Try.prog 58 ipv4_get.F :=
  callee_ok ipv4_get.hΓ (fn := Try.f58) (c := ipv4_get.body) (T := wC Try.prog ipv4_get.Γ ipv4_get.plan ipv4_get.body) (by kernel_rfl) (by kernel_rfl) (by kernel_rfl) (wC_sound ipv4_get.hΓ Try.hm ipv4_get.plan _ ipv4_get.pok) fun _ K E H h => by
    obtain ⟨z0, e, h⟩ := ipv4_get.Fe h
    subst e
    have h2 : ipv4_get.vc z0 (fun r0_0 H => ∃ H', Heap.Le H' H ∧ K (.int .u32 r0_0) H') E H := h.h
    rw [ipv4_get.eq z0 (Fg K) E H]
    exact h2

/-! vizard/ipv4.Sum -/
noncomputable def ipv4_Sum.body : Code := Try.f59.body.getD .skip
def ipv4_Sum.W1.vc (s0 : ByteArray) (n0 : Int) (x0 : Int) (x1 : Int) (Kx0 : Int → Heap → Prop) (RR : Int → Int → Heap → Prop) (E : Value → Heap → Prop) (h0 : Heap) : Prop :=
  (if (decide (x1 < x0)) = true then
  (0 : Int) ≤ x1 ∧ x1 < (s0.size : Int) ∧
  2 ≠ (0 : Int) ∧
  (0 : Int) ≤ (IntKind.i64.wrap (8 * (IntKind.i64.wrap (1 - (Int.tmod x1 2))))) ∧
  RR (IntKind.i64.wrap (n0 + (shlI .i64 (IntKind.i64.wrap (bt s0 x1)) (IntKind.i64.wrap (8 * (IntKind.i64.wrap (1 - (Int.tmod x1 2)))))))) (IntKind.i64.wrap (x1 + 1)) h0
  else
  Kx0 n0 h0)
structure ipv4_Sum.W1 (s0 : ByteArray) (n0 : Int) (x0 : Int) (x1 : Int) (Kx0 : Int → Heap → Prop) (E : Value → Heap → Prop) (H : Heap) : Prop where
  h : Loop (fun (RR : Int × Int → Heap → Prop) (s : Int × Int) (H : Heap) => ipv4_Sum.W1.vc s0 s.1 x0 s.2 Kx0 (fun n0 x1 H => RR (n0, x1) H) E H) (n0, x1) H
def ipv4_Sum.W2.vc (n0 : Int) (Kx2 : Int → Heap → Prop) (RR : Int → Heap → Prop) (E : Value → Heap → Prop) (h0 : Heap) : Prop :=
  (if (decide (n0 > 65535)) = true then
  (0 : Int) ≤ 16 ∧
  RR (IntKind.i64.wrap ((bits .and .i64 n0 65535) + (shrI .i64 n0 16))) h0
  else
  Kx2 n0 h0)
structure ipv4_Sum.W2 (n0 : Int) (Kx2 : Int → Heap → Prop) (E : Value → Heap → Prop) (H : Heap) : Prop where
  h : Loop (fun (RR : Int → Heap → Prop) (s : Int) (H : Heap) => ipv4_Sum.W2.vc s Kx2 (fun n0 H => RR (n0) H) E H) (n0) H
def ipv4_Sum.vc (s0 : ByteArray) (K : Int → Heap → Prop) (E : Value → Heap → Prop) (h0 : Heap) : Prop :=
  ipv4_Sum.W1 s0 0 (s0.size : Int) 0 (fun n0 h1 =>
  ipv4_Sum.W2 n0 (fun n1 h2 =>
  K (IntKind.i64.wrap (65535 - n1)) h2) E h1) E h0
structure ipv4_Sum.c (s0 : ByteArray) (K : Int → Heap → Prop) (E : Value → Heap → Prop) (H : Heap) : Prop where
  h : ipv4_Sum.vc s0 (fun r0_0 H => ∃ H', Heap.Le H' H ∧ K r0_0 H') E H
def ipv4_Sum.F : FT := fun args K E H => match args with
  | [(.string s0)] => ipv4_Sum.c s0 (fun r0_0 H => K (.int .i64 r0_0) H) E H
  | _ => False
noncomputable def ipv4_Sum.Γ : FuncId → Option FT := Γof []
theorem ipv4_Sum.hΓ : ∀ f F, ipv4_Sum.Γ f = some F → CalleeOk Try.prog f F := Γof_ok (fun _ h => nomatch h)
def ipv4_Sum.W1.t : CT := fun Q E fr H => lenIs 31 fr (slS fr 0 fun s0 => slI fr 3 .i64 fun n0 => slI fr 6 .i64 fun x0 => slI fr 7 .i64 fun x1 => ipv4_Sum.W1 s0 n0 x0 x1 (fun y3_0 H => Q (.exit 0) (mkF 31 [(3, (.int .i64 y3_0))]) H) E H)
noncomputable def ipv4_Sum.W1.plan : Plan := .go
theorem ipv4_Sum.W1.pok : PlanOk Try.prog ipv4_Sum.W1.plan (sub [1, 1, 0, 1, 0, 0] ipv4_Sum.body) := by
  have e : PlanOk Try.prog ipv4_Sum.W1.plan (sub [1, 1, 0, 1, 0, 0] ipv4_Sum.body) = (True) := by kernel_rfl
  exact e.mpr trivial
theorem ipv4_Sum.W1.eq (s0 : ByteArray) (x0 : Int) (Q : Ex → Fr → Heap → Prop) (E : Value → Heap → Prop) (RR : Fr → Heap → Prop) (s : Int × Int) (H : Heap) :
    (fun (RR : Int × Int → Heap → Prop) (s : Int × Int) (H : Heap) => ipv4_Sum.W1.vc s0 s.1 x0 s.2 (fun y3_0 H => Q (.exit 0) (mkF 31 [(3, (.int .i64 y3_0))]) H) (fun n0 x1 H => RR (n0, x1) H) E H) (fun s' H' => RR ((fun (s : Int × Int) => (mkF 31 [(0, (.string s0)), (3, (.int .i64 s.1)), (6, (.int .i64 x0)), (7, (.int .i64 s.2))])) s') H') s H = keepT [0, 3, 6, 7] [] (fun i => if i = 0 then [3] else []) (wC Try.prog ipv4_Sum.Γ ipv4_Sum.W1.plan (sub [1, 1, 0, 1, 0, 0] ipv4_Sum.body)) (fun e fr' H' => match e with | .normal => RR fr' H' | .exit id => Q (.exit id) fr' H' | .ret => Q .ret fr' H') E ((fun (s : Int × Int) => (mkF 31 [(0, (.string s0)), (3, (.int .i64 s.1)), (6, (.int .i64 x0)), (7, (.int .i64 s.2))])) s) H := by
  kernel_rfl
theorem ipv4_Sum.W1.ok : SoundCode Try.prog (sub [1, 1, 0, 1, 0] ipv4_Sum.body) ipv4_Sum.W1.t := by
  have e : (sub [1, 1, 0, 1, 0] ipv4_Sum.body) = .loop (sub [1, 1, 0, 1, 0, 0] ipv4_Sum.body) := by kernel_rfl
  rw [e]
  refine piece_sound (loopN_sound (keepT_sound [0, 3, 6, 7] [] (fun i => if i = 0 then [3] else []) (wC_sound ipv4_Sum.hΓ Try.hm ipv4_Sum.W1.plan _ ipv4_Sum.W1.pok))) ?_
  intro Q E fr H h
  unfold ipv4_Sum.W1.t at h
  obtain ⟨hl, h⟩ := lenIs_elim h
  obtain ⟨s0, q0, h⟩ := slS_elim h
  obtain ⟨n0, q3, h⟩ := slI_elim h
  obtain ⟨x0, q6, h⟩ := slI_elim h
  obtain ⟨x1, q7, h⟩ := slI_elim h
  obtain ⟨m, h⟩ := h.h
  refine ⟨(mkF 31 [(0, (.string s0)), (3, (.int .i64 n0)), (6, (.int .i64 x0)), (7, (.int .i64 x1))]), fun a ha => ha.mk (Nat.le_of_eq hl.symm) (List.forall_mem_cons.2 ⟨q0, List.forall_mem_cons.2 ⟨q3, List.forall_mem_cons.2 ⟨q6, List.forall_mem_cons.2 ⟨q7, fun _ h => nomatch h⟩⟩⟩⟩), m, ?_⟩
  have e := loopS_eq (B := (fun (RR : Int × Int → Heap → Prop) (s : Int × Int) (H : Heap) => ipv4_Sum.W1.vc s0 s.1 x0 s.2 (fun y3_0 H => Q (.exit 0) (mkF 31 [(3, (.int .i64 y3_0))]) H) (fun n0 x1 H => RR (n0, x1) H) E H)) (A := keepT [0, 3, 6, 7] [] (fun i => if i = 0 then [3] else []) (wC Try.prog ipv4_Sum.Γ ipv4_Sum.W1.plan (sub [1, 1, 0, 1, 0, 0] ipv4_Sum.body))) (m := (fun (s : Int × Int) => (mkF 31 [(0, (.string s0)), (3, (.int .i64 s.1)), (6, (.int .i64 x0)), (7, (.int .i64 s.2))]))) (Q := Q) (E := E) (fun RR s H => ipv4_Sum.W1.eq s0 x0 Q E RR s H) m (n0, x1) H
  exact cast e h
def ipv4_Sum.W2.t : CT := fun Q E fr H => lenIs 31 fr (slI fr 3 .i64 fun n0 => ipv4_Sum.W2 n0 (fun y3_0 H => Q (.exit 2) (mkF 31 [(3, (.int .i64 y3_0))]) H) E H)
noncomputable def ipv4_Sum.W2.plan : Plan := .go
theorem ipv4_Sum.W2.pok : PlanOk Try.prog ipv4_Sum.W2.plan (sub [1, 1, 1, 0, 0, 0] ipv4_Sum.body) := by
  have e : PlanOk Try.prog ipv4_Sum.W2.plan (sub [1, 1, 1, 0, 0, 0] ipv4_Sum.body) = (True) := by kernel_rfl
  exact e.mpr trivial
theorem ipv4_Sum.W2.eq (Q : Ex → Fr → Heap → Prop) (E : Value → Heap → Prop) (RR : Fr → Heap → Prop) (s : Int) (H : Heap) :
    (fun (RR : Int → Heap → Prop) (s : Int) (H : Heap) => ipv4_Sum.W2.vc s (fun y3_0 H => Q (.exit 2) (mkF 31 [(3, (.int .i64 y3_0))]) H) (fun n0 H => RR (n0) H) E H) (fun s' H' => RR ((fun (s : Int) => (mkF 31 [(3, (.int .i64 s))])) s') H') s H = keepT [3] [] (fun i => if i = 2 then [3] else []) (wC Try.prog ipv4_Sum.Γ ipv4_Sum.W2.plan (sub [1, 1, 1, 0, 0, 0] ipv4_Sum.body)) (fun e fr' H' => match e with | .normal => RR fr' H' | .exit id => Q (.exit id) fr' H' | .ret => Q .ret fr' H') E ((fun (s : Int) => (mkF 31 [(3, (.int .i64 s))])) s) H := by
  kernel_rfl
theorem ipv4_Sum.W2.ok : SoundCode Try.prog (sub [1, 1, 1, 0, 0] ipv4_Sum.body) ipv4_Sum.W2.t := by
  have e : (sub [1, 1, 1, 0, 0] ipv4_Sum.body) = .loop (sub [1, 1, 1, 0, 0, 0] ipv4_Sum.body) := by kernel_rfl
  rw [e]
  refine piece_sound (loopN_sound (keepT_sound [3] [] (fun i => if i = 2 then [3] else []) (wC_sound ipv4_Sum.hΓ Try.hm ipv4_Sum.W2.plan _ ipv4_Sum.W2.pok))) ?_
  intro Q E fr H h
  unfold ipv4_Sum.W2.t at h
  obtain ⟨hl, h⟩ := lenIs_elim h
  obtain ⟨n0, q3, h⟩ := slI_elim h
  obtain ⟨m, h⟩ := h.h
  refine ⟨(mkF 31 [(3, (.int .i64 n0))]), fun a ha => ha.mk (Nat.le_of_eq hl.symm) (List.forall_mem_cons.2 ⟨q3, fun _ h => nomatch h⟩), m, ?_⟩
  have e := loopS_eq (B := (fun (RR : Int → Heap → Prop) (s : Int) (H : Heap) => ipv4_Sum.W2.vc s (fun y3_0 H => Q (.exit 2) (mkF 31 [(3, (.int .i64 y3_0))]) H) (fun n0 H => RR (n0) H) E H)) (A := keepT [3] [] (fun i => if i = 2 then [3] else []) (wC Try.prog ipv4_Sum.Γ ipv4_Sum.W2.plan (sub [1, 1, 1, 0, 0, 0] ipv4_Sum.body))) (m := (fun (s : Int) => (mkF 31 [(3, (.int .i64 s))]))) (Q := Q) (E := E) (fun RR s H => ipv4_Sum.W2.eq  Q E RR s H) m (n0) H
  exact cast e h
noncomputable def ipv4_Sum.plan : Plan := .seq (.go) (.seq (.go) (.seq (.seq (.go) (.block (.use ipv4_Sum.W1.t))) (.seq (.block (.use ipv4_Sum.W2.t)) (.go))))
theorem ipv4_Sum.pok : PlanOk Try.prog ipv4_Sum.plan ipv4_Sum.body := by
  have e : PlanOk Try.prog ipv4_Sum.plan ipv4_Sum.body = ((True) ∧ ((True) ∧ (((True) ∧ (SoundCode Try.prog (sub [1, 1, 0, 1, 0] ipv4_Sum.body) ipv4_Sum.W1.t)) ∧ ((SoundCode Try.prog (sub [1, 1, 1, 0, 0] ipv4_Sum.body) ipv4_Sum.W2.t) ∧ (True))))) := by kernel_rfl
  exact e.mpr ⟨trivial, ⟨trivial, ⟨⟨trivial, ipv4_Sum.W1.ok⟩, ⟨ipv4_Sum.W2.ok, trivial⟩⟩⟩⟩
theorem ipv4_Sum.eq (s0 : ByteArray) (K : Value → Heap → Prop) (E : Value → Heap → Prop) (H : Heap) :
    fnT Try.prog Try.f59 (wC Try.prog ipv4_Sum.Γ ipv4_Sum.plan ipv4_Sum.body) [(.string s0)] K E H = ipv4_Sum.vc s0 (fun r0_0 H => K (.int .i64 r0_0) H) E H := by
  kernel_rfl
theorem ipv4_Sum.Fe {args : List Value} {K E : Value → Heap → Prop} {H : Heap} (h : ipv4_Sum.F args K E H) : ∃ s0, args = [(.string s0)] ∧ ipv4_Sum.c s0 (fun r0_0 H => K (.int .i64 r0_0) H) E H := by
  unfold ipv4_Sum.F at h
  split at h
  · exact ⟨_, rfl, h⟩
  · exact h.elim
theorem ipv4_Sum.ok : CalleeOk Try.prog 59 ipv4_Sum.F :=
  callee_ok ipv4_Sum.hΓ (fn := Try.f59) (c := ipv4_Sum.body) (T := wC Try.prog ipv4_Sum.Γ ipv4_Sum.plan ipv4_Sum.body) (by kernel_rfl) (by kernel_rfl) (by kernel_rfl) (wC_sound ipv4_Sum.hΓ Try.hm ipv4_Sum.plan _ ipv4_Sum.pok) fun _ K E H h => by
    obtain ⟨z0, e, h⟩ := ipv4_Sum.Fe h
    subst e
    have h2 : ipv4_Sum.vc z0 (fun r0_0 H => ∃ H', Heap.Le H' H ∧ K (.int .i64 r0_0) H') E H := h.h
    rw [ipv4_Sum.eq z0 (Fg K) E H]
    exact h2

/-! vizard/ipv4.put -/
noncomputable def ipv4_put.body : Code := Try.f86.body.getD .skip
def ipv4_put.W1.vc (b0 : Option Addr) (b1 : Nat) (b2 : Nat) (n0 : Int) (x0 : Int) (x1 : Int) (Kx0 : Heap → Prop) (RR : Int → Heap → Prop) (E : Value → Heap → Prop) (h0 : Heap) : Prop :=
  (if (decide (x1 < x0)) = true then
  (0 : Int) ≤ (IntKind.i64.wrap (8 * (IntKind.i64.wrap ((IntKind.i64.wrap ((b1 : Int) - 1)) - x1)))) ∧
  nilc b0 fun a0 => (0 : Int) ≤ x1 ∧ x1 < (b1 : Int) ∧
  stc h0 (a0.add (x1.toNat * 1)) (.int .u8 (IntKind.u8.wrap (shrI .u32 n0 (IntKind.i64.wrap (8 * (IntKind.i64.wrap ((IntKind.i64.wrap ((b1 : Int) - 1)) - x1))))))) fun h1 =>
  RR (IntKind.i64.wrap (x1 + 1)) h1
  else
  Kx0 h0)
structure ipv4_put.W1 (b0 : Option Addr) (b1 : Nat) (b2 : Nat) (n0 : Int) (x0 : Int) (x1 : Int) (Kx0 : Heap → Prop) (E : Value → Heap → Prop) (H : Heap) : Prop where
  h : Loop (fun (RR : Int → Heap → Prop) (s : Int) (H : Heap) => ipv4_put.W1.vc b0 b1 b2 n0 x0 s Kx0 (fun x1 H => RR (x1) H) E H) (x1) H
def ipv4_put.vc (b0 : Option Addr) (b1 : Nat) (b2 : Nat) (n0 : Int) (K : Heap → Prop) (E : Value → Heap → Prop) (h0 : Heap) : Prop :=
  ipv4_put.W1 b0 b1 b2 n0 (b1 : Int) 0 K E h0
structure ipv4_put.c (b0 : Option Addr) (b1 : Nat) (b2 : Nat) (n0 : Int) (K : Heap → Prop) (E : Value → Heap → Prop) (H : Heap) : Prop where
  h : ipv4_put.vc b0 b1 b2 n0 (fun  H => ∃ H', Heap.Le H' H ∧ K  H') E H
def ipv4_put.F : FT := fun args K E H => match args with
  | [(.slice b0 b1 b2), (.int .u32 n0)] => ipv4_put.c b0 b1 b2 n0 (fun  H => K (.tuple #[]) H) E H
  | _ => False
noncomputable def ipv4_put.Γ : FuncId → Option FT := Γof []
theorem ipv4_put.hΓ : ∀ f F, ipv4_put.Γ f = some F → CalleeOk Try.prog f F := Γof_ok (fun _ h => nomatch h)
def ipv4_put.W1.t : CT := fun Q E fr H => lenIs 23 fr (slSl fr 0 fun b0 b1 b2 => slI fr 1 .u32 fun n0 => slI fr 6 .i64 fun x0 => slI fr 7 .i64 fun x1 => ipv4_put.W1 b0 b1 b2 n0 x0 x1 (fun  H => Q (.exit 0) (mkF 23 []) H) E H)
noncomputable def ipv4_put.W1.plan : Plan := .go
theorem ipv4_put.W1.pok : PlanOk Try.prog ipv4_put.W1.plan (sub [1, 0, 0] ipv4_put.body) := by
  have e : PlanOk Try.prog ipv4_put.W1.plan (sub [1, 0, 0] ipv4_put.body) = (True) := by kernel_rfl
  exact e.mpr trivial
theorem ipv4_put.W1.eq (b0 : Option Addr) (b1 : Nat) (b2 : Nat) (n0 : Int) (x0 : Int) (Q : Ex → Fr → Heap → Prop) (E : Value → Heap → Prop) (RR : Fr → Heap → Prop) (s : Int) (H : Heap) :
    (fun (RR : Int → Heap → Prop) (s : Int) (H : Heap) => ipv4_put.W1.vc b0 b1 b2 n0 x0 s (fun  H => Q (.exit 0) (mkF 23 []) H) (fun x1 H => RR (x1) H) E H) (fun s' H' => RR ((fun (s : Int) => (mkF 23 [(0, (.slice b0 b1 b2)), (1, (.int .u32 n0)), (6, (.int .i64 x0)), (7, (.int .i64 s))])) s') H') s H = keepT [0, 1, 6, 7] [] (fun i => if i = 0 then [] else []) (wC Try.prog ipv4_put.Γ ipv4_put.W1.plan (sub [1, 0, 0] ipv4_put.body)) (fun e fr' H' => match e with | .normal => RR fr' H' | .exit id => Q (.exit id) fr' H' | .ret => Q .ret fr' H') E ((fun (s : Int) => (mkF 23 [(0, (.slice b0 b1 b2)), (1, (.int .u32 n0)), (6, (.int .i64 x0)), (7, (.int .i64 s))])) s) H := by
  kernel_rfl
theorem ipv4_put.W1.ok : SoundCode Try.prog (sub [1, 0] ipv4_put.body) ipv4_put.W1.t := by
  have e : (sub [1, 0] ipv4_put.body) = .loop (sub [1, 0, 0] ipv4_put.body) := by kernel_rfl
  rw [e]
  refine piece_sound (loopN_sound (keepT_sound [0, 1, 6, 7] [] (fun i => if i = 0 then [] else []) (wC_sound ipv4_put.hΓ Try.hm ipv4_put.W1.plan _ ipv4_put.W1.pok))) ?_
  intro Q E fr H h
  unfold ipv4_put.W1.t at h
  obtain ⟨hl, h⟩ := lenIs_elim h
  obtain ⟨b0, b1, b2, q0, h⟩ := slSl_elim h
  obtain ⟨n0, q1, h⟩ := slI_elim h
  obtain ⟨x0, q6, h⟩ := slI_elim h
  obtain ⟨x1, q7, h⟩ := slI_elim h
  obtain ⟨m, h⟩ := h.h
  refine ⟨(mkF 23 [(0, (.slice b0 b1 b2)), (1, (.int .u32 n0)), (6, (.int .i64 x0)), (7, (.int .i64 x1))]), fun a ha => ha.mk (Nat.le_of_eq hl.symm) (List.forall_mem_cons.2 ⟨q0, List.forall_mem_cons.2 ⟨q1, List.forall_mem_cons.2 ⟨q6, List.forall_mem_cons.2 ⟨q7, fun _ h => nomatch h⟩⟩⟩⟩), m, ?_⟩
  have e := loopS_eq (B := (fun (RR : Int → Heap → Prop) (s : Int) (H : Heap) => ipv4_put.W1.vc b0 b1 b2 n0 x0 s (fun  H => Q (.exit 0) (mkF 23 []) H) (fun x1 H => RR (x1) H) E H)) (A := keepT [0, 1, 6, 7] [] (fun i => if i = 0 then [] else []) (wC Try.prog ipv4_put.Γ ipv4_put.W1.plan (sub [1, 0, 0] ipv4_put.body))) (m := (fun (s : Int) => (mkF 23 [(0, (.slice b0 b1 b2)), (1, (.int .u32 n0)), (6, (.int .i64 x0)), (7, (.int .i64 s))]))) (Q := Q) (E := E) (fun RR s H => ipv4_put.W1.eq b0 b1 b2 n0 x0 Q E RR s H) m (x1) H
  exact cast e h
noncomputable def ipv4_put.plan : Plan := .seq (.go) (.block (.use ipv4_put.W1.t))
theorem ipv4_put.pok : PlanOk Try.prog ipv4_put.plan ipv4_put.body := by
  have e : PlanOk Try.prog ipv4_put.plan ipv4_put.body = ((True) ∧ (SoundCode Try.prog (sub [1, 0] ipv4_put.body) ipv4_put.W1.t)) := by kernel_rfl
  exact e.mpr ⟨trivial, ipv4_put.W1.ok⟩
theorem ipv4_put.eq (b0 : Option Addr) (b1 : Nat) (b2 : Nat) (n0 : Int) (K : Value → Heap → Prop) (E : Value → Heap → Prop) (H : Heap) :
    fnT Try.prog Try.f86 (wC Try.prog ipv4_put.Γ ipv4_put.plan ipv4_put.body) [(.slice b0 b1 b2), (.int .u32 n0)] K E H = ipv4_put.vc b0 b1 b2 n0 (fun  H => K (.tuple #[]) H) E H := by
  kernel_rfl
theorem ipv4_put.Fe {args : List Value} {K E : Value → Heap → Prop} {H : Heap} (h : ipv4_put.F args K E H) : ∃ b0 b1 b2 n0, args = [(.slice b0 b1 b2), (.int .u32 n0)] ∧ ipv4_put.c b0 b1 b2 n0 (fun  H => K (.tuple #[]) H) E H := by
  unfold ipv4_put.F at h
  split at h
  · exact ⟨_, _, _, _, rfl, h⟩
  · exact h.elim
theorem ipv4_put.ok : CalleeOk Try.prog 86 ipv4_put.F :=
  callee_ok ipv4_put.hΓ (fn := Try.f86) (c := ipv4_put.body) (T := wC Try.prog ipv4_put.Γ ipv4_put.plan ipv4_put.body) (by kernel_rfl) (by kernel_rfl) (by kernel_rfl) (wC_sound ipv4_put.hΓ Try.hm ipv4_put.plan _ ipv4_put.pok) fun _ K E H h => by
    obtain ⟨z0, z1, z2, z3, e, h⟩ := ipv4_put.Fe h
    subst e
    have h2 : ipv4_put.vc z0 z1 z2 z3 (fun  H => ∃ H', Heap.Le H' H ∧ K (.tuple #[]) H') E H := h.h
    rw [ipv4_put.eq z0 z1 z2 z3 (Fg K) E H]
    exact h2
end Go.Sh
