/- PRINTED by a program (sh.py): what the walk over each function asks, and that it asks just that. -/
import Derived.Test.YtennpdminebahaaDoorPaq
namespace Go.Sh
open Go.Proofs
set_option linter.unusedVariables false
set_option maxRecDepth 8000
/-! vizard/vizardref04.Number -/
noncomputable def vizardref04_Number.body : Code := Tryd.f26.body.getD .skip
def vizardref04_Number.W1.vc (n0 : Int) (s0 : ByteArray) (Kx0 : ByteArray → Heap → Prop) (RR : Int → ByteArray → Heap → Prop) (E : Value → Heap → Prop) (h0 : Heap) : Prop :=
  (if (decide (n0 > 0)) = true then
  10 ≠ (0 : Int) ∧
  newB (.cells #[(.int .u8 (IntKind.u8.wrap (IntKind.i64.wrap (48 + (Int.tmod n0 10)))))] 5) (fun b0 h1 =>
  rdBytes h1 (some (⟨b0, 0, none⟩ : Addr)) 1 fun x0 =>
  x0.size + s0.size ≤ 9223372036854775807 ∧
  10 ≠ (0 : Int) ∧
  RR (IntKind.i64.wrap (Int.tdiv n0 10)) (x0 ++ s0) h1) h0
  else
  Kx0 s0 h0)
structure vizardref04_Number.W1 (n0 : Int) (s0 : ByteArray) (Kx0 : ByteArray → Heap → Prop) (E : Value → Heap → Prop) (H : Heap) : Prop where
  h : Loop (fun (RR : Int × ByteArray → Heap → Prop) (s : Int × ByteArray) (H : Heap) => vizardref04_Number.W1.vc s.1 s.2 Kx0 (fun n0 s0 H => RR (n0, s0) H) E H) (n0, s0) H
def vizardref04_Number.vc (n0 : Int) (K : ByteArray → Heap → Prop) (E : Value → Heap → Prop) (h0 : Heap) : Prop :=
  10 ≠ (0 : Int) ∧
  newB (.cells #[(.int .u8 (IntKind.u8.wrap (IntKind.i64.wrap (48 + (Int.tmod n0 10)))))] 5) (fun b0 h1 =>
  rdBytes h1 (some (⟨b0, 0, none⟩ : Addr)) 1 fun x0 =>
  10 ≠ (0 : Int) ∧
  vizardref04_Number.W1 (IntKind.i64.wrap (Int.tdiv n0 10)) x0 K E h1) h0
structure vizardref04_Number.c (n0 : Int) (K : ByteArray → Heap → Prop) (E : Value → Heap → Prop) (H : Heap) : Prop where
  h : vizardref04_Number.vc n0 (fun r0_0 H => ∃ H', Heap.Le H' H ∧ K r0_0 H') E H
def vizardref04_Number.F : FT := fun args K E H => match args with
  | [(.int .i64 n0)] => vizardref04_Number.c n0 (fun r0_0 H => K (.string r0_0) H) E H
  | _ => False
noncomputable def vizardref04_Number.Γ : FuncId → Option FT := Γof []
theorem vizardref04_Number.hΓ : ∀ f F, vizardref04_Number.Γ f = some F → CalleeOk Tryd.prog f F := Γof_ok (fun _ h => nomatch h)
def vizardref04_Number.W1.t : CT := fun Q E fr H => lenIs 25 fr (slI fr 0 .i64 fun n0 => slS fr 3 fun s0 => vizardref04_Number.W1 n0 s0 (fun y3_0 H => Q (.exit 0) (mkF 25 [(3, (.string y3_0))]) H) E H)
noncomputable def vizardref04_Number.W1.plan : Plan := .go
theorem vizardref04_Number.W1.pok : PlanOk Tryd.prog vizardref04_Number.W1.plan (sub [1, 1, 0, 1, 0, 0] vizardref04_Number.body) := by
  have e : PlanOk Tryd.prog vizardref04_Number.W1.plan (sub [1, 1, 0, 1, 0, 0] vizardref04_Number.body) = (True) := by kernel_rfl
  exact e.mpr trivial
theorem vizardref04_Number.W1.eq (Q : Ex → Fr → Heap → Prop) (E : Value → Heap → Prop) (RR : Fr → Heap → Prop) (s : Int × ByteArray) (H : Heap) :
    (fun (RR : Int × ByteArray → Heap → Prop) (s : Int × ByteArray) (H : Heap) => vizardref04_Number.W1.vc s.1 s.2 (fun y3_0 H => Q (.exit 0) (mkF 25 [(3, (.string y3_0))]) H) (fun n0 s0 H => RR (n0, s0) H) E H) (fun s' H' => RR ((fun (s : Int × ByteArray) => (mkF 25 [(0, (.int .i64 s.1)), (3, (.string s.2))])) s') H') s H = keepT [0, 3] [] (fun i => if i = 0 then [3] else []) (wC Tryd.prog vizardref04_Number.Γ vizardref04_Number.W1.plan (sub [1, 1, 0, 1, 0, 0] vizardref04_Number.body)) (fun e fr' H' => match e with | .normal => RR fr' H' | .exit id => Q (.exit id) fr' H' | .ret => Q .ret fr' H') E ((fun (s : Int × ByteArray) => (mkF 25 [(0, (.int .i64 s.1)), (3, (.string s.2))])) s) H := by
  kernel_rfl
theorem vizardref04_Number.W1.ok : SoundCode Tryd.prog (sub [1, 1, 0, 1, 0] vizardref04_Number.body) vizardref04_Number.W1.t := by
  have e : (sub [1, 1, 0, 1, 0] vizardref04_Number.body) = .loop (sub [1, 1, 0, 1, 0, 0] vizardref04_Number.body) := by kernel_rfl
  rw [e]
  refine piece_sound (loopN_sound (keepT_sound [0, 3] [] (fun i => if i = 0 then [3] else []) (wC_sound vizardref04_Number.hΓ Tryd.hm vizardref04_Number.W1.plan _ vizardref04_Number.W1.pok))) ?_
  intro Q E fr H h
  unfold vizardref04_Number.W1.t at h
  obtain ⟨hl, h⟩ := lenIs_elim h
  obtain ⟨n0, q0, h⟩ := slI_elim h
  obtain ⟨s0, q3, h⟩ := slS_elim h
  obtain ⟨m, h⟩ := h.h
  refine ⟨(mkF 25 [(0, (.int .i64 n0)), (3, (.string s0))]), fun a ha => ha.mk (Nat.le_of_eq hl.symm) (List.forall_mem_cons.2 ⟨q0, List.forall_mem_cons.2 ⟨q3, fun _ h => nomatch h⟩⟩), m, ?_⟩
  have e := loopS_eq (B := (fun (RR : Int × ByteArray → Heap → Prop) (s : Int × ByteArray) (H : Heap) => vizardref04_Number.W1.vc s.1 s.2 (fun y3_0 H => Q (.exit 0) (mkF 25 [(3, (.string y3_0))]) H) (fun n0 s0 H => RR (n0, s0) H) E H)) (A := keepT [0, 3] [] (fun i => if i = 0 then [3] else []) (wC Tryd.prog vizardref04_Number.Γ vizardref04_Number.W1.plan (sub [1, 1, 0, 1, 0, 0] vizardref04_Number.body))) (m := (fun (s : Int × ByteArray) => (mkF 25 [(0, (.int .i64 s.1)), (3, (.string s.2))]))) (Q := Q) (E := E) (fun RR s H => vizardref04_Number.W1.eq  Q E RR s H) m (n0, s0) H
  exact cast e h
noncomputable def vizardref04_Number.plan : Plan := .seq (.go) (.seq (.go) (.seq (.seq (.go) (.block (.use vizardref04_Number.W1.t))) (.go)))
theorem vizardref04_Number.pok : PlanOk Tryd.prog vizardref04_Number.plan vizardref04_Number.body := by
  have e : PlanOk Tryd.prog vizardref04_Number.plan vizardref04_Number.body = ((True) ∧ ((True) ∧ (((True) ∧ (SoundCode Tryd.prog (sub [1, 1, 0, 1, 0] vizardref04_Number.body) vizardref04_Number.W1.t)) ∧ (True)))) := by kernel_rfl
  exact e.mpr ⟨trivial, ⟨trivial, ⟨⟨trivial, vizardref04_Number.W1.ok⟩, trivial⟩⟩⟩
theorem vizardref04_Number.eq (n0 : Int) (K : Value → Heap → Prop) (E : Value → Heap → Prop) (H : Heap) :
    fnT Tryd.prog Tryd.f26 (wC Tryd.prog vizardref04_Number.Γ vizardref04_Number.plan vizardref04_Number.body) [(.int .i64 n0)] K E H = vizardref04_Number.vc n0 (fun r0_0 H => K (.string r0_0) H) E H := by
  kernel_rfl
theorem vizardref04_Number.Fe {args : List Value} {K E : Value → Heap → Prop} {H : Heap} (h : vizardref04_Number.F args K E H) : ∃ n0, args = [(.int .i64 n0)] ∧ vizardref04_Number.c n0 (fun r0_0 H => K (.string r0_0) H) E H := by
  unfold vizardref04_Number.F at h
  split at h
  · exact ⟨_, rfl, h⟩
  · exact h.elim
theorem vizardref04_Number.ok : CalleeOk Tryd.prog 26 vizardref04_Number.F :=
  callee_ok vizardref04_Number.hΓ (fn := Tryd.f26) (c := vizardref04_Number.body) (T := wC Tryd.prog vizardref04_Number.Γ vizardref04_Number.plan vizardref04_Number.body) (by kernel_rfl) (by kernel_rfl) (by kernel_rfl) (wC_sound vizardref04_Number.hΓ Tryd.hm vizardref04_Number.plan _ vizardref04_Number.pok) fun _ K E H h => by
    obtain ⟨z0, e, h⟩ := vizardref04_Number.Fe h
    subst e
    have h2 : vizardref04_Number.vc z0 (fun r0_0 H => ∃ H', Heap.Le H' H ∧ K (.string r0_0) H') E H := h.h
    rw [vizardref04_Number.eq z0 (Fg K) E H]
    exact h2

/-! vizard/vizardref04.Text -/
noncomputable def vizardref04_Text.body : Code := Tryd.f13.body.getD .skip
def vizardref04_Text.vc (a0 : Int) (K : ByteArray → Heap → Prop) (E : Value → Heap → Prop) (h0 : Heap) : Prop :=
  16777216 ≠ (0 : Int) ∧
  vizardref04_Number.c (IntKind.i64.wrap (IntKind.u32.wrap (Int.tdiv a0 16777216))) (fun x0 h1 =>
  x0.size + (⟨#[46]⟩ : ByteArray).size ≤ 9223372036854775807 ∧
  65536 ≠ (0 : Int) ∧
  256 ≠ (0 : Int) ∧
  vizardref04_Number.c (IntKind.i64.wrap (Int.tmod (IntKind.u32.wrap (Int.tdiv a0 65536)) 256)) (fun x1 h2 =>
  (x0 ++ (⟨#[46]⟩ : ByteArray)).size + x1.size ≤ 9223372036854775807 ∧
  ((x0 ++ (⟨#[46]⟩ : ByteArray)) ++ x1).size + (⟨#[46]⟩ : ByteArray).size ≤ 9223372036854775807 ∧
  256 ≠ (0 : Int) ∧
  256 ≠ (0 : Int) ∧
  vizardref04_Number.c (IntKind.i64.wrap (Int.tmod (IntKind.u32.wrap (Int.tdiv a0 256)) 256)) (fun x2 h3 =>
  (((x0 ++ (⟨#[46]⟩ : ByteArray)) ++ x1) ++ (⟨#[46]⟩ : ByteArray)).size + x2.size ≤ 9223372036854775807 ∧
  ((((x0 ++ (⟨#[46]⟩ : ByteArray)) ++ x1) ++ (⟨#[46]⟩ : ByteArray)) ++ x2).size + (⟨#[46]⟩ : ByteArray).size ≤ 9223372036854775807 ∧
  256 ≠ (0 : Int) ∧
  vizardref04_Number.c (IntKind.i64.wrap (Int.tmod a0 256)) (fun x3 h4 =>
  (((((x0 ++ (⟨#[46]⟩ : ByteArray)) ++ x1) ++ (⟨#[46]⟩ : ByteArray)) ++ x2) ++ (⟨#[46]⟩ : ByteArray)).size + x3.size ≤ 9223372036854775807 ∧
  K ((((((x0 ++ (⟨#[46]⟩ : ByteArray)) ++ x1) ++ (⟨#[46]⟩ : ByteArray)) ++ x2) ++ (⟨#[46]⟩ : ByteArray)) ++ x3) h4) E h3) E h2) E h1) E h0
structure vizardref04_Text.c (a0 : Int) (K : ByteArray → Heap → Prop) (E : Value → Heap → Prop) (H : Heap) : Prop where
  h : vizardref04_Text.vc a0 (fun r0_0 H => ∃ H', Heap.Le H' H ∧ K r0_0 H') E H
def vizardref04_Text.F : FT := fun args K E H => match args with
  | [(.int .u32 a0)] => vizardref04_Text.c a0 (fun r0_0 H => K (.string r0_0) H) E H
  | _ => False
noncomputable def vizardref04_Text.Γ : FuncId → Option FT := Γof [(26, vizardref04_Number.F)]
theorem vizardref04_Text.hΓ : ∀ f F, vizardref04_Text.Γ f = some F → CalleeOk Tryd.prog f F := Γof_ok (List.forall_mem_cons.2 ⟨vizardref04_Number.ok, fun _ h => nomatch h⟩)
noncomputable def vizardref04_Text.plan : Plan := .go
theorem vizardref04_Text.pok : PlanOk Tryd.prog vizardref04_Text.plan vizardref04_Text.body := by
  have e : PlanOk Tryd.prog vizardref04_Text.plan vizardref04_Text.body = (True) := by kernel_rfl
  exact e.mpr trivial
theorem vizardref04_Text.eq (a0 : Int) (K : Value → Heap → Prop) (E : Value → Heap → Prop) (H : Heap) :
    fnT Tryd.prog Tryd.f13 (wC Tryd.prog vizardref04_Text.Γ vizardref04_Text.plan vizardref04_Text.body) [(.int .u32 a0)] K E H = vizardref04_Text.vc a0 (fun r0_0 H => K (.string r0_0) H) E H := by
  kernel_rfl
theorem vizardref04_Text.Fe {args : List Value} {K E : Value → Heap → Prop} {H : Heap} (h : vizardref04_Text.F args K E H) : ∃ a0, args = [(.int .u32 a0)] ∧ vizardref04_Text.c a0 (fun r0_0 H => K (.string r0_0) H) E H := by
  unfold vizardref04_Text.F at h
  split at h
  · exact ⟨_, rfl, h⟩
  · exact h.elim
theorem vizardref04_Text.ok : CalleeOk Tryd.prog 13 vizardref04_Text.F :=
  callee_ok vizardref04_Text.hΓ (fn := Tryd.f13) (c := vizardref04_Text.body) (T := wC Tryd.prog vizardref04_Text.Γ vizardref04_Text.plan vizardref04_Text.body) (by kernel_rfl) (by kernel_rfl) (by kernel_rfl) (wC_sound vizardref04_Text.hΓ Tryd.hm vizardref04_Text.plan _ vizardref04_Text.pok) fun _ K E H h => by
    obtain ⟨z0, e, h⟩ := vizardref04_Text.Fe h
    subst e
    have h2 : vizardref04_Text.vc z0 (fun r0_0 H => ∃ H', Heap.Le H' H ∧ K (.string r0_0) H') E H := h.h
    rw [vizardref04_Text.eq z0 (Fg K) E H]
    exact h2

/-! vizard/vizardref04.Parse -/
noncomputable def vizardref04_Parse.body : Code := Tryd.f9.body.getD .skip
def vizardref04_Parse.J3.vc (s0 : ByteArray) (a0 : Int) (n0 : Int) (i0 : Int) (Kn : Int → Heap → Prop) (E : Value → Heap → Prop) (h0 : Heap) : Prop :=
  Kn (IntKind.i64.wrap (i0 + 1)) h0
structure vizardref04_Parse.J3 (s0 : ByteArray) (a0 : Int) (n0 : Int) (i0 : Int) (Kn : Int → Heap → Prop) (E : Value → Heap → Prop) (H : Heap) : Prop where
  h : vizardref04_Parse.J3.vc s0 a0 n0 i0 Kn E H
def vizardref04_Parse.J2.vc (s0 : ByteArray) (a0 : Int) (n0 : Int) (i0 : Int) (Kn : Int → Int → Int → Heap → Prop) (E : Value → Heap → Prop) (h0 : Heap) : Prop :=
  (0 : Int) ≤ i0 ∧ i0 < (s0.size : Int) ∧
  (if ((bt s0 i0) == 46) = true then
  vizardref04_Parse.J3 s0 (IntKind.u32.wrap ((IntKind.u32.wrap (a0 * 256)) + n0)) 0 i0 (fun i1 h1 =>
  Kn (IntKind.u32.wrap ((IntKind.u32.wrap (a0 * 256)) + n0)) 0 i1 h1) E h0
  else
  (0 : Int) ≤ i0 ∧ i0 < (s0.size : Int) ∧
  256 ≠ (0 : Int) ∧
  vizardref04_Parse.J3 s0 a0 (Int.tmod (IntKind.u32.wrap ((IntKind.u32.wrap (n0 * 10)) + (IntKind.u32.wrap (IntKind.u8.wrap ((bt s0 i0) - 48))))) 256) i0 (fun i2 h2 =>
  Kn a0 (Int.tmod (IntKind.u32.wrap ((IntKind.u32.wrap (n0 * 10)) + (IntKind.u32.wrap (IntKind.u8.wrap ((bt s0 i0) - 48))))) 256) i2 h2) E h0)
structure vizardref04_Parse.J2 (s0 : ByteArray) (a0 : Int) (n0 : Int) (i0 : Int) (Kn : Int → Int → Int → Heap → Prop) (E : Value → Heap → Prop) (H : Heap) : Prop where
  h : vizardref04_Parse.J2.vc s0 a0 n0 i0 Kn E H
def vizardref04_Parse.W1.vc (s0 : ByteArray) (a0 : Int) (n0 : Int) (i0 : Int) (Kx0 : Int → Int → Heap → Prop) (RR : Int → Int → Int → Heap → Prop) (E : Value → Heap → Prop) (h0 : Heap) : Prop :=
  (if (decide (i0 < (s0.size : Int))) = true then
  (if (decide (i0 < 16)) = true then
  vizardref04_Parse.J2 s0 a0 n0 i0 RR E h0
  else
  Kx0 a0 n0 h0)
  else
  Kx0 a0 n0 h0)
structure vizardref04_Parse.W1 (s0 : ByteArray) (a0 : Int) (n0 : Int) (i0 : Int) (Kx0 : Int → Int → Heap → Prop) (E : Value → Heap → Prop) (H : Heap) : Prop where
  h : Loop (fun (RR : Int × Int × Int → Heap → Prop) (s : Int × Int × Int) (H : Heap) => vizardref04_Parse.W1.vc s0 s.1 s.2.1 s.2.2 Kx0 (fun a0 n0 i0 H => RR (a0, n0, i0) H) E H) (a0, n0, i0) H
def vizardref04_Parse.vc (s0 : ByteArray) (K : Int → Bool → Heap → Prop) (E : Value → Heap → Prop) (h0 : Heap) : Prop :=
  vizardref04_Parse.W1 s0 0 0 0 (fun a0 n0 h1 =>
  vizardref04_Text.c (IntKind.u32.wrap ((IntKind.u32.wrap (a0 * 256)) + n0)) (fun x0 h2 =>
  (if (!(x0.toList == s0.toList)) = true then
  K 0 false h2
  else
  K (IntKind.u32.wrap ((IntKind.u32.wrap (a0 * 256)) + n0)) true h2)) E h1) E h0
structure vizardref04_Parse.c (s0 : ByteArray) (K : Int → Bool → Heap → Prop) (E : Value → Heap → Prop) (H : Heap) : Prop where
  h : vizardref04_Parse.vc s0 (fun r0_0 r1_0 H => ∃ H', Heap.Le H' H ∧ K r0_0 r1_0 H') E H
def vizardref04_Parse.F : FT := fun args K E H => match args with
  | [(.string s0)] => vizardref04_Parse.c s0 (fun r0_0 r1_0 H => K (.tuple #[(.int .u32 r0_0), (.bool r1_0)]) H) E H
  | _ => False
noncomputable def vizardref04_Parse.Γ : FuncId → Option FT := Γof [(13, vizardref04_Text.F)]
theorem vizardref04_Parse.hΓ : ∀ f F, vizardref04_Parse.Γ f = some F → CalleeOk Tryd.prog f F := Γof_ok (List.forall_mem_cons.2 ⟨vizardref04_Text.ok, fun _ h => nomatch h⟩)
def vizardref04_Parse.J3.t : CT := fun Q E fr H => lenIs 43 fr (slS fr 0 fun s0 => slI fr 4 .u32 fun a0 => slI fr 5 .u32 fun n0 => slI fr 6 .i64 fun i0 => vizardref04_Parse.J3 s0 a0 n0 i0 (fun y6_0 H => Q .normal (mkF 43 [(0, (.string s0)), (4, (.int .u32 a0)), (5, (.int .u32 n0)), (6, (.int .i64 y6_0))]) H) E H)
noncomputable def vizardref04_Parse.J3.plan : Plan := .go
theorem vizardref04_Parse.J3.pok : PlanOk Tryd.prog vizardref04_Parse.J3.plan (sub [1, 1, 0, 1, 0, 0, 1, 1] vizardref04_Parse.body) := by
  have e : PlanOk Tryd.prog vizardref04_Parse.J3.plan (sub [1, 1, 0, 1, 0, 0, 1, 1] vizardref04_Parse.body) = (True) := by kernel_rfl
  exact e.mpr trivial
theorem vizardref04_Parse.J3.eq (s0 : ByteArray) (a0 : Int) (n0 : Int) (i0 : Int) (Q : Ex → Fr → Heap → Prop) (E : Value → Heap → Prop) (H : Heap) :
    vizardref04_Parse.J3.vc s0 a0 n0 i0 (fun y6_0 H => Q .normal (mkF 43 [(0, (.string s0)), (4, (.int .u32 a0)), (5, (.int .u32 n0)), (6, (.int .i64 y6_0))]) H) E H = keepT [0, 4, 5, 6] [] (fun i => []) (wC Tryd.prog vizardref04_Parse.Γ vizardref04_Parse.J3.plan (sub [1, 1, 0, 1, 0, 0, 1, 1] vizardref04_Parse.body)) Q E (mkF 43 [(0, (.string s0)), (4, (.int .u32 a0)), (5, (.int .u32 n0)), (6, (.int .i64 i0))]) H := by
  kernel_rfl
theorem vizardref04_Parse.J3.ok : SoundCode Tryd.prog (sub [1, 1, 0, 1, 0, 0, 1, 1] vizardref04_Parse.body) vizardref04_Parse.J3.t := by
  refine piece_sound (keepT_sound [0, 4, 5, 6] [] (fun i => []) (wC_sound vizardref04_Parse.hΓ Tryd.hm vizardref04_Parse.J3.plan _ vizardref04_Parse.J3.pok)) ?_
  intro Q E fr H h
  unfold vizardref04_Parse.J3.t at h
  obtain ⟨hl, h⟩ := lenIs_elim h
  obtain ⟨s0, q0, h⟩ := slS_elim h
  obtain ⟨a0, q4, h⟩ := slI_elim h
  obtain ⟨n0, q5, h⟩ := slI_elim h
  obtain ⟨i0, q6, h⟩ := slI_elim h
  refine ⟨(mkF 43 [(0, (.string s0)), (4, (.int .u32 a0)), (5, (.int .u32 n0)), (6, (.int .i64 i0))]), fun a ha => ha.mk (Nat.le_of_eq hl.symm) (List.forall_mem_cons.2 ⟨q0, List.forall_mem_cons.2 ⟨q4, List.forall_mem_cons.2 ⟨q5, List.forall_mem_cons.2 ⟨q6, fun _ h => nomatch h⟩⟩⟩⟩), ?_⟩
  have e := vizardref04_Parse.J3.eq s0 a0 n0 i0 Q E H
  rw [← e]
  exact h.h
def vizardref04_Parse.J2.t : CT := fun Q E fr H => lenIs 43 fr (slS fr 0 fun s0 => slI fr 4 .u32 fun a0 => slI fr 5 .u32 fun n0 => slI fr 6 .i64 fun i0 => vizardref04_Parse.J2 s0 a0 n0 i0 (fun y4_0 y5_0 y6_0 H => Q .normal (mkF 43 [(0, (.string s0)), (4, (.int .u32 y4_0)), (5, (.int .u32 y5_0)), (6, (.int .i64 y6_0))]) H) E H)
noncomputable def vizardref04_Parse.J2.plan : Plan := .seq (.go) (.use vizardref04_Parse.J3.t)
theorem vizardref04_Parse.J2.pok : PlanOk Tryd.prog vizardref04_Parse.J2.plan (sub [1, 1, 0, 1, 0, 0, 1] vizardref04_Parse.body) := by
  have e : PlanOk Tryd.prog vizardref04_Parse.J2.plan (sub [1, 1, 0, 1, 0, 0, 1] vizardref04_Parse.body) = ((True) ∧ (SoundCode Tryd.prog (sub [1, 1, 0, 1, 0, 0, 1, 1] vizardref04_Parse.body) vizardref04_Parse.J3.t)) := by kernel_rfl
  exact e.mpr ⟨trivial, vizardref04_Parse.J3.ok⟩
theorem vizardref04_Parse.J2.eq (s0 : ByteArray) (a0 : Int) (n0 : Int) (i0 : Int) (Q : Ex → Fr → Heap → Prop) (E : Value → Heap → Prop) (H : Heap) :
    vizardref04_Parse.J2.vc s0 a0 n0 i0 (fun y4_0 y5_0 y6_0 H => Q .normal (mkF 43 [(0, (.string s0)), (4, (.int .u32 y4_0)), (5, (.int .u32 y5_0)), (6, (.int .i64 y6_0))]) H) E H = keepT [0, 4, 5, 6] [] (fun i => []) (wC Tryd.prog vizardref04_Parse.Γ vizardref04_Parse.J2.plan (sub [1, 1, 0, 1, 0, 0, 1] vizardref04_Parse.body)) Q E (mkF 43 [(0, (.string s0)), (4, (.int .u32 a0)), (5, (.int .u32 n0)), (6, (.int .i64 i0))]) H := by
  kernel_rfl
theorem vizardref04_Parse.J2.ok : SoundCode Tryd.prog (sub [1, 1, 0, 1, 0, 0, 1] vizardref04_Parse.body) vizardref04_Parse.J2.t := by
  refine piece_sound (keepT_sound [0, 4, 5, 6] [] (fun i => []) (wC_sound vizardref04_Parse.hΓ Tryd.hm vizardref04_Parse.J2.plan _ vizardref04_Parse.J2.pok)) ?_
  intro Q E fr H h
  unfold vizardref04_Parse.J2.t at h
  obtain ⟨hl, h⟩ := lenIs_elim h
  obtain ⟨s0, q0, h⟩ := slS_elim h
  obtain ⟨a0, q4, h⟩ := slI_elim h
  obtain ⟨n0, q5, h⟩ := slI_elim h
  obtain ⟨i0, q6, h⟩ := slI_elim h
  refine ⟨(mkF 43 [(0, (.string s0)), (4, (.int .u32 a0)), (5, (.int .u32 n0)), (6, (.int .i64 i0))]), fun a ha => ha.mk (Nat.le_of_eq hl.symm) (List.forall_mem_cons.2 ⟨q0, List.forall_mem_cons.2 ⟨q4, List.forall_mem_cons.2 ⟨q5, List.forall_mem_cons.2 ⟨q6, fun _ h => nomatch h⟩⟩⟩⟩), ?_⟩
  have e := vizardref04_Parse.J2.eq s0 a0 n0 i0 Q E H
  rw [← e]
  exact h.h
def vizardref04_Parse.W1.t : CT := fun Q E fr H => lenIs 43 fr (slS fr 0 fun s0 => slI fr 4 .u32 fun a0 => slI fr 5 .u32 fun n0 => slI fr 6 .i64 fun i0 => vizardref04_Parse.W1 s0 a0 n0 i0 (fun y4_0 y5_0 H => Q (.exit 0) (mkF 43 [(0, (.string s0)), (4, (.int .u32 y4_0)), (5, (.int .u32 y5_0))]) H) E H)
noncomputable def vizardref04_Parse.W1.plan : Plan := .seq (.go) (.use vizardref04_Parse.J2.t)
theorem vizardref04_Parse.W1.pok : PlanOk Tryd.prog vizardref04_Parse.W1.plan (sub [1, 1, 0, 1, 0, 0] vizardref04_Parse.body) := by
  have e : PlanOk Tryd.prog vizardref04_Parse.W1.plan (sub [1, 1, 0, 1, 0, 0] vizardref04_Parse.body) = ((True) ∧ (SoundCode Tryd.prog (sub [1, 1, 0, 1, 0, 0, 1] vizardref04_Parse.body) vizardref04_Parse.J2.t)) := by kernel_rfl
  exact e.mpr ⟨trivial, vizardref04_Parse.J2.ok⟩
theorem vizardref04_Parse.W1.eq (s0 : ByteArray) (Q : Ex → Fr → Heap → Prop) (E : Value → Heap → Prop) (RR : Fr → Heap → Prop) (s : Int × Int × Int) (H : Heap) :
    (fun (RR : Int × Int × Int → Heap → Prop) (s : Int × Int × Int) (H : Heap) => vizardref04_Parse.W1.vc s0 s.1 s.2.1 s.2.2 (fun y4_0 y5_0 H => Q (.exit 0) (mkF 43 [(0, (.string s0)), (4, (.int .u32 y4_0)), (5, (.int .u32 y5_0))]) H) (fun a0 n0 i0 H => RR (a0, n0, i0) H) E H) (fun s' H' => RR ((fun (s : Int × Int × Int) => (mkF 43 [(0, (.string s0)), (4, (.int .u32 s.1)), (5, (.int .u32 s.2.1)), (6, (.int .i64 s.2.2))])) s') H') s H = keepT [0, 4, 5, 6] [] (fun i => if i = 0 then [0, 4, 5] else []) (wC Tryd.prog vizardref04_Parse.Γ vizardref04_Parse.W1.plan (sub [1, 1, 0, 1, 0, 0] vizardref04_Parse.body)) (fun e fr' H' => match e with | .normal => RR fr' H' | .exit id => Q (.exit id) fr' H' | .ret => Q .ret fr' H') E ((fun (s : Int × Int × Int) => (mkF 43 [(0, (.string s0)), (4, (.int .u32 s.1)), (5, (.int .u32 s.2.1)), (6, (.int .i64 s.2.2))])) s) H := by
  kernel_rfl
theorem vizardref04_Parse.W1.ok : SoundCode Tryd.prog (sub [1, 1, 0, 1, 0] vizardref04_Parse.body) vizardref04_Parse.W1.t := by
  have e : (sub [1, 1, 0, 1, 0] vizardref04_Parse.body) = .loop (sub [1, 1, 0, 1, 0, 0] vizardref04_Parse.body) := by kernel_rfl
  rw [e]
  refine piece_sound (loopN_sound (keepT_sound [0, 4, 5, 6] [] (fun i => if i = 0 then [0, 4, 5] else []) (wC_sound vizardref04_Parse.hΓ Tryd.hm vizardref04_Parse.W1.plan _ vizardref04_Parse.W1.pok))) ?_
  intro Q E fr H h
  unfold vizardref04_Parse.W1.t at h
  obtain ⟨hl, h⟩ := lenIs_elim h
  obtain ⟨s0, q0, h⟩ := slS_elim h
  obtain ⟨a0, q4, h⟩ := slI_elim h
  obtain ⟨n0, q5, h⟩ := slI_elim h
  obtain ⟨i0, q6, h⟩ := slI_elim h
  obtain ⟨m, h⟩ := h.h
  refine ⟨(mkF 43 [(0, (.string s0)), (4, (.int .u32 a0)), (5, (.int .u32 n0)), (6, (.int .i64 i0))]), fun a ha => ha.mk (Nat.le_of_eq hl.symm) (List.forall_mem_cons.2 ⟨q0, List.forall_mem_cons.2 ⟨q4, List.forall_mem_cons.2 ⟨q5, List.forall_mem_cons.2 ⟨q6, fun _ h => nomatch h⟩⟩⟩⟩), m, ?_⟩
  have e := loopS_eq (B := (fun (RR : Int × Int × Int → Heap → Prop) (s : Int × Int × Int) (H : Heap) => vizardref04_Parse.W1.vc s0 s.1 s.2.1 s.2.2 (fun y4_0 y5_0 H => Q (.exit 0) (mkF 43 [(0, (.string s0)), (4, (.int .u32 y4_0)), (5, (.int .u32 y5_0))]) H) (fun a0 n0 i0 H => RR (a0, n0, i0) H) E H)) (A := keepT [0, 4, 5, 6] [] (fun i => if i = 0 then [0, 4, 5] else []) (wC Tryd.prog vizardref04_Parse.Γ vizardref04_Parse.W1.plan (sub [1, 1, 0, 1, 0, 0] vizardref04_Parse.body))) (m := (fun (s : Int × Int × Int) => (mkF 43 [(0, (.string s0)), (4, (.int .u32 s.1)), (5, (.int .u32 s.2.1)), (6, (.int .i64 s.2.2))]))) (Q := Q) (E := E) (fun RR s H => vizardref04_Parse.W1.eq s0 Q E RR s H) m (a0, n0, i0) H
  exact cast e h
noncomputable def vizardref04_Parse.plan : Plan := .seq (.go) (.seq (.go) (.seq (.seq (.go) (.block (.use vizardref04_Parse.W1.t))) (.go)))
theorem vizardref04_Parse.pok : PlanOk Tryd.prog vizardref04_Parse.plan vizardref04_Parse.body := by
  have e : PlanOk Tryd.prog vizardref04_Parse.plan vizardref04_Parse.body = ((True) ∧ ((True) ∧ (((True) ∧ (SoundCode Tryd.prog (sub [1, 1, 0, 1, 0] vizardref04_Parse.body) vizardref04_Parse.W1.t)) ∧ (True)))) := by kernel_rfl
  exact e.mpr ⟨trivial, ⟨trivial, ⟨⟨trivial, vizardref04_Parse.W1.ok⟩, trivial⟩⟩⟩
theorem vizardref04_Parse.eq (s0 : ByteArray) (K : Value → Heap → Prop) (E : Value → Heap → Prop) (H : Heap) :
    fnT Tryd.prog Tryd.f9 (wC Tryd.prog vizardref04_Parse.Γ vizardref04_Parse.plan vizardref04_Parse.body) [(.string s0)] K E H = vizardref04_Parse.vc s0 (fun r0_0 r1_0 H => K (.tuple #[(.int .u32 r0_0), (.bool r1_0)]) H) E H := by
  kernel_rfl
theorem vizardref04_Parse.Fe {args : List Value} {K E : Value → Heap → Prop} {H : Heap} (h : vizardref04_Parse.F args K E H) : ∃ s0, args = [(.string s0)] ∧ vizardref04_Parse.c s0 (fun r0_0 r1_0 H => K (.tuple #[(.int .u32 r0_0), (.bool r1_0)]) H) E H := by
  unfold vizardref04_Parse.F at h
  split at h
  · exact ⟨_, rfl, h⟩
  · exact h.elim
theorem vizardref04_Parse.ok : CalleeOk Tryd.prog 9 vizardref04_Parse.F :=
  callee_ok vizardref04_Parse.hΓ (fn := Tryd.f9) (c := vizardref04_Parse.body) (T := wC Tryd.prog vizardref04_Parse.Γ vizardref04_Parse.plan vizardref04_Parse.body) (by kernel_rfl) (by kernel_rfl) (by kernel_rfl) (wC_sound vizardref04_Parse.hΓ Tryd.hm vizardref04_Parse.plan _ vizardref04_Parse.pok) fun _ K E H h => by
    obtain ⟨z0, e, h⟩ := vizardref04_Parse.Fe h
    subst e
    have h2 : vizardref04_Parse.vc z0 (fun r0_0 r1_0 H => ∃ H', Heap.Le H' H ∧ K (.tuple #[(.int .u32 r0_0), (.bool r1_0)]) H') E H := h.h
    rw [vizardref04_Parse.eq z0 (Fg K) E H]
    exact h2

/-! internal/stringslite.Cut -/
noncomputable def internal_stringslite_Cut.body : Code := Tryd.f34.body.getD .skip
def internal_stringslite_Cut.vc (s0 : ByteArray) (sep0 : ByteArray) (K : ByteArray → ByteArray → Bool → Heap → Prop) (E : Value → Heap → Prop) (h0 : Heap) : Prop :=
  internal_stringslite_Index.c s0 sep0 (fun x0 h1 =>
  (if (decide (x0 ≥ 0)) = true then
  (0 : Int) ≤ x0 ∧ x0 ≤ (s0.size : Int) ∧
  (0 : Int) ≤ (IntKind.i64.wrap (x0 + (sep0.size : Int))) ∧ (IntKind.i64.wrap (x0 + (sep0.size : Int))) ≤ (s0.size : Int) ∧ s0.size ≤ s0.size ∧
  K (s0.extract 0 x0.toNat) (s0.extract (IntKind.i64.wrap (x0 + (sep0.size : Int))).toNat s0.size) true h1
  else
  K s0 (⟨#[]⟩ : ByteArray) false h1)) E h0
structure internal_stringslite_Cut.c (s0 : ByteArray) (sep0 : ByteArray) (K : ByteArray → ByteArray → Bool → Heap → Prop) (E : Value → Heap → Prop) (H : Heap) : Prop where
  h : internal_stringslite_Cut.vc s0 sep0 (fun r0_0 r1_0 r2_0 H => ∃ H', Heap.Le H' H ∧ K r0_0 r1_0 r2_0 H') E H
def internal_stringslite_Cut.F : FT := fun args K E H => match args with
  | [(.string s0), (.string sep0)] => internal_stringslite_Cut.c s0 sep0 (fun r0_0 r1_0 r2_0 H => K (.tuple #[(.string r0_0), (.string r1_0), (.bool r2_0)]) H) E H
  | _ => False
noncomputable def internal_stringslite_Cut.Γ : FuncId → Option FT := Γof [(48, internal_stringslite_Index.F)]
theorem internal_stringslite_Cut.hΓ : ∀ f F, internal_stringslite_Cut.Γ f = some F → CalleeOk Tryd.prog f F := Γof_ok (List.forall_mem_cons.2 ⟨internal_stringslite_Index.ok, fun _ h => nomatch h⟩)
noncomputable def internal_stringslite_Cut.plan : Plan := .seq (.go) (.seq (.seq (.go) (.seq (.go) (.cond (.seq (.draw ⟨[0, 1, 2, 3, 4, 5, 6, 7, 8, 9], (dl [(0, []), (1, []), (2, []), (3, []), (4, []), (5, []), (6, []), (7, []), (8, []), (9, [])] .fin), [10, 11]⟩) (.go)) (.go)))) (.go))
theorem internal_stringslite_Cut.pok : PlanOk Tryd.prog internal_stringslite_Cut.plan internal_stringslite_Cut.body := by
  have e : PlanOk Tryd.prog internal_stringslite_Cut.plan internal_stringslite_Cut.body = ((True) ∧ (((True) ∧ ((True) ∧ (((True) ∧ (True)) ∧ (True)))) ∧ (True))) := by kernel_rfl
  exact e.mpr ⟨trivial, ⟨⟨trivial, ⟨trivial, ⟨⟨trivial, trivial⟩, trivial⟩⟩⟩, trivial⟩⟩
theorem internal_stringslite_Cut.eq (s0 : ByteArray) (sep0 : ByteArray) (K : Value → Heap → Prop) (E : Value → Heap → Prop) (H : Heap) :
    fnT Tryd.prog Tryd.f34 (wC Tryd.prog internal_stringslite_Cut.Γ internal_stringslite_Cut.plan internal_stringslite_Cut.body) [(.string s0), (.string sep0)] K E H = internal_stringslite_Cut.vc s0 sep0 (fun r0_0 r1_0 r2_0 H => K (.tuple #[(.string r0_0), (.string r1_0), (.bool r2_0)]) H) E H := by
  kernel_rfl
theorem internal_stringslite_Cut.Fe {args : List Value} {K E : Value → Heap → Prop} {H : Heap} (h : internal_stringslite_Cut.F args K E H) : ∃ s0 sep0, args = [(.string s0), (.string sep0)] ∧ internal_stringslite_Cut.c s0 sep0 (fun r0_0 r1_0 r2_0 H => K (.tuple #[(.string r0_0), (.string r1_0), (.bool r2_0)]) H) E H := by
  unfold internal_stringslite_Cut.F at h
  split at h
  · exact ⟨_, _, rfl, h⟩
  · exact h.elim
theorem internal_stringslite_Cut.ok : CalleeOk Tryd.prog 34 internal_stringslite_Cut.F :=
  callee_ok internal_stringslite_Cut.hΓ (fn := Tryd.f34) (c := internal_stringslite_Cut.body) (T := wC Tryd.prog internal_stringslite_Cut.Γ internal_stringslite_Cut.plan internal_stringslite_Cut.body) (by kernel_rfl) (by kernel_rfl) (by kernel_rfl) (wC_sound internal_stringslite_Cut.hΓ Tryd.hm internal_stringslite_Cut.plan _ internal_stringslite_Cut.pok) fun _ K E H h => by
    obtain ⟨z0, z1, e, h⟩ := internal_stringslite_Cut.Fe h
    subst e
    have h2 : internal_stringslite_Cut.vc z0 z1 (fun r0_0 r1_0 r2_0 H => ∃ H', Heap.Le H' H ∧ K (.tuple #[(.string r0_0), (.string r1_0), (.bool r2_0)]) H') E H := h.h
    rw [internal_stringslite_Cut.eq z0 z1 (Fg K) E H]
    exact h2

/-! strings.Cut -/
noncomputable def strings_Cut.body : Code := Tryd.f24.body.getD .skip
def strings_Cut.vc (s0 : ByteArray) (sep0 : ByteArray) (K : ByteArray → ByteArray → Bool → Heap → Prop) (E : Value → Heap → Prop) (h0 : Heap) : Prop :=
  internal_stringslite_Cut.c s0 sep0 K E h0
structure strings_Cut.c (s0 : ByteArray) (sep0 : ByteArray) (K : ByteArray → ByteArray → Bool → Heap → Prop) (E : Value → Heap → Prop) (H : Heap) : Prop where
  h : strings_Cut.vc s0 sep0 (fun r0_0 r1_0 r2_0 H => ∃ H', Heap.Le H' H ∧ K r0_0 r1_0 r2_0 H') E H
def strings_Cut.F : FT := fun args K E H => match args with
  | [(.string s0), (.string sep0)] => strings_Cut.c s0 sep0 (fun r0_0 r1_0 r2_0 H => K (.tuple #[(.string r0_0), (.string r1_0), (.bool r2_0)]) H) E H
  | _ => False
noncomputable def strings_Cut.Γ : FuncId → Option FT := Γof [(34, internal_stringslite_Cut.F)]
theorem strings_Cut.hΓ : ∀ f F, strings_Cut.Γ f = some F → CalleeOk Tryd.prog f F := Γof_ok (List.forall_mem_cons.2 ⟨internal_stringslite_Cut.ok, fun _ h => nomatch h⟩)
noncomputable def strings_Cut.plan : Plan := .go
theorem strings_Cut.pok : PlanOk Tryd.prog strings_Cut.plan strings_Cut.body := by
  have e : PlanOk Tryd.prog strings_Cut.plan strings_Cut.body = (True) := by kernel_rfl
  exact e.mpr trivial
theorem strings_Cut.eq (s0 : ByteArray) (sep0 : ByteArray) (K : Value → Heap → Prop) (E : Value → Heap → Prop) (H : Heap) :
    fnT Tryd.prog Tryd.f24 (wC Tryd.prog strings_Cut.Γ strings_Cut.plan strings_Cut.body) [(.string s0), (.string sep0)] K E H = strings_Cut.vc s0 sep0 (fun r0_0 r1_0 r2_0 H => K (.tuple #[(.string r0_0), (.string r1_0), (.bool r2_0)]) H) E H := by
  kernel_rfl
theorem strings_Cut.Fe {args : List Value} {K E : Value → Heap → Prop} {H : Heap} (h : strings_Cut.F args K E H) : ∃ s0 sep0, args = [(.string s0), (.string sep0)] ∧ strings_Cut.c s0 sep0 (fun r0_0 r1_0 r2_0 H => K (.tuple #[(.string r0_0), (.string r1_0), (.bool r2_0)]) H) E H := by
  unfold strings_Cut.F at h
  split at h
  · exact ⟨_, _, rfl, h⟩
  · exact h.elim
theorem strings_Cut.ok : CalleeOk Tryd.prog 24 strings_Cut.F :=
  callee_ok strings_Cut.hΓ (fn := Tryd.f24) (c := strings_Cut.body) (T := wC Tryd.prog strings_Cut.Γ strings_Cut.plan strings_Cut.body) (by kernel_rfl) (by kernel_rfl) (by kernel_rfl) (wC_sound strings_Cut.hΓ Tryd.hm strings_Cut.plan _ strings_Cut.pok) fun _ K E H h => by
    obtain ⟨z0, z1, e, h⟩ := strings_Cut.Fe h
    subst e
    have h2 : strings_Cut.vc z0 z1 (fun r0_0 r1_0 r2_0 H => ∃ H', Heap.Le H' H ∧ K (.tuple #[(.string r0_0), (.string r1_0), (.bool r2_0)]) H') E H := h.h
    rw [strings_Cut.eq z0 z1 (Fg K) E H]
    exact h2

/-! vizard/prefix.rest -/
noncomputable def prefix_rest.body : Code := Tryd.f29.body.getD .skip
def prefix_rest.vc (n0 : Int) (K : Int → Heap → Prop) (E : Value → Heap → Prop) (h0 : Heap) : Prop :=
  (0 : Int) ≤ (IntKind.i64.wrap (32 - n0)) ∧
  K (IntKind.u32.wrap (IntKind.u64.wrap ((shlI .u64 1 (IntKind.i64.wrap (32 - n0))) - 1))) h0
structure prefix_rest.c (n0 : Int) (K : Int → Heap → Prop) (E : Value → Heap → Prop) (H : Heap) : Prop where
  h : prefix_rest.vc n0 (fun r0_0 H => ∃ H', Heap.Le H' H ∧ K r0_0 H') E H
def prefix_rest.F : FT := fun args K E H => match args with
  | [(.int .i64 n0)] => prefix_rest.c n0 (fun r0_0 H => K (.int .u32 r0_0) H) E H
  | _ => False
noncomputable def prefix_rest.Γ : FuncId → Option FT := Γof []
theorem prefix_rest.hΓ : ∀ f F, prefix_rest.Γ f = some F → CalleeOk Tryd.prog f F := Γof_ok (fun _ h => nomatch h)
noncomputable def prefix_rest.plan : Plan := .go
theorem prefix_rest.pok : PlanOk Tryd.prog prefix_rest.plan prefix_rest.body := by
  have e : PlanOk Tryd.prog prefix_rest.plan prefix_rest.body = (True) := by kernel_rfl
  exact e.mpr trivial
theorem prefix_rest.eq (n0 : Int) (K : Value → Heap → Prop) (E : Value → Heap → Prop) (H : Heap) :
    fnT Tryd.prog Tryd.f29 (wC Tryd.prog prefix_rest.Γ prefix_rest.plan prefix_rest.body) [(.int .i64 n0)] K E H = prefix_rest.vc n0 (fun r0_0 H => K (.int .u32 r0_0) H) E H := by
  kernel_rfl
theorem prefix_rest.Fe {args : List Value} {K E : Value → Heap → Prop} {H : Heap} (h : prefix_rest.F args K E H) : ∃ n0, args = [(.int .i64 n0)] ∧ prefix_rest.c n0 (fun r0_0 H => K (.int .u32 r0_0) H) E H := by
  unfold prefix_rest.F at h
  split at h
  · exact ⟨_, rfl, h⟩
  · exact h.elim
theorem prefix_rest.ok : CalleeOk Tryd.prog 29 prefix_rest.F :=
  callee_ok prefix_rest.hΓ (fn := Tryd.f29) (c := prefix_rest.body) (T := wC Tryd.prog prefix_rest.Γ prefix_rest.plan prefix_rest.body) (by kernel_rfl) (by kernel_rfl) (by kernel_rfl) (wC_sound prefix_rest.hΓ Tryd.hm prefix_rest.plan _ prefix_rest.pok) fun _ K E H h => by
    obtain ⟨z0, e, h⟩ := prefix_rest.Fe h
    subst e
    have h2 : prefix_rest.vc z0 (fun r0_0 H => ∃ H', Heap.Le H' H ∧ K (.int .u32 r0_0) H') E H := h.h
    rw [prefix_rest.eq z0 (Fg K) E H]
    exact h2

/-! vizard/prefix.Check -/
noncomputable def prefix_Check.body : Code := Tryd.f18.body.getD .skip
def prefix_Check.vc (p0 : Int) (p1 : Int) (K : Bool → Heap → Prop) (E : Value → Heap → Prop) (h0 : Heap) : Prop :=
  newB (.cells #[(.int .u32 p0), (.int .i64 p1)] 24) (fun b0 h1 =>
  ldI h1 .i64 ((⟨b0, 0, none⟩ : Addr).add 1) fun x0 =>
  (if (decide (x0 ≥ 0)) = true then
  ldI h1 .i64 ((⟨b0, 0, none⟩ : Addr).add 1) fun x1 =>
  (if (decide (x1 ≤ 32)) = true then
  ldI h1 .u32 ((⟨b0, 0, none⟩ : Addr).add 0) fun x2 =>
  ldI h1 .i64 ((⟨b0, 0, none⟩ : Addr).add 1) fun x3 =>
  prefix_rest.c x3 (fun x4 h2 =>
  (ldI h2 .u32 ((⟨b0, 0, none⟩ : Addr).add 0) fun x5 =>
  eqv h2 h2 (some (.int .u32 x2)) (.int .u32 x5)) ∧
  K ((bits .and .u32 x2 x4) == 0) h2) E h1
  else
  True ∧
  K false h1)
  else
  True ∧
  K false h1)) h0
structure prefix_Check.c (p0 : Int) (p1 : Int) (K : Bool → Heap → Prop) (E : Value → Heap → Prop) (H : Heap) : Prop where
  h : prefix_Check.vc p0 p1 (fun r0_0 H => ∃ H', Heap.Le H' H ∧ K r0_0 H') E H
def prefix_Check.F : FT := fun args K E H => match args with
  | [(.agg ⟨[(.int .u32 p0), (.int .i64 p1)]⟩)] => prefix_Check.c p0 p1 (fun r0_0 H => K (.bool r0_0) H) E H
  | _ => False
noncomputable def prefix_Check.Γ : FuncId → Option FT := Γof [(29, prefix_rest.F)]
theorem prefix_Check.hΓ : ∀ f F, prefix_Check.Γ f = some F → CalleeOk Tryd.prog f F := Γof_ok (List.forall_mem_cons.2 ⟨prefix_rest.ok, fun _ h => nomatch h⟩)
noncomputable def prefix_Check.plan : Plan := .seq (.go) (.seq (.draw ⟨[0, 1, 2, 3, 4, 5, 6, 7, 8, 9, 10, 11, 12, 13, 14, 15, 16], (dl [(0, []), (1, []), (2, []), (3, []), (4, []), (5, []), (6, []), (7, []), (8, []), (9, []), (10, []), (11, []), (12, []), (13, [12, 8, 11, 7, 3, 6, 2, 5, 1, 4, 0]), (14, []), (15, []), (16, [])] .fin), [17]⟩) (.go))
theorem prefix_Check.pok : PlanOk Tryd.prog prefix_Check.plan prefix_Check.body := by
  have e : PlanOk Tryd.prog prefix_Check.plan prefix_Check.body = ((True) ∧ ((True) ∧ (True))) := by kernel_rfl
  exact e.mpr ⟨trivial, ⟨trivial, trivial⟩⟩
theorem prefix_Check.eq (p0 : Int) (p1 : Int) (K : Value → Heap → Prop) (E : Value → Heap → Prop) (H : Heap) :
    fnT Tryd.prog Tryd.f18 (wC Tryd.prog prefix_Check.Γ prefix_Check.plan prefix_Check.body) [(.agg #[(.int .u32 p0), (.int .i64 p1)])] K E H = prefix_Check.vc p0 p1 (fun r0_0 H => K (.bool r0_0) H) E H := by
  kernel_rfl
theorem prefix_Check.Fe {args : List Value} {K E : Value → Heap → Prop} {H : Heap} (h : prefix_Check.F args K E H) : ∃ p0 p1, args = [(.agg #[(.int .u32 p0), (.int .i64 p1)])] ∧ prefix_Check.c p0 p1 (fun r0_0 H => K (.bool r0_0) H) E H := by
  unfold prefix_Check.F at h
  split at h
  · exact ⟨_, _, rfl, h⟩
  · exact h.elim
theorem prefix_Check.ok : CalleeOk Tryd.prog 18 prefix_Check.F :=
  callee_ok prefix_Check.hΓ (fn := Tryd.f18) (c := prefix_Check.body) (T := wC Tryd.prog prefix_Check.Γ prefix_Check.plan prefix_Check.body) (by kernel_rfl) (by kernel_rfl) (by kernel_rfl) (wC_sound prefix_Check.hΓ Tryd.hm prefix_Check.plan _ prefix_Check.pok) fun _ K E H h => by
    obtain ⟨z0, z1, e, h⟩ := prefix_Check.Fe h
    subst e
    have h2 : prefix_Check.vc z0 z1 (fun r0_0 H => ∃ H', Heap.Le H' H ∧ K (.bool r0_0) H') E H := h.h
    rw [prefix_Check.eq z0 z1 (Fg K) E H]
    exact h2

/-! vizard/prefix.Read -/
noncomputable def prefix_Read.body : Code := Tryd.f10.body.getD .skip
def prefix_Read.J1.vc (x0 : Addr) (p0 : Addr) (x1 : Bool) (Kn : Heap → Prop) (Kr : Bool → Heap → Prop) (E : Value → Heap → Prop) (h0 : Heap) : Prop :=
  (if x1 = true then
  stc h0 (x0.add 0) (.int .u32 0) fun h1 =>
  stc h1 (x0.add 1) (.int .i64 0) fun h2 =>
  Kr false h2
  else
  Kn h0)
structure prefix_Read.J1 (x0 : Addr) (p0 : Addr) (x1 : Bool) (Kn : Heap → Prop) (Kr : Bool → Heap → Prop) (E : Value → Heap → Prop) (H : Heap) : Prop where
  h : prefix_Read.J1.vc x0 p0 x1 Kn Kr E H
def prefix_Read.J2.vc (x0 : Addr) (p0 : Addr) (Kr : Bool → Heap → Prop) (E : Value → Heap → Prop) (h0 : Heap) : Prop :=
  ldI h0 .u32 (p0.add 0) fun x1 => ldI h0 .i64 (p0.add 1) fun x2 =>
  stc h0 (x0.add 0) (.int .u32 x1) fun h1 =>
  stc h1 (x0.add 1) (.int .i64 x2) fun h2 =>
  Kr true h2
structure prefix_Read.J2 (x0 : Addr) (p0 : Addr) (Kr : Bool → Heap → Prop) (E : Value → Heap → Prop) (H : Heap) : Prop where
  h : prefix_Read.J2.vc x0 p0 Kr E H
def prefix_Read.vc (s0 : ByteArray) (K : Int → Int → Bool → Heap → Prop) (E : Value → Heap → Prop) (h0 : Heap) : Prop :=
  newB (.cells #[(.int .u32 0), (.int .i64 0)] 24) (fun b0 h1 =>
  strings_Cut.c s0 (⟨#[47]⟩ : ByteArray) (fun x0 x1 x2 h2 =>
  prefix_Parse.c x0 (fun x3 x4 h3 =>
  strconv_Atoi.c x1 (fun x5 x6 h4 =>
  newB (.cells #[(.int .u32 0), (.int .i64 0)] 24) (fun b1 h5 =>
  stc h5 ((⟨b1, 0, none⟩ : Addr).add 0) (.int .u32 x3) fun h6 =>
  stc h6 ((⟨b1, 0, none⟩ : Addr).add 1) (.int .i64 x5) fun h7 =>
  (if (!x2) = true then
  prefix_Read.J1 (⟨b0, 0, none⟩ : Addr) (⟨b1, 0, none⟩ : Addr) true (fun h8 =>
  prefix_Read.J2 (⟨b0, 0, none⟩ : Addr) (⟨b1, 0, none⟩ : Addr) (fun x7 h9 =>
  ldI h9 .u32 ((⟨b0, 0, none⟩ : Addr).add 0) fun r0 => ldI h9 .i64 ((⟨b0, 0, none⟩ : Addr).add 1) fun r1 =>
  K r0 r1 x7 h9) E h8) (fun x8 h10 =>
  ldI h10 .u32 ((⟨b0, 0, none⟩ : Addr).add 0) fun r2 => ldI h10 .i64 ((⟨b0, 0, none⟩ : Addr).add 1) fun r3 =>
  K r2 r3 x8 h10) E h7
  else
  (if (!x4) = true then
  prefix_Read.J1 (⟨b0, 0, none⟩ : Addr) (⟨b1, 0, none⟩ : Addr) true (fun h11 =>
  prefix_Read.J2 (⟨b0, 0, none⟩ : Addr) (⟨b1, 0, none⟩ : Addr) (fun x9 h12 =>
  ldI h12 .u32 ((⟨b0, 0, none⟩ : Addr).add 0) fun r4 => ldI h12 .i64 ((⟨b0, 0, none⟩ : Addr).add 1) fun r5 =>
  K r4 r5 x9 h12) E h11) (fun x10 h13 =>
  ldI h13 .u32 ((⟨b0, 0, none⟩ : Addr).add 0) fun r6 => ldI h13 .i64 ((⟨b0, 0, none⟩ : Addr).add 1) fun r7 =>
  K r6 r7 x10 h13) E h7
  else
  nilV (.tmp 38) (.const .nilIface) x6
  (strconv_Itoa.c x5 (fun x11 h14 =>
  (if (!(x11.toList == x1.toList)) = true then
  prefix_Read.J1 (⟨b0, 0, none⟩ : Addr) (⟨b1, 0, none⟩ : Addr) true (fun h15 =>
  prefix_Read.J2 (⟨b0, 0, none⟩ : Addr) (⟨b1, 0, none⟩ : Addr) (fun x12 h16 =>
  ldI h16 .u32 ((⟨b0, 0, none⟩ : Addr).add 0) fun r8 => ldI h16 .i64 ((⟨b0, 0, none⟩ : Addr).add 1) fun r9 =>
  K r8 r9 x12 h16) E h15) (fun x13 h17 =>
  ldI h17 .u32 ((⟨b0, 0, none⟩ : Addr).add 0) fun r10 => ldI h17 .i64 ((⟨b0, 0, none⟩ : Addr).add 1) fun r11 =>
  K r10 r11 x13 h17) E h14
  else
  ldI h14 .u32 ((⟨b1, 0, none⟩ : Addr).add 0) fun x14 => ldI h14 .i64 ((⟨b1, 0, none⟩ : Addr).add 1) fun x15 =>
  prefix_Check.c x14 x15 (fun x16 h18 =>
  prefix_Read.J1 (⟨b0, 0, none⟩ : Addr) (⟨b1, 0, none⟩ : Addr) (!x16) (fun h19 =>
  prefix_Read.J2 (⟨b0, 0, none⟩ : Addr) (⟨b1, 0, none⟩ : Addr) (fun x17 h20 =>
  ldI h20 .u32 ((⟨b0, 0, none⟩ : Addr).add 0) fun r12 => ldI h20 .i64 ((⟨b0, 0, none⟩ : Addr).add 1) fun r13 =>
  K r12 r13 x17 h20) E h19) (fun x18 h21 =>
  ldI h21 .u32 ((⟨b0, 0, none⟩ : Addr).add 0) fun r14 => ldI h21 .i64 ((⟨b0, 0, none⟩ : Addr).add 1) fun r15 =>
  K r14 r15 x18 h21) E h18) E h14)) E h7)
  (prefix_Read.J1 (⟨b0, 0, none⟩ : Addr) (⟨b1, 0, none⟩ : Addr) true (fun h22 =>
  prefix_Read.J2 (⟨b0, 0, none⟩ : Addr) (⟨b1, 0, none⟩ : Addr) (fun x19 h23 =>
  ldI h23 .u32 ((⟨b0, 0, none⟩ : Addr).add 0) fun r16 => ldI h23 .i64 ((⟨b0, 0, none⟩ : Addr).add 1) fun r17 =>
  K r16 r17 x19 h23) E h22) (fun x20 h24 =>
  ldI h24 .u32 ((⟨b0, 0, none⟩ : Addr).add 0) fun r18 => ldI h24 .i64 ((⟨b0, 0, none⟩ : Addr).add 1) fun r19 =>
  K r18 r19 x20 h24) E h7)))) h4) E h3) E h2) E h1) h0
structure prefix_Read.c (s0 : ByteArray) (K : Int → Int → Bool → Heap → Prop) (E : Value → Heap → Prop) (H : Heap) : Prop where
  h : prefix_Read.vc s0 (fun r0_0 r0_1 r1_0 H => ∃ H', Heap.Le H' H ∧ K r0_0 r0_1 r1_0 H') E H
def prefix_Read.F : FT := fun args K E H => match args with
  | [(.string s0)] => prefix_Read.c s0 (fun r0_0 r0_1 r1_0 H => K (.tuple #[(.agg #[(.int .u32 r0_0), (.int .i64 r0_1)]), (.bool r1_0)]) H) E H
  | _ => False
noncomputable def prefix_Read.Γ : FuncId → Option FT := Γof [(8, prefix_Parse.F), (18, prefix_Check.F), (22, strconv_Atoi.F), (23, strconv_Itoa.F), (24, strings_Cut.F)]
theorem prefix_Read.hΓ : ∀ f F, prefix_Read.Γ f = some F → CalleeOk Tryd.prog f F := Γof_ok (List.forall_mem_cons.2 ⟨prefix_Parse.ok, List.forall_mem_cons.2 ⟨prefix_Check.ok, List.forall_mem_cons.2 ⟨strconv_Atoi.ok, List.forall_mem_cons.2 ⟨strconv_Itoa.ok, List.forall_mem_cons.2 ⟨strings_Cut.ok, fun _ h => nomatch h⟩⟩⟩⟩⟩)
def prefix_Read.J1.t : CT := fun Q E fr H => lenIs 54 fr (slPA fr 2 fun x0 => slPA fr 11 fun p0 => slB fr 51 fun x1 => prefix_Read.J1 x0 p0 x1 (fun  H => Q .normal (mkF 54 [(2, (.pointer (some x0))), (11, (.pointer (some p0)))]) H) (fun y3_0 H => Q .ret (mkF 54 [(2, (.pointer (some x0))), (3, (.bool y3_0))]) H) E H)
noncomputable def prefix_Read.J1.plan : Plan := .go
theorem prefix_Read.J1.pok : PlanOk Tryd.prog prefix_Read.J1.plan (sub [1, 1, 1, 1, 1, 0, 1] prefix_Read.body) := by
  have e : PlanOk Tryd.prog prefix_Read.J1.plan (sub [1, 1, 1, 1, 1, 0, 1] prefix_Read.body) = (True) := by kernel_rfl
  exact e.mpr trivial
theorem prefix_Read.J1.eq (x0 : Addr) (p0 : Addr) (x1 : Bool) (Q : Ex → Fr → Heap → Prop) (E : Value → Heap → Prop) (H : Heap) :
    prefix_Read.J1.vc x0 p0 x1 (fun  H => Q .normal (mkF 54 [(2, (.pointer (some x0))), (11, (.pointer (some p0)))]) H) (fun y3_0 H => Q .ret (mkF 54 [(2, (.pointer (some x0))), (3, (.bool y3_0))]) H) E H = keepT [2, 11] [2, 3] (fun i => []) (wC Tryd.prog prefix_Read.Γ prefix_Read.J1.plan (sub [1, 1, 1, 1, 1, 0, 1] prefix_Read.body)) Q E (mkF 54 [(2, (.pointer (some x0))), (11, (.pointer (some p0))), (51, (.bool x1))]) H := by
  kernel_rfl
theorem prefix_Read.J1.ok : SoundCode Tryd.prog (sub [1, 1, 1, 1, 1, 0, 1] prefix_Read.body) prefix_Read.J1.t := by
  refine piece_sound (keepT_sound [2, 11] [2, 3] (fun i => []) (wC_sound prefix_Read.hΓ Tryd.hm prefix_Read.J1.plan _ prefix_Read.J1.pok)) ?_
  intro Q E fr H h
  unfold prefix_Read.J1.t at h
  obtain ⟨hl, h⟩ := lenIs_elim h
  obtain ⟨x0, q2, h⟩ := slPA_elim h
  obtain ⟨p0, q11, h⟩ := slPA_elim h
  obtain ⟨x1, q51, h⟩ := slB_elim h
  refine ⟨(mkF 54 [(2, (.pointer (some x0))), (11, (.pointer (some p0))), (51, (.bool x1))]), fun a ha => ha.mk (Nat.le_of_eq hl.symm) (List.forall_mem_cons.2 ⟨q2, List.forall_mem_cons.2 ⟨q11, List.forall_mem_cons.2 ⟨q51, fun _ h => nomatch h⟩⟩⟩), ?_⟩
  have e := prefix_Read.J1.eq x0 p0 x1 Q E H
  rw [← e]
  exact h.h
def prefix_Read.J2.t : CT := fun Q E fr H => lenIs 54 fr (slPA fr 2 fun x0 => slPA fr 11 fun p0 => prefix_Read.J2 x0 p0 (fun y3_0 H => Q .ret (mkF 54 [(2, (.pointer (some x0))), (3, (.bool y3_0))]) H) E H)
noncomputable def prefix_Read.J2.plan : Plan := .go
theorem prefix_Read.J2.pok : PlanOk Tryd.prog prefix_Read.J2.plan (sub [1, 1, 1, 1, 1, 1] prefix_Read.body) := by
  have e : PlanOk Tryd.prog prefix_Read.J2.plan (sub [1, 1, 1, 1, 1, 1] prefix_Read.body) = (True) := by kernel_rfl
  exact e.mpr trivial
theorem prefix_Read.J2.eq (x0 : Addr) (p0 : Addr) (Q : Ex → Fr → Heap → Prop) (E : Value → Heap → Prop) (H : Heap) :
    prefix_Read.J2.vc x0 p0 (fun y3_0 H => Q .ret (mkF 54 [(2, (.pointer (some x0))), (3, (.bool y3_0))]) H) E H = keepT [] [2, 3] (fun i => []) (wC Tryd.prog prefix_Read.Γ prefix_Read.J2.plan (sub [1, 1, 1, 1, 1, 1] prefix_Read.body)) Q E (mkF 54 [(2, (.pointer (some x0))), (11, (.pointer (some p0)))]) H := by
  kernel_rfl
theorem prefix_Read.J2.ok : SoundCode Tryd.prog (sub [1, 1, 1, 1, 1, 1] prefix_Read.body) prefix_Read.J2.t := by
  refine piece_sound (keepT_sound [] [2, 3] (fun i => []) (wC_sound prefix_Read.hΓ Tryd.hm prefix_Read.J2.plan _ prefix_Read.J2.pok)) ?_
  intro Q E fr H h
  unfold prefix_Read.J2.t at h
  obtain ⟨hl, h⟩ := lenIs_elim h
  obtain ⟨x0, q2, h⟩ := slPA_elim h
  obtain ⟨p0, q11, h⟩ := slPA_elim h
  refine ⟨(mkF 54 [(2, (.pointer (some x0))), (11, (.pointer (some p0)))]), fun a ha => ha.mk (Nat.le_of_eq hl.symm) (List.forall_mem_cons.2 ⟨q2, List.forall_mem_cons.2 ⟨q11, fun _ h => nomatch h⟩⟩), ?_⟩
  have e := prefix_Read.J2.eq x0 p0 Q E H
  rw [← e]
  exact h.h
noncomputable def prefix_Read.plan : Plan := .seq (.go) (.seq (.go) (.seq (.go) (.seq (.go) (.seq (.go) (.seq (.seq (.go) (.use prefix_Read.J1.t)) (.use prefix_Read.J2.t))))))
theorem prefix_Read.pok : PlanOk Tryd.prog prefix_Read.plan prefix_Read.body := by
  have e : PlanOk Tryd.prog prefix_Read.plan prefix_Read.body = ((True) ∧ ((True) ∧ ((True) ∧ ((True) ∧ ((True) ∧ (((True) ∧ (SoundCode Tryd.prog (sub [1, 1, 1, 1, 1, 0, 1] prefix_Read.body) prefix_Read.J1.t)) ∧ (SoundCode Tryd.prog (sub [1, 1, 1, 1, 1, 1] prefix_Read.body) prefix_Read.J2.t))))))) := by kernel_rfl
  exact e.mpr ⟨trivial, ⟨trivial, ⟨trivial, ⟨trivial, ⟨trivial, ⟨⟨trivial, prefix_Read.J1.ok⟩, prefix_Read.J2.ok⟩⟩⟩⟩⟩⟩
theorem prefix_Read.eq (s0 : ByteArray) (K : Value → Heap → Prop) (E : Value → Heap → Prop) (H : Heap) :
    fnT Tryd.prog Tryd.f10 (wC Tryd.prog prefix_Read.Γ prefix_Read.plan prefix_Read.body) [(.string s0)] K E H = prefix_Read.vc s0 (fun r0_0 r0_1 r1_0 H => K (.tuple #[(.agg #[(.int .u32 r0_0), (.int .i64 r0_1)]), (.bool r1_0)]) H) E H := by
  kernel_rfl
theorem prefix_Read.Fe {args : List Value} {K E : Value → Heap → Prop} {H : Heap} (h : prefix_Read.F args K E H) : ∃ s0, args = [(.string s0)] ∧ prefix_Read.c s0 (fun r0_0 r0_1 r1_0 H => K (.tuple #[(.agg #[(.int .u32 r0_0), (.int .i64 r0_1)]), (.bool r1_0)]) H) E H := by
  unfold prefix_Read.F at h
  split at h
  · exact ⟨_, rfl, h⟩
  · exact h.elim
theorem prefix_Read.ok : CalleeOk Tryd.prog 10 prefix_Read.F :=
  callee_ok prefix_Read.hΓ (fn := Tryd.f10) (c := prefix_Read.body) (T := wC Tryd.prog prefix_Read.Γ prefix_Read.plan prefix_Read.body) (by kernel_rfl) (by kernel_rfl) (by kernel_rfl) (wC_sound prefix_Read.hΓ Tryd.hm prefix_Read.plan _ prefix_Read.pok) fun _ K E H h => by
    obtain ⟨z0, e, h⟩ := prefix_Read.Fe h
    subst e
    have h2 : prefix_Read.vc z0 (fun r0_0 r0_1 r1_0 H => ∃ H', Heap.Le H' H ∧ K (.tuple #[(.agg #[(.int .u32 r0_0), (.int .i64 r0_1)]), (.bool r1_0)]) H') E H := h.h
    rw [prefix_Read.eq z0 (Fg K) E H]
    exact h2

/-! vizard/vizardref04.size -/
noncomputable def vizardref04_size.body : Code := Tryd.f38.body.getD .skip
def vizardref04_size.vc (bits0 : Int) (K : Int → Heap → Prop) (E : Value → Heap → Prop) (h0 : Heap) : Prop :=
  (0 : Int) ≤ (IntKind.i64.wrap (32 - bits0)) ∧
  K (shlI .i64 1 (IntKind.i64.wrap (32 - bits0))) h0
structure vizardref04_size.c (bits0 : Int) (K : Int → Heap → Prop) (E : Value → Heap → Prop) (H : Heap) : Prop where
  h : vizardref04_size.vc bits0 (fun r0_0 H => ∃ H', Heap.Le H' H ∧ K r0_0 H') E H
def vizardref04_size.F : FT := fun args K E H => match args with
  | [(.int .i64 bits0)] => vizardref04_size.c bits0 (fun r0_0 H => K (.int .i64 r0_0) H) E H
  | _ => False
noncomputable def vizardref04_size.Γ : FuncId → Option FT := Γof []
theorem vizardref04_size.hΓ : ∀ f F, vizardref04_size.Γ f = some F → CalleeOk Tryd.prog f F := Γof_ok (fun _ h => nomatch h)
noncomputable def vizardref04_size.plan : Plan := .go
theorem vizardref04_size.pok : PlanOk Tryd.prog vizardref04_size.plan vizardref04_size.body := by
  have e : PlanOk Tryd.prog vizardref04_size.plan vizardref04_size.body = (True) := by kernel_rfl
  exact e.mpr trivial
theorem vizardref04_size.eq (bits0 : Int) (K : Value → Heap → Prop) (E : Value → Heap → Prop) (H : Heap) :
    fnT Tryd.prog Tryd.f38 (wC Tryd.prog vizardref04_size.Γ vizardref04_size.plan vizardref04_size.body) [(.int .i64 bits0)] K E H = vizardref04_size.vc bits0 (fun r0_0 H => K (.int .i64 r0_0) H) E H := by
  kernel_rfl
theorem vizardref04_size.Fe {args : List Value} {K E : Value → Heap → Prop} {H : Heap} (h : vizardref04_size.F args K E H) : ∃ bits0, args = [(.int .i64 bits0)] ∧ vizardref04_size.c bits0 (fun r0_0 H => K (.int .i64 r0_0) H) E H := by
  unfold vizardref04_size.F at h
  split at h
  · exact ⟨_, rfl, h⟩
  · exact h.elim
theorem vizardref04_size.ok : CalleeOk Tryd.prog 38 vizardref04_size.F :=
  callee_ok vizardref04_size.hΓ (fn := Tryd.f38) (c := vizardref04_size.body) (T := wC Tryd.prog vizardref04_size.Γ vizardref04_size.plan vizardref04_size.body) (by kernel_rfl) (by kernel_rfl) (by kernel_rfl) (wC_sound vizardref04_size.hΓ Tryd.hm vizardref04_size.plan _ vizardref04_size.pok) fun _ K E H h => by
    obtain ⟨z0, e, h⟩ := vizardref04_size.Fe h
    subst e
    have h2 : vizardref04_size.vc z0 (fun r0_0 H => ∃ H', Heap.Le H' H ∧ K (.int .i64 r0_0) H') E H := h.h
    rw [vizardref04_size.eq z0 (Fg K) E H]
    exact h2

/-! vizard/vizardref04.Check -/
noncomputable def vizardref04_Check.body : Code := Tryd.f27.body.getD .skip
def vizardref04_Check.vc (p0 : Int) (p1 : Int) (K : Bool → Heap → Prop) (E : Value → Heap → Prop) (h0 : Heap) : Prop :=
  newB (.cells #[(.int .u32 p0), (.int .i64 p1)] 24) (fun b0 h1 =>
  ldI h1 .i64 ((⟨b0, 0, none⟩ : Addr).add 1) fun x0 =>
  (if (decide (x0 ≥ 0)) = true then
  ldI h1 .i64 ((⟨b0, 0, none⟩ : Addr).add 1) fun x1 =>
  (if (decide (x1 ≤ 32)) = true then
  ldI h1 .u32 ((⟨b0, 0, none⟩ : Addr).add 0) fun x2 =>
  ldI h1 .i64 ((⟨b0, 0, none⟩ : Addr).add 1) fun x3 =>
  vizardref04_size.c x3 (fun x4 h2 =>
  (eqv h2 h2 (some (.int .i64 (IntKind.i64.wrap x2))) (.int .i64 (IntKind.i64.wrap x2))) ∧
  (ldI h2 .u32 ((⟨b0, 0, none⟩ : Addr).add 0) fun x5 =>
  eqv h2 h2 (some (.int .u32 x2)) (.int .u32 x5)) ∧
  x4 ≠ (0 : Int) ∧
  K ((Int.tmod (IntKind.i64.wrap x2) x4) == 0) h2) E h1
  else
  True ∧
  True ∧
  K false h1)
  else
  True ∧
  True ∧
  K false h1)) h0
structure vizardref04_Check.c (p0 : Int) (p1 : Int) (K : Bool → Heap → Prop) (E : Value → Heap → Prop) (H : Heap) : Prop where
  h : vizardref04_Check.vc p0 p1 (fun r0_0 H => ∃ H', Heap.Le H' H ∧ K r0_0 H') E H
def vizardref04_Check.F : FT := fun args K E H => match args with
  | [(.agg ⟨[(.int .u32 p0), (.int .i64 p1)]⟩)] => vizardref04_Check.c p0 p1 (fun r0_0 H => K (.bool r0_0) H) E H
  | _ => False
noncomputable def vizardref04_Check.Γ : FuncId → Option FT := Γof [(38, vizardref04_size.F)]
theorem vizardref04_Check.hΓ : ∀ f F, vizardref04_Check.Γ f = some F → CalleeOk Tryd.prog f F := Γof_ok (List.forall_mem_cons.2 ⟨vizardref04_size.ok, fun _ h => nomatch h⟩)
noncomputable def vizardref04_Check.plan : Plan := .seq (.go) (.seq (.draw ⟨[0, 1, 2, 3, 4, 5, 6, 7, 8, 9, 10, 11, 12, 13, 14, 15, 16, 17], (dl [(0, []), (1, []), (2, []), (3, []), (4, []), (5, []), (6, []), (7, []), (8, []), (9, []), (10, []), (11, []), (12, []), (13, []), (14, [13, 8, 12, 7, 3, 6, 2, 5, 1, 4, 0]), (15, []), (16, []), (17, [])] .fin), [18]⟩) (.go))
theorem vizardref04_Check.pok : PlanOk Tryd.prog vizardref04_Check.plan vizardref04_Check.body := by
  have e : PlanOk Tryd.prog vizardref04_Check.plan vizardref04_Check.body = ((True) ∧ ((True) ∧ (True))) := by kernel_rfl
  exact e.mpr ⟨trivial, ⟨trivial, trivial⟩⟩
theorem vizardref04_Check.eq (p0 : Int) (p1 : Int) (K : Value → Heap → Prop) (E : Value → Heap → Prop) (H : Heap) :
    fnT Tryd.prog Tryd.f27 (wC Tryd.prog vizardref04_Check.Γ vizardref04_Check.plan vizardref04_Check.body) [(.agg #[(.int .u32 p0), (.int .i64 p1)])] K E H = vizardref04_Check.vc p0 p1 (fun r0_0 H => K (.bool r0_0) H) E H := by
  kernel_rfl
theorem vizardref04_Check.Fe {args : List Value} {K E : Value → Heap → Prop} {H : Heap} (h : vizardref04_Check.F args K E H) : ∃ p0 p1, args = [(.agg #[(.int .u32 p0), (.int .i64 p1)])] ∧ vizardref04_Check.c p0 p1 (fun r0_0 H => K (.bool r0_0) H) E H := by
  unfold vizardref04_Check.F at h
  split at h
  · exact ⟨_, _, rfl, h⟩
  · exact h.elim
theorem vizardref04_Check.ok : CalleeOk Tryd.prog 27 vizardref04_Check.F :=
  callee_ok vizardref04_Check.hΓ (fn := Tryd.f27) (c := vizardref04_Check.body) (T := wC Tryd.prog vizardref04_Check.Γ vizardref04_Check.plan vizardref04_Check.body) (by kernel_rfl) (by kernel_rfl) (by kernel_rfl) (wC_sound vizardref04_Check.hΓ Tryd.hm vizardref04_Check.plan _ vizardref04_Check.pok) fun _ K E H h => by
    obtain ⟨z0, z1, e, h⟩ := vizardref04_Check.Fe h
    subst e
    have h2 : vizardref04_Check.vc z0 z1 (fun r0_0 H => ∃ H', Heap.Le H' H ∧ K (.bool r0_0) H') E H := h.h
    rw [vizardref04_Check.eq z0 z1 (Fg K) E H]
    exact h2

/-! vizard/vizardref04.Print -/
noncomputable def vizardref04_Print.body : Code := Tryd.f15.body.getD .skip
def vizardref04_Print.vc (p0 : Int) (p1 : Int) (K : ByteArray → Heap → Prop) (E : Value → Heap → Prop) (h0 : Heap) : Prop :=
  newB (.cells #[(.int .u32 p0), (.int .i64 p1)] 24) (fun b0 h1 =>
  ldI h1 .u32 ((⟨b0, 0, none⟩ : Addr).add 0) fun x0 => ldI h1 .i64 ((⟨b0, 0, none⟩ : Addr).add 1) fun x1 =>
  vizardref04_Check.c x0 x1 (fun x2 h2 =>
  (if (!x2) = true then
  K (⟨#[]⟩ : ByteArray) h2
  else
  ldI h2 .u32 ((⟨b0, 0, none⟩ : Addr).add 0) fun x3 =>
  ldI h2 .i64 ((⟨b0, 0, none⟩ : Addr).add 1) fun x4 =>
  vizardref04_Text.c x3 (fun x5 h3 =>
  (ldI h3 .i64 ((⟨b0, 0, none⟩ : Addr).add 1) fun x6 =>
  eqv h3 h3 (some (.int .i64 x4)) (.int .i64 x6)) ∧
  x5.size + (⟨#[47]⟩ : ByteArray).size ≤ 9223372036854775807 ∧
  vizardref04_Number.c x4 (fun x7 h4 =>
  (x5 ++ (⟨#[47]⟩ : ByteArray)).size + x7.size ≤ 9223372036854775807 ∧
  K ((x5 ++ (⟨#[47]⟩ : ByteArray)) ++ x7) h4) E h3) E h2)) E h1) h0
structure vizardref04_Print.c (p0 : Int) (p1 : Int) (K : ByteArray → Heap → Prop) (E : Value → Heap → Prop) (H : Heap) : Prop where
  h : vizardref04_Print.vc p0 p1 (fun r0_0 H => ∃ H', Heap.Le H' H ∧ K r0_0 H') E H
def vizardref04_Print.F : FT := fun args K E H => match args with
  | [(.agg ⟨[(.int .u32 p0), (.int .i64 p1)]⟩)] => vizardref04_Print.c p0 p1 (fun r0_0 H => K (.string r0_0) H) E H
  | _ => False
noncomputable def vizardref04_Print.Γ : FuncId → Option FT := Γof [(13, vizardref04_Text.F), (26, vizardref04_Number.F), (27, vizardref04_Check.F)]
theorem vizardref04_Print.hΓ : ∀ f F, vizardref04_Print.Γ f = some F → CalleeOk Tryd.prog f F := Γof_ok (List.forall_mem_cons.2 ⟨vizardref04_Text.ok, List.forall_mem_cons.2 ⟨vizardref04_Number.ok, List.forall_mem_cons.2 ⟨vizardref04_Check.ok, fun _ h => nomatch h⟩⟩⟩)
noncomputable def vizardref04_Print.plan : Plan := .seq (.go) (.seq (.go) (.seq (.draw ⟨[0, 1, 2, 3, 4, 5, 6, 7], (dl [(0, []), (1, []), (4, []), (5, []), (2, [1, 0]), (3, []), (6, [5, 2, 4, 1, 0]), (7, [])] .fin), [8]⟩) (.go)))
theorem vizardref04_Print.pok : PlanOk Tryd.prog vizardref04_Print.plan vizardref04_Print.body := by
  have e : PlanOk Tryd.prog vizardref04_Print.plan vizardref04_Print.body = ((True) ∧ ((True) ∧ ((True) ∧ (True)))) := by kernel_rfl
  exact e.mpr ⟨trivial, ⟨trivial, ⟨trivial, trivial⟩⟩⟩
theorem vizardref04_Print.eq (p0 : Int) (p1 : Int) (K : Value → Heap → Prop) (E : Value → Heap → Prop) (H : Heap) :
    fnT Tryd.prog Tryd.f15 (wC Tryd.prog vizardref04_Print.Γ vizardref04_Print.plan vizardref04_Print.body) [(.agg #[(.int .u32 p0), (.int .i64 p1)])] K E H = vizardref04_Print.vc p0 p1 (fun r0_0 H => K (.string r0_0) H) E H := by
  kernel_rfl
theorem vizardref04_Print.Fe {args : List Value} {K E : Value → Heap → Prop} {H : Heap} (h : vizardref04_Print.F args K E H) : ∃ p0 p1, args = [(.agg #[(.int .u32 p0), (.int .i64 p1)])] ∧ vizardref04_Print.c p0 p1 (fun r0_0 H => K (.string r0_0) H) E H := by
  unfold vizardref04_Print.F at h
  split at h
  · exact ⟨_, _, rfl, h⟩
  · exact h.elim
theorem vizardref04_Print.ok : CalleeOk Tryd.prog 15 vizardref04_Print.F :=
  callee_ok vizardref04_Print.hΓ (fn := Tryd.f15) (c := vizardref04_Print.body) (T := wC Tryd.prog vizardref04_Print.Γ vizardref04_Print.plan vizardref04_Print.body) (by kernel_rfl) (by kernel_rfl) (by kernel_rfl) (wC_sound vizardref04_Print.hΓ Tryd.hm vizardref04_Print.plan _ vizardref04_Print.pok) fun _ K E H h => by
    obtain ⟨z0, z1, e, h⟩ := vizardref04_Print.Fe h
    subst e
    have h2 : vizardref04_Print.vc z0 z1 (fun r0_0 H => ∃ H', Heap.Le H' H ∧ K (.string r0_0) H') E H := h.h
    rw [vizardref04_Print.eq z0 z1 (Fg K) E H]
    exact h2

/-! vizard/vizardref04.Read -/
noncomputable def vizardref04_Read.body : Code := Tryd.f11.body.getD .skip
def vizardref04_Read.J2.vc (s0 : ByteArray) (x0 : Addr) (i0 : Int) (Kn : Int → Heap → Prop) (E : Value → Heap → Prop) (h0 : Heap) : Prop :=
  Kn (IntKind.i64.wrap (i0 + 1)) h0
structure vizardref04_Read.J2 (s0 : ByteArray) (x0 : Addr) (i0 : Int) (Kn : Int → Heap → Prop) (E : Value → Heap → Prop) (H : Heap) : Prop where
  h : vizardref04_Read.J2.vc s0 x0 i0 Kn E H
def vizardref04_Read.J4.vc (s0 : ByteArray) (x0 : Addr) (i0 : Int) (a0 : Int) (ok0 : Bool) (n0 : Int) (Kn : Int → Heap → Prop) (Kr : Bool → Heap → Prop) (E : Value → Heap → Prop) (h0 : Heap) : Prop :=
  newB (.cells #[(.int .u32 0), (.int .i64 0)] 24) (fun b0 h1 =>
  stc h1 ((⟨b0, 0, none⟩ : Addr).add 0) (.int .u32 a0) fun h2 =>
  stc h2 ((⟨b0, 0, none⟩ : Addr).add 1) (.int .i64 n0) fun h3 =>
  ldI h3 .u32 ((⟨b0, 0, none⟩ : Addr).add 0) fun x1 => ldI h3 .i64 ((⟨b0, 0, none⟩ : Addr).add 1) fun x2 =>
  vizardref04_Print.c x1 x2 (fun x3 h4 =>
  (if (x3.toList == s0.toList) = true then
  ldI h4 .u32 ((⟨b0, 0, none⟩ : Addr).add 0) fun x4 => ldI h4 .i64 ((⟨b0, 0, none⟩ : Addr).add 1) fun x5 =>
  stc h4 (x0.add 0) (.int .u32 x4) fun h5 =>
  stc h5 (x0.add 1) (.int .i64 x5) fun h6 =>
  Kr true h6
  else
  Kn (IntKind.i64.wrap (n0 + 1)) h4)) E h3) h0
structure vizardref04_Read.J4 (s0 : ByteArray) (x0 : Addr) (i0 : Int) (a0 : Int) (ok0 : Bool) (n0 : Int) (Kn : Int → Heap → Prop) (Kr : Bool → Heap → Prop) (E : Value → Heap → Prop) (H : Heap) : Prop where
  h : vizardref04_Read.J4.vc s0 x0 i0 a0 ok0 n0 Kn Kr E H
def vizardref04_Read.W3.vc (s0 : ByteArray) (x0 : Addr) (i0 : Int) (a0 : Int) (ok0 : Bool) (n0 : Int) (Kx2 : Heap → Prop) (Kr : Bool → Heap → Prop) (RR : Int → Heap → Prop) (E : Value → Heap → Prop) (h0 : Heap) : Prop :=
  (if (decide (n0 ≤ 32)) = true then
  (if ok0 = true then
  vizardref04_Read.J4 s0 x0 i0 a0 ok0 n0 RR Kr E h0
  else
  Kx2 h0)
  else
  Kx2 h0)
structure vizardref04_Read.W3 (s0 : ByteArray) (x0 : Addr) (i0 : Int) (a0 : Int) (ok0 : Bool) (n0 : Int) (Kx2 : Heap → Prop) (Kr : Bool → Heap → Prop) (E : Value → Heap → Prop) (H : Heap) : Prop where
  h : Loop (fun (RR : Int → Heap → Prop) (s : Int) (H : Heap) => vizardref04_Read.W3.vc s0 x0 i0 a0 ok0 s Kx2 Kr (fun n0 H => RR (n0) H) E H) (n0) H
def vizardref04_Read.W1.vc (s0 : ByteArray) (x0 : Addr) (i0 : Int) (Kx0 : Heap → Prop) (Kr : Bool → Heap → Prop) (RR : Int → Heap → Prop) (E : Value → Heap → Prop) (h0 : Heap) : Prop :=
  (if (decide (i0 < (s0.size : Int))) = true then
  (0 : Int) ≤ i0 ∧ i0 < (s0.size : Int) ∧
  (if ((bt s0 i0) != 47) = true then
  vizardref04_Read.J2 s0 x0 i0 RR E h0
  else
  (0 : Int) ≤ i0 ∧ i0 ≤ (s0.size : Int) ∧
  vizardref04_Parse.c (s0.extract 0 i0.toNat) (fun x1 x2 h2 =>
  vizardref04_Read.W3 s0 x0 i0 x1 x2 0 (fun h3 =>
  vizardref04_Read.J2 s0 x0 i0 RR E h3) Kr E h2) E h0)
  else
  Kx0 h0)
structure vizardref04_Read.W1 (s0 : ByteArray) (x0 : Addr) (i0 : Int) (Kx0 : Heap → Prop) (Kr : Bool → Heap → Prop) (E : Value → Heap → Prop) (H : Heap) : Prop where
  h : Loop (fun (RR : Int → Heap → Prop) (s : Int) (H : Heap) => vizardref04_Read.W1.vc s0 x0 s Kx0 Kr (fun i0 H => RR (i0) H) E H) (i0) H
def vizardref04_Read.vc (s0 : ByteArray) (K : Int → Int → Bool → Heap → Prop) (E : Value → Heap → Prop) (h0 : Heap) : Prop :=
  newB (.cells #[(.int .u32 0), (.int .i64 0)] 24) (fun b0 h1 =>
  vizardref04_Read.W1 s0 (⟨b0, 0, none⟩ : Addr) 0 (fun h2 =>
  stc h2 ((⟨b0, 0, none⟩ : Addr).add 0) (.int .u32 0) fun h3 =>
  stc h3 ((⟨b0, 0, none⟩ : Addr).add 1) (.int .i64 0) fun h4 =>
  ldI h4 .u32 ((⟨b0, 0, none⟩ : Addr).add 0) fun r0 => ldI h4 .i64 ((⟨b0, 0, none⟩ : Addr).add 1) fun r1 =>
  K r0 r1 false h4) (fun x0 h5 =>
  ldI h5 .u32 ((⟨b0, 0, none⟩ : Addr).add 0) fun r2 => ldI h5 .i64 ((⟨b0, 0, none⟩ : Addr).add 1) fun r3 =>
  K r2 r3 x0 h5) E h1) h0
structure vizardref04_Read.c (s0 : ByteArray) (K : Int → Int → Bool → Heap → Prop) (E : Value → Heap → Prop) (H : Heap) : Prop where
  h : vizardref04_Read.vc s0 (fun r0_0 r0_1 r1_0 H => ∃ H', Heap.Le H' H ∧ K r0_0 r0_1 r1_0 H') E H
def vizardref04_Read.F : FT := fun args K E H => match args with
  | [(.string s0)] => vizardref04_Read.c s0 (fun r0_0 r0_1 r1_0 H => K (.tuple #[(.agg #[(.int .u32 r0_0), (.int .i64 r0_1)]), (.bool r1_0)]) H) E H
  | _ => False
noncomputable def vizardref04_Read.Γ : FuncId → Option FT := Γof [(9, vizardref04_Parse.F), (15, vizardref04_Print.F)]
theorem vizardref04_Read.hΓ : ∀ f F, vizardref04_Read.Γ f = some F → CalleeOk Tryd.prog f F := Γof_ok (List.forall_mem_cons.2 ⟨vizardref04_Parse.ok, List.forall_mem_cons.2 ⟨vizardref04_Print.ok, fun _ h => nomatch h⟩⟩)
def vizardref04_Read.J2.t : CT := fun Q E fr H => lenIs 42 fr (slS fr 0 fun s0 => slPA fr 2 fun x0 => slI fr 4 .i64 fun i0 => vizardref04_Read.J2 s0 x0 i0 (fun y4_0 H => Q .normal (mkF 42 [(0, (.string s0)), (2, (.pointer (some x0))), (4, (.int .i64 y4_0))]) H) E H)
noncomputable def vizardref04_Read.J2.plan : Plan := .go
theorem vizardref04_Read.J2.pok : PlanOk Tryd.prog vizardref04_Read.J2.plan (sub [1, 0, 1, 0, 0, 1, 1] vizardref04_Read.body) := by
  have e : PlanOk Tryd.prog vizardref04_Read.J2.plan (sub [1, 0, 1, 0, 0, 1, 1] vizardref04_Read.body) = (True) := by kernel_rfl
  exact e.mpr trivial
theorem vizardref04_Read.J2.eq (s0 : ByteArray) (x0 : Addr) (i0 : Int) (Q : Ex → Fr → Heap → Prop) (E : Value → Heap → Prop) (H : Heap) :
    vizardref04_Read.J2.vc s0 x0 i0 (fun y4_0 H => Q .normal (mkF 42 [(0, (.string s0)), (2, (.pointer (some x0))), (4, (.int .i64 y4_0))]) H) E H = keepT [0, 2, 4] [] (fun i => []) (wC Tryd.prog vizardref04_Read.Γ vizardref04_Read.J2.plan (sub [1, 0, 1, 0, 0, 1, 1] vizardref04_Read.body)) Q E (mkF 42 [(0, (.string s0)), (2, (.pointer (some x0))), (4, (.int .i64 i0))]) H := by
  kernel_rfl
theorem vizardref04_Read.J2.ok : SoundCode Tryd.prog (sub [1, 0, 1, 0, 0, 1, 1] vizardref04_Read.body) vizardref04_Read.J2.t := by
  refine piece_sound (keepT_sound [0, 2, 4] [] (fun i => []) (wC_sound vizardref04_Read.hΓ Tryd.hm vizardref04_Read.J2.plan _ vizardref04_Read.J2.pok)) ?_
  intro Q E fr H h
  unfold vizardref04_Read.J2.t at h
  obtain ⟨hl, h⟩ := lenIs_elim h
  obtain ⟨s0, q0, h⟩ := slS_elim h
  obtain ⟨x0, q2, h⟩ := slPA_elim h
  obtain ⟨i0, q4, h⟩ := slI_elim h
  refine ⟨(mkF 42 [(0, (.string s0)), (2, (.pointer (some x0))), (4, (.int .i64 i0))]), fun a ha => ha.mk (Nat.le_of_eq hl.symm) (List.forall_mem_cons.2 ⟨q0, List.forall_mem_cons.2 ⟨q2, List.forall_mem_cons.2 ⟨q4, fun _ h => nomatch h⟩⟩⟩), ?_⟩
  have e := vizardref04_Read.J2.eq s0 x0 i0 Q E H
  rw [← e]
  exact h.h
def vizardref04_Read.J4.t : CT := fun Q E fr H => lenIs 42 fr (slS fr 0 fun s0 => slPA fr 2 fun x0 => slI fr 4 .i64 fun i0 => slI fr 5 .u32 fun a0 => slB fr 6 fun ok0 => slI fr 7 .i64 fun n0 => vizardref04_Read.J4 s0 x0 i0 a0 ok0 n0 (fun y7_0 H => Q .normal (mkF 42 [(0, (.string s0)), (2, (.pointer (some x0))), (4, (.int .i64 i0)), (5, (.int .u32 a0)), (6, (.bool ok0)), (7, (.int .i64 y7_0))]) H) (fun y3_0 H => Q .ret (mkF 42 [(2, (.pointer (some x0))), (3, (.bool y3_0))]) H) E H)
noncomputable def vizardref04_Read.J4.plan : Plan := .go
theorem vizardref04_Read.J4.pok : PlanOk Tryd.prog vizardref04_Read.J4.plan (sub [1, 0, 1, 0, 0, 1, 0, 0, 1, 1, 1, 0, 0, 1] vizardref04_Read.body) := by
  have e : PlanOk Tryd.prog vizardref04_Read.J4.plan (sub [1, 0, 1, 0, 0, 1, 0, 0, 1, 1, 1, 0, 0, 1] vizardref04_Read.body) = (True) := by kernel_rfl
  exact e.mpr trivial
theorem vizardref04_Read.J4.eq (s0 : ByteArray) (x0 : Addr) (i0 : Int) (a0 : Int) (ok0 : Bool) (n0 : Int) (Q : Ex → Fr → Heap → Prop) (E : Value → Heap → Prop) (H : Heap) :
    vizardref04_Read.J4.vc s0 x0 i0 a0 ok0 n0 (fun y7_0 H => Q .normal (mkF 42 [(0, (.string s0)), (2, (.pointer (some x0))), (4, (.int .i64 i0)), (5, (.int .u32 a0)), (6, (.bool ok0)), (7, (.int .i64 y7_0))]) H) (fun y3_0 H => Q .ret (mkF 42 [(2, (.pointer (some x0))), (3, (.bool y3_0))]) H) E H = keepT [0, 2, 4, 5, 6, 7] [2, 3] (fun i => []) (wC Tryd.prog vizardref04_Read.Γ vizardref04_Read.J4.plan (sub [1, 0, 1, 0, 0, 1, 0, 0, 1, 1, 1, 0, 0, 1] vizardref04_Read.body)) Q E (mkF 42 [(0, (.string s0)), (2, (.pointer (some x0))), (4, (.int .i64 i0)), (5, (.int .u32 a0)), (6, (.bool ok0)), (7, (.int .i64 n0))]) H := by
  kernel_rfl
theorem vizardref04_Read.J4.ok : SoundCode Tryd.prog (sub [1, 0, 1, 0, 0, 1, 0, 0, 1, 1, 1, 0, 0, 1] vizardref04_Read.body) vizardref04_Read.J4.t := by
  refine piece_sound (keepT_sound [0, 2, 4, 5, 6, 7] [2, 3] (fun i => []) (wC_sound vizardref04_Read.hΓ Tryd.hm vizardref04_Read.J4.plan _ vizardref04_Read.J4.pok)) ?_
  intro Q E fr H h
  unfold vizardref04_Read.J4.t at h
  obtain ⟨hl, h⟩ := lenIs_elim h
  obtain ⟨s0, q0, h⟩ := slS_elim h
  obtain ⟨x0, q2, h⟩ := slPA_elim h
  obtain ⟨i0, q4, h⟩ := slI_elim h
  obtain ⟨a0, q5, h⟩ := slI_elim h
  obtain ⟨ok0, q6, h⟩ := slB_elim h
  obtain ⟨n0, q7, h⟩ := slI_elim h
  refine ⟨(mkF 42 [(0, (.string s0)), (2, (.pointer (some x0))), (4, (.int .i64 i0)), (5, (.int .u32 a0)), (6, (.bool ok0)), (7, (.int .i64 n0))]), fun a ha => ha.mk (Nat.le_of_eq hl.symm) (List.forall_mem_cons.2 ⟨q0, List.forall_mem_cons.2 ⟨q2, List.forall_mem_cons.2 ⟨q4, List.forall_mem_cons.2 ⟨q5, List.forall_mem_cons.2 ⟨q6, List.forall_mem_cons.2 ⟨q7, fun _ h => nomatch h⟩⟩⟩⟩⟩⟩), ?_⟩
  have e := vizardref04_Read.J4.eq s0 x0 i0 a0 ok0 n0 Q E H
  rw [← e]
  exact h.h
def vizardref04_Read.W3.t : CT := fun Q E fr H => lenIs 42 fr (slS fr 0 fun s0 => slPA fr 2 fun x0 => slI fr 4 .i64 fun i0 => slI fr 5 .u32 fun a0 => slB fr 6 fun ok0 => slI fr 7 .i64 fun n0 => vizardref04_Read.W3 s0 x0 i0 a0 ok0 n0 (fun  H => Q (.exit 2) (mkF 42 [(0, (.string s0)), (2, (.pointer (some x0))), (4, (.int .i64 i0))]) H) (fun y3_0 H => Q .ret (mkF 42 [(2, (.pointer (some x0))), (3, (.bool y3_0))]) H) E H)
noncomputable def vizardref04_Read.W3.plan : Plan := .seq (.go) (.use vizardref04_Read.J4.t)
theorem vizardref04_Read.W3.pok : PlanOk Tryd.prog vizardref04_Read.W3.plan (sub [1, 0, 1, 0, 0, 1, 0, 0, 1, 1, 1, 0, 0] vizardref04_Read.body) := by
  have e : PlanOk Tryd.prog vizardref04_Read.W3.plan (sub [1, 0, 1, 0, 0, 1, 0, 0, 1, 1, 1, 0, 0] vizardref04_Read.body) = ((True) ∧ (SoundCode Tryd.prog (sub [1, 0, 1, 0, 0, 1, 0, 0, 1, 1, 1, 0, 0, 1] vizardref04_Read.body) vizardref04_Read.J4.t)) := by kernel_rfl
  exact e.mpr ⟨trivial, vizardref04_Read.J4.ok⟩
theorem vizardref04_Read.W3.eq (s0 : ByteArray) (x0 : Addr) (i0 : Int) (a0 : Int) (ok0 : Bool) (Q : Ex → Fr → Heap → Prop) (E : Value → Heap → Prop) (RR : Fr → Heap → Prop) (s : Int) (H : Heap) :
    (fun (RR : Int → Heap → Prop) (s : Int) (H : Heap) => vizardref04_Read.W3.vc s0 x0 i0 a0 ok0 s (fun  H => Q (.exit 2) (mkF 42 [(0, (.string s0)), (2, (.pointer (some x0))), (4, (.int .i64 i0))]) H) (fun y3_0 H => Q .ret (mkF 42 [(2, (.pointer (some x0))), (3, (.bool y3_0))]) H) (fun n0 H => RR (n0) H) E H) (fun s' H' => RR ((fun (s : Int) => (mkF 42 [(0, (.string s0)), (2, (.pointer (some x0))), (4, (.int .i64 i0)), (5, (.int .u32 a0)), (6, (.bool ok0)), (7, (.int .i64 s))])) s') H') s H = keepT [0, 2, 4, 5, 6, 7] [2, 3] (fun i => if i = 2 then [0, 2, 4] else []) (wC Tryd.prog vizardref04_Read.Γ vizardref04_Read.W3.plan (sub [1, 0, 1, 0, 0, 1, 0, 0, 1, 1, 1, 0, 0] vizardref04_Read.body)) (fun e fr' H' => match e with | .normal => RR fr' H' | .exit id => Q (.exit id) fr' H' | .ret => Q .ret fr' H') E ((fun (s : Int) => (mkF 42 [(0, (.string s0)), (2, (.pointer (some x0))), (4, (.int .i64 i0)), (5, (.int .u32 a0)), (6, (.bool ok0)), (7, (.int .i64 s))])) s) H := by
  kernel_rfl
theorem vizardref04_Read.W3.ok : SoundCode Tryd.prog (sub [1, 0, 1, 0, 0, 1, 0, 0, 1, 1, 1, 0] vizardref04_Read.body) vizardref04_Read.W3.t := by
  have e : (sub [1, 0, 1, 0, 0, 1, 0, 0, 1, 1, 1, 0] vizardref04_Read.body) = .loop (sub [1, 0, 1, 0, 0, 1, 0, 0, 1, 1, 1, 0, 0] vizardref04_Read.body) := by kernel_rfl
  rw [e]
  refine piece_sound (loopN_sound (keepT_sound [0, 2, 4, 5, 6, 7] [2, 3] (fun i => if i = 2 then [0, 2, 4] else []) (wC_sound vizardref04_Read.hΓ Tryd.hm vizardref04_Read.W3.plan _ vizardref04_Read.W3.pok))) ?_
  intro Q E fr H h
  unfold vizardref04_Read.W3.t at h
  obtain ⟨hl, h⟩ := lenIs_elim h
  obtain ⟨s0, q0, h⟩ := slS_elim h
  obtain ⟨x0, q2, h⟩ := slPA_elim h
  obtain ⟨i0, q4, h⟩ := slI_elim h
  obtain ⟨a0, q5, h⟩ := slI_elim h
  obtain ⟨ok0, q6, h⟩ := slB_elim h
  obtain ⟨n0, q7, h⟩ := slI_elim h
  obtain ⟨m, h⟩ := h.h
  refine ⟨(mkF 42 [(0, (.string s0)), (2, (.pointer (some x0))), (4, (.int .i64 i0)), (5, (.int .u32 a0)), (6, (.bool ok0)), (7, (.int .i64 n0))]), fun a ha => ha.mk (Nat.le_of_eq hl.symm) (List.forall_mem_cons.2 ⟨q0, List.forall_mem_cons.2 ⟨q2, List.forall_mem_cons.2 ⟨q4, List.forall_mem_cons.2 ⟨q5, List.forall_mem_cons.2 ⟨q6, List.forall_mem_cons.2 ⟨q7, fun _ h => nomatch h⟩⟩⟩⟩⟩⟩), m, ?_⟩
  have e := loopS_eq (B := (fun (RR : Int → Heap → Prop) (s : Int) (H : Heap) => vizardref04_Read.W3.vc s0 x0 i0 a0 ok0 s (fun  H => Q (.exit 2) (mkF 42 [(0, (.string s0)), (2, (.pointer (some x0))), (4, (.int .i64 i0))]) H) (fun y3_0 H => Q .ret (mkF 42 [(2, (.pointer (some x0))), (3, (.bool y3_0))]) H) (fun n0 H => RR (n0) H) E H)) (A := keepT [0, 2, 4, 5, 6, 7] [2, 3] (fun i => if i = 2 then [0, 2, 4] else []) (wC Tryd.prog vizardref04_Read.Γ vizardref04_Read.W3.plan (sub [1, 0, 1, 0, 0, 1, 0, 0, 1, 1, 1, 0, 0] vizardref04_Read.body))) (m := (fun (s : Int) => (mkF 42 [(0, (.string s0)), (2, (.pointer (some x0))), (4, (.int .i64 i0)), (5, (.int .u32 a0)), (6, (.bool ok0)), (7, (.int .i64 s))]))) (Q := Q) (E := E) (fun RR s H => vizardref04_Read.W3.eq s0 x0 i0 a0 ok0 Q E RR s H) m (n0) H
  exact cast e h
def vizardref04_Read.W1.t : CT := fun Q E fr H => lenIs 42 fr (slS fr 0 fun s0 => slPA fr 2 fun x0 => slI fr 4 .i64 fun i0 => vizardref04_Read.W1 s0 x0 i0 (fun  H => Q (.exit 0) (mkF 42 [(2, (.pointer (some x0)))]) H) (fun y3_0 H => Q .ret (mkF 42 [(2, (.pointer (some x0))), (3, (.bool y3_0))]) H) E H)
noncomputable def vizardref04_Read.W1.plan : Plan := .seq (.go) (.seq (.block (.seq (.go) (.seq (.go) (.seq (.go) (.block (.use vizardref04_Read.W3.t)))))) (.use vizardref04_Read.J2.t))
theorem vizardref04_Read.W1.pok : PlanOk Tryd.prog vizardref04_Read.W1.plan (sub [1, 0, 1, 0, 0] vizardref04_Read.body) := by
  have e : PlanOk Tryd.prog vizardref04_Read.W1.plan (sub [1, 0, 1, 0, 0] vizardref04_Read.body) = ((True) ∧ (((True) ∧ ((True) ∧ ((True) ∧ (SoundCode Tryd.prog (sub [1, 0, 1, 0, 0, 1, 0, 0, 1, 1, 1, 0] vizardref04_Read.body) vizardref04_Read.W3.t)))) ∧ (SoundCode Tryd.prog (sub [1, 0, 1, 0, 0, 1, 1] vizardref04_Read.body) vizardref04_Read.J2.t))) := by kernel_rfl
  exact e.mpr ⟨trivial, ⟨⟨trivial, ⟨trivial, ⟨trivial, vizardref04_Read.W3.ok⟩⟩⟩, vizardref04_Read.J2.ok⟩⟩
theorem vizardref04_Read.W1.eq (s0 : ByteArray) (x0 : Addr) (Q : Ex → Fr → Heap → Prop) (E : Value → Heap → Prop) (RR : Fr → Heap → Prop) (s : Int) (H : Heap) :
    (fun (RR : Int → Heap → Prop) (s : Int) (H : Heap) => vizardref04_Read.W1.vc s0 x0 s (fun  H => Q (.exit 0) (mkF 42 [(2, (.pointer (some x0)))]) H) (fun y3_0 H => Q .ret (mkF 42 [(2, (.pointer (some x0))), (3, (.bool y3_0))]) H) (fun i0 H => RR (i0) H) E H) (fun s' H' => RR ((fun (s : Int) => (mkF 42 [(0, (.string s0)), (2, (.pointer (some x0))), (4, (.int .i64 s))])) s') H') s H = keepT [0, 2, 4] [2, 3] (fun i => if i = 0 then [2] else []) (wC Tryd.prog vizardref04_Read.Γ vizardref04_Read.W1.plan (sub [1, 0, 1, 0, 0] vizardref04_Read.body)) (fun e fr' H' => match e with | .normal => RR fr' H' | .exit id => Q (.exit id) fr' H' | .ret => Q .ret fr' H') E ((fun (s : Int) => (mkF 42 [(0, (.string s0)), (2, (.pointer (some x0))), (4, (.int .i64 s))])) s) H := by
  kernel_rfl
theorem vizardref04_Read.W1.ok : SoundCode Tryd.prog (sub [1, 0, 1, 0] vizardref04_Read.body) vizardref04_Read.W1.t := by
  have e : (sub [1, 0, 1, 0] vizardref04_Read.body) = .loop (sub [1, 0, 1, 0, 0] vizardref04_Read.body) := by kernel_rfl
  rw [e]
  refine piece_sound (loopN_sound (keepT_sound [0, 2, 4] [2, 3] (fun i => if i = 0 then [2] else []) (wC_sound vizardref04_Read.hΓ Tryd.hm vizardref04_Read.W1.plan _ vizardref04_Read.W1.pok))) ?_
  intro Q E fr H h
  unfold vizardref04_Read.W1.t at h
  obtain ⟨hl, h⟩ := lenIs_elim h
  obtain ⟨s0, q0, h⟩ := slS_elim h
  obtain ⟨x0, q2, h⟩ := slPA_elim h
  obtain ⟨i0, q4, h⟩ := slI_elim h
  obtain ⟨m, h⟩ := h.h
  refine ⟨(mkF 42 [(0, (.string s0)), (2, (.pointer (some x0))), (4, (.int .i64 i0))]), fun a ha => ha.mk (Nat.le_of_eq hl.symm) (List.forall_mem_cons.2 ⟨q0, List.forall_mem_cons.2 ⟨q2, List.forall_mem_cons.2 ⟨q4, fun _ h => nomatch h⟩⟩⟩), m, ?_⟩
  have e := loopS_eq (B := (fun (RR : Int → Heap → Prop) (s : Int) (H : Heap) => vizardref04_Read.W1.vc s0 x0 s (fun  H => Q (.exit 0) (mkF 42 [(2, (.pointer (some x0)))]) H) (fun y3_0 H => Q .ret (mkF 42 [(2, (.pointer (some x0))), (3, (.bool y3_0))]) H) (fun i0 H => RR (i0) H) E H)) (A := keepT [0, 2, 4] [2, 3] (fun i => if i = 0 then [2] else []) (wC Tryd.prog vizardref04_Read.Γ vizardref04_Read.W1.plan (sub [1, 0, 1, 0, 0] vizardref04_Read.body))) (m := (fun (s : Int) => (mkF 42 [(0, (.string s0)), (2, (.pointer (some x0))), (4, (.int .i64 s))]))) (Q := Q) (E := E) (fun RR s H => vizardref04_Read.W1.eq s0 x0 Q E RR s H) m (i0) H
  exact cast e h
noncomputable def vizardref04_Read.plan : Plan := .seq (.go) (.seq (.seq (.go) (.block (.use vizardref04_Read.W1.t))) (.go))
theorem vizardref04_Read.pok : PlanOk Tryd.prog vizardref04_Read.plan vizardref04_Read.body := by
  have e : PlanOk Tryd.prog vizardref04_Read.plan vizardref04_Read.body = ((True) ∧ (((True) ∧ (SoundCode Tryd.prog (sub [1, 0, 1, 0] vizardref04_Read.body) vizardref04_Read.W1.t)) ∧ (True))) := by kernel_rfl
  exact e.mpr ⟨trivial, ⟨⟨trivial, vizardref04_Read.W1.ok⟩, trivial⟩⟩
theorem vizardref04_Read.eq (s0 : ByteArray) (K : Value → Heap → Prop) (E : Value → Heap → Prop) (H : Heap) :
    fnT Tryd.prog Tryd.f11 (wC Tryd.prog vizardref04_Read.Γ vizardref04_Read.plan vizardref04_Read.body) [(.string s0)] K E H = vizardref04_Read.vc s0 (fun r0_0 r0_1 r1_0 H => K (.tuple #[(.agg #[(.int .u32 r0_0), (.int .i64 r0_1)]), (.bool r1_0)]) H) E H := by
  kernel_rfl
theorem vizardref04_Read.Fe {args : List Value} {K E : Value → Heap → Prop} {H : Heap} (h : vizardref04_Read.F args K E H) : ∃ s0, args = [(.string s0)] ∧ vizardref04_Read.c s0 (fun r0_0 r0_1 r1_0 H => K (.tuple #[(.agg #[(.int .u32 r0_0), (.int .i64 r0_1)]), (.bool r1_0)]) H) E H := by
  unfold vizardref04_Read.F at h
  split at h
  · exact ⟨_, rfl, h⟩
  · exact h.elim
theorem vizardref04_Read.ok : CalleeOk Tryd.prog 11 vizardref04_Read.F :=
  callee_ok vizardref04_Read.hΓ (fn := Tryd.f11) (c := vizardref04_Read.body) (T := wC Tryd.prog vizardref04_Read.Γ vizardref04_Read.plan vizardref04_Read.body) (by kernel_rfl) (by kernel_rfl) (by kernel_rfl) (wC_sound vizardref04_Read.hΓ Tryd.hm vizardref04_Read.plan _ vizardref04_Read.pok) fun _ K E H h => by
    obtain ⟨z0, e, h⟩ := vizardref04_Read.Fe h
    subst e
    have h2 : vizardref04_Read.vc z0 (fun r0_0 r0_1 r1_0 H => ∃ H', Heap.Le H' H ∧ K (.tuple #[(.agg #[(.int .u32 r0_0), (.int .i64 r0_1)]), (.bool r1_0)]) H') E H := h.h
    rw [vizardref04_Read.eq z0 (Fg K) E H]
    exact h2

/-! vizard/prefix.Text -/
noncomputable def prefix_Text.body : Code := Tryd.f12.body.getD .skip
def prefix_Text.J2.vc (a0 : Int) (l0 : Option Addr) (l1 : Nat) (l2 : Nat) (x0 : Int) (Kn : Int → Heap → Prop) (E : Value → Heap → Prop) (h0 : Heap) : Prop :=
  Kn (IntKind.i64.wrap (x0 + 1)) h0
structure prefix_Text.J2 (a0 : Int) (l0 : Option Addr) (l1 : Nat) (l2 : Nat) (x0 : Int) (Kn : Int → Heap → Prop) (E : Value → Heap → Prop) (H : Heap) : Prop where
  h : prefix_Text.J2.vc a0 l0 l1 l2 x0 Kn E H
def prefix_Text.W1.vc (a0 : Int) (l0 : Option Addr) (l1 : Nat) (l2 : Nat) (x0 : Int) (Kx0 : Option Addr → Nat → Nat → Heap → Prop) (RR : Option Addr → Nat → Nat → Int → Heap → Prop) (E : Value → Heap → Prop) (h0 : Heap) : Prop :=
  (if (decide (x0 < 4)) = true then
  (0 : Int) ≤ (IntKind.i64.wrap (24 - (IntKind.i64.wrap (8 * x0)))) ∧
  strconv_Itoa.c (IntKind.i64.wrap (bits .and .u32 (shrI .u32 a0 (IntKind.i64.wrap (24 - (IntKind.i64.wrap (8 * x0))))) 255)) (fun x1 h1 =>
  newB (.cells #[(.string x1)] 9) (fun b0 h2 =>
  rdRow h2 (some (⟨b0, 0, none⟩ : Addr)) (1 * 1) fun cs0 =>
  appT 9 (.string (⟨#[]⟩ : ByteArray)) l0 l1 1 l2 1 16 cs0 (fun p0 n0 c0 h3 =>
  prefix_Text.J2 a0 p0 n0 c0 x0 (fun x2 h4 =>
  RR p0 n0 c0 x2 h4) E h3) h2) h1) E h0
  else
  Kx0 l0 l1 l2 h0)
structure prefix_Text.W1 (a0 : Int) (l0 : Option Addr) (l1 : Nat) (l2 : Nat) (x0 : Int) (Kx0 : Option Addr → Nat → Nat → Heap → Prop) (E : Value → Heap → Prop) (H : Heap) : Prop where
  h : Loop (fun (RR : Option Addr × Nat × Nat × Int → Heap → Prop) (s : Option Addr × Nat × Nat × Int) (H : Heap) => prefix_Text.W1.vc a0 s.1 s.2.1 s.2.2.1 s.2.2.2 Kx0 (fun l0 l1 l2 x0 H => RR (l0, l1, l2, x0) H) E H) (l0, l1, l2, x0) H
def prefix_Text.vc (a0 : Int) (K : ByteArray → Heap → Prop) (E : Value → Heap → Prop) (h0 : Heap) : Prop :=
  prefix_Text.W1 a0 none 0 0 0 (fun l0 l1 l2 h1 =>
  strings_Join.c l0 l1 l2 (⟨#[46]⟩ : ByteArray) K E h1) E h0
structure prefix_Text.c (a0 : Int) (K : ByteArray → Heap → Prop) (E : Value → Heap → Prop) (H : Heap) : Prop where
  h : prefix_Text.vc a0 (fun r0_0 H => ∃ H', Heap.Le H' H ∧ K r0_0 H') E H
def prefix_Text.F : FT := fun args K E H => match args with
  | [(.int .u32 a0)] => prefix_Text.c a0 (fun r0_0 H => K (.string r0_0) H) E H
  | _ => False
noncomputable def prefix_Text.Γ : FuncId → Option FT := Γof [(23, strconv_Itoa.F), (25, strings_Join.F)]
theorem prefix_Text.hΓ : ∀ f F, prefix_Text.Γ f = some F → CalleeOk Tryd.prog f F := Γof_ok (List.forall_mem_cons.2 ⟨strconv_Itoa.ok, List.forall_mem_cons.2 ⟨strings_Join.ok, fun _ h => nomatch h⟩⟩)
def prefix_Text.J2.t : CT := fun Q E fr H => lenIs 22 fr (slI fr 0 .u32 fun a0 => slSl fr 3 fun l0 l1 l2 => slI fr 5 .i64 fun x0 => prefix_Text.J2 a0 l0 l1 l2 x0 (fun y5_0 H => Q .normal (mkF 22 [(0, (.int .u32 a0)), (3, (.slice l0 l1 l2)), (5, (.int .i64 y5_0))]) H) E H)
noncomputable def prefix_Text.J2.plan : Plan := .go
theorem prefix_Text.J2.pok : PlanOk Tryd.prog prefix_Text.J2.plan (sub [1, 1, 0, 1, 0, 0, 1, 1, 1] prefix_Text.body) := by
  have e : PlanOk Tryd.prog prefix_Text.J2.plan (sub [1, 1, 0, 1, 0, 0, 1, 1, 1] prefix_Text.body) = (True) := by kernel_rfl
  exact e.mpr trivial
theorem prefix_Text.J2.eq (a0 : Int) (l0 : Option Addr) (l1 : Nat) (l2 : Nat) (x0 : Int) (Q : Ex → Fr → Heap → Prop) (E : Value → Heap → Prop) (H : Heap) :
    prefix_Text.J2.vc a0 l0 l1 l2 x0 (fun y5_0 H => Q .normal (mkF 22 [(0, (.int .u32 a0)), (3, (.slice l0 l1 l2)), (5, (.int .i64 y5_0))]) H) E H = keepT [0, 3, 5] [] (fun i => []) (wC Tryd.prog prefix_Text.Γ prefix_Text.J2.plan (sub [1, 1, 0, 1, 0, 0, 1, 1, 1] prefix_Text.body)) Q E (mkF 22 [(0, (.int .u32 a0)), (3, (.slice l0 l1 l2)), (5, (.int .i64 x0))]) H := by
  kernel_rfl
theorem prefix_Text.J2.ok : SoundCode Tryd.prog (sub [1, 1, 0, 1, 0, 0, 1, 1, 1] prefix_Text.body) prefix_Text.J2.t := by
  refine piece_sound (keepT_sound [0, 3, 5] [] (fun i => []) (wC_sound prefix_Text.hΓ Tryd.hm prefix_Text.J2.plan _ prefix_Text.J2.pok)) ?_
  intro Q E fr H h
  unfold prefix_Text.J2.t at h
  obtain ⟨hl, h⟩ := lenIs_elim h
  obtain ⟨a0, q0, h⟩ := slI_elim h
  obtain ⟨l0, l1, l2, q3, h⟩ := slSl_elim h
  obtain ⟨x0, q5, h⟩ := slI_elim h
  refine ⟨(mkF 22 [(0, (.int .u32 a0)), (3, (.slice l0 l1 l2)), (5, (.int .i64 x0))]), fun a ha => ha.mk (Nat.le_of_eq hl.symm) (List.forall_mem_cons.2 ⟨q0, List.forall_mem_cons.2 ⟨q3, List.forall_mem_cons.2 ⟨q5, fun _ h => nomatch h⟩⟩⟩), ?_⟩
  have e := prefix_Text.J2.eq a0 l0 l1 l2 x0 Q E H
  rw [← e]
  exact h.h
def prefix_Text.W1.t : CT := fun Q E fr H => lenIs 22 fr (slI fr 0 .u32 fun a0 => slSl fr 3 fun l0 l1 l2 => slI fr 5 .i64 fun x0 => prefix_Text.W1 a0 l0 l1 l2 x0 (fun y3_0 y3_1 y3_2 H => Q (.exit 0) (mkF 22 [(3, (.slice y3_0 y3_1 y3_2))]) H) E H)
noncomputable def prefix_Text.W1.plan : Plan := .seq (.go) (.seq (.go) (.seq (.go) (.use prefix_Text.J2.t)))
theorem prefix_Text.W1.pok : PlanOk Tryd.prog prefix_Text.W1.plan (sub [1, 1, 0, 1, 0, 0] prefix_Text.body) := by
  have e : PlanOk Tryd.prog prefix_Text.W1.plan (sub [1, 1, 0, 1, 0, 0] prefix_Text.body) = ((True) ∧ ((True) ∧ ((True) ∧ (SoundCode Tryd.prog (sub [1, 1, 0, 1, 0, 0, 1, 1, 1] prefix_Text.body) prefix_Text.J2.t)))) := by kernel_rfl
  exact e.mpr ⟨trivial, ⟨trivial, ⟨trivial, prefix_Text.J2.ok⟩⟩⟩
theorem prefix_Text.W1.eq (a0 : Int) (Q : Ex → Fr → Heap → Prop) (E : Value → Heap → Prop) (RR : Fr → Heap → Prop) (s : Option Addr × Nat × Nat × Int) (H : Heap) :
    (fun (RR : Option Addr × Nat × Nat × Int → Heap → Prop) (s : Option Addr × Nat × Nat × Int) (H : Heap) => prefix_Text.W1.vc a0 s.1 s.2.1 s.2.2.1 s.2.2.2 (fun y3_0 y3_1 y3_2 H => Q (.exit 0) (mkF 22 [(3, (.slice y3_0 y3_1 y3_2))]) H) (fun l0 l1 l2 x0 H => RR (l0, l1, l2, x0) H) E H) (fun s' H' => RR ((fun (s : Option Addr × Nat × Nat × Int) => (mkF 22 [(0, (.int .u32 a0)), (3, (.slice s.1 s.2.1 s.2.2.1)), (5, (.int .i64 s.2.2.2))])) s') H') s H = keepT [0, 3, 5] [] (fun i => if i = 0 then [3] else []) (wC Tryd.prog prefix_Text.Γ prefix_Text.W1.plan (sub [1, 1, 0, 1, 0, 0] prefix_Text.body)) (fun e fr' H' => match e with | .normal => RR fr' H' | .exit id => Q (.exit id) fr' H' | .ret => Q .ret fr' H') E ((fun (s : Option Addr × Nat × Nat × Int) => (mkF 22 [(0, (.int .u32 a0)), (3, (.slice s.1 s.2.1 s.2.2.1)), (5, (.int .i64 s.2.2.2))])) s) H := by
  kernel_rfl
theorem prefix_Text.W1.ok : SoundCode Tryd.prog (sub [1, 1, 0, 1, 0] prefix_Text.body) prefix_Text.W1.t := by
  have e : (sub [1, 1, 0, 1, 0] prefix_Text.body) = .loop (sub [1, 1, 0, 1, 0, 0] prefix_Text.body) := by kernel_rfl
  rw [e]
  refine piece_sound (loopN_sound (keepT_sound [0, 3, 5] [] (fun i => if i = 0 then [3] else []) (wC_sound prefix_Text.hΓ Tryd.hm prefix_Text.W1.plan _ prefix_Text.W1.pok))) ?_
  intro Q E fr H h
  unfold prefix_Text.W1.t at h
  obtain ⟨hl, h⟩ := lenIs_elim h
  obtain ⟨a0, q0, h⟩ := slI_elim h
  obtain ⟨l0, l1, l2, q3, h⟩ := slSl_elim h
  obtain ⟨x0, q5, h⟩ := slI_elim h
  obtain ⟨m, h⟩ := h.h
  refine ⟨(mkF 22 [(0, (.int .u32 a0)), (3, (.slice l0 l1 l2)), (5, (.int .i64 x0))]), fun a ha => ha.mk (Nat.le_of_eq hl.symm) (List.forall_mem_cons.2 ⟨q0, List.forall_mem_cons.2 ⟨q3, List.forall_mem_cons.2 ⟨q5, fun _ h => nomatch h⟩⟩⟩), m, ?_⟩
  have e := loopS_eq (B := (fun (RR : Option Addr × Nat × Nat × Int → Heap → Prop) (s : Option Addr × Nat × Nat × Int) (H : Heap) => prefix_Text.W1.vc a0 s.1 s.2.1 s.2.2.1 s.2.2.2 (fun y3_0 y3_1 y3_2 H => Q (.exit 0) (mkF 22 [(3, (.slice y3_0 y3_1 y3_2))]) H) (fun l0 l1 l2 x0 H => RR (l0, l1, l2, x0) H) E H)) (A := keepT [0, 3, 5] [] (fun i => if i = 0 then [3] else []) (wC Tryd.prog prefix_Text.Γ prefix_Text.W1.plan (sub [1, 1, 0, 1, 0, 0] prefix_Text.body))) (m := (fun (s : Option Addr × Nat × Nat × Int) => (mkF 22 [(0, (.int .u32 a0)), (3, (.slice s.1 s.2.1 s.2.2.1)), (5, (.int .i64 s.2.2.2))]))) (Q := Q) (E := E) (fun RR s H => prefix_Text.W1.eq a0 Q E RR s H) m (l0, l1, l2, x0) H
  exact cast e h
noncomputable def prefix_Text.plan : Plan := .seq (.go) (.seq (.go) (.seq (.seq (.go) (.block (.use prefix_Text.W1.t))) (.go)))
theorem prefix_Text.pok : PlanOk Tryd.prog prefix_Text.plan prefix_Text.body := by
  have e : PlanOk Tryd.prog prefix_Text.plan prefix_Text.body = ((True) ∧ ((True) ∧ (((True) ∧ (SoundCode Tryd.prog (sub [1, 1, 0, 1, 0] prefix_Text.body) prefix_Text.W1.t)) ∧ (True)))) := by kernel_rfl
  exact e.mpr ⟨trivial, ⟨trivial, ⟨⟨trivial, prefix_Text.W1.ok⟩, trivial⟩⟩⟩
theorem prefix_Text.eq (a0 : Int) (K : Value → Heap → Prop) (E : Value → Heap → Prop) (H : Heap) :
    fnT Tryd.prog Tryd.f12 (wC Tryd.prog prefix_Text.Γ prefix_Text.plan prefix_Text.body) [(.int .u32 a0)] K E H = prefix_Text.vc a0 (fun r0_0 H => K (.string r0_0) H) E H := by
  kernel_rfl
theorem prefix_Text.Fe {args : List Value} {K E : Value → Heap → Prop} {H : Heap} (h : prefix_Text.F args K E H) : ∃ a0, args = [(.int .u32 a0)] ∧ prefix_Text.c a0 (fun r0_0 H => K (.string r0_0) H) E H := by
  unfold prefix_Text.F at h
  split at h
  · exact ⟨_, rfl, h⟩
  · exact h.elim
theorem prefix_Text.ok : CalleeOk Tryd.prog 12 prefix_Text.F :=
  callee_ok prefix_Text.hΓ (fn := Tryd.f12) (c := prefix_Text.body) (T := wC Tryd.prog prefix_Text.Γ prefix_Text.plan prefix_Text.body) (by kernel_rfl) (by kernel_rfl) (by kernel_rfl) (wC_sound prefix_Text.hΓ Tryd.hm prefix_Text.plan _ prefix_Text.pok) fun _ K E H h => by
    obtain ⟨z0, e, h⟩ := prefix_Text.Fe h
    subst e
    have h2 : prefix_Text.vc z0 (fun r0_0 H => ∃ H', Heap.Le H' H ∧ K (.string r0_0) H') E H := h.h
    rw [prefix_Text.eq z0 (Fg K) E H]
    exact h2

/-! vizard/prefix.Print -/
noncomputable def prefix_Print.body : Code := Tryd.f14.body.getD .skip
def prefix_Print.vc (p0 : Int) (p1 : Int) (K : ByteArray → Heap → Prop) (E : Value → Heap → Prop) (h0 : Heap) : Prop :=
  newB (.cells #[(.int .u32 p0), (.int .i64 p1)] 24) (fun b0 h1 =>
  ldI h1 .u32 ((⟨b0, 0, none⟩ : Addr).add 0) fun x0 => ldI h1 .i64 ((⟨b0, 0, none⟩ : Addr).add 1) fun x1 =>
  prefix_Check.c x0 x1 (fun x2 h2 =>
  (if (!x2) = true then
  K (⟨#[]⟩ : ByteArray) h2
  else
  ldI h2 .u32 ((⟨b0, 0, none⟩ : Addr).add 0) fun x3 =>
  ldI h2 .i64 ((⟨b0, 0, none⟩ : Addr).add 1) fun x4 =>
  prefix_Text.c x3 (fun x5 h3 =>
  (ldI h3 .i64 ((⟨b0, 0, none⟩ : Addr).add 1) fun x6 =>
  eqv h3 h3 (some (.int .i64 x4)) (.int .i64 x6)) ∧
  x5.size + (⟨#[47]⟩ : ByteArray).size ≤ 9223372036854775807 ∧
  strconv_Itoa.c x4 (fun x7 h4 =>
  (x5 ++ (⟨#[47]⟩ : ByteArray)).size + x7.size ≤ 9223372036854775807 ∧
  K ((x5 ++ (⟨#[47]⟩ : ByteArray)) ++ x7) h4) E h3) E h2)) E h1) h0
structure prefix_Print.c (p0 : Int) (p1 : Int) (K : ByteArray → Heap → Prop) (E : Value → Heap → Prop) (H : Heap) : Prop where
  h : prefix_Print.vc p0 p1 (fun r0_0 H => ∃ H', Heap.Le H' H ∧ K r0_0 H') E H
def prefix_Print.F : FT := fun args K E H => match args with
  | [(.agg ⟨[(.int .u32 p0), (.int .i64 p1)]⟩)] => prefix_Print.c p0 p1 (fun r0_0 H => K (.string r0_0) H) E H
  | _ => False
noncomputable def prefix_Print.Γ : FuncId → Option FT := Γof [(12, prefix_Text.F), (18, prefix_Check.F), (23, strconv_Itoa.F)]
theorem prefix_Print.hΓ : ∀ f F, prefix_Print.Γ f = some F → CalleeOk Tryd.prog f F := Γof_ok (List.forall_mem_cons.2 ⟨prefix_Text.ok, List.forall_mem_cons.2 ⟨prefix_Check.ok, List.forall_mem_cons.2 ⟨strconv_Itoa.ok, fun _ h => nomatch h⟩⟩⟩)
noncomputable def prefix_Print.plan : Plan := .seq (.go) (.seq (.go) (.seq (.draw ⟨[0, 1, 2, 3, 4, 5, 6, 7], (dl [(0, []), (1, []), (4, []), (5, []), (2, [1, 0]), (3, []), (6, [5, 2, 4, 1, 0]), (7, [])] .fin), [8]⟩) (.go)))
theorem prefix_Print.pok : PlanOk Tryd.prog prefix_Print.plan prefix_Print.body := by
  have e : PlanOk Tryd.prog prefix_Print.plan prefix_Print.body = ((True) ∧ ((True) ∧ ((True) ∧ (True)))) := by kernel_rfl
  exact e.mpr ⟨trivial, ⟨trivial, ⟨trivial, trivial⟩⟩⟩
theorem prefix_Print.eq (p0 : Int) (p1 : Int) (K : Value → Heap → Prop) (E : Value → Heap → Prop) (H : Heap) :
    fnT Tryd.prog Tryd.f14 (wC Tryd.prog prefix_Print.Γ prefix_Print.plan prefix_Print.body) [(.agg #[(.int .u32 p0), (.int .i64 p1)])] K E H = prefix_Print.vc p0 p1 (fun r0_0 H => K (.string r0_0) H) E H := by
  kernel_rfl
theorem prefix_Print.Fe {args : List Value} {K E : Value → Heap → Prop} {H : Heap} (h : prefix_Print.F args K E H) : ∃ p0 p1, args = [(.agg #[(.int .u32 p0), (.int .i64 p1)])] ∧ prefix_Print.c p0 p1 (fun r0_0 H => K (.string r0_0) H) E H := by
  unfold prefix_Print.F at h
  split at h
  · exact ⟨_, _, rfl, h⟩
  · exact h.elim
theorem prefix_Print.ok : CalleeOk Tryd.prog 14 prefix_Print.F :=
  callee_ok prefix_Print.hΓ (fn := Tryd.f14) (c := prefix_Print.body) (T := wC Tryd.prog prefix_Print.Γ prefix_Print.plan prefix_Print.body) (by kernel_rfl) (by kernel_rfl) (by kernel_rfl) (wC_sound prefix_Print.hΓ Tryd.hm prefix_Print.plan _ prefix_Print.pok) fun _ K E H h => by
    obtain ⟨z0, z1, e, h⟩ := prefix_Print.Fe h
    subst e
    have h2 : prefix_Print.vc z0 z1 (fun r0_0 H => ∃ H', Heap.Le H' H ∧ K (.string r0_0) H') E H := h.h
    rw [prefix_Print.eq z0 z1 (Fg K) E H]
    exact h2

/-! vizard/vizardlaw04.PrefixWrites -/
noncomputable def vizardlaw04_PrefixWrites.body : Code := Tryd.f3.body.getD .skip
def vizardlaw04_PrefixWrites.vc (a0 : Int) (p0 : Int) (p1 : Int) (s0 : ByteArray) (K : Bool → Heap → Prop) (E : Value → Heap → Prop) (h0 : Heap) : Prop :=
  newB (.cells #[(.int .u32 p0), (.int .i64 p1)] 24) (fun b0 h1 =>
  prefix_Parse.c s0 (fun x0 x1 h2 =>
  vizardref04_Parse.c s0 (fun x2 x3 h3 =>
  prefix_Read.c s0 (fun x4 x5 x6 h4 =>
  newB (.cells #[(.int .u32 0), (.int .i64 0)] 24) (fun b1 h5 =>
  stc h5 ((⟨b1, 0, none⟩ : Addr).add 0) (.int .u32 x4) fun h6 =>
  stc h6 ((⟨b1, 0, none⟩ : Addr).add 1) (.int .i64 x5) fun h7 =>
  vizardref04_Read.c s0 (fun x7 x8 x9 h8 =>
  newB (.cells #[(.int .u32 0), (.int .i64 0)] 24) (fun b2 h9 =>
  stc h9 ((⟨b2, 0, none⟩ : Addr).add 0) (.int .u32 x7) fun h10 =>
  stc h10 ((⟨b2, 0, none⟩ : Addr).add 1) (.int .i64 x8) fun h11 =>
  prefix_Text.c a0 (fun x10 h12 =>
  vizardref04_Text.c a0 (fun x11 h13 =>
  (if (x10.toList == x11.toList) = true then
  ldI h13 .u32 ((⟨b0, 0, none⟩ : Addr).add 0) fun x12 => ldI h13 .i64 ((⟨b0, 0, none⟩ : Addr).add 1) fun x13 =>
  ldI h13 .u32 ((⟨b0, 0, none⟩ : Addr).add 0) fun x14 => ldI h13 .i64 ((⟨b0, 0, none⟩ : Addr).add 1) fun x15 =>
  prefix_Print.c x12 x13 (fun x16 h14 =>
  (ldI h14 .u32 ((⟨b0, 0, none⟩ : Addr).add 0) fun x17 => ldI h14 .i64 ((⟨b0, 0, none⟩ : Addr).add 1) fun x18 =>
  eqv h14 h14 (some (.agg #[(.int .u32 x14), (.int .i64 x15)])) (.agg #[(.int .u32 x17), (.int .i64 x18)])) ∧
  vizardref04_Print.c x14 x15 (fun x19 h15 =>
  (if (x16.toList == x19.toList) = true then
  (if (x0 == x2) = true then
  (if (x1 == x3) = true then
  ldI h15 .u32 ((⟨b1, 0, none⟩ : Addr).add 0) fun x20 => ldI h15 .i64 ((⟨b1, 0, none⟩ : Addr).add 1) fun x21 =>
  ldI h15 .u32 ((⟨b2, 0, none⟩ : Addr).add 0) fun x22 => ldI h15 .i64 ((⟨b2, 0, none⟩ : Addr).add 1) fun x23 =>
  (if ((x20 == x22) && ((x21 == x23) && true)) = true then
  K (x6 == x9) h15
  else
  K false h15)
  else
  K false h15)
  else
  K false h15)
  else
  K false h15)) E h14) E h13
  else
  True ∧
  K false h13)) E h12) E h11) h8) E h7) h4) E h3) E h2) E h1) h0
structure vizardlaw04_PrefixWrites.c (a0 : Int) (p0 : Int) (p1 : Int) (s0 : ByteArray) (K : Bool → Heap → Prop) (E : Value → Heap → Prop) (H : Heap) : Prop where
  h : vizardlaw04_PrefixWrites.vc a0 p0 p1 s0 (fun r0_0 H => ∃ H', Heap.Le H' H ∧ K r0_0 H') E H
def vizardlaw04_PrefixWrites.F : FT := fun args K E H => match args with
  | [(.int .u32 a0), (.agg ⟨[(.int .u32 p0), (.int .i64 p1)]⟩), (.string s0)] => vizardlaw04_PrefixWrites.c a0 p0 p1 s0 (fun r0_0 H => K (.bool r0_0) H) E H
  | _ => False
noncomputable def vizardlaw04_PrefixWrites.Γ : FuncId → Option FT := Γof [(8, prefix_Parse.F), (9, vizardref04_Parse.F), (10, prefix_Read.F), (11, vizardref04_Read.F), (12, prefix_Text.F), (13, vizardref04_Text.F), (14, prefix_Print.F), (15, vizardref04_Print.F)]
theorem vizardlaw04_PrefixWrites.hΓ : ∀ f F, vizardlaw04_PrefixWrites.Γ f = some F → CalleeOk Tryd.prog f F := Γof_ok (List.forall_mem_cons.2 ⟨prefix_Parse.ok, List.forall_mem_cons.2 ⟨vizardref04_Parse.ok, List.forall_mem_cons.2 ⟨prefix_Read.ok, List.forall_mem_cons.2 ⟨vizardref04_Read.ok, List.forall_mem_cons.2 ⟨prefix_Text.ok, List.forall_mem_cons.2 ⟨vizardref04_Text.ok, List.forall_mem_cons.2 ⟨prefix_Print.ok, List.forall_mem_cons.2 ⟨vizardref04_Print.ok, fun _ h => nomatch h⟩⟩⟩⟩⟩⟩⟩⟩)
noncomputable def vizardlaw04_PrefixWrites.plan : Plan := .seq (.go) (.seq (.go) (.seq (.go) (.seq (.go) (.seq (.go) (.seq (.draw ⟨[0, 1, 2, 3, 4, 5, 6, 7, 8, 9, 10, 11, 12, 13, 14, 15, 16, 17, 18, 19, 20, 21, 22, 23, 24, 25, 26, 27, 28, 29, 30, 31], (dl [(0, []), (2, []), (1, [0]), (3, [2, 1, 0]), (4, []), (5, []), (6, []), (8, []), (7, [6, 5, 4, 3, 1, 2, 0]), (9, [8, 7, 5, 6, 4, 3, 1, 2, 0]), (10, []), (11, []), (12, []), (13, []), (14, []), (15, []), (16, []), (17, []), (18, []), (19, []), (20, []), (21, []), (22, []), (23, []), (24, []), (25, []), (26, []), (27, []), (28, []), (29, []), (30, []), (31, [])] .fin), [32]⟩) (.go))))))
theorem vizardlaw04_PrefixWrites.pok : PlanOk Tryd.prog vizardlaw04_PrefixWrites.plan vizardlaw04_PrefixWrites.body := by
  have e : PlanOk Tryd.prog vizardlaw04_PrefixWrites.plan vizardlaw04_PrefixWrites.body = ((True) ∧ ((True) ∧ ((True) ∧ ((True) ∧ ((True) ∧ ((True) ∧ (True))))))) := by kernel_rfl
  exact e.mpr ⟨trivial, ⟨trivial, ⟨trivial, ⟨trivial, ⟨trivial, ⟨trivial, trivial⟩⟩⟩⟩⟩⟩
theorem vizardlaw04_PrefixWrites.eq (a0 : Int) (p0 : Int) (p1 : Int) (s0 : ByteArray) (K : Value → Heap → Prop) (E : Value → Heap → Prop) (H : Heap) :
    fnT Tryd.prog Tryd.f3 (wC Tryd.prog vizardlaw04_PrefixWrites.Γ vizardlaw04_PrefixWrites.plan vizardlaw04_PrefixWrites.body) [(.int .u32 a0), (.agg #[(.int .u32 p0), (.int .i64 p1)]), (.string s0)] K E H = vizardlaw04_PrefixWrites.vc a0 p0 p1 s0 (fun r0_0 H => K (.bool r0_0) H) E H := by
  kernel_rfl
theorem vizardlaw04_PrefixWrites.Fe {args : List Value} {K E : Value → Heap → Prop} {H : Heap} (h : vizardlaw04_PrefixWrites.F args K E H) : ∃ a0 p0 p1 s0, args = [(.int .u32 a0), (.agg #[(.int .u32 p0), (.int .i64 p1)]), (.string s0)] ∧ vizardlaw04_PrefixWrites.c a0 p0 p1 s0 (fun r0_0 H => K (.bool r0_0) H) E H := by
  unfold vizardlaw04_PrefixWrites.F at h
  split at h
  · exact ⟨_, _, _, _, rfl, h⟩
  · exact h.elim
theorem vizardlaw04_PrefixWrites.ok : CalleeOk Tryd.prog 3 vizardlaw04_PrefixWrites.F :=
  callee_ok vizardlaw04_PrefixWrites.hΓ (fn := Tryd.f3) (c := vizardlaw04_PrefixWrites.body) (T := wC Tryd.prog vizardlaw04_PrefixWrites.Γ vizardlaw04_PrefixWrites.plan vizardlaw04_PrefixWrites.body) (by kernel_rfl) (by kernel_rfl) (by kernel_rfl) (wC_sound vizardlaw04_PrefixWrites.hΓ Tryd.hm vizardlaw04_PrefixWrites.plan _ vizardlaw04_PrefixWrites.pok) fun _ K E H h => by
    obtain ⟨z0, z1, z2, z3, e, h⟩ := vizardlaw04_PrefixWrites.Fe h
    subst e
    have h2 : vizardlaw04_PrefixWrites.vc z0 z1 z2 z3 (fun r0_0 H => ∃ H', Heap.Le H' H ∧ K (.bool r0_0) H') E H := h.h
    rw [vizardlaw04_PrefixWrites.eq z0 z1 z2 z3 (Fg K) E H]
    exact h2

/-! math/bits.TrailingZeros32 -/
noncomputable def math_bits_TrailingZeros32.body : Code := Tryd.f28.body.getD .skip
def math_bits_TrailingZeros32.vc (x0 : Int) (K : Int → Heap → Prop) (E : Value → Heap → Prop) (h0 : Heap) : Prop :=
  (if (x0 == 0) = true then
  K 32 h0
  else
  (0 : Int) ≤ 27 ∧
  (0 : Int) ≤ (shrI .u32 (IntKind.u32.wrap ((bits .and .u32 x0 (IntKind.u32.wrap (0 - x0))) * 125613361)) 27) ∧ (shrI .u32 (IntKind.u32.wrap ((bits .and .u32 x0 (IntKind.u32.wrap (0 - x0))) * 125613361)) 27) < ((32 : Nat) : Int) ∧
  ldI h0 .u8 ((⟨0, 0, none⟩ : Addr).add ((shrI .u32 (IntKind.u32.wrap ((bits .and .u32 x0 (IntKind.u32.wrap (0 - x0))) * 125613361)) 27).toNat * 1)) fun x1 =>
  K (IntKind.i64.wrap x1) h0)
structure math_bits_TrailingZeros32.c (x0 : Int) (K : Int → Heap → Prop) (E : Value → Heap → Prop) (H : Heap) : Prop where
  h : math_bits_TrailingZeros32.vc x0 (fun r0_0 H => ∃ H', Heap.Le H' H ∧ K r0_0 H') E H
def math_bits_TrailingZeros32.F : FT := fun args K E H => match args with
  | [(.int .u32 x0)] => math_bits_TrailingZeros32.c x0 (fun r0_0 H => K (.int .i64 r0_0) H) E H
  | _ => False
noncomputable def math_bits_TrailingZeros32.Γ : FuncId → Option FT := Γof []
theorem math_bits_TrailingZeros32.hΓ : ∀ f F, math_bits_TrailingZeros32.Γ f = some F → CalleeOk Tryd.prog f F := Γof_ok (fun _ h => nomatch h)
noncomputable def math_bits_TrailingZeros32.plan : Plan := .go
theorem math_bits_TrailingZeros32.pok : PlanOk Tryd.prog math_bits_TrailingZeros32.plan math_bits_TrailingZeros32.body := by
  have e : PlanOk Tryd.prog math_bits_TrailingZeros32.plan math_bits_TrailingZeros32.body = (True) := by kernel_rfl
  exact e.mpr trivial
theorem math_bits_TrailingZeros32.eq (x0 : Int) (K : Value → Heap → Prop) (E : Value → Heap → Prop) (H : Heap) :
    fnT Tryd.prog Tryd.f28 (wC Tryd.prog math_bits_TrailingZeros32.Γ math_bits_TrailingZeros32.plan math_bits_TrailingZeros32.body) [(.int .u32 x0)] K E H = math_bits_TrailingZeros32.vc x0 (fun r0_0 H => K (.int .i64 r0_0) H) E H := by
  kernel_rfl
theorem math_bits_TrailingZeros32.Fe {args : List Value} {K E : Value → Heap → Prop} {H : Heap} (h : math_bits_TrailingZeros32.F args K E H) : ∃ x0, args = [(.int .u32 x0)] ∧ math_bits_TrailingZeros32.c x0 (fun r0_0 H => K (.int .i64 r0_0) H) E H := by
  unfold math_bits_TrailingZeros32.F at h
  split at h
  · exact ⟨_, rfl, h⟩
  · exact h.elim
theorem math_bits_TrailingZeros32.ok : CalleeOk Tryd.prog 28 math_bits_TrailingZeros32.F :=
  callee_ok math_bits_TrailingZeros32.hΓ (fn := Tryd.f28) (c := math_bits_TrailingZeros32.body) (T := wC Tryd.prog math_bits_TrailingZeros32.Γ math_bits_TrailingZeros32.plan math_bits_TrailingZeros32.body) (by kernel_rfl) (by kernel_rfl) (by kernel_rfl) (wC_sound math_bits_TrailingZeros32.hΓ Tryd.hm math_bits_TrailingZeros32.plan _ math_bits_TrailingZeros32.pok) fun _ K E H h => by
    obtain ⟨z0, e, h⟩ := math_bits_TrailingZeros32.Fe h
    subst e
    have h2 : math_bits_TrailingZeros32.vc z0 (fun r0_0 H => ∃ H', Heap.Le H' H ∧ K (.int .i64 r0_0) H') E H := h.h
    rw [math_bits_TrailingZeros32.eq z0 (Fg K) E H]
    exact h2

/-! vizard/prefix.Ends -/
noncomputable def prefix_Ends.body : Code := Tryd.f20.body.getD .skip
def prefix_Ends.vc (p0 : Int) (p1 : Int) (K : Int → Int → Heap → Prop) (E : Value → Heap → Prop) (h0 : Heap) : Prop :=
  newB (.cells #[(.int .u32 p0), (.int .i64 p1)] 24) (fun b0 h1 =>
  ldI h1 .u32 ((⟨b0, 0, none⟩ : Addr).add 0) fun x0 => ldI h1 .i64 ((⟨b0, 0, none⟩ : Addr).add 1) fun x1 =>
  prefix_Check.c x0 x1 (fun x2 h2 =>
  (if (!x2) = true then
  K 0 0 h2
  else
  ldI h2 .u32 ((⟨b0, 0, none⟩ : Addr).add 0) fun x3 =>
  ldI h2 .u32 ((⟨b0, 0, none⟩ : Addr).add 0) fun x4 =>
  ldI h2 .i64 ((⟨b0, 0, none⟩ : Addr).add 1) fun x5 =>
  prefix_rest.c x5 (fun x6 h3 =>
  (ldI h3 .u32 ((⟨b0, 0, none⟩ : Addr).add 0) fun x7 =>
  eqv h3 h3 (some (.int .u32 x4)) (.int .u32 x7)) ∧
  (ldI h3 .u32 ((⟨b0, 0, none⟩ : Addr).add 0) fun x8 =>
  eqv h3 h3 (some (.int .u32 x3)) (.int .u32 x8)) ∧
  K x3 (bits .or .u32 x4 x6) h3) E h2)) E h1) h0
structure prefix_Ends.c (p0 : Int) (p1 : Int) (K : Int → Int → Heap → Prop) (E : Value → Heap → Prop) (H : Heap) : Prop where
  h : prefix_Ends.vc p0 p1 (fun r0_0 r1_0 H => ∃ H', Heap.Le H' H ∧ K r0_0 r1_0 H') E H
def prefix_Ends.F : FT := fun args K E H => match args with
  | [(.agg ⟨[(.int .u32 p0), (.int .i64 p1)]⟩)] => prefix_Ends.c p0 p1 (fun r0_0 r1_0 H => K (.tuple #[(.int .u32 r0_0), (.int .u32 r1_0)]) H) E H
  | _ => False
noncomputable def prefix_Ends.Γ : FuncId → Option FT := Γof [(18, prefix_Check.F), (29, prefix_rest.F)]
theorem prefix_Ends.hΓ : ∀ f F, prefix_Ends.Γ f = some F → CalleeOk Tryd.prog f F := Γof_ok (List.forall_mem_cons.2 ⟨prefix_Check.ok, List.forall_mem_cons.2 ⟨prefix_rest.ok, fun _ h => nomatch h⟩⟩)
noncomputable def prefix_Ends.plan : Plan := .seq (.go) (.seq (.go) (.seq (.draw ⟨[0, 1, 2, 3, 4, 5, 6, 7, 8], (dl [(0, []), (1, []), (2, []), (3, []), (4, []), (5, []), (6, [5, 4]), (7, []), (8, [])] .fin), [9]⟩) (.go)))
theorem prefix_Ends.pok : PlanOk Tryd.prog prefix_Ends.plan prefix_Ends.body := by
  have e : PlanOk Tryd.prog prefix_Ends.plan prefix_Ends.body = ((True) ∧ ((True) ∧ ((True) ∧ (True)))) := by kernel_rfl
  exact e.mpr ⟨trivial, ⟨trivial, ⟨trivial, trivial⟩⟩⟩
theorem prefix_Ends.eq (p0 : Int) (p1 : Int) (K : Value → Heap → Prop) (E : Value → Heap → Prop) (H : Heap) :
    fnT Tryd.prog Tryd.f20 (wC Tryd.prog prefix_Ends.Γ prefix_Ends.plan prefix_Ends.body) [(.agg #[(.int .u32 p0), (.int .i64 p1)])] K E H = prefix_Ends.vc p0 p1 (fun r0_0 r1_0 H => K (.tuple #[(.int .u32 r0_0), (.int .u32 r1_0)]) H) E H := by
  kernel_rfl
theorem prefix_Ends.Fe {args : List Value} {K E : Value → Heap → Prop} {H : Heap} (h : prefix_Ends.F args K E H) : ∃ p0 p1, args = [(.agg #[(.int .u32 p0), (.int .i64 p1)])] ∧ prefix_Ends.c p0 p1 (fun r0_0 r1_0 H => K (.tuple #[(.int .u32 r0_0), (.int .u32 r1_0)]) H) E H := by
  unfold prefix_Ends.F at h
  split at h
  · exact ⟨_, _, rfl, h⟩
  · exact h.elim
theorem prefix_Ends.ok : CalleeOk Tryd.prog 20 prefix_Ends.F :=
  callee_ok prefix_Ends.hΓ (fn := Tryd.f20) (c := prefix_Ends.body) (T := wC Tryd.prog prefix_Ends.Γ prefix_Ends.plan prefix_Ends.body) (by kernel_rfl) (by kernel_rfl) (by kernel_rfl) (wC_sound prefix_Ends.hΓ Tryd.hm prefix_Ends.plan _ prefix_Ends.pok) fun _ K E H h => by
    obtain ⟨z0, z1, e, h⟩ := prefix_Ends.Fe h
    subst e
    have h2 : prefix_Ends.vc z0 z1 (fun r0_0 r1_0 H => ∃ H', Heap.Le H' H ∧ K (.tuple #[(.int .u32 r0_0), (.int .u32 r1_0)]) H') E H := h.h
    rw [prefix_Ends.eq z0 z1 (Fg K) E H]
    exact h2

/-! vizard/prefix.Cover -/
noncomputable def prefix_Cover.body : Code := Tryd.f17.body.getD .skip
def prefix_Cover.J3.vc (high0 : Int) (l0 : Option Addr) (l1 : Nat) (l2 : Nat) (last0 : Int) (Kx1 : Int → Heap → Prop) (Kr : Option Addr → Nat → Nat → Heap → Prop) (E : Value → Heap → Prop) (h0 : Heap) : Prop :=
  (if (last0 == high0) = true then
  Kr l0 l1 l2 h0
  else
  Kx1 (IntKind.u32.wrap (last0 + 1)) h0)
structure prefix_Cover.J3 (high0 : Int) (l0 : Option Addr) (l1 : Nat) (l2 : Nat) (last0 : Int) (Kx1 : Int → Heap → Prop) (Kr : Option Addr → Nat → Nat → Heap → Prop) (E : Value → Heap → Prop) (H : Heap) : Prop where
  h : prefix_Cover.J3.vc high0 l0 l1 l2 last0 Kx1 Kr E H
def prefix_Cover.W2.vc (low0 : Int) (high0 : Int) (l0 : Option Addr) (l1 : Nat) (l2 : Nat) (n0 : Int) (Kx1 : Int → Option Addr → Nat → Nat → Heap → Prop) (Kr : Option Addr → Nat → Nat → Heap → Prop) (RR : Int → Option Addr → Nat → Nat → Int → Heap → Prop) (E : Value → Heap → Prop) (h0 : Heap) : Prop :=
  newB (.cells #[(.int .u32 0), (.int .i64 0)] 24) (fun b0 h1 =>
  stc h1 ((⟨b0, 0, none⟩ : Addr).add 0) (.int .u32 low0) fun h2 =>
  stc h2 ((⟨b0, 0, none⟩ : Addr).add 1) (.int .i64 n0) fun h3 =>
  ldI h3 .u32 ((⟨b0, 0, none⟩ : Addr).add 0) fun x0 => ldI h3 .i64 ((⟨b0, 0, none⟩ : Addr).add 1) fun x1 =>
  prefix_Ends.c x0 x1 (fun x2 x3 h4 =>
  (if (decide (x3 > high0)) = true then
  RR low0 l0 l1 l2 (IntKind.i64.wrap (n0 + 1)) h4
  else
  ldI h4 .u32 ((⟨b0, 0, none⟩ : Addr).add 0) fun x4 => ldI h4 .i64 ((⟨b0, 0, none⟩ : Addr).add 1) fun x5 =>
  newB (.cells #[(.int .u32 x4), (.int .i64 x5)] 24) (fun b1 h5 =>
  rdRow h5 (some (⟨b1, 0, none⟩ : Addr)) (1 * 2) fun cs0 =>
  appT 24 (.agg #[(.int .u32 0), (.int .i64 0)]) l0 l1 1 l2 2 16 cs0 (fun p0 n1 c0 h6 =>
  prefix_Cover.J3 high0 p0 n1 c0 x3 (fun low1 h7 =>
  Kx1 low1 p0 n1 c0 h7) Kr E h6) h5) h4)) E h3) h0
structure prefix_Cover.W2 (low0 : Int) (high0 : Int) (l0 : Option Addr) (l1 : Nat) (l2 : Nat) (n0 : Int) (Kx1 : Int → Option Addr → Nat → Nat → Heap → Prop) (Kr : Option Addr → Nat → Nat → Heap → Prop) (E : Value → Heap → Prop) (H : Heap) : Prop where
  h : Loop (fun (RR : Int × Option Addr × Nat × Nat × Int → Heap → Prop) (s : Int × Option Addr × Nat × Nat × Int) (H : Heap) => prefix_Cover.W2.vc s.1 high0 s.2.1 s.2.2.1 s.2.2.2.1 s.2.2.2.2 Kx1 Kr (fun low0 l0 l1 l2 n0 H => RR (low0, l0, l1, l2, n0) H) E H) (low0, l0, l1, l2, n0) H
def prefix_Cover.W1.vc (low0 : Int) (high0 : Int) (l0 : Option Addr) (l1 : Nat) (l2 : Nat) (Kr : Option Addr → Nat → Nat → Heap → Prop) (RR : Int → Option Addr → Nat → Nat → Heap → Prop) (E : Value → Heap → Prop) (h0 : Heap) : Prop :=
  math_bits_TrailingZeros32.c low0 (fun x0 h1 =>
  prefix_Cover.W2 low0 high0 l0 l1 l2 (IntKind.i64.wrap (32 - x0)) RR Kr E h1) E h0
structure prefix_Cover.W1 (low0 : Int) (high0 : Int) (l0 : Option Addr) (l1 : Nat) (l2 : Nat) (Kr : Option Addr → Nat → Nat → Heap → Prop) (E : Value → Heap → Prop) (H : Heap) : Prop where
  h : Loop (fun (RR : Int × Option Addr × Nat × Nat → Heap → Prop) (s : Int × Option Addr × Nat × Nat) (H : Heap) => prefix_Cover.W1.vc s.1 high0 s.2.1 s.2.2.1 s.2.2.2 Kr (fun low0 l0 l1 l2 H => RR (low0, l0, l1, l2) H) E H) (low0, l0, l1, l2) H
def prefix_Cover.vc (low0 : Int) (high0 : Int) (K : Option Addr → Nat → Nat → Heap → Prop) (E : Value → Heap → Prop) (h0 : Heap) : Prop :=
  (if (decide (low0 > high0)) = true then
  K none 0 0 h0
  else
  prefix_Cover.W1 low0 high0 none 0 0 K E h0)
structure prefix_Cover.c (low0 : Int) (high0 : Int) (K : Option Addr → Nat → Nat → Heap → Prop) (E : Value → Heap → Prop) (H : Heap) : Prop where
  h : prefix_Cover.vc low0 high0 (fun r0_0 r0_1 r0_2 H => ∃ H', Heap.Le H' H ∧ K r0_0 r0_1 r0_2 H') E H
def prefix_Cover.F : FT := fun args K E H => match args with
  | [(.int .u32 low0), (.int .u32 high0)] => prefix_Cover.c low0 high0 (fun r0_0 r0_1 r0_2 H => K (.slice r0_0 r0_1 r0_2) H) E H
  | _ => False
noncomputable def prefix_Cover.Γ : FuncId → Option FT := Γof [(20, prefix_Ends.F), (28, math_bits_TrailingZeros32.F)]
theorem prefix_Cover.hΓ : ∀ f F, prefix_Cover.Γ f = some F → CalleeOk Tryd.prog f F := Γof_ok (List.forall_mem_cons.2 ⟨prefix_Ends.ok, List.forall_mem_cons.2 ⟨math_bits_TrailingZeros32.ok, fun _ h => nomatch h⟩⟩)
def prefix_Cover.J3.t : CT := fun Q E fr H => lenIs 39 fr (slI fr 1 .u32 fun high0 => slSl fr 5 fun l0 l1 l2 => slI fr 9 .u32 fun last0 => prefix_Cover.J3 high0 l0 l1 l2 last0 (fun y0_0 H => Q (.exit 1) (mkF 39 [(0, (.int .u32 y0_0)), (1, (.int .u32 high0)), (5, (.slice l0 l1 l2))]) H) (fun y4_0 y4_1 y4_2 H => Q .ret (mkF 39 [(4, (.slice y4_0 y4_1 y4_2))]) H) E H)
noncomputable def prefix_Cover.J3.plan : Plan := .go
theorem prefix_Cover.J3.pok : PlanOk Tryd.prog prefix_Cover.J3.plan (sub [1, 0, 1, 1, 1, 0, 0, 0, 1, 0, 0, 0, 0, 1, 1, 1, 1] prefix_Cover.body) := by
  have e : PlanOk Tryd.prog prefix_Cover.J3.plan (sub [1, 0, 1, 1, 1, 0, 0, 0, 1, 0, 0, 0, 0, 1, 1, 1, 1] prefix_Cover.body) = (True) := by kernel_rfl
  exact e.mpr trivial
theorem prefix_Cover.J3.eq (high0 : Int) (l0 : Option Addr) (l1 : Nat) (l2 : Nat) (last0 : Int) (Q : Ex → Fr → Heap → Prop) (E : Value → Heap → Prop) (H : Heap) :
    prefix_Cover.J3.vc high0 l0 l1 l2 last0 (fun y0_0 H => Q (.exit 1) (mkF 39 [(0, (.int .u32 y0_0)), (1, (.int .u32 high0)), (5, (.slice l0 l1 l2))]) H) (fun y4_0 y4_1 y4_2 H => Q .ret (mkF 39 [(4, (.slice y4_0 y4_1 y4_2))]) H) E H = keepT [] [4] (fun i => if i = 1 then [0, 1, 5] else []) (wC Tryd.prog prefix_Cover.Γ prefix_Cover.J3.plan (sub [1, 0, 1, 1, 1, 0, 0, 0, 1, 0, 0, 0, 0, 1, 1, 1, 1] prefix_Cover.body)) Q E (mkF 39 [(1, (.int .u32 high0)), (5, (.slice l0 l1 l2)), (9, (.int .u32 last0))]) H := by
  kernel_rfl
theorem prefix_Cover.J3.ok : SoundCode Tryd.prog (sub [1, 0, 1, 1, 1, 0, 0, 0, 1, 0, 0, 0, 0, 1, 1, 1, 1] prefix_Cover.body) prefix_Cover.J3.t := by
  refine piece_sound (keepT_sound [] [4] (fun i => if i = 1 then [0, 1, 5] else []) (wC_sound prefix_Cover.hΓ Tryd.hm prefix_Cover.J3.plan _ prefix_Cover.J3.pok)) ?_
  intro Q E fr H h
  unfold prefix_Cover.J3.t at h
  obtain ⟨hl, h⟩ := lenIs_elim h
  obtain ⟨high0, q1, h⟩ := slI_elim h
  obtain ⟨l0, l1, l2, q5, h⟩ := slSl_elim h
  obtain ⟨last0, q9, h⟩ := slI_elim h
  refine ⟨(mkF 39 [(1, (.int .u32 high0)), (5, (.slice l0 l1 l2)), (9, (.int .u32 last0))]), fun a ha => ha.mk (Nat.le_of_eq hl.symm) (List.forall_mem_cons.2 ⟨q1, List.forall_mem_cons.2 ⟨q5, List.forall_mem_cons.2 ⟨q9, fun _ h => nomatch h⟩⟩⟩), ?_⟩
  have e := prefix_Cover.J3.eq high0 l0 l1 l2 last0 Q E H
  rw [← e]
  exact h.h
def prefix_Cover.W2.t : CT := fun Q E fr H => lenIs 39 fr (slI fr 0 .u32 fun low0 => slI fr 1 .u32 fun high0 => slSl fr 5 fun l0 l1 l2 => slI fr 6 .i64 fun n0 => prefix_Cover.W2 low0 high0 l0 l1 l2 n0 (fun y0_0 y5_0 y5_1 y5_2 H => Q (.exit 1) (mkF 39 [(0, (.int .u32 y0_0)), (1, (.int .u32 high0)), (5, (.slice y5_0 y5_1 y5_2))]) H) (fun y4_0 y4_1 y4_2 H => Q .ret (mkF 39 [(4, (.slice y4_0 y4_1 y4_2))]) H) E H)
noncomputable def prefix_Cover.W2.plan : Plan := .seq (.block (.seq (.go) (.seq (.go) (.seq (.go) (.seq (.go) (.use prefix_Cover.J3.t)))))) (.go)
theorem prefix_Cover.W2.pok : PlanOk Tryd.prog prefix_Cover.W2.plan (sub [1, 0, 1, 1, 1, 0, 0, 0, 1, 0, 0] prefix_Cover.body) := by
  have e : PlanOk Tryd.prog prefix_Cover.W2.plan (sub [1, 0, 1, 1, 1, 0, 0, 0, 1, 0, 0] prefix_Cover.body) = (((True) ∧ ((True) ∧ ((True) ∧ ((True) ∧ (SoundCode Tryd.prog (sub [1, 0, 1, 1, 1, 0, 0, 0, 1, 0, 0, 0, 0, 1, 1, 1, 1] prefix_Cover.body) prefix_Cover.J3.t))))) ∧ (True)) := by kernel_rfl
  exact e.mpr ⟨⟨trivial, ⟨trivial, ⟨trivial, ⟨trivial, prefix_Cover.J3.ok⟩⟩⟩⟩, trivial⟩
theorem prefix_Cover.W2.eq (high0 : Int) (Q : Ex → Fr → Heap → Prop) (E : Value → Heap → Prop) (RR : Fr → Heap → Prop) (s : Int × Option Addr × Nat × Nat × Int) (H : Heap) :
    (fun (RR : Int × Option Addr × Nat × Nat × Int → Heap → Prop) (s : Int × Option Addr × Nat × Nat × Int) (H : Heap) => prefix_Cover.W2.vc s.1 high0 s.2.1 s.2.2.1 s.2.2.2.1 s.2.2.2.2 (fun y0_0 y5_0 y5_1 y5_2 H => Q (.exit 1) (mkF 39 [(0, (.int .u32 y0_0)), (1, (.int .u32 high0)), (5, (.slice y5_0 y5_1 y5_2))]) H) (fun y4_0 y4_1 y4_2 H => Q .ret (mkF 39 [(4, (.slice y4_0 y4_1 y4_2))]) H) (fun low0 l0 l1 l2 n0 H => RR (low0, l0, l1, l2, n0) H) E H) (fun s' H' => RR ((fun (s : Int × Option Addr × Nat × Nat × Int) => (mkF 39 [(0, (.int .u32 s.1)), (1, (.int .u32 high0)), (5, (.slice s.2.1 s.2.2.1 s.2.2.2.1)), (6, (.int .i64 s.2.2.2.2))])) s') H') s H = keepT [0, 1, 5, 6] [4] (fun i => if i = 1 then [0, 1, 5] else []) (wC Tryd.prog prefix_Cover.Γ prefix_Cover.W2.plan (sub [1, 0, 1, 1, 1, 0, 0, 0, 1, 0, 0] prefix_Cover.body)) (fun e fr' H' => match e with | .normal => RR fr' H' | .exit id => Q (.exit id) fr' H' | .ret => Q .ret fr' H') E ((fun (s : Int × Option Addr × Nat × Nat × Int) => (mkF 39 [(0, (.int .u32 s.1)), (1, (.int .u32 high0)), (5, (.slice s.2.1 s.2.2.1 s.2.2.2.1)), (6, (.int .i64 s.2.2.2.2))])) s) H := by
  kernel_rfl
theorem prefix_Cover.W2.ok : SoundCode Tryd.prog (sub [1, 0, 1, 1, 1, 0, 0, 0, 1, 0] prefix_Cover.body) prefix_Cover.W2.t := by
  have e : (sub [1, 0, 1, 1, 1, 0, 0, 0, 1, 0] prefix_Cover.body) = .loop (sub [1, 0, 1, 1, 1, 0, 0, 0, 1, 0, 0] prefix_Cover.body) := by kernel_rfl
  rw [e]
  refine piece_sound (loopN_sound (keepT_sound [0, 1, 5, 6] [4] (fun i => if i = 1 then [0, 1, 5] else []) (wC_sound prefix_Cover.hΓ Tryd.hm prefix_Cover.W2.plan _ prefix_Cover.W2.pok))) ?_
  intro Q E fr H h
  unfold prefix_Cover.W2.t at h
  obtain ⟨hl, h⟩ := lenIs_elim h
  obtain ⟨low0, q0, h⟩ := slI_elim h
  obtain ⟨high0, q1, h⟩ := slI_elim h
  obtain ⟨l0, l1, l2, q5, h⟩ := slSl_elim h
  obtain ⟨n0, q6, h⟩ := slI_elim h
  obtain ⟨m, h⟩ := h.h
  refine ⟨(mkF 39 [(0, (.int .u32 low0)), (1, (.int .u32 high0)), (5, (.slice l0 l1 l2)), (6, (.int .i64 n0))]), fun a ha => ha.mk (Nat.le_of_eq hl.symm) (List.forall_mem_cons.2 ⟨q0, List.forall_mem_cons.2 ⟨q1, List.forall_mem_cons.2 ⟨q5, List.forall_mem_cons.2 ⟨q6, fun _ h => nomatch h⟩⟩⟩⟩), m, ?_⟩
  have e := loopS_eq (B := (fun (RR : Int × Option Addr × Nat × Nat × Int → Heap → Prop) (s : Int × Option Addr × Nat × Nat × Int) (H : Heap) => prefix_Cover.W2.vc s.1 high0 s.2.1 s.2.2.1 s.2.2.2.1 s.2.2.2.2 (fun y0_0 y5_0 y5_1 y5_2 H => Q (.exit 1) (mkF 39 [(0, (.int .u32 y0_0)), (1, (.int .u32 high0)), (5, (.slice y5_0 y5_1 y5_2))]) H) (fun y4_0 y4_1 y4_2 H => Q .ret (mkF 39 [(4, (.slice y4_0 y4_1 y4_2))]) H) (fun low0 l0 l1 l2 n0 H => RR (low0, l0, l1, l2, n0) H) E H)) (A := keepT [0, 1, 5, 6] [4] (fun i => if i = 1 then [0, 1, 5] else []) (wC Tryd.prog prefix_Cover.Γ prefix_Cover.W2.plan (sub [1, 0, 1, 1, 1, 0, 0, 0, 1, 0, 0] prefix_Cover.body))) (m := (fun (s : Int × Option Addr × Nat × Nat × Int) => (mkF 39 [(0, (.int .u32 s.1)), (1, (.int .u32 high0)), (5, (.slice s.2.1 s.2.2.1 s.2.2.2.1)), (6, (.int .i64 s.2.2.2.2))]))) (Q := Q) (E := E) (fun RR s H => prefix_Cover.W2.eq high0 Q E RR s H) m (low0, l0, l1, l2, n0) H
  exact cast e h
def prefix_Cover.W1.t : CT := fun Q E fr H => lenIs 39 fr (slI fr 0 .u32 fun low0 => slI fr 1 .u32 fun high0 => slSl fr 5 fun l0 l1 l2 => prefix_Cover.W1 low0 high0 l0 l1 l2 (fun y4_0 y4_1 y4_2 H => Q .ret (mkF 39 [(4, (.slice y4_0 y4_1 y4_2))]) H) E H)
noncomputable def prefix_Cover.W1.plan : Plan := .block (.seq (.go) (.block (.use prefix_Cover.W2.t)))
theorem prefix_Cover.W1.pok : PlanOk Tryd.prog prefix_Cover.W1.plan (sub [1, 0, 1, 1, 1, 0, 0] prefix_Cover.body) := by
  have e : PlanOk Tryd.prog prefix_Cover.W1.plan (sub [1, 0, 1, 1, 1, 0, 0] prefix_Cover.body) = ((True) ∧ (SoundCode Tryd.prog (sub [1, 0, 1, 1, 1, 0, 0, 0, 1, 0] prefix_Cover.body) prefix_Cover.W2.t)) := by kernel_rfl
  exact e.mpr ⟨trivial, prefix_Cover.W2.ok⟩
theorem prefix_Cover.W1.eq (high0 : Int) (Q : Ex → Fr → Heap → Prop) (E : Value → Heap → Prop) (RR : Fr → Heap → Prop) (s : Int × Option Addr × Nat × Nat) (H : Heap) :
    (fun (RR : Int × Option Addr × Nat × Nat → Heap → Prop) (s : Int × Option Addr × Nat × Nat) (H : Heap) => prefix_Cover.W1.vc s.1 high0 s.2.1 s.2.2.1 s.2.2.2 (fun y4_0 y4_1 y4_2 H => Q .ret (mkF 39 [(4, (.slice y4_0 y4_1 y4_2))]) H) (fun low0 l0 l1 l2 H => RR (low0, l0, l1, l2) H) E H) (fun s' H' => RR ((fun (s : Int × Option Addr × Nat × Nat) => (mkF 39 [(0, (.int .u32 s.1)), (1, (.int .u32 high0)), (5, (.slice s.2.1 s.2.2.1 s.2.2.2))])) s') H') s H = keepT [0, 1, 5] [4] (fun i => []) (wC Tryd.prog prefix_Cover.Γ prefix_Cover.W1.plan (sub [1, 0, 1, 1, 1, 0, 0] prefix_Cover.body)) (fun e fr' H' => match e with | .normal => RR fr' H' | .exit id => Q (.exit id) fr' H' | .ret => Q .ret fr' H') E ((fun (s : Int × Option Addr × Nat × Nat) => (mkF 39 [(0, (.int .u32 s.1)), (1, (.int .u32 high0)), (5, (.slice s.2.1 s.2.2.1 s.2.2.2))])) s) H := by
  kernel_rfl
theorem prefix_Cover.W1.ok : SoundCode Tryd.prog (sub [1, 0, 1, 1, 1, 0] prefix_Cover.body) prefix_Cover.W1.t := by
  have e : (sub [1, 0, 1, 1, 1, 0] prefix_Cover.body) = .loop (sub [1, 0, 1, 1, 1, 0, 0] prefix_Cover.body) := by kernel_rfl
  rw [e]
  refine piece_sound (loopN_sound (keepT_sound [0, 1, 5] [4] (fun i => []) (wC_sound prefix_Cover.hΓ Tryd.hm prefix_Cover.W1.plan _ prefix_Cover.W1.pok))) ?_
  intro Q E fr H h
  unfold prefix_Cover.W1.t at h
  obtain ⟨hl, h⟩ := lenIs_elim h
  obtain ⟨low0, q0, h⟩ := slI_elim h
  obtain ⟨high0, q1, h⟩ := slI_elim h
  obtain ⟨l0, l1, l2, q5, h⟩ := slSl_elim h
  obtain ⟨m, h⟩ := h.h
  refine ⟨(mkF 39 [(0, (.int .u32 low0)), (1, (.int .u32 high0)), (5, (.slice l0 l1 l2))]), fun a ha => ha.mk (Nat.le_of_eq hl.symm) (List.forall_mem_cons.2 ⟨q0, List.forall_mem_cons.2 ⟨q1, List.forall_mem_cons.2 ⟨q5, fun _ h => nomatch h⟩⟩⟩), m, ?_⟩
  have e := loopS_eq (B := (fun (RR : Int × Option Addr × Nat × Nat → Heap → Prop) (s : Int × Option Addr × Nat × Nat) (H : Heap) => prefix_Cover.W1.vc s.1 high0 s.2.1 s.2.2.1 s.2.2.2 (fun y4_0 y4_1 y4_2 H => Q .ret (mkF 39 [(4, (.slice y4_0 y4_1 y4_2))]) H) (fun low0 l0 l1 l2 H => RR (low0, l0, l1, l2) H) E H)) (A := keepT [0, 1, 5] [4] (fun i => []) (wC Tryd.prog prefix_Cover.Γ prefix_Cover.W1.plan (sub [1, 0, 1, 1, 1, 0, 0] prefix_Cover.body))) (m := (fun (s : Int × Option Addr × Nat × Nat) => (mkF 39 [(0, (.int .u32 s.1)), (1, (.int .u32 high0)), (5, (.slice s.2.1 s.2.2.1 s.2.2.2))]))) (Q := Q) (E := E) (fun RR s H => prefix_Cover.W1.eq high0 Q E RR s H) m (low0, l0, l1, l2) H
  exact cast e h
noncomputable def prefix_Cover.plan : Plan := .seq (.go) (.scope (.seq (.go) (.seq (.go) (.seq (.go) (.block (.use prefix_Cover.W1.t))))))
theorem prefix_Cover.pok : PlanOk Tryd.prog prefix_Cover.plan prefix_Cover.body := by
  have e : PlanOk Tryd.prog prefix_Cover.plan prefix_Cover.body = ((True) ∧ ((True) ∧ ((True) ∧ ((True) ∧ (SoundCode Tryd.prog (sub [1, 0, 1, 1, 1, 0] prefix_Cover.body) prefix_Cover.W1.t))))) := by kernel_rfl
  exact e.mpr ⟨trivial, ⟨trivial, ⟨trivial, ⟨trivial, prefix_Cover.W1.ok⟩⟩⟩⟩
theorem prefix_Cover.eq (low0 : Int) (high0 : Int) (K : Value → Heap → Prop) (E : Value → Heap → Prop) (H : Heap) :
    fnT Tryd.prog Tryd.f17 (wC Tryd.prog prefix_Cover.Γ prefix_Cover.plan prefix_Cover.body) [(.int .u32 low0), (.int .u32 high0)] K E H = prefix_Cover.vc low0 high0 (fun r0_0 r0_1 r0_2 H => K (.slice r0_0 r0_1 r0_2) H) E H := by
  kernel_rfl
theorem prefix_Cover.Fe {args : List Value} {K E : Value → Heap → Prop} {H : Heap} (h : prefix_Cover.F args K E H) : ∃ low0 high0, args = [(.int .u32 low0), (.int .u32 high0)] ∧ prefix_Cover.c low0 high0 (fun r0_0 r0_1 r0_2 H => K (.slice r0_0 r0_1 r0_2) H) E H := by
  unfold prefix_Cover.F at h
  split at h
  · exact ⟨_, _, rfl, h⟩
  · exact h.elim
theorem prefix_Cover.ok : CalleeOk Tryd.prog 17 prefix_Cover.F :=
  callee_ok prefix_Cover.hΓ (fn := Tryd.f17) (c := prefix_Cover.body) (T := wC Tryd.prog prefix_Cover.Γ prefix_Cover.plan prefix_Cover.body) (by kernel_rfl) (by kernel_rfl) (by kernel_rfl) (wC_sound prefix_Cover.hΓ Tryd.hm prefix_Cover.plan _ prefix_Cover.pok) fun _ K E H h => by
    obtain ⟨z0, z1, e, h⟩ := prefix_Cover.Fe h
    subst e
    have h2 : prefix_Cover.vc z0 z1 (fun r0_0 r0_1 r0_2 H => ∃ H', Heap.Le H' H ∧ K (.slice r0_0 r0_1 r0_2) H') E H := h.h
    rw [prefix_Cover.eq z0 z1 (Fg K) E H]
    exact h2

/-! vizard/vizardlaw04.works -/
noncomputable def vizardlaw04_works.body : Code := Tryd.f16.body.getD .skip
def vizardlaw04_works.vc (K : Bool → Heap → Prop) (E : Value → Heap → Prop) (h0 : Heap) : Prop :=
  prefix_Parse.c (⟨#[49, 48, 46, 48, 46, 48, 46, 49]⟩ : ByteArray) (fun x0 x1 h1 =>
  prefix_Parse.c (⟨#[48, 49, 48, 46, 48, 46, 48, 46, 49]⟩ : ByteArray) (fun x2 x3 h2 =>
  (if (x0 == 167772161) = true then
  (if x1 = true then
  (if (!x3) = true then
  prefix_Print.c 167772160 8 (fun x4 h3 =>
  (if (x4.toList == (⟨#[49, 48, 46, 48, 46, 48, 46, 48, 47, 56]⟩ : ByteArray).toList) = true then
  prefix_Cover.c 167772161 167772164 (fun x5 x6 x7 h4 =>
  K ((x6 : Int) == 3) h4) E h3
  else
  K false h3)) E h2
  else
  K false h2)
  else
  K false h2)
  else
  K false h2)) E h1) E h0
structure vizardlaw04_works.c (K : Bool → Heap → Prop) (E : Value → Heap → Prop) (H : Heap) : Prop where
  h : vizardlaw04_works.vc  (fun r0_0 H => ∃ H', Heap.Le H' H ∧ K r0_0 H') E H
def vizardlaw04_works.F : FT := fun args K E H => match args with
  | [] => vizardlaw04_works.c  (fun r0_0 H => K (.bool r0_0) H) E H
  | _ => False
noncomputable def vizardlaw04_works.Γ : FuncId → Option FT := Γof [(8, prefix_Parse.F), (14, prefix_Print.F), (17, prefix_Cover.F)]
theorem vizardlaw04_works.hΓ : ∀ f F, vizardlaw04_works.Γ f = some F → CalleeOk Tryd.prog f F := Γof_ok (List.forall_mem_cons.2 ⟨prefix_Parse.ok, List.forall_mem_cons.2 ⟨prefix_Print.ok, List.forall_mem_cons.2 ⟨prefix_Cover.ok, fun _ h => nomatch h⟩⟩⟩)
noncomputable def vizardlaw04_works.plan : Plan := .go
theorem vizardlaw04_works.pok : PlanOk Tryd.prog vizardlaw04_works.plan vizardlaw04_works.body := by
  have e : PlanOk Tryd.prog vizardlaw04_works.plan vizardlaw04_works.body = (True) := by kernel_rfl
  exact e.mpr trivial
theorem vizardlaw04_works.eq (K : Value → Heap → Prop) (E : Value → Heap → Prop) (H : Heap) :
    fnT Tryd.prog Tryd.f16 (wC Tryd.prog vizardlaw04_works.Γ vizardlaw04_works.plan vizardlaw04_works.body) [] K E H = vizardlaw04_works.vc  (fun r0_0 H => K (.bool r0_0) H) E H := by
  kernel_rfl
theorem vizardlaw04_works.Fe {args : List Value} {K E : Value → Heap → Prop} {H : Heap} (h : vizardlaw04_works.F args K E H) : args = [] ∧ vizardlaw04_works.c  (fun r0_0 H => K (.bool r0_0) H) E H := by
  unfold vizardlaw04_works.F at h
  split at h
  · exact ⟨rfl, h⟩
  · exact h.elim
theorem vizardlaw04_works.ok : CalleeOk Tryd.prog 16 vizardlaw04_works.F :=
  callee_ok vizardlaw04_works.hΓ (fn := Tryd.f16) (c := vizardlaw04_works.body) (T := wC Tryd.prog vizardlaw04_works.Γ vizardlaw04_works.plan vizardlaw04_works.body) (by kernel_rfl) (by kernel_rfl) (by kernel_rfl) (wC_sound vizardlaw04_works.hΓ Tryd.hm vizardlaw04_works.plan _ vizardlaw04_works.pok) fun _ K E H h => by
    obtain ⟨e, h⟩ := vizardlaw04_works.Fe h
    subst e
    have h2 : vizardlaw04_works.vc (fun r0_0 H => ∃ H', Heap.Le H' H ∧ K (.bool r0_0) H') E H := h.h
    rw [vizardlaw04_works.eq (Fg K) E H]
    exact h2

/-! vizard/prefix.Has -/
noncomputable def prefix_Has.body : Code := Tryd.f19.body.getD .skip
def prefix_Has.vc (p0 : Int) (p1 : Int) (a0 : Int) (K : Bool → Heap → Prop) (E : Value → Heap → Prop) (h0 : Heap) : Prop :=
  newB (.cells #[(.int .u32 p0), (.int .i64 p1)] 24) (fun b0 h1 =>
  ldI h1 .u32 ((⟨b0, 0, none⟩ : Addr).add 0) fun x0 => ldI h1 .i64 ((⟨b0, 0, none⟩ : Addr).add 1) fun x1 =>
  prefix_Check.c x0 x1 (fun x2 h2 =>
  (if x2 = true then
  ldI h2 .i64 ((⟨b0, 0, none⟩ : Addr).add 1) fun x3 =>
  ldI h2 .u32 ((⟨b0, 0, none⟩ : Addr).add 0) fun x4 =>
  prefix_rest.c x3 (fun x5 h3 =>
  (ldI h3 .u32 ((⟨b0, 0, none⟩ : Addr).add 0) fun x6 =>
  eqv h3 h3 (some (.int .u32 x4)) (.int .u32 x6)) ∧
  K ((bits .andNot .u32 a0 x5) == x4) h3) E h2
  else
  True ∧
  K false h2)) E h1) h0
structure prefix_Has.c (p0 : Int) (p1 : Int) (a0 : Int) (K : Bool → Heap → Prop) (E : Value → Heap → Prop) (H : Heap) : Prop where
  h : prefix_Has.vc p0 p1 a0 (fun r0_0 H => ∃ H', Heap.Le H' H ∧ K r0_0 H') E H
def prefix_Has.F : FT := fun args K E H => match args with
  | [(.agg ⟨[(.int .u32 p0), (.int .i64 p1)]⟩), (.int .u32 a0)] => prefix_Has.c p0 p1 a0 (fun r0_0 H => K (.bool r0_0) H) E H
  | _ => False
noncomputable def prefix_Has.Γ : FuncId → Option FT := Γof [(18, prefix_Check.F), (29, prefix_rest.F)]
theorem prefix_Has.hΓ : ∀ f F, prefix_Has.Γ f = some F → CalleeOk Tryd.prog f F := Γof_ok (List.forall_mem_cons.2 ⟨prefix_Check.ok, List.forall_mem_cons.2 ⟨prefix_rest.ok, fun _ h => nomatch h⟩⟩)
noncomputable def prefix_Has.plan : Plan := .seq (.go) (.seq (.draw ⟨[0, 1, 2, 3, 4, 5, 6, 7, 8, 9, 10, 11], (dl [(0, []), (1, [0]), (2, []), (3, []), (4, []), (5, []), (8, []), (9, []), (6, [5, 2, 4, 1, 0]), (7, []), (10, []), (11, [])] .fin), [12]⟩) (.go))
theorem prefix_Has.pok : PlanOk Tryd.prog prefix_Has.plan prefix_Has.body := by
  have e : PlanOk Tryd.prog prefix_Has.plan prefix_Has.body = ((True) ∧ ((True) ∧ (True))) := by kernel_rfl
  exact e.mpr ⟨trivial, ⟨trivial, trivial⟩⟩
theorem prefix_Has.eq (p0 : Int) (p1 : Int) (a0 : Int) (K : Value → Heap → Prop) (E : Value → Heap → Prop) (H : Heap) :
    fnT Tryd.prog Tryd.f19 (wC Tryd.prog prefix_Has.Γ prefix_Has.plan prefix_Has.body) [(.agg #[(.int .u32 p0), (.int .i64 p1)]), (.int .u32 a0)] K E H = prefix_Has.vc p0 p1 a0 (fun r0_0 H => K (.bool r0_0) H) E H := by
  kernel_rfl
theorem prefix_Has.Fe {args : List Value} {K E : Value → Heap → Prop} {H : Heap} (h : prefix_Has.F args K E H) : ∃ p0 p1 a0, args = [(.agg #[(.int .u32 p0), (.int .i64 p1)]), (.int .u32 a0)] ∧ prefix_Has.c p0 p1 a0 (fun r0_0 H => K (.bool r0_0) H) E H := by
  unfold prefix_Has.F at h
  split at h
  · exact ⟨_, _, _, rfl, h⟩
  · exact h.elim
theorem prefix_Has.ok : CalleeOk Tryd.prog 19 prefix_Has.F :=
  callee_ok prefix_Has.hΓ (fn := Tryd.f19) (c := prefix_Has.body) (T := wC Tryd.prog prefix_Has.Γ prefix_Has.plan prefix_Has.body) (by kernel_rfl) (by kernel_rfl) (by kernel_rfl) (wC_sound prefix_Has.hΓ Tryd.hm prefix_Has.plan _ prefix_Has.pok) fun _ K E H h => by
    obtain ⟨z0, z1, z2, e, h⟩ := prefix_Has.Fe h
    subst e
    have h2 : prefix_Has.vc z0 z1 z2 (fun r0_0 H => ∃ H', Heap.Le H' H ∧ K (.bool r0_0) H') E H := h.h
    rw [prefix_Has.eq z0 z1 z2 (Fg K) E H]
    exact h2

/-! vizard/vizardlaw04.PrefixOnce -/
noncomputable def vizardlaw04_PrefixOnce.body : Code := Tryd.f4.body.getD .skip
def vizardlaw04_PrefixOnce.J2.vc (low0 : Int) (high0 : Int) (a0 : Int) (l0 : Option Addr) (l1 : Nat) (l2 : Nat) (n0 : Int) (i0 : Int) (x0 : Bool) (Kn : Heap → Prop) (Kr : Bool → Heap → Prop) (E : Value → Heap → Prop) (h0 : Heap) : Prop :=
  (if x0 = true then
  Kr false h0
  else
  Kn h0)
structure vizardlaw04_PrefixOnce.J2 (low0 : Int) (high0 : Int) (a0 : Int) (l0 : Option Addr) (l1 : Nat) (l2 : Nat) (n0 : Int) (i0 : Int) (x0 : Bool) (Kn : Heap → Prop) (Kr : Bool → Heap → Prop) (E : Value → Heap → Prop) (H : Heap) : Prop where
  h : vizardlaw04_PrefixOnce.J2.vc low0 high0 a0 l0 l1 l2 n0 i0 x0 Kn Kr E H
def vizardlaw04_PrefixOnce.J3.vc (low0 : Int) (high0 : Int) (a0 : Int) (l0 : Option Addr) (l1 : Nat) (l2 : Nat) (n0 : Int) (i0 : Int) (Kn : Int → Heap → Prop) (E : Value → Heap → Prop) (h0 : Heap) : Prop :=
  nilc l0 fun a1 => (0 : Int) ≤ i0 ∧ i0 < (l1 : Int) ∧
  ldI h0 .u32 ((a1.add (i0.toNat * 2)).add 0) fun x0 => ldI h0 .i64 ((a1.add (i0.toNat * 2)).add 1) fun x1 =>
  prefix_Has.c x0 x1 a0 (fun x2 h1 =>
  (if x2 = true then
  Kn (IntKind.i64.wrap (n0 + 1)) h1
  else
  Kn n0 h1)) E h0
structure vizardlaw04_PrefixOnce.J3 (low0 : Int) (high0 : Int) (a0 : Int) (l0 : Option Addr) (l1 : Nat) (l2 : Nat) (n0 : Int) (i0 : Int) (Kn : Int → Heap → Prop) (E : Value → Heap → Prop) (H : Heap) : Prop where
  h : vizardlaw04_PrefixOnce.J3.vc low0 high0 a0 l0 l1 l2 n0 i0 Kn E H
def vizardlaw04_PrefixOnce.J4.vc (low0 : Int) (high0 : Int) (a0 : Int) (l0 : Option Addr) (l1 : Nat) (l2 : Nat) (n0 : Int) (i0 : Int) (Kn : Int → Heap → Prop) (E : Value → Heap → Prop) (h0 : Heap) : Prop :=
  Kn (IntKind.i64.wrap (i0 + 1)) h0
structure vizardlaw04_PrefixOnce.J4 (low0 : Int) (high0 : Int) (a0 : Int) (l0 : Option Addr) (l1 : Nat) (l2 : Nat) (n0 : Int) (i0 : Int) (Kn : Int → Heap → Prop) (E : Value → Heap → Prop) (H : Heap) : Prop where
  h : vizardlaw04_PrefixOnce.J4.vc low0 high0 a0 l0 l1 l2 n0 i0 Kn E H
def vizardlaw04_PrefixOnce.W1.vc (low0 : Int) (high0 : Int) (a0 : Int) (l0 : Option Addr) (l1 : Nat) (l2 : Nat) (n0 : Int) (i0 : Int) (Kx0 : Int → Heap → Prop) (Kr : Bool → Heap → Prop) (RR : Int → Int → Heap → Prop) (E : Value → Heap → Prop) (h0 : Heap) : Prop :=
  (if (decide (i0 < (l1 : Int))) = true then
  nilc l0 fun a1 => (0 : Int) ≤ i0 ∧ i0 < (l1 : Int) ∧
  ldI h0 .u32 ((a1.add (i0.toNat * 2)).add 0) fun x0 => ldI h0 .i64 ((a1.add (i0.toNat * 2)).add 1) fun x1 =>
  prefix_Check.c x0 x1 (fun x2 h1 =>
  (if (!x2) = true then
  vizardlaw04_PrefixOnce.J2 low0 high0 a0 l0 l1 l2 n0 i0 true (fun h2 =>
  vizardlaw04_PrefixOnce.J3 low0 high0 a0 l0 l1 l2 n0 i0 (fun n1 h3 =>
  vizardlaw04_PrefixOnce.J4 low0 high0 a0 l0 l1 l2 n1 i0 (fun i1 h4 =>
  RR n1 i1 h4) E h3) E h2) Kr E h1
  else
  (if (decide (i0 > 0)) = true then
  nilc l0 fun a2 => (0 : Int) ≤ i0 ∧ i0 < (l1 : Int) ∧
  ldI h1 .u32 ((a2.add (i0.toNat * 2)).add 0) fun x4 =>
  nilc l0 fun a3 => (0 : Int) ≤ (IntKind.i64.wrap (i0 - 1)) ∧ (IntKind.i64.wrap (i0 - 1)) < (l1 : Int) ∧
  ldI h1 .u32 ((a3.add ((IntKind.i64.wrap (i0 - 1)).toNat * 2)).add 0) fun x5 =>
  vizardlaw04_PrefixOnce.J2 low0 high0 a0 l0 l1 l2 n0 i0 (decide (x4 ≤ x5)) (fun h6 =>
  vizardlaw04_PrefixOnce.J3 low0 high0 a0 l0 l1 l2 n0 i0 (fun n2 h7 =>
  vizardlaw04_PrefixOnce.J4 low0 high0 a0 l0 l1 l2 n2 i0 (fun i2 h8 =>
  RR n2 i2 h8) E h7) E h6) Kr E h1
  else
  vizardlaw04_PrefixOnce.J2 low0 high0 a0 l0 l1 l2 n0 i0 false (fun h10 =>
  vizardlaw04_PrefixOnce.J3 low0 high0 a0 l0 l1 l2 n0 i0 (fun n3 h11 =>
  vizardlaw04_PrefixOnce.J4 low0 high0 a0 l0 l1 l2 n3 i0 (fun i3 h12 =>
  RR n3 i3 h12) E h11) E h10) Kr E h1))) E h0
  else
  Kx0 n0 h0)
structure vizardlaw04_PrefixOnce.W1 (low0 : Int) (high0 : Int) (a0 : Int) (l0 : Option Addr) (l1 : Nat) (l2 : Nat) (n0 : Int) (i0 : Int) (Kx0 : Int → Heap → Prop) (Kr : Bool → Heap → Prop) (E : Value → Heap → Prop) (H : Heap) : Prop where
  h : Loop (fun (RR : Int × Int → Heap → Prop) (s : Int × Int) (H : Heap) => vizardlaw04_PrefixOnce.W1.vc low0 high0 a0 l0 l1 l2 s.1 s.2 Kx0 Kr (fun n0 i0 H => RR (n0, i0) H) E H) (n0, i0) H
def vizardlaw04_PrefixOnce.J5.vc (l0 : Option Addr) (l1 : Nat) (l2 : Nat) (n0 : Int) (x0 : Bool) (Kn : Heap → Prop) (Kr : Bool → Heap → Prop) (E : Value → Heap → Prop) (h0 : Heap) : Prop :=
  (if x0 = true then
  (if (n0 == 1) = true then
  Kr (decide ((l1 : Int) ≤ 62)) h0
  else
  Kr false h0)
  else
  Kn h0)
structure vizardlaw04_PrefixOnce.J5 (l0 : Option Addr) (l1 : Nat) (l2 : Nat) (n0 : Int) (x0 : Bool) (Kn : Heap → Prop) (Kr : Bool → Heap → Prop) (E : Value → Heap → Prop) (H : Heap) : Prop where
  h : vizardlaw04_PrefixOnce.J5.vc l0 l1 l2 n0 x0 Kn Kr E H
def vizardlaw04_PrefixOnce.J6.vc (l0 : Option Addr) (l1 : Nat) (l2 : Nat) (n0 : Int) (Kr : Bool → Heap → Prop) (E : Value → Heap → Prop) (h0 : Heap) : Prop :=
  (if (n0 == 0) = true then
  Kr (decide ((l1 : Int) ≤ 62)) h0
  else
  Kr false h0)
structure vizardlaw04_PrefixOnce.J6 (l0 : Option Addr) (l1 : Nat) (l2 : Nat) (n0 : Int) (Kr : Bool → Heap → Prop) (E : Value → Heap → Prop) (H : Heap) : Prop where
  h : vizardlaw04_PrefixOnce.J6.vc l0 l1 l2 n0 Kr E H
def vizardlaw04_PrefixOnce.vc (low0 : Int) (high0 : Int) (a0 : Int) (K : Bool → Heap → Prop) (E : Value → Heap → Prop) (h0 : Heap) : Prop :=
  vizardlaw04_works.c (fun x0 h1 =>
  (if (!x0) = true then
  K false h1
  else
  prefix_Cover.c low0 high0 (fun x1 x2 x3 h2 =>
  vizardlaw04_PrefixOnce.W1 low0 high0 a0 x1 x2 x3 0 0 (fun n0 h3 =>
  (if (decide (a0 ≥ low0)) = true then
  vizardlaw04_PrefixOnce.J5 x1 x2 x3 n0 (decide (a0 ≤ high0)) (fun h4 =>
  vizardlaw04_PrefixOnce.J6 x1 x2 x3 n0 K E h4) K E h3
  else
  vizardlaw04_PrefixOnce.J5 x1 x2 x3 n0 false (fun h7 =>
  vizardlaw04_PrefixOnce.J6 x1 x2 x3 n0 K E h7) K E h3)) K E h2) E h1)) E h0
structure vizardlaw04_PrefixOnce.c (low0 : Int) (high0 : Int) (a0 : Int) (K : Bool → Heap → Prop) (E : Value → Heap → Prop) (H : Heap) : Prop where
  h : vizardlaw04_PrefixOnce.vc low0 high0 a0 (fun r0_0 H => ∃ H', Heap.Le H' H ∧ K r0_0 H') E H
def vizardlaw04_PrefixOnce.F : FT := fun args K E H => match args with
  | [(.int .u32 low0), (.int .u32 high0), (.int .u32 a0)] => vizardlaw04_PrefixOnce.c low0 high0 a0 (fun r0_0 H => K (.bool r0_0) H) E H
  | _ => False
noncomputable def vizardlaw04_PrefixOnce.Γ : FuncId → Option FT := Γof [(16, vizardlaw04_works.F), (17, prefix_Cover.F), (18, prefix_Check.F), (19, prefix_Has.F)]
theorem vizardlaw04_PrefixOnce.hΓ : ∀ f F, vizardlaw04_PrefixOnce.Γ f = some F → CalleeOk Tryd.prog f F := Γof_ok (List.forall_mem_cons.2 ⟨vizardlaw04_works.ok, List.forall_mem_cons.2 ⟨prefix_Cover.ok, List.forall_mem_cons.2 ⟨prefix_Check.ok, List.forall_mem_cons.2 ⟨prefix_Has.ok, fun _ h => nomatch h⟩⟩⟩⟩)
def vizardlaw04_PrefixOnce.J2.t : CT := fun Q E fr H => lenIs 75 fr (slI fr 0 .u32 fun low0 => slI fr 1 .u32 fun high0 => slI fr 2 .u32 fun a0 => slSl fr 7 fun l0 l1 l2 => slI fr 8 .i64 fun n0 => slI fr 9 .i64 fun i0 => slB fr 44 fun x0 => vizardlaw04_PrefixOnce.J2 low0 high0 a0 l0 l1 l2 n0 i0 x0 (fun  H => Q .normal (mkF 75 [(0, (.int .u32 low0)), (1, (.int .u32 high0)), (2, (.int .u32 a0)), (7, (.slice l0 l1 l2)), (8, (.int .i64 n0)), (9, (.int .i64 i0))]) H) (fun y6_0 H => Q .ret (mkF 75 [(6, (.bool y6_0))]) H) E H)
noncomputable def vizardlaw04_PrefixOnce.J2.plan : Plan := .go
theorem vizardlaw04_PrefixOnce.J2.pok : PlanOk Tryd.prog vizardlaw04_PrefixOnce.J2.plan (sub [1, 1, 1, 1, 0, 1, 0, 0, 1, 0, 0, 0, 1] vizardlaw04_PrefixOnce.body) := by
  have e : PlanOk Tryd.prog vizardlaw04_PrefixOnce.J2.plan (sub [1, 1, 1, 1, 0, 1, 0, 0, 1, 0, 0, 0, 1] vizardlaw04_PrefixOnce.body) = (True) := by kernel_rfl
  exact e.mpr trivial
theorem vizardlaw04_PrefixOnce.J2.eq (low0 : Int) (high0 : Int) (a0 : Int) (l0 : Option Addr) (l1 : Nat) (l2 : Nat) (n0 : Int) (i0 : Int) (x0 : Bool) (Q : Ex → Fr → Heap → Prop) (E : Value → Heap → Prop) (H : Heap) :
    vizardlaw04_PrefixOnce.J2.vc low0 high0 a0 l0 l1 l2 n0 i0 x0 (fun  H => Q .normal (mkF 75 [(0, (.int .u32 low0)), (1, (.int .u32 high0)), (2, (.int .u32 a0)), (7, (.slice l0 l1 l2)), (8, (.int .i64 n0)), (9, (.int .i64 i0))]) H) (fun y6_0 H => Q .ret (mkF 75 [(6, (.bool y6_0))]) H) E H = keepT [0, 1, 2, 7, 8, 9] [6] (fun i => []) (wC Tryd.prog vizardlaw04_PrefixOnce.Γ vizardlaw04_PrefixOnce.J2.plan (sub [1, 1, 1, 1, 0, 1, 0, 0, 1, 0, 0, 0, 1] vizardlaw04_PrefixOnce.body)) Q E (mkF 75 [(0, (.int .u32 low0)), (1, (.int .u32 high0)), (2, (.int .u32 a0)), (7, (.slice l0 l1 l2)), (8, (.int .i64 n0)), (9, (.int .i64 i0)), (44, (.bool x0))]) H := by
  kernel_rfl
theorem vizardlaw04_PrefixOnce.J2.ok : SoundCode Tryd.prog (sub [1, 1, 1, 1, 0, 1, 0, 0, 1, 0, 0, 0, 1] vizardlaw04_PrefixOnce.body) vizardlaw04_PrefixOnce.J2.t := by
  refine piece_sound (keepT_sound [0, 1, 2, 7, 8, 9] [6] (fun i => []) (wC_sound vizardlaw04_PrefixOnce.hΓ Tryd.hm vizardlaw04_PrefixOnce.J2.plan _ vizardlaw04_PrefixOnce.J2.pok)) ?_
  intro Q E fr H h
  unfold vizardlaw04_PrefixOnce.J2.t at h
  obtain ⟨hl, h⟩ := lenIs_elim h
  obtain ⟨low0, q0, h⟩ := slI_elim h
  obtain ⟨high0, q1, h⟩ := slI_elim h
  obtain ⟨a0, q2, h⟩ := slI_elim h
  obtain ⟨l0, l1, l2, q7, h⟩ := slSl_elim h
  obtain ⟨n0, q8, h⟩ := slI_elim h
  obtain ⟨i0, q9, h⟩ := slI_elim h
  obtain ⟨x0, q44, h⟩ := slB_elim h
  refine ⟨(mkF 75 [(0, (.int .u32 low0)), (1, (.int .u32 high0)), (2, (.int .u32 a0)), (7, (.slice l0 l1 l2)), (8, (.int .i64 n0)), (9, (.int .i64 i0)), (44, (.bool x0))]), fun a ha => ha.mk (Nat.le_of_eq hl.symm) (List.forall_mem_cons.2 ⟨q0, List.forall_mem_cons.2 ⟨q1, List.forall_mem_cons.2 ⟨q2, List.forall_mem_cons.2 ⟨q7, List.forall_mem_cons.2 ⟨q8, List.forall_mem_cons.2 ⟨q9, List.forall_mem_cons.2 ⟨q44, fun _ h => nomatch h⟩⟩⟩⟩⟩⟩⟩), ?_⟩
  have e := vizardlaw04_PrefixOnce.J2.eq low0 high0 a0 l0 l1 l2 n0 i0 x0 Q E H
  rw [← e]
  exact h.h
def vizardlaw04_PrefixOnce.J3.t : CT := fun Q E fr H => lenIs 75 fr (slI fr 0 .u32 fun low0 => slI fr 1 .u32 fun high0 => slI fr 2 .u32 fun a0 => slSl fr 7 fun l0 l1 l2 => slI fr 8 .i64 fun n0 => slI fr 9 .i64 fun i0 => vizardlaw04_PrefixOnce.J3 low0 high0 a0 l0 l1 l2 n0 i0 (fun y8_0 H => Q .normal (mkF 75 [(0, (.int .u32 low0)), (1, (.int .u32 high0)), (2, (.int .u32 a0)), (7, (.slice l0 l1 l2)), (8, (.int .i64 y8_0)), (9, (.int .i64 i0))]) H) E H)
noncomputable def vizardlaw04_PrefixOnce.J3.plan : Plan := .go
theorem vizardlaw04_PrefixOnce.J3.pok : PlanOk Tryd.prog vizardlaw04_PrefixOnce.J3.plan (sub [1, 1, 1, 1, 0, 1, 0, 0, 1, 0, 0, 1] vizardlaw04_PrefixOnce.body) := by
  have e : PlanOk Tryd.prog vizardlaw04_PrefixOnce.J3.plan (sub [1, 1, 1, 1, 0, 1, 0, 0, 1, 0, 0, 1] vizardlaw04_PrefixOnce.body) = (True) := by kernel_rfl
  exact e.mpr trivial
theorem vizardlaw04_PrefixOnce.J3.eq (low0 : Int) (high0 : Int) (a0 : Int) (l0 : Option Addr) (l1 : Nat) (l2 : Nat) (n0 : Int) (i0 : Int) (Q : Ex → Fr → Heap → Prop) (E : Value → Heap → Prop) (H : Heap) :
    vizardlaw04_PrefixOnce.J3.vc low0 high0 a0 l0 l1 l2 n0 i0 (fun y8_0 H => Q .normal (mkF 75 [(0, (.int .u32 low0)), (1, (.int .u32 high0)), (2, (.int .u32 a0)), (7, (.slice l0 l1 l2)), (8, (.int .i64 y8_0)), (9, (.int .i64 i0))]) H) E H = keepT [0, 1, 2, 7, 8, 9] [] (fun i => []) (wC Tryd.prog vizardlaw04_PrefixOnce.Γ vizardlaw04_PrefixOnce.J3.plan (sub [1, 1, 1, 1, 0, 1, 0, 0, 1, 0, 0, 1] vizardlaw04_PrefixOnce.body)) Q E (mkF 75 [(0, (.int .u32 low0)), (1, (.int .u32 high0)), (2, (.int .u32 a0)), (7, (.slice l0 l1 l2)), (8, (.int .i64 n0)), (9, (.int .i64 i0))]) H := by
  kernel_rfl
theorem vizardlaw04_PrefixOnce.J3.ok : SoundCode Tryd.prog (sub [1, 1, 1, 1, 0, 1, 0, 0, 1, 0, 0, 1] vizardlaw04_PrefixOnce.body) vizardlaw04_PrefixOnce.J3.t := by
  refine piece_sound (keepT_sound [0, 1, 2, 7, 8, 9] [] (fun i => []) (wC_sound vizardlaw04_PrefixOnce.hΓ Tryd.hm vizardlaw04_PrefixOnce.J3.plan _ vizardlaw04_PrefixOnce.J3.pok)) ?_
  intro Q E fr H h
  unfold vizardlaw04_PrefixOnce.J3.t at h
  obtain ⟨hl, h⟩ := lenIs_elim h
  obtain ⟨low0, q0, h⟩ := slI_elim h
  obtain ⟨high0, q1, h⟩ := slI_elim h
  obtain ⟨a0, q2, h⟩ := slI_elim h
  obtain ⟨l0, l1, l2, q7, h⟩ := slSl_elim h
  obtain ⟨n0, q8, h⟩ := slI_elim h
  obtain ⟨i0, q9, h⟩ := slI_elim h
  refine ⟨(mkF 75 [(0, (.int .u32 low0)), (1, (.int .u32 high0)), (2, (.int .u32 a0)), (7, (.slice l0 l1 l2)), (8, (.int .i64 n0)), (9, (.int .i64 i0))]), fun a ha => ha.mk (Nat.le_of_eq hl.symm) (List.forall_mem_cons.2 ⟨q0, List.forall_mem_cons.2 ⟨q1, List.forall_mem_cons.2 ⟨q2, List.forall_mem_cons.2 ⟨q7, List.forall_mem_cons.2 ⟨q8, List.forall_mem_cons.2 ⟨q9, fun _ h => nomatch h⟩⟩⟩⟩⟩⟩), ?_⟩
  have e := vizardlaw04_PrefixOnce.J3.eq low0 high0 a0 l0 l1 l2 n0 i0 Q E H
  rw [← e]
  exact h.h
def vizardlaw04_PrefixOnce.J4.t : CT := fun Q E fr H => lenIs 75 fr (slI fr 0 .u32 fun low0 => slI fr 1 .u32 fun high0 => slI fr 2 .u32 fun a0 => slSl fr 7 fun l0 l1 l2 => slI fr 8 .i64 fun n0 => slI fr 9 .i64 fun i0 => vizardlaw04_PrefixOnce.J4 low0 high0 a0 l0 l1 l2 n0 i0 (fun y9_0 H => Q .normal (mkF 75 [(0, (.int .u32 low0)), (1, (.int .u32 high0)), (2, (.int .u32 a0)), (7, (.slice l0 l1 l2)), (8, (.int .i64 n0)), (9, (.int .i64 y9_0))]) H) E H)
noncomputable def vizardlaw04_PrefixOnce.J4.plan : Plan := .go
theorem vizardlaw04_PrefixOnce.J4.pok : PlanOk Tryd.prog vizardlaw04_PrefixOnce.J4.plan (sub [1, 1, 1, 1, 0, 1, 0, 0, 1, 1] vizardlaw04_PrefixOnce.body) := by
  have e : PlanOk Tryd.prog vizardlaw04_PrefixOnce.J4.plan (sub [1, 1, 1, 1, 0, 1, 0, 0, 1, 1] vizardlaw04_PrefixOnce.body) = (True) := by kernel_rfl
  exact e.mpr trivial
theorem vizardlaw04_PrefixOnce.J4.eq (low0 : Int) (high0 : Int) (a0 : Int) (l0 : Option Addr) (l1 : Nat) (l2 : Nat) (n0 : Int) (i0 : Int) (Q : Ex → Fr → Heap → Prop) (E : Value → Heap → Prop) (H : Heap) :
    vizardlaw04_PrefixOnce.J4.vc low0 high0 a0 l0 l1 l2 n0 i0 (fun y9_0 H => Q .normal (mkF 75 [(0, (.int .u32 low0)), (1, (.int .u32 high0)), (2, (.int .u32 a0)), (7, (.slice l0 l1 l2)), (8, (.int .i64 n0)), (9, (.int .i64 y9_0))]) H) E H = keepT [0, 1, 2, 7, 8, 9] [] (fun i => []) (wC Tryd.prog vizardlaw04_PrefixOnce.Γ vizardlaw04_PrefixOnce.J4.plan (sub [1, 1, 1, 1, 0, 1, 0, 0, 1, 1] vizardlaw04_PrefixOnce.body)) Q E (mkF 75 [(0, (.int .u32 low0)), (1, (.int .u32 high0)), (2, (.int .u32 a0)), (7, (.slice l0 l1 l2)), (8, (.int .i64 n0)), (9, (.int .i64 i0))]) H := by
  kernel_rfl
theorem vizardlaw04_PrefixOnce.J4.ok : SoundCode Tryd.prog (sub [1, 1, 1, 1, 0, 1, 0, 0, 1, 1] vizardlaw04_PrefixOnce.body) vizardlaw04_PrefixOnce.J4.t := by
  refine piece_sound (keepT_sound [0, 1, 2, 7, 8, 9] [] (fun i => []) (wC_sound vizardlaw04_PrefixOnce.hΓ Tryd.hm vizardlaw04_PrefixOnce.J4.plan _ vizardlaw04_PrefixOnce.J4.pok)) ?_
  intro Q E fr H h
  unfold vizardlaw04_PrefixOnce.J4.t at h
  obtain ⟨hl, h⟩ := lenIs_elim h
  obtain ⟨low0, q0, h⟩ := slI_elim h
  obtain ⟨high0, q1, h⟩ := slI_elim h
  obtain ⟨a0, q2, h⟩ := slI_elim h
  obtain ⟨l0, l1, l2, q7, h⟩ := slSl_elim h
  obtain ⟨n0, q8, h⟩ := slI_elim h
  obtain ⟨i0, q9, h⟩ := slI_elim h
  refine ⟨(mkF 75 [(0, (.int .u32 low0)), (1, (.int .u32 high0)), (2, (.int .u32 a0)), (7, (.slice l0 l1 l2)), (8, (.int .i64 n0)), (9, (.int .i64 i0))]), fun a ha => ha.mk (Nat.le_of_eq hl.symm) (List.forall_mem_cons.2 ⟨q0, List.forall_mem_cons.2 ⟨q1, List.forall_mem_cons.2 ⟨q2, List.forall_mem_cons.2 ⟨q7, List.forall_mem_cons.2 ⟨q8, List.forall_mem_cons.2 ⟨q9, fun _ h => nomatch h⟩⟩⟩⟩⟩⟩), ?_⟩
  have e := vizardlaw04_PrefixOnce.J4.eq low0 high0 a0 l0 l1 l2 n0 i0 Q E H
  rw [← e]
  exact h.h
def vizardlaw04_PrefixOnce.W1.t : CT := fun Q E fr H => lenIs 75 fr (slI fr 0 .u32 fun low0 => slI fr 1 .u32 fun high0 => slI fr 2 .u32 fun a0 => slSl fr 7 fun l0 l1 l2 => slI fr 8 .i64 fun n0 => slI fr 9 .i64 fun i0 => vizardlaw04_PrefixOnce.W1 low0 high0 a0 l0 l1 l2 n0 i0 (fun y8_0 H => Q (.exit 0) (mkF 75 [(0, (.int .u32 low0)), (1, (.int .u32 high0)), (2, (.int .u32 a0)), (7, (.slice l0 l1 l2)), (8, (.int .i64 y8_0))]) H) (fun y6_0 H => Q .ret (mkF 75 [(6, (.bool y6_0))]) H) E H)
noncomputable def vizardlaw04_PrefixOnce.W1.plan : Plan := .seq (.go) (.seq (.block (.seq (.seq (.draw ⟨[0, 1, 2, 3, 4, 5, 6, 7, 8, 9, 10, 11, 12, 13, 14, 15, 16, 17, 18, 19, 20, 21, 22, 23], (dl [(0, []), (1, []), (2, []), (3, []), (4, [3, 2, 0, 1]), (5, []), (6, []), (7, []), (8, []), (9, []), (10, []), (11, []), (12, []), (13, []), (14, []), (15, []), (16, []), (17, []), (18, []), (19, []), (20, []), (21, []), (22, []), (23, [])] .fin), []⟩) (.use vizardlaw04_PrefixOnce.J2.t)) (.use vizardlaw04_PrefixOnce.J3.t))) (.use vizardlaw04_PrefixOnce.J4.t))
theorem vizardlaw04_PrefixOnce.W1.pok : PlanOk Tryd.prog vizardlaw04_PrefixOnce.W1.plan (sub [1, 1, 1, 1, 0, 1, 0, 0] vizardlaw04_PrefixOnce.body) := by
  have e : PlanOk Tryd.prog vizardlaw04_PrefixOnce.W1.plan (sub [1, 1, 1, 1, 0, 1, 0, 0] vizardlaw04_PrefixOnce.body) = ((True) ∧ ((((True) ∧ (SoundCode Tryd.prog (sub [1, 1, 1, 1, 0, 1, 0, 0, 1, 0, 0, 0, 1] vizardlaw04_PrefixOnce.body) vizardlaw04_PrefixOnce.J2.t)) ∧ (SoundCode Tryd.prog (sub [1, 1, 1, 1, 0, 1, 0, 0, 1, 0, 0, 1] vizardlaw04_PrefixOnce.body) vizardlaw04_PrefixOnce.J3.t)) ∧ (SoundCode Tryd.prog (sub [1, 1, 1, 1, 0, 1, 0, 0, 1, 1] vizardlaw04_PrefixOnce.body) vizardlaw04_PrefixOnce.J4.t))) := by kernel_rfl
  exact e.mpr ⟨trivial, ⟨⟨⟨trivial, vizardlaw04_PrefixOnce.J2.ok⟩, vizardlaw04_PrefixOnce.J3.ok⟩, vizardlaw04_PrefixOnce.J4.ok⟩⟩
theorem vizardlaw04_PrefixOnce.W1.eq (low0 : Int) (high0 : Int) (a0 : Int) (l0 : Option Addr) (l1 : Nat) (l2 : Nat) (Q : Ex → Fr → Heap → Prop) (E : Value → Heap → Prop) (RR : Fr → Heap → Prop) (s : Int × Int) (H : Heap) :
    (fun (RR : Int × Int → Heap → Prop) (s : Int × Int) (H : Heap) => vizardlaw04_PrefixOnce.W1.vc low0 high0 a0 l0 l1 l2 s.1 s.2 (fun y8_0 H => Q (.exit 0) (mkF 75 [(0, (.int .u32 low0)), (1, (.int .u32 high0)), (2, (.int .u32 a0)), (7, (.slice l0 l1 l2)), (8, (.int .i64 y8_0))]) H) (fun y6_0 H => Q .ret (mkF 75 [(6, (.bool y6_0))]) H) (fun n0 i0 H => RR (n0, i0) H) E H) (fun s' H' => RR ((fun (s : Int × Int) => (mkF 75 [(0, (.int .u32 low0)), (1, (.int .u32 high0)), (2, (.int .u32 a0)), (7, (.slice l0 l1 l2)), (8, (.int .i64 s.1)), (9, (.int .i64 s.2))])) s') H') s H = keepT [0, 1, 2, 7, 8, 9] [6] (fun i => if i = 0 then [0, 1, 2, 7, 8] else []) (wC Tryd.prog vizardlaw04_PrefixOnce.Γ vizardlaw04_PrefixOnce.W1.plan (sub [1, 1, 1, 1, 0, 1, 0, 0] vizardlaw04_PrefixOnce.body)) (fun e fr' H' => match e with | .normal => RR fr' H' | .exit id => Q (.exit id) fr' H' | .ret => Q .ret fr' H') E ((fun (s : Int × Int) => (mkF 75 [(0, (.int .u32 low0)), (1, (.int .u32 high0)), (2, (.int .u32 a0)), (7, (.slice l0 l1 l2)), (8, (.int .i64 s.1)), (9, (.int .i64 s.2))])) s) H := by
  kernel_rfl
theorem vizardlaw04_PrefixOnce.W1.ok : SoundCode Tryd.prog (sub [1, 1, 1, 1, 0, 1, 0] vizardlaw04_PrefixOnce.body) vizardlaw04_PrefixOnce.W1.t := by
  have e : (sub [1, 1, 1, 1, 0, 1, 0] vizardlaw04_PrefixOnce.body) = .loop (sub [1, 1, 1, 1, 0, 1, 0, 0] vizardlaw04_PrefixOnce.body) := by kernel_rfl
  rw [e]
  refine piece_sound (loopN_sound (keepT_sound [0, 1, 2, 7, 8, 9] [6] (fun i => if i = 0 then [0, 1, 2, 7, 8] else []) (wC_sound vizardlaw04_PrefixOnce.hΓ Tryd.hm vizardlaw04_PrefixOnce.W1.plan _ vizardlaw04_PrefixOnce.W1.pok))) ?_
  intro Q E fr H h
  unfold vizardlaw04_PrefixOnce.W1.t at h
  obtain ⟨hl, h⟩ := lenIs_elim h
  obtain ⟨low0, q0, h⟩ := slI_elim h
  obtain ⟨high0, q1, h⟩ := slI_elim h
  obtain ⟨a0, q2, h⟩ := slI_elim h
  obtain ⟨l0, l1, l2, q7, h⟩ := slSl_elim h
  obtain ⟨n0, q8, h⟩ := slI_elim h
  obtain ⟨i0, q9, h⟩ := slI_elim h
  obtain ⟨m, h⟩ := h.h
  refine ⟨(mkF 75 [(0, (.int .u32 low0)), (1, (.int .u32 high0)), (2, (.int .u32 a0)), (7, (.slice l0 l1 l2)), (8, (.int .i64 n0)), (9, (.int .i64 i0))]), fun a ha => ha.mk (Nat.le_of_eq hl.symm) (List.forall_mem_cons.2 ⟨q0, List.forall_mem_cons.2 ⟨q1, List.forall_mem_cons.2 ⟨q2, List.forall_mem_cons.2 ⟨q7, List.forall_mem_cons.2 ⟨q8, List.forall_mem_cons.2 ⟨q9, fun _ h => nomatch h⟩⟩⟩⟩⟩⟩), m, ?_⟩
  have e := loopS_eq (B := (fun (RR : Int × Int → Heap → Prop) (s : Int × Int) (H : Heap) => vizardlaw04_PrefixOnce.W1.vc low0 high0 a0 l0 l1 l2 s.1 s.2 (fun y8_0 H => Q (.exit 0) (mkF 75 [(0, (.int .u32 low0)), (1, (.int .u32 high0)), (2, (.int .u32 a0)), (7, (.slice l0 l1 l2)), (8, (.int .i64 y8_0))]) H) (fun y6_0 H => Q .ret (mkF 75 [(6, (.bool y6_0))]) H) (fun n0 i0 H => RR (n0, i0) H) E H)) (A := keepT [0, 1, 2, 7, 8, 9] [6] (fun i => if i = 0 then [0, 1, 2, 7, 8] else []) (wC Tryd.prog vizardlaw04_PrefixOnce.Γ vizardlaw04_PrefixOnce.W1.plan (sub [1, 1, 1, 1, 0, 1, 0, 0] vizardlaw04_PrefixOnce.body))) (m := (fun (s : Int × Int) => (mkF 75 [(0, (.int .u32 low0)), (1, (.int .u32 high0)), (2, (.int .u32 a0)), (7, (.slice l0 l1 l2)), (8, (.int .i64 s.1)), (9, (.int .i64 s.2))]))) (Q := Q) (E := E) (fun RR s H => vizardlaw04_PrefixOnce.W1.eq low0 high0 a0 l0 l1 l2 Q E RR s H) m (n0, i0) H
  exact cast e h
def vizardlaw04_PrefixOnce.J5.t : CT := fun Q E fr H => lenIs 75 fr (slSl fr 7 fun l0 l1 l2 => slI fr 8 .i64 fun n0 => slB fr 60 fun x0 => vizardlaw04_PrefixOnce.J5 l0 l1 l2 n0 x0 (fun  H => Q .normal (mkF 75 [(7, (.slice l0 l1 l2)), (8, (.int .i64 n0))]) H) (fun y6_0 H => Q .ret (mkF 75 [(6, (.bool y6_0))]) H) E H)
noncomputable def vizardlaw04_PrefixOnce.J5.plan : Plan := .go
theorem vizardlaw04_PrefixOnce.J5.pok : PlanOk Tryd.prog vizardlaw04_PrefixOnce.J5.plan (sub [1, 1, 1, 1, 1, 0, 1] vizardlaw04_PrefixOnce.body) := by
  have e : PlanOk Tryd.prog vizardlaw04_PrefixOnce.J5.plan (sub [1, 1, 1, 1, 1, 0, 1] vizardlaw04_PrefixOnce.body) = (True) := by kernel_rfl
  exact e.mpr trivial
theorem vizardlaw04_PrefixOnce.J5.eq (l0 : Option Addr) (l1 : Nat) (l2 : Nat) (n0 : Int) (x0 : Bool) (Q : Ex → Fr → Heap → Prop) (E : Value → Heap → Prop) (H : Heap) :
    vizardlaw04_PrefixOnce.J5.vc l0 l1 l2 n0 x0 (fun  H => Q .normal (mkF 75 [(7, (.slice l0 l1 l2)), (8, (.int .i64 n0))]) H) (fun y6_0 H => Q .ret (mkF 75 [(6, (.bool y6_0))]) H) E H = keepT [7, 8] [6] (fun i => []) (wC Tryd.prog vizardlaw04_PrefixOnce.Γ vizardlaw04_PrefixOnce.J5.plan (sub [1, 1, 1, 1, 1, 0, 1] vizardlaw04_PrefixOnce.body)) Q E (mkF 75 [(7, (.slice l0 l1 l2)), (8, (.int .i64 n0)), (60, (.bool x0))]) H := by
  kernel_rfl
theorem vizardlaw04_PrefixOnce.J5.ok : SoundCode Tryd.prog (sub [1, 1, 1, 1, 1, 0, 1] vizardlaw04_PrefixOnce.body) vizardlaw04_PrefixOnce.J5.t := by
  refine piece_sound (keepT_sound [7, 8] [6] (fun i => []) (wC_sound vizardlaw04_PrefixOnce.hΓ Tryd.hm vizardlaw04_PrefixOnce.J5.plan _ vizardlaw04_PrefixOnce.J5.pok)) ?_
  intro Q E fr H h
  unfold vizardlaw04_PrefixOnce.J5.t at h
  obtain ⟨hl, h⟩ := lenIs_elim h
  obtain ⟨l0, l1, l2, q7, h⟩ := slSl_elim h
  obtain ⟨n0, q8, h⟩ := slI_elim h
  obtain ⟨x0, q60, h⟩ := slB_elim h
  refine ⟨(mkF 75 [(7, (.slice l0 l1 l2)), (8, (.int .i64 n0)), (60, (.bool x0))]), fun a ha => ha.mk (Nat.le_of_eq hl.symm) (List.forall_mem_cons.2 ⟨q7, List.forall_mem_cons.2 ⟨q8, List.forall_mem_cons.2 ⟨q60, fun _ h => nomatch h⟩⟩⟩), ?_⟩
  have e := vizardlaw04_PrefixOnce.J5.eq l0 l1 l2 n0 x0 Q E H
  rw [← e]
  exact h.h
def vizardlaw04_PrefixOnce.J6.t : CT := fun Q E fr H => lenIs 75 fr (slSl fr 7 fun l0 l1 l2 => slI fr 8 .i64 fun n0 => vizardlaw04_PrefixOnce.J6 l0 l1 l2 n0 (fun y6_0 H => Q .ret (mkF 75 [(6, (.bool y6_0))]) H) E H)
noncomputable def vizardlaw04_PrefixOnce.J6.plan : Plan := .go
theorem vizardlaw04_PrefixOnce.J6.pok : PlanOk Tryd.prog vizardlaw04_PrefixOnce.J6.plan (sub [1, 1, 1, 1, 1, 1] vizardlaw04_PrefixOnce.body) := by
  have e : PlanOk Tryd.prog vizardlaw04_PrefixOnce.J6.plan (sub [1, 1, 1, 1, 1, 1] vizardlaw04_PrefixOnce.body) = (True) := by kernel_rfl
  exact e.mpr trivial
theorem vizardlaw04_PrefixOnce.J6.eq (l0 : Option Addr) (l1 : Nat) (l2 : Nat) (n0 : Int) (Q : Ex → Fr → Heap → Prop) (E : Value → Heap → Prop) (H : Heap) :
    vizardlaw04_PrefixOnce.J6.vc l0 l1 l2 n0 (fun y6_0 H => Q .ret (mkF 75 [(6, (.bool y6_0))]) H) E H = keepT [] [6] (fun i => []) (wC Tryd.prog vizardlaw04_PrefixOnce.Γ vizardlaw04_PrefixOnce.J6.plan (sub [1, 1, 1, 1, 1, 1] vizardlaw04_PrefixOnce.body)) Q E (mkF 75 [(7, (.slice l0 l1 l2)), (8, (.int .i64 n0))]) H := by
  kernel_rfl
theorem vizardlaw04_PrefixOnce.J6.ok : SoundCode Tryd.prog (sub [1, 1, 1, 1, 1, 1] vizardlaw04_PrefixOnce.body) vizardlaw04_PrefixOnce.J6.t := by
  refine piece_sound (keepT_sound [] [6] (fun i => []) (wC_sound vizardlaw04_PrefixOnce.hΓ Tryd.hm vizardlaw04_PrefixOnce.J6.plan _ vizardlaw04_PrefixOnce.J6.pok)) ?_
  intro Q E fr H h
  unfold vizardlaw04_PrefixOnce.J6.t at h
  obtain ⟨hl, h⟩ := lenIs_elim h
  obtain ⟨l0, l1, l2, q7, h⟩ := slSl_elim h
  obtain ⟨n0, q8, h⟩ := slI_elim h
  refine ⟨(mkF 75 [(7, (.slice l0 l1 l2)), (8, (.int .i64 n0))]), fun a ha => ha.mk (Nat.le_of_eq hl.symm) (List.forall_mem_cons.2 ⟨q7, List.forall_mem_cons.2 ⟨q8, fun _ h => nomatch h⟩⟩), ?_⟩
  have e := vizardlaw04_PrefixOnce.J6.eq l0 l1 l2 n0 Q E H
  rw [← e]
  exact h.h
noncomputable def vizardlaw04_PrefixOnce.plan : Plan := .seq (.go) (.seq (.go) (.seq (.go) (.seq (.go) (.seq (.seq (.go) (.block (.use vizardlaw04_PrefixOnce.W1.t))) (.seq (.seq (.go) (.use vizardlaw04_PrefixOnce.J5.t)) (.use vizardlaw04_PrefixOnce.J6.t))))))
theorem vizardlaw04_PrefixOnce.pok : PlanOk Tryd.prog vizardlaw04_PrefixOnce.plan vizardlaw04_PrefixOnce.body := by
  have e : PlanOk Tryd.prog vizardlaw04_PrefixOnce.plan vizardlaw04_PrefixOnce.body = ((True) ∧ ((True) ∧ ((True) ∧ ((True) ∧ (((True) ∧ (SoundCode Tryd.prog (sub [1, 1, 1, 1, 0, 1, 0] vizardlaw04_PrefixOnce.body) vizardlaw04_PrefixOnce.W1.t)) ∧ (((True) ∧ (SoundCode Tryd.prog (sub [1, 1, 1, 1, 1, 0, 1] vizardlaw04_PrefixOnce.body) vizardlaw04_PrefixOnce.J5.t)) ∧ (SoundCode Tryd.prog (sub [1, 1, 1, 1, 1, 1] vizardlaw04_PrefixOnce.body) vizardlaw04_PrefixOnce.J6.t))))))) := by kernel_rfl
  exact e.mpr ⟨trivial, ⟨trivial, ⟨trivial, ⟨trivial, ⟨⟨trivial, vizardlaw04_PrefixOnce.W1.ok⟩, ⟨⟨trivial, vizardlaw04_PrefixOnce.J5.ok⟩, vizardlaw04_PrefixOnce.J6.ok⟩⟩⟩⟩⟩⟩
theorem vizardlaw04_PrefixOnce.eq (low0 : Int) (high0 : Int) (a0 : Int) (K : Value → Heap → Prop) (E : Value → Heap → Prop) (H : Heap) :
    fnT Tryd.prog Tryd.f4 (wC Tryd.prog vizardlaw04_PrefixOnce.Γ vizardlaw04_PrefixOnce.plan vizardlaw04_PrefixOnce.body) [(.int .u32 low0), (.int .u32 high0), (.int .u32 a0)] K E H = vizardlaw04_PrefixOnce.vc low0 high0 a0 (fun r0_0 H => K (.bool r0_0) H) E H := by
  kernel_rfl
theorem vizardlaw04_PrefixOnce.Fe {args : List Value} {K E : Value → Heap → Prop} {H : Heap} (h : vizardlaw04_PrefixOnce.F args K E H) : ∃ low0 high0 a0, args = [(.int .u32 low0), (.int .u32 high0), (.int .u32 a0)] ∧ vizardlaw04_PrefixOnce.c low0 high0 a0 (fun r0_0 H => K (.bool r0_0) H) E H := by
  unfold vizardlaw04_PrefixOnce.F at h
  split at h
  · exact ⟨_, _, _, rfl, h⟩
  · exact h.elim
theorem vizardlaw04_PrefixOnce.ok : CalleeOk Tryd.prog 4 vizardlaw04_PrefixOnce.F :=
  callee_ok vizardlaw04_PrefixOnce.hΓ (fn := Tryd.f4) (c := vizardlaw04_PrefixOnce.body) (T := wC Tryd.prog vizardlaw04_PrefixOnce.Γ vizardlaw04_PrefixOnce.plan vizardlaw04_PrefixOnce.body) (by kernel_rfl) (by kernel_rfl) (by kernel_rfl) (wC_sound vizardlaw04_PrefixOnce.hΓ Tryd.hm vizardlaw04_PrefixOnce.plan _ vizardlaw04_PrefixOnce.pok) fun _ K E H h => by
    obtain ⟨z0, z1, z2, e, h⟩ := vizardlaw04_PrefixOnce.Fe h
    subst e
    have h2 : vizardlaw04_PrefixOnce.vc z0 z1 z2 (fun r0_0 H => ∃ H', Heap.Le H' H ∧ K (.bool r0_0) H') E H := h.h
    rw [vizardlaw04_PrefixOnce.eq z0 z1 z2 (Fg K) E H]
    exact h2

/-! vizard/vizardlaw04.PrefixHalves -/
noncomputable def vizardlaw04_PrefixHalves.body : Code := Tryd.f5.body.getD .skip
def vizardlaw04_PrefixHalves.J1.vc (a0 : Int) (p0 : Addr) (x0 : Bool) (Kn : Heap → Prop) (Kr : Bool → Heap → Prop) (E : Value → Heap → Prop) (h0 : Heap) : Prop :=
  (if x0 = true then
  Kr true h0
  else
  Kn h0)
structure vizardlaw04_PrefixHalves.J1 (a0 : Int) (p0 : Addr) (x0 : Bool) (Kn : Heap → Prop) (Kr : Bool → Heap → Prop) (E : Value → Heap → Prop) (H : Heap) : Prop where
  h : vizardlaw04_PrefixHalves.J1.vc a0 p0 x0 Kn Kr E H
def vizardlaw04_PrefixHalves.J2.vc (a0 : Int) (p0 : Addr) (Kr : Bool → Heap → Prop) (E : Value → Heap → Prop) (h0 : Heap) : Prop :=
  ldI h0 .u32 (p0.add 0) fun x0 =>
  ldI h0 .i64 (p0.add 1) fun x1 =>
  newB (.cells #[(.int .u32 0), (.int .i64 0)] 24) (fun b0 h1 =>
  stc h1 ((⟨b0, 0, none⟩ : Addr).add 0) (.int .u32 x0) fun h2 =>
  stc h2 ((⟨b0, 0, none⟩ : Addr).add 1) (.int .i64 (IntKind.i64.wrap (x1 + 1))) fun h3 =>
  ldI h3 .u32 (p0.add 0) fun x2 =>
  ldI h3 .i64 (p0.add 1) fun x3 =>
  (0 : Int) ≤ (IntKind.i64.wrap (31 - x3)) ∧
  ldI h3 .i64 (p0.add 1) fun x4 =>
  newB (.cells #[(.int .u32 0), (.int .i64 0)] 24) (fun b1 h4 =>
  (ldI h4 .i64 (p0.add 1) fun x5 =>
  eqv h4 h4 (some (.int .i64 x4)) (.int .i64 x5)) ∧
  (ldI h4 .i64 (p0.add 1) fun x6 =>
  eqv h4 h4 (some (.int .i64 x3)) (.int .i64 x6)) ∧
  (ldI h4 .u32 (p0.add 0) fun x7 =>
  eqv h4 h4 (some (.int .u32 x2)) (.int .u32 x7)) ∧
  stc h4 ((⟨b1, 0, none⟩ : Addr).add 0) (.int .u32 (IntKind.u32.wrap (x2 + (shlI .u32 1 (IntKind.i64.wrap (31 - x3)))))) fun h5 =>
  stc h5 ((⟨b1, 0, none⟩ : Addr).add 1) (.int .i64 (IntKind.i64.wrap (x4 + 1))) fun h6 =>
  ldI h6 .u32 ((⟨b0, 0, none⟩ : Addr).add 0) fun x8 => ldI h6 .i64 ((⟨b0, 0, none⟩ : Addr).add 1) fun x9 =>
  ldI h6 .u32 ((⟨b1, 0, none⟩ : Addr).add 0) fun x10 => ldI h6 .i64 ((⟨b1, 0, none⟩ : Addr).add 1) fun x11 =>
  prefix_Has.c x8 x9 a0 (fun x12 h7 =>
  (ldI h7 .u32 ((⟨b1, 0, none⟩ : Addr).add 0) fun x13 => ldI h7 .i64 ((⟨b1, 0, none⟩ : Addr).add 1) fun x14 =>
  eqv h7 h7 (some (.agg #[(.int .u32 x10), (.int .i64 x11)])) (.agg #[(.int .u32 x13), (.int .i64 x14)])) ∧
  prefix_Has.c x10 x11 a0 (fun x15 h8 =>
  ldI h8 .u32 ((⟨b0, 0, none⟩ : Addr).add 0) fun x16 => ldI h8 .i64 ((⟨b0, 0, none⟩ : Addr).add 1) fun x17 =>
  prefix_Check.c x16 x17 (fun x18 h9 =>
  (if x18 = true then
  ldI h9 .u32 ((⟨b1, 0, none⟩ : Addr).add 0) fun x19 => ldI h9 .i64 ((⟨b1, 0, none⟩ : Addr).add 1) fun x20 =>
  prefix_Check.c x19 x20 (fun x21 h10 =>
  (if x21 = true then
  ldI h10 .u32 (p0.add 0) fun x22 => ldI h10 .i64 (p0.add 1) fun x23 =>
  prefix_Has.c x22 x23 a0 (fun x24 h11 =>
  (if ((!(x12 == x15)) == x24) = true then
  ldI h11 .u32 ((⟨b0, 0, none⟩ : Addr).add 0) fun x25 => ldI h11 .i64 ((⟨b0, 0, none⟩ : Addr).add 1) fun x26 =>
  prefix_Has.c x25 x26 a0 (fun x27 h12 =>
  (if x27 = true then
  ldI h12 .u32 ((⟨b1, 0, none⟩ : Addr).add 0) fun x28 => ldI h12 .i64 ((⟨b1, 0, none⟩ : Addr).add 1) fun x29 =>
  prefix_Has.c x28 x29 a0 (fun x30 h13 =>
  Kr (!x30) h13) E h12
  else
  Kr true h12)) E h11
  else
  Kr false h11)) E h10
  else
  Kr false h10)) E h9
  else
  Kr false h9)) E h8) E h7) E h6) h3) h0
structure vizardlaw04_PrefixHalves.J2 (a0 : Int) (p0 : Addr) (Kr : Bool → Heap → Prop) (E : Value → Heap → Prop) (H : Heap) : Prop where
  h : vizardlaw04_PrefixHalves.J2.vc a0 p0 Kr E H
def vizardlaw04_PrefixHalves.vc (p0 : Int) (p1 : Int) (a0 : Int) (K : Bool → Heap → Prop) (E : Value → Heap → Prop) (h0 : Heap) : Prop :=
  newB (.cells #[(.int .u32 p0), (.int .i64 p1)] 24) (fun b0 h1 =>
  vizardlaw04_works.c (fun x0 h2 =>
  (if (!x0) = true then
  K false h2
  else
  ldI h2 .u32 ((⟨b0, 0, none⟩ : Addr).add 0) fun x1 => ldI h2 .i64 ((⟨b0, 0, none⟩ : Addr).add 1) fun x2 =>
  prefix_Check.c x1 x2 (fun x3 h3 =>
  (if (!x3) = true then
  vizardlaw04_PrefixHalves.J1 a0 (⟨b0, 0, none⟩ : Addr) true (fun h4 =>
  vizardlaw04_PrefixHalves.J2 a0 (⟨b0, 0, none⟩ : Addr) K E h4) K E h3
  else
  ldI h3 .i64 ((⟨b0, 0, none⟩ : Addr).add 1) fun x6 =>
  vizardlaw04_PrefixHalves.J1 a0 (⟨b0, 0, none⟩ : Addr) (x6 == 32) (fun h7 =>
  vizardlaw04_PrefixHalves.J2 a0 (⟨b0, 0, none⟩ : Addr) K E h7) K E h3)) E h2)) E h1) h0
structure vizardlaw04_PrefixHalves.c (p0 : Int) (p1 : Int) (a0 : Int) (K : Bool → Heap → Prop) (E : Value → Heap → Prop) (H : Heap) : Prop where
  h : vizardlaw04_PrefixHalves.vc p0 p1 a0 (fun r0_0 H => ∃ H', Heap.Le H' H ∧ K r0_0 H') E H
def vizardlaw04_PrefixHalves.F : FT := fun args K E H => match args with
  | [(.agg ⟨[(.int .u32 p0), (.int .i64 p1)]⟩), (.int .u32 a0)] => vizardlaw04_PrefixHalves.c p0 p1 a0 (fun r0_0 H => K (.bool r0_0) H) E H
  | _ => False
noncomputable def vizardlaw04_PrefixHalves.Γ : FuncId → Option FT := Γof [(16, vizardlaw04_works.F), (18, prefix_Check.F), (19, prefix_Has.F)]
theorem vizardlaw04_PrefixHalves.hΓ : ∀ f F, vizardlaw04_PrefixHalves.Γ f = some F → CalleeOk Tryd.prog f F := Γof_ok (List.forall_mem_cons.2 ⟨vizardlaw04_works.ok, List.forall_mem_cons.2 ⟨prefix_Check.ok, List.forall_mem_cons.2 ⟨prefix_Has.ok, fun _ h => nomatch h⟩⟩⟩)
def vizardlaw04_PrefixHalves.J1.t : CT := fun Q E fr H => lenIs 66 fr (slI fr 1 .u32 fun a0 => slPA fr 2 fun p0 => slB fr 17 fun x0 => vizardlaw04_PrefixHalves.J1 a0 p0 x0 (fun  H => Q .normal (mkF 66 [(1, (.int .u32 a0)), (2, (.pointer (some p0)))]) H) (fun y4_0 H => Q .ret (mkF 66 [(4, (.bool y4_0))]) H) E H)
noncomputable def vizardlaw04_PrefixHalves.J1.plan : Plan := .go
theorem vizardlaw04_PrefixHalves.J1.pok : PlanOk Tryd.prog vizardlaw04_PrefixHalves.J1.plan (sub [1, 1, 0, 1] vizardlaw04_PrefixHalves.body) := by
  have e : PlanOk Tryd.prog vizardlaw04_PrefixHalves.J1.plan (sub [1, 1, 0, 1] vizardlaw04_PrefixHalves.body) = (True) := by kernel_rfl
  exact e.mpr trivial
theorem vizardlaw04_PrefixHalves.J1.eq (a0 : Int) (p0 : Addr) (x0 : Bool) (Q : Ex → Fr → Heap → Prop) (E : Value → Heap → Prop) (H : Heap) :
    vizardlaw04_PrefixHalves.J1.vc a0 p0 x0 (fun  H => Q .normal (mkF 66 [(1, (.int .u32 a0)), (2, (.pointer (some p0)))]) H) (fun y4_0 H => Q .ret (mkF 66 [(4, (.bool y4_0))]) H) E H = keepT [1, 2] [4] (fun i => []) (wC Tryd.prog vizardlaw04_PrefixHalves.Γ vizardlaw04_PrefixHalves.J1.plan (sub [1, 1, 0, 1] vizardlaw04_PrefixHalves.body)) Q E (mkF 66 [(1, (.int .u32 a0)), (2, (.pointer (some p0))), (17, (.bool x0))]) H := by
  kernel_rfl
theorem vizardlaw04_PrefixHalves.J1.ok : SoundCode Tryd.prog (sub [1, 1, 0, 1] vizardlaw04_PrefixHalves.body) vizardlaw04_PrefixHalves.J1.t := by
  refine piece_sound (keepT_sound [1, 2] [4] (fun i => []) (wC_sound vizardlaw04_PrefixHalves.hΓ Tryd.hm vizardlaw04_PrefixHalves.J1.plan _ vizardlaw04_PrefixHalves.J1.pok)) ?_
  intro Q E fr H h
  unfold vizardlaw04_PrefixHalves.J1.t at h
  obtain ⟨hl, h⟩ := lenIs_elim h
  obtain ⟨a0, q1, h⟩ := slI_elim h
  obtain ⟨p0, q2, h⟩ := slPA_elim h
  obtain ⟨x0, q17, h⟩ := slB_elim h
  refine ⟨(mkF 66 [(1, (.int .u32 a0)), (2, (.pointer (some p0))), (17, (.bool x0))]), fun a ha => ha.mk (Nat.le_of_eq hl.symm) (List.forall_mem_cons.2 ⟨q1, List.forall_mem_cons.2 ⟨q2, List.forall_mem_cons.2 ⟨q17, fun _ h => nomatch h⟩⟩⟩), ?_⟩
  have e := vizardlaw04_PrefixHalves.J1.eq a0 p0 x0 Q E H
  rw [← e]
  exact h.h
def vizardlaw04_PrefixHalves.J2.t : CT := fun Q E fr H => lenIs 66 fr (slI fr 1 .u32 fun a0 => slPA fr 2 fun p0 => vizardlaw04_PrefixHalves.J2 a0 p0 (fun y4_0 H => Q .ret (mkF 66 [(4, (.bool y4_0))]) H) E H)
noncomputable def vizardlaw04_PrefixHalves.J2.plan : Plan := .seq (.go) (.seq (.draw ⟨[0, 1, 2, 3, 4, 5, 6, 7, 8, 9, 10, 11, 12], (dl [(0, []), (1, []), (2, []), (3, []), (4, []), (5, []), (6, []), (7, []), (8, []), (9, []), (10, []), (11, []), (12, [11, 10, 0, 1, 2, 3, 4, 5, 6, 7, 8, 9])] .fin), []⟩) (.seq (.draw ⟨[0, 1, 2, 3, 4, 5, 6], (dl [(0, []), (1, []), (3, []), (4, []), (2, [0, 1]), (5, [3, 4, 2, 0, 1]), (6, [])] .fin), [7]⟩) (.go)))
theorem vizardlaw04_PrefixHalves.J2.pok : PlanOk Tryd.prog vizardlaw04_PrefixHalves.J2.plan (sub [1, 1, 1] vizardlaw04_PrefixHalves.body) := by
  have e : PlanOk Tryd.prog vizardlaw04_PrefixHalves.J2.plan (sub [1, 1, 1] vizardlaw04_PrefixHalves.body) = ((True) ∧ ((True) ∧ ((True) ∧ (True)))) := by kernel_rfl
  exact e.mpr ⟨trivial, ⟨trivial, ⟨trivial, trivial⟩⟩⟩
theorem vizardlaw04_PrefixHalves.J2.eq (a0 : Int) (p0 : Addr) (Q : Ex → Fr → Heap → Prop) (E : Value → Heap → Prop) (H : Heap) :
    vizardlaw04_PrefixHalves.J2.vc a0 p0 (fun y4_0 H => Q .ret (mkF 66 [(4, (.bool y4_0))]) H) E H = keepT [] [4] (fun i => []) (wC Tryd.prog vizardlaw04_PrefixHalves.Γ vizardlaw04_PrefixHalves.J2.plan (sub [1, 1, 1] vizardlaw04_PrefixHalves.body)) Q E (mkF 66 [(1, (.int .u32 a0)), (2, (.pointer (some p0)))]) H := by
  kernel_rfl
theorem vizardlaw04_PrefixHalves.J2.ok : SoundCode Tryd.prog (sub [1, 1, 1] vizardlaw04_PrefixHalves.body) vizardlaw04_PrefixHalves.J2.t := by
  refine piece_sound (keepT_sound [] [4] (fun i => []) (wC_sound vizardlaw04_PrefixHalves.hΓ Tryd.hm vizardlaw04_PrefixHalves.J2.plan _ vizardlaw04_PrefixHalves.J2.pok)) ?_
  intro Q E fr H h
  unfold vizardlaw04_PrefixHalves.J2.t at h
  obtain ⟨hl, h⟩ := lenIs_elim h
  obtain ⟨a0, q1, h⟩ := slI_elim h
  obtain ⟨p0, q2, h⟩ := slPA_elim h
  refine ⟨(mkF 66 [(1, (.int .u32 a0)), (2, (.pointer (some p0)))]), fun a ha => ha.mk (Nat.le_of_eq hl.symm) (List.forall_mem_cons.2 ⟨q1, List.forall_mem_cons.2 ⟨q2, fun _ h => nomatch h⟩⟩), ?_⟩
  have e := vizardlaw04_PrefixHalves.J2.eq a0 p0 Q E H
  rw [← e]
  exact h.h
noncomputable def vizardlaw04_PrefixHalves.plan : Plan := .seq (.go) (.seq (.go) (.seq (.seq (.go) (.use vizardlaw04_PrefixHalves.J1.t)) (.use vizardlaw04_PrefixHalves.J2.t)))
theorem vizardlaw04_PrefixHalves.pok : PlanOk Tryd.prog vizardlaw04_PrefixHalves.plan vizardlaw04_PrefixHalves.body := by
  have e : PlanOk Tryd.prog vizardlaw04_PrefixHalves.plan vizardlaw04_PrefixHalves.body = ((True) ∧ ((True) ∧ (((True) ∧ (SoundCode Tryd.prog (sub [1, 1, 0, 1] vizardlaw04_PrefixHalves.body) vizardlaw04_PrefixHalves.J1.t)) ∧ (SoundCode Tryd.prog (sub [1, 1, 1] vizardlaw04_PrefixHalves.body) vizardlaw04_PrefixHalves.J2.t)))) := by kernel_rfl
  exact e.mpr ⟨trivial, ⟨trivial, ⟨⟨trivial, vizardlaw04_PrefixHalves.J1.ok⟩, vizardlaw04_PrefixHalves.J2.ok⟩⟩⟩
theorem vizardlaw04_PrefixHalves.eq (p0 : Int) (p1 : Int) (a0 : Int) (K : Value → Heap → Prop) (E : Value → Heap → Prop) (H : Heap) :
    fnT Tryd.prog Tryd.f5 (wC Tryd.prog vizardlaw04_PrefixHalves.Γ vizardlaw04_PrefixHalves.plan vizardlaw04_PrefixHalves.body) [(.agg #[(.int .u32 p0), (.int .i64 p1)]), (.int .u32 a0)] K E H = vizardlaw04_PrefixHalves.vc p0 p1 a0 (fun r0_0 H => K (.bool r0_0) H) E H := by
  kernel_rfl
theorem vizardlaw04_PrefixHalves.Fe {args : List Value} {K E : Value → Heap → Prop} {H : Heap} (h : vizardlaw04_PrefixHalves.F args K E H) : ∃ p0 p1 a0, args = [(.agg #[(.int .u32 p0), (.int .i64 p1)]), (.int .u32 a0)] ∧ vizardlaw04_PrefixHalves.c p0 p1 a0 (fun r0_0 H => K (.bool r0_0) H) E H := by
  unfold vizardlaw04_PrefixHalves.F at h
  split at h
  · exact ⟨_, _, _, rfl, h⟩
  · exact h.elim
theorem vizardlaw04_PrefixHalves.ok : CalleeOk Tryd.prog 5 vizardlaw04_PrefixHalves.F :=
  callee_ok vizardlaw04_PrefixHalves.hΓ (fn := Tryd.f5) (c := vizardlaw04_PrefixHalves.body) (T := wC Tryd.prog vizardlaw04_PrefixHalves.Γ vizardlaw04_PrefixHalves.plan vizardlaw04_PrefixHalves.body) (by kernel_rfl) (by kernel_rfl) (by kernel_rfl) (wC_sound vizardlaw04_PrefixHalves.hΓ Tryd.hm vizardlaw04_PrefixHalves.plan _ vizardlaw04_PrefixHalves.pok) fun _ K E H h => by
    obtain ⟨z0, z1, z2, e, h⟩ := vizardlaw04_PrefixHalves.Fe h
    subst e
    have h2 : vizardlaw04_PrefixHalves.vc z0 z1 z2 (fun r0_0 H => ∃ H', Heap.Le H' H ∧ K (.bool r0_0) H') E H := h.h
    rw [vizardlaw04_PrefixHalves.eq z0 z1 z2 (Fg K) E H]
    exact h2

/-! vizard/vizardlaw04.PrefixEdges -/
noncomputable def vizardlaw04_PrefixEdges.body : Code := Tryd.f6.body.getD .skip
def vizardlaw04_PrefixEdges.vc (p0 : Int) (p1 : Int) (K : Bool → Heap → Prop) (E : Value → Heap → Prop) (h0 : Heap) : Prop :=
  newB (.cells #[(.int .u32 p0), (.int .i64 p1)] 24) (fun b0 h1 =>
  vizardlaw04_works.c (fun x0 h2 =>
  (if (!x0) = true then
  K false h2
  else
  ldI h2 .u32 ((⟨b0, 0, none⟩ : Addr).add 0) fun x1 => ldI h2 .i64 ((⟨b0, 0, none⟩ : Addr).add 1) fun x2 =>
  prefix_Ends.c x1 x2 (fun x3 x4 h3 =>
  ldI h3 .u32 ((⟨b0, 0, none⟩ : Addr).add 0) fun x5 => ldI h3 .i64 ((⟨b0, 0, none⟩ : Addr).add 1) fun x6 =>
  prefix_Check.c x5 x6 (fun x7 h4 =>
  (if (!x7) = true then
  (if (x3 == 0) = true then
  (if (x4 == 0) = true then
  ldI h4 .u32 ((⟨b0, 0, none⟩ : Addr).add 0) fun x8 => ldI h4 .i64 ((⟨b0, 0, none⟩ : Addr).add 1) fun x9 =>
  ldI h4 .u32 ((⟨b0, 0, none⟩ : Addr).add 0) fun x10 =>
  prefix_Has.c x8 x9 x10 (fun x11 h5 =>
  K (!x11) h5) E h4
  else
  K false h4)
  else
  K false h4)
  else
  prefix_Cover.c x3 x4 (fun x12 x13 x14 h6 =>
  ldI h6 .u32 ((⟨b0, 0, none⟩ : Addr).add 0) fun x15 => ldI h6 .i64 ((⟨b0, 0, none⟩ : Addr).add 1) fun x16 =>
  prefix_Has.c x15 x16 x3 (fun x17 h7 =>
  (if x17 = true then
  ldI h7 .u32 ((⟨b0, 0, none⟩ : Addr).add 0) fun x18 => ldI h7 .i64 ((⟨b0, 0, none⟩ : Addr).add 1) fun x19 =>
  prefix_Has.c x18 x19 x4 (fun x20 h8 =>
  (if x20 = true then
  (if (x3 == 0) = true then
  (if (x4 == 4294967295) = true then
  (if ((x13 : Int) == 1) = true then
  nilc x12 fun a0 => (0 : Int) ≤ 0 ∧ 0 < (x13 : Int) ∧
  ldI h8 .u32 ((a0.add (0 * 2)).add 0) fun x21 => ldI h8 .i64 ((a0.add (0 * 2)).add 1) fun x22 =>
  ldI h8 .u32 ((⟨b0, 0, none⟩ : Addr).add 0) fun x23 => ldI h8 .i64 ((⟨b0, 0, none⟩ : Addr).add 1) fun x24 =>
  K ((x21 == x23) && ((x22 == x24) && true)) h8
  else
  K false h8)
  else
  ldI h8 .u32 ((⟨b0, 0, none⟩ : Addr).add 0) fun x25 => ldI h8 .i64 ((⟨b0, 0, none⟩ : Addr).add 1) fun x26 =>
  prefix_Has.c x25 x26 (IntKind.u32.wrap (x4 + 1)) (fun x27 h9 =>
  (if (!x27) = true then
  (if ((x13 : Int) == 1) = true then
  nilc x12 fun a1 => (0 : Int) ≤ 0 ∧ 0 < (x13 : Int) ∧
  ldI h9 .u32 ((a1.add (0 * 2)).add 0) fun x28 => ldI h9 .i64 ((a1.add (0 * 2)).add 1) fun x29 =>
  ldI h9 .u32 ((⟨b0, 0, none⟩ : Addr).add 0) fun x30 => ldI h9 .i64 ((⟨b0, 0, none⟩ : Addr).add 1) fun x31 =>
  K ((x28 == x30) && ((x29 == x31) && true)) h9
  else
  K false h9)
  else
  K false h9)) E h8)
  else
  ldI h8 .u32 ((⟨b0, 0, none⟩ : Addr).add 0) fun x32 => ldI h8 .i64 ((⟨b0, 0, none⟩ : Addr).add 1) fun x33 =>
  prefix_Has.c x32 x33 (IntKind.u32.wrap (x3 - 1)) (fun x34 h10 =>
  (if (!x34) = true then
  (if (x4 == 4294967295) = true then
  (if ((x13 : Int) == 1) = true then
  nilc x12 fun a2 => (0 : Int) ≤ 0 ∧ 0 < (x13 : Int) ∧
  ldI h10 .u32 ((a2.add (0 * 2)).add 0) fun x35 => ldI h10 .i64 ((a2.add (0 * 2)).add 1) fun x36 =>
  ldI h10 .u32 ((⟨b0, 0, none⟩ : Addr).add 0) fun x37 => ldI h10 .i64 ((⟨b0, 0, none⟩ : Addr).add 1) fun x38 =>
  K ((x35 == x37) && ((x36 == x38) && true)) h10
  else
  K false h10)
  else
  ldI h10 .u32 ((⟨b0, 0, none⟩ : Addr).add 0) fun x39 => ldI h10 .i64 ((⟨b0, 0, none⟩ : Addr).add 1) fun x40 =>
  prefix_Has.c x39 x40 (IntKind.u32.wrap (x4 + 1)) (fun x41 h11 =>
  (if (!x41) = true then
  (if ((x13 : Int) == 1) = true then
  nilc x12 fun a3 => (0 : Int) ≤ 0 ∧ 0 < (x13 : Int) ∧
  ldI h11 .u32 ((a3.add (0 * 2)).add 0) fun x42 => ldI h11 .i64 ((a3.add (0 * 2)).add 1) fun x43 =>
  ldI h11 .u32 ((⟨b0, 0, none⟩ : Addr).add 0) fun x44 => ldI h11 .i64 ((⟨b0, 0, none⟩ : Addr).add 1) fun x45 =>
  K ((x42 == x44) && ((x43 == x45) && true)) h11
  else
  K false h11)
  else
  K false h11)) E h10)
  else
  K false h10)) E h8)
  else
  K false h8)) E h7
  else
  K false h7)) E h6) E h4)) E h3) E h2)) E h1) h0
structure vizardlaw04_PrefixEdges.c (p0 : Int) (p1 : Int) (K : Bool → Heap → Prop) (E : Value → Heap → Prop) (H : Heap) : Prop where
  h : vizardlaw04_PrefixEdges.vc p0 p1 (fun r0_0 H => ∃ H', Heap.Le H' H ∧ K r0_0 H') E H
def vizardlaw04_PrefixEdges.F : FT := fun args K E H => match args with
  | [(.agg ⟨[(.int .u32 p0), (.int .i64 p1)]⟩)] => vizardlaw04_PrefixEdges.c p0 p1 (fun r0_0 H => K (.bool r0_0) H) E H
  | _ => False
noncomputable def vizardlaw04_PrefixEdges.Γ : FuncId → Option FT := Γof [(16, vizardlaw04_works.F), (17, prefix_Cover.F), (18, prefix_Check.F), (19, prefix_Has.F), (20, prefix_Ends.F)]
theorem vizardlaw04_PrefixEdges.hΓ : ∀ f F, vizardlaw04_PrefixEdges.Γ f = some F → CalleeOk Tryd.prog f F := Γof_ok (List.forall_mem_cons.2 ⟨vizardlaw04_works.ok, List.forall_mem_cons.2 ⟨prefix_Cover.ok, List.forall_mem_cons.2 ⟨prefix_Check.ok, List.forall_mem_cons.2 ⟨prefix_Has.ok, List.forall_mem_cons.2 ⟨prefix_Ends.ok, fun _ h => nomatch h⟩⟩⟩⟩⟩)
noncomputable def vizardlaw04_PrefixEdges.plan : Plan := .seq (.go) (.seq (.go) (.seq (.go) (.seq (.go) (.seq (.go) (.seq (.draw ⟨[0, 1, 2, 3, 4, 5, 6, 7, 8, 9, 10, 11, 12, 13, 14, 15, 16, 17, 18, 19, 20, 21, 22, 23, 24, 25, 26, 27, 28, 29, 30, 31, 32, 33, 34, 35, 36, 37, 38, 39, 40, 41], (dl [(0, []), (1, []), (2, [0, 1]), (3, []), (4, []), (5, []), (6, [4, 5, 3, 2, 0, 1]), (7, []), (8, []), (9, []), (10, []), (11, []), (12, []), (13, []), (14, []), (15, [12, 14, 11, 13, 10, 8, 9, 7, 6, 3, 4, 5, 2, 0, 1]), (16, []), (17, []), (18, []), (19, []), (20, []), (21, []), (22, []), (23, []), (24, []), (25, []), (26, [23, 25, 22, 24, 21, 19, 20, 18, 15, 8, 17, 12, 14, 11, 7, 6, 16, 13, 10, 3, 4, 5, 9, 2, 0, 1]), (27, []), (28, []), (29, []), (30, []), (31, []), (32, []), (33, []), (34, []), (35, []), (36, []), (37, []), (38, []), (39, []), (40, []), (41, [])] .fin), [42]⟩) (.go))))))
theorem vizardlaw04_PrefixEdges.pok : PlanOk Tryd.prog vizardlaw04_PrefixEdges.plan vizardlaw04_PrefixEdges.body := by
  have e : PlanOk Tryd.prog vizardlaw04_PrefixEdges.plan vizardlaw04_PrefixEdges.body = ((True) ∧ ((True) ∧ ((True) ∧ ((True) ∧ ((True) ∧ ((True) ∧ (True))))))) := by kernel_rfl
  exact e.mpr ⟨trivial, ⟨trivial, ⟨trivial, ⟨trivial, ⟨trivial, ⟨trivial, trivial⟩⟩⟩⟩⟩⟩
theorem vizardlaw04_PrefixEdges.eq (p0 : Int) (p1 : Int) (K : Value → Heap → Prop) (E : Value → Heap → Prop) (H : Heap) :
    fnT Tryd.prog Tryd.f6 (wC Tryd.prog vizardlaw04_PrefixEdges.Γ vizardlaw04_PrefixEdges.plan vizardlaw04_PrefixEdges.body) [(.agg #[(.int .u32 p0), (.int .i64 p1)])] K E H = vizardlaw04_PrefixEdges.vc p0 p1 (fun r0_0 H => K (.bool r0_0) H) E H := by
  kernel_rfl
theorem vizardlaw04_PrefixEdges.Fe {args : List Value} {K E : Value → Heap → Prop} {H : Heap} (h : vizardlaw04_PrefixEdges.F args K E H) : ∃ p0 p1, args = [(.agg #[(.int .u32 p0), (.int .i64 p1)])] ∧ vizardlaw04_PrefixEdges.c p0 p1 (fun r0_0 H => K (.bool r0_0) H) E H := by
  unfold vizardlaw04_PrefixEdges.F at h
  split at h
  · exact ⟨_, _, rfl, h⟩
  · exact h.elim
theorem vizardlaw04_PrefixEdges.ok : CalleeOk Tryd.prog 6 vizardlaw04_PrefixEdges.F :=
  callee_ok vizardlaw04_PrefixEdges.hΓ (fn := Tryd.f6) (c := vizardlaw04_PrefixEdges.body) (T := wC Tryd.prog vizardlaw04_PrefixEdges.Γ vizardlaw04_PrefixEdges.plan vizardlaw04_PrefixEdges.body) (by kernel_rfl) (by kernel_rfl) (by kernel_rfl) (wC_sound vizardlaw04_PrefixEdges.hΓ Tryd.hm vizardlaw04_PrefixEdges.plan _ vizardlaw04_PrefixEdges.pok) fun _ K E H h => by
    obtain ⟨z0, z1, e, h⟩ := vizardlaw04_PrefixEdges.Fe h
    subst e
    have h2 : vizardlaw04_PrefixEdges.vc z0 z1 (fun r0_0 H => ∃ H', Heap.Le H' H ∧ K (.bool r0_0) H') E H := h.h
    rw [vizardlaw04_PrefixEdges.eq z0 z1 (Fg K) E H]
    exact h2

/-! vizard/vizardlaw04.PrefixBack -/
noncomputable def vizardlaw04_PrefixBack.body : Code := Tryd.f7.body.getD .skip
def vizardlaw04_PrefixBack.J1.vc (p0 : Addr) (x0 : Bool) (Kn : Heap → Prop) (Kr : Bool → Heap → Prop) (E : Value → Heap → Prop) (h0 : Heap) : Prop :=
  (if x0 = true then
  Kr false h0
  else
  Kn h0)
structure vizardlaw04_PrefixBack.J1 (p0 : Addr) (x0 : Bool) (Kn : Heap → Prop) (Kr : Bool → Heap → Prop) (E : Value → Heap → Prop) (H : Heap) : Prop where
  h : vizardlaw04_PrefixBack.J1.vc p0 x0 Kn Kr E H
def vizardlaw04_PrefixBack.J2.vc (p0 : Addr) (Kr : Bool → Heap → Prop) (E : Value → Heap → Prop) (h0 : Heap) : Prop :=
  ldI h0 .u32 (p0.add 0) fun x0 => ldI h0 .i64 (p0.add 1) fun x1 =>
  prefix_Print.c x0 x1 (fun x2 h1 =>
  prefix_Read.c x2 (fun x3 x4 x5 h2 =>
  newB (.cells #[(.int .u32 0), (.int .i64 0)] 24) (fun b0 h3 =>
  stc h3 ((⟨b0, 0, none⟩ : Addr).add 0) (.int .u32 x3) fun h4 =>
  stc h4 ((⟨b0, 0, none⟩ : Addr).add 1) (.int .i64 x4) fun h5 =>
  ldI h5 .u32 (p0.add 0) fun x6 => ldI h5 .i64 (p0.add 1) fun x7 =>
  prefix_Check.c x6 x7 (fun x8 h6 =>
  (if (!x8) = true then
  (if (x2.toList == (⟨#[]⟩ : ByteArray).toList) = true then
  Kr (!x5) h6
  else
  Kr false h6)
  else
  (if x5 = true then
  ldI h6 .u32 ((⟨b0, 0, none⟩ : Addr).add 0) fun x9 => ldI h6 .i64 ((⟨b0, 0, none⟩ : Addr).add 1) fun x10 =>
  ldI h6 .u32 (p0.add 0) fun x11 => ldI h6 .i64 (p0.add 1) fun x12 =>
  Kr ((x9 == x11) && ((x10 == x12) && true)) h6
  else
  Kr false h6))) E h5) h2) E h1) E h0
structure vizardlaw04_PrefixBack.J2 (p0 : Addr) (Kr : Bool → Heap → Prop) (E : Value → Heap → Prop) (H : Heap) : Prop where
  h : vizardlaw04_PrefixBack.J2.vc p0 Kr E H
def vizardlaw04_PrefixBack.vc (a0 : Int) (p0 : Int) (p1 : Int) (K : Bool → Heap → Prop) (E : Value → Heap → Prop) (h0 : Heap) : Prop :=
  newB (.cells #[(.int .u32 p0), (.int .i64 p1)] 24) (fun b0 h1 =>
  vizardlaw04_works.c (fun x0 h2 =>
  (if (!x0) = true then
  K false h2
  else
  prefix_Text.c a0 (fun x1 h3 =>
  prefix_Parse.c x1 (fun x2 x3 h4 =>
  (if (x2 != a0) = true then
  vizardlaw04_PrefixBack.J1 (⟨b0, 0, none⟩ : Addr) true (fun h5 =>
  vizardlaw04_PrefixBack.J2 (⟨b0, 0, none⟩ : Addr) K E h5) K E h4
  else
  vizardlaw04_PrefixBack.J1 (⟨b0, 0, none⟩ : Addr) (!x3) (fun h8 =>
  vizardlaw04_PrefixBack.J2 (⟨b0, 0, none⟩ : Addr) K E h8) K E h4)) E h3) E h2)) E h1) h0
structure vizardlaw04_PrefixBack.c (a0 : Int) (p0 : Int) (p1 : Int) (K : Bool → Heap → Prop) (E : Value → Heap → Prop) (H : Heap) : Prop where
  h : vizardlaw04_PrefixBack.vc a0 p0 p1 (fun r0_0 H => ∃ H', Heap.Le H' H ∧ K r0_0 H') E H
def vizardlaw04_PrefixBack.F : FT := fun args K E H => match args with
  | [(.int .u32 a0), (.agg ⟨[(.int .u32 p0), (.int .i64 p1)]⟩)] => vizardlaw04_PrefixBack.c a0 p0 p1 (fun r0_0 H => K (.bool r0_0) H) E H
  | _ => False
noncomputable def vizardlaw04_PrefixBack.Γ : FuncId → Option FT := Γof [(8, prefix_Parse.F), (10, prefix_Read.F), (12, prefix_Text.F), (14, prefix_Print.F), (16, vizardlaw04_works.F), (18, prefix_Check.F)]
theorem vizardlaw04_PrefixBack.hΓ : ∀ f F, vizardlaw04_PrefixBack.Γ f = some F → CalleeOk Tryd.prog f F := Γof_ok (List.forall_mem_cons.2 ⟨prefix_Parse.ok, List.forall_mem_cons.2 ⟨prefix_Read.ok, List.forall_mem_cons.2 ⟨prefix_Text.ok, List.forall_mem_cons.2 ⟨prefix_Print.ok, List.forall_mem_cons.2 ⟨vizardlaw04_works.ok, List.forall_mem_cons.2 ⟨prefix_Check.ok, fun _ h => nomatch h⟩⟩⟩⟩⟩⟩)
def vizardlaw04_PrefixBack.J1.t : CT := fun Q E fr H => lenIs 47 fr (slPA fr 3 fun p0 => slB fr 24 fun x0 => vizardlaw04_PrefixBack.J1 p0 x0 (fun  H => Q .normal (mkF 47 [(3, (.pointer (some p0)))]) H) (fun y4_0 H => Q .ret (mkF 47 [(4, (.bool y4_0))]) H) E H)
noncomputable def vizardlaw04_PrefixBack.J1.plan : Plan := .go
theorem vizardlaw04_PrefixBack.J1.pok : PlanOk Tryd.prog vizardlaw04_PrefixBack.J1.plan (sub [1, 1, 1, 0, 1] vizardlaw04_PrefixBack.body) := by
  have e : PlanOk Tryd.prog vizardlaw04_PrefixBack.J1.plan (sub [1, 1, 1, 0, 1] vizardlaw04_PrefixBack.body) = (True) := by kernel_rfl
  exact e.mpr trivial
theorem vizardlaw04_PrefixBack.J1.eq (p0 : Addr) (x0 : Bool) (Q : Ex → Fr → Heap → Prop) (E : Value → Heap → Prop) (H : Heap) :
    vizardlaw04_PrefixBack.J1.vc p0 x0 (fun  H => Q .normal (mkF 47 [(3, (.pointer (some p0)))]) H) (fun y4_0 H => Q .ret (mkF 47 [(4, (.bool y4_0))]) H) E H = keepT [3] [4] (fun i => []) (wC Tryd.prog vizardlaw04_PrefixBack.Γ vizardlaw04_PrefixBack.J1.plan (sub [1, 1, 1, 0, 1] vizardlaw04_PrefixBack.body)) Q E (mkF 47 [(3, (.pointer (some p0))), (24, (.bool x0))]) H := by
  kernel_rfl
theorem vizardlaw04_PrefixBack.J1.ok : SoundCode Tryd.prog (sub [1, 1, 1, 0, 1] vizardlaw04_PrefixBack.body) vizardlaw04_PrefixBack.J1.t := by
  refine piece_sound (keepT_sound [3] [4] (fun i => []) (wC_sound vizardlaw04_PrefixBack.hΓ Tryd.hm vizardlaw04_PrefixBack.J1.plan _ vizardlaw04_PrefixBack.J1.pok)) ?_
  intro Q E fr H h
  unfold vizardlaw04_PrefixBack.J1.t at h
  obtain ⟨hl, h⟩ := lenIs_elim h
  obtain ⟨p0, q3, h⟩ := slPA_elim h
  obtain ⟨x0, q24, h⟩ := slB_elim h
  refine ⟨(mkF 47 [(3, (.pointer (some p0))), (24, (.bool x0))]), fun a ha => ha.mk (Nat.le_of_eq hl.symm) (List.forall_mem_cons.2 ⟨q3, List.forall_mem_cons.2 ⟨q24, fun _ h => nomatch h⟩⟩), ?_⟩
  have e := vizardlaw04_PrefixBack.J1.eq p0 x0 Q E H
  rw [← e]
  exact h.h
def vizardlaw04_PrefixBack.J2.t : CT := fun Q E fr H => lenIs 47 fr (slPA fr 3 fun p0 => vizardlaw04_PrefixBack.J2 p0 (fun y4_0 H => Q .ret (mkF 47 [(4, (.bool y4_0))]) H) E H)
noncomputable def vizardlaw04_PrefixBack.J2.plan : Plan := .go
theorem vizardlaw04_PrefixBack.J2.pok : PlanOk Tryd.prog vizardlaw04_PrefixBack.J2.plan (sub [1, 1, 1, 1] vizardlaw04_PrefixBack.body) := by
  have e : PlanOk Tryd.prog vizardlaw04_PrefixBack.J2.plan (sub [1, 1, 1, 1] vizardlaw04_PrefixBack.body) = (True) := by kernel_rfl
  exact e.mpr trivial
theorem vizardlaw04_PrefixBack.J2.eq (p0 : Addr) (Q : Ex → Fr → Heap → Prop) (E : Value → Heap → Prop) (H : Heap) :
    vizardlaw04_PrefixBack.J2.vc p0 (fun y4_0 H => Q .ret (mkF 47 [(4, (.bool y4_0))]) H) E H = keepT [] [4] (fun i => []) (wC Tryd.prog vizardlaw04_PrefixBack.Γ vizardlaw04_PrefixBack.J2.plan (sub [1, 1, 1, 1] vizardlaw04_PrefixBack.body)) Q E (mkF 47 [(3, (.pointer (some p0)))]) H := by
  kernel_rfl
theorem vizardlaw04_PrefixBack.J2.ok : SoundCode Tryd.prog (sub [1, 1, 1, 1] vizardlaw04_PrefixBack.body) vizardlaw04_PrefixBack.J2.t := by
  refine piece_sound (keepT_sound [] [4] (fun i => []) (wC_sound vizardlaw04_PrefixBack.hΓ Tryd.hm vizardlaw04_PrefixBack.J2.plan _ vizardlaw04_PrefixBack.J2.pok)) ?_
  intro Q E fr H h
  unfold vizardlaw04_PrefixBack.J2.t at h
  obtain ⟨hl, h⟩ := lenIs_elim h
  obtain ⟨p0, q3, h⟩ := slPA_elim h
  refine ⟨(mkF 47 [(3, (.pointer (some p0)))]), fun a ha => ha.mk (Nat.le_of_eq hl.symm) (List.forall_mem_cons.2 ⟨q3, fun _ h => nomatch h⟩), ?_⟩
  have e := vizardlaw04_PrefixBack.J2.eq p0 Q E H
  rw [← e]
  exact h.h
noncomputable def vizardlaw04_PrefixBack.plan : Plan := .seq (.go) (.seq (.go) (.seq (.go) (.seq (.seq (.go) (.use vizardlaw04_PrefixBack.J1.t)) (.use vizardlaw04_PrefixBack.J2.t))))
theorem vizardlaw04_PrefixBack.pok : PlanOk Tryd.prog vizardlaw04_PrefixBack.plan vizardlaw04_PrefixBack.body := by
  have e : PlanOk Tryd.prog vizardlaw04_PrefixBack.plan vizardlaw04_PrefixBack.body = ((True) ∧ ((True) ∧ ((True) ∧ (((True) ∧ (SoundCode Tryd.prog (sub [1, 1, 1, 0, 1] vizardlaw04_PrefixBack.body) vizardlaw04_PrefixBack.J1.t)) ∧ (SoundCode Tryd.prog (sub [1, 1, 1, 1] vizardlaw04_PrefixBack.body) vizardlaw04_PrefixBack.J2.t))))) := by kernel_rfl
  exact e.mpr ⟨trivial, ⟨trivial, ⟨trivial, ⟨⟨trivial, vizardlaw04_PrefixBack.J1.ok⟩, vizardlaw04_PrefixBack.J2.ok⟩⟩⟩⟩
theorem vizardlaw04_PrefixBack.eq (a0 : Int) (p0 : Int) (p1 : Int) (K : Value → Heap → Prop) (E : Value → Heap → Prop) (H : Heap) :
    fnT Tryd.prog Tryd.f7 (wC Tryd.prog vizardlaw04_PrefixBack.Γ vizardlaw04_PrefixBack.plan vizardlaw04_PrefixBack.body) [(.int .u32 a0), (.agg #[(.int .u32 p0), (.int .i64 p1)])] K E H = vizardlaw04_PrefixBack.vc a0 p0 p1 (fun r0_0 H => K (.bool r0_0) H) E H := by
  kernel_rfl
theorem vizardlaw04_PrefixBack.Fe {args : List Value} {K E : Value → Heap → Prop} {H : Heap} (h : vizardlaw04_PrefixBack.F args K E H) : ∃ a0 p0 p1, args = [(.int .u32 a0), (.agg #[(.int .u32 p0), (.int .i64 p1)])] ∧ vizardlaw04_PrefixBack.c a0 p0 p1 (fun r0_0 H => K (.bool r0_0) H) E H := by
  unfold vizardlaw04_PrefixBack.F at h
  split at h
  · exact ⟨_, _, _, rfl, h⟩
  · exact h.elim
theorem vizardlaw04_PrefixBack.ok : CalleeOk Tryd.prog 7 vizardlaw04_PrefixBack.F :=
  callee_ok vizardlaw04_PrefixBack.hΓ (fn := Tryd.f7) (c := vizardlaw04_PrefixBack.body) (T := wC Tryd.prog vizardlaw04_PrefixBack.Γ vizardlaw04_PrefixBack.plan vizardlaw04_PrefixBack.body) (by kernel_rfl) (by kernel_rfl) (by kernel_rfl) (wC_sound vizardlaw04_PrefixBack.hΓ Tryd.hm vizardlaw04_PrefixBack.plan _ vizardlaw04_PrefixBack.pok) fun _ K E H h => by
    obtain ⟨z0, z1, z2, e, h⟩ := vizardlaw04_PrefixBack.Fe h
    subst e
    have h2 : vizardlaw04_PrefixBack.vc z0 z1 z2 (fun r0_0 H => ∃ H', Heap.Le H' H ∧ K (.bool r0_0) H') E H := h.h
    rw [vizardlaw04_PrefixBack.eq z0 z1 z2 (Fg K) E H]
    exact h2
end Go.Sh
