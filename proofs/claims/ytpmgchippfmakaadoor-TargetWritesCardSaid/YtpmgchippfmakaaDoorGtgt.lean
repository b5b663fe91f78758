/- PRINTED by a program (sh.py): what the walk over each function asks, and that it asks just that. -/
import Derived.Test.YtpmgchippfmakaaDoorNum
namespace Go.Sh
open Go.Proofs
set_option linter.unusedVariables false
set_option maxRecDepth 8000
/-! vizard/target.right -/
noncomputable def target_right.body : Code := Tryd.f17.body.getD .skip
def target_right.vc (t0 : Bool) (t1 : Int) (t2 : Int) (K : Bool → Heap → Prop) (E : Value → Heap → Prop) (h0 : Heap) : Prop :=
  newB (.cells #[(.bool t0), (.int .u32 t1), (.int .i64 t2)] 24) (fun b0 h1 =>
  ldB h1 ((⟨b0, 0, none⟩ : Addr).add 0) fun x0 =>
  (if x0 = true then
  ldB h1 ((⟨b0, 0, none⟩ : Addr).add 0) fun x1 => ldI h1 .u32 ((⟨b0, 0, none⟩ : Addr).add 1) fun x2 => ldI h1 .i64 ((⟨b0, 0, none⟩ : Addr).add 2) fun x3 =>
  K ((x1 == true) && ((x2 == 0) && ((x3 == 0) && true))) h1
  else
  ldI h1 .i64 ((⟨b0, 0, none⟩ : Addr).add 2) fun x4 =>
  (if (decide (x4 ≥ 1)) = true then
  ldI h1 .i64 ((⟨b0, 0, none⟩ : Addr).add 2) fun x5 =>
  K (decide (x5 ≤ 65535)) h1
  else
  K false h1))) h0
structure target_right.c (t0 : Bool) (t1 : Int) (t2 : Int) (K : Bool → Heap → Prop) (E : Value → Heap → Prop) (H : Heap) : Prop where
  h : target_right.vc t0 t1 t2 (fun r0_0 H => ∃ H', Heap.Le H' H ∧ K r0_0 H') E H
def target_right.F : FT := fun args K E H => match args with
  | [(.agg ⟨[(.bool t0), (.int .u32 t1), (.int .i64 t2)]⟩)] => target_right.c t0 t1 t2 (fun r0_0 H => K (.bool r0_0) H) E H
  | _ => False
noncomputable def target_right.Γ : FuncId → Option FT := Γof []
theorem target_right.hΓ : ∀ f F, target_right.Γ f = some F → CalleeOk Tryd.prog f F := Γof_ok (fun _ h => nomatch h)
noncomputable def target_right.plan : Plan := .go
theorem target_right.pok : PlanOk Tryd.prog target_right.plan target_right.body := by
  have e : PlanOk Tryd.prog target_right.plan target_right.body = (True) := by kernel_rfl
  exact e.mpr trivial
theorem target_right.eq (t0 : Bool) (t1 : Int) (t2 : Int) (K : Value → Heap → Prop) (E : Value → Heap → Prop) (H : Heap) :
    fnT Tryd.prog Tryd.f17 (wC Tryd.prog target_right.Γ target_right.plan target_right.body) [(.agg #[(.bool t0), (.int .u32 t1), (.int .i64 t2)])] K E H = target_right.vc t0 t1 t2 (fun r0_0 H => K (.bool r0_0) H) E H := by
  kernel_rfl
theorem target_right.Fe {args : List Value} {K E : Value → Heap → Prop} {H : Heap} (h : target_right.F args K E H) : ∃ t0 t1 t2, args = [(.agg #[(.bool t0), (.int .u32 t1), (.int .i64 t2)])] ∧ target_right.c t0 t1 t2 (fun r0_0 H => K (.bool r0_0) H) E H := by
  unfold target_right.F at h
  split at h
  · exact ⟨_, _, _, rfl, h⟩
  · exact h.elim
theorem target_right.ok : CalleeOk Tryd.prog 17 target_right.F :=
  callee_ok target_right.hΓ (fn := Tryd.f17) (c := target_right.body) (T := wC Tryd.prog target_right.Γ target_right.plan target_right.body) (by kernel_rfl) (by kernel_rfl) (by kernel_rfl) (wC_sound target_right.hΓ Tryd.hm target_right.plan _ target_right.pok) fun _ K E H h => by
    obtain ⟨z0, z1, z2, e, h⟩ := target_right.Fe h
    subst e
    have h2 : target_right.vc z0 z1 z2 (fun r0_0 H => ∃ H', Heap.Le H' H ∧ K (.bool r0_0) H') E H := h.h
    rw [target_right.eq z0 z1 z2 (Fg K) E H]
    exact h2

/-! vizard/prefix.Text -/
noncomputable def prefix_Text.body : Code := Tryd.f18.body.getD .skip
def prefix_Text.J2.vc (a0 : Int) (l0 : Option Addr) (l1 : Nat) (l2 : Nat) (x0 : Int) (Kn : Int → Heap → Prop) (E : Value → Heap → Prop) (h0 : Heap) : Prop :=
  Kn (IntKind.i64.wrap (x0 + 1)) h0
structure prefix_Text.J2 (a0 : Int) (l0 : Option Addr) (l1 : Nat) (l2 : Nat) (x0 : Int) (Kn : Int → Heap → Prop) (E : Value → Heap → Prop) (H : Heap) : Prop where
  h : prefix_Text.J2.vc a0 l0 l1 l2 x0 Kn E H
def prefix_Text.W1.vc (a0 : Int) (l0 : Option Addr) (l1 : Nat) (l2 : Nat) (x0 : Int) (Kx0 : Option Addr → Nat → Nat → Heap → Prop) (RR : Option Addr → Nat → Nat → Int → Heap → Prop) (E : Value → Heap → Prop) (h0 : Heap) : Prop :=
  (if (decide (x0 < 4)) = true then
  (0 : Int) ≤ (IntKind.i64.wrap (24 - (IntKind.i64.wrap (8 * x0)))) ∧
  strconv_Itoa.c (IntKind.i64.wrap (bits .and .u32 (shrI .u32 a0 (IntKind.i64.wrap (24 - (IntKind.i64.wrap (8 * x0))))) 255)) (fun x1 h1 =>
  newB (.cells #[(.string x1)] 9) (fun b0 h2 =>
  rdRow h2 (some (⟨b0, 0, none⟩ : Addr)) (1 * 1) fun cs0 =>
  appT 9 (.string (⟨#[]⟩ : ByteArray)) l0 l1 1 l2 1 16 cs0 (fun p0 n0 c0 h3 =>
  prefix_Text.J2 a0 p0 n0 c0 x0 (fun x2 h4 =>
  RR p0 n0 c0 x2 h4) E h3) h2) h1) E h0
  else
  Kx0 l0 l1 l2 h0)
structure prefix_Text.W1 (a0 : Int) (l0 : Option Addr) (l1 : Nat) (l2 : Nat) (x0 : Int) (Kx0 : Option Addr → Nat → Nat → Heap → Prop) (E : Value → Heap → Prop) (H : Heap) : Prop where
  h : Loop (fun (RR : Option Addr × Nat × Nat × Int → Heap → Prop) (s : Option Addr × Nat × Nat × Int) (H : Heap) => prefix_Text.W1.vc a0 s.1 s.2.1 s.2.2.1 s.2.2.2 Kx0 (fun l0 l1 l2 x0 H => RR (l0, l1, l2, x0) H) E H) (l0, l1, l2, x0) H
def prefix_Text.vc (a0 : Int) (K : ByteArray → Heap → Prop) (E : Value → Heap → Prop) (h0 : Heap) : Prop :=
  prefix_Text.W1 a0 none 0 0 0 (fun l0 l1 l2 h1 =>
  strings_Join.c l0 l1 l2 (⟨#[46]⟩ : ByteArray) K E h1) E h0
structure prefix_Text.c (a0 : Int) (K : ByteArray → Heap → Prop) (E : Value → Heap → Prop) (H : Heap) : Prop where
  h : prefix_Text.vc a0 (fun r0_0 H => ∃ H', Heap.Le H' H ∧ K r0_0 H') E H
def prefix_Text.F : FT := fun args K E H => match args with
  | [(.int .u32 a0)] => prefix_Text.c a0 (fun r0_0 H => K (.string r0_0) H) E H
  | _ => False
noncomputable def prefix_Text.Γ : FuncId → Option FT := Γof [(19, strconv_Itoa.F), (33, strings_Join.F)]
theorem prefix_Text.hΓ : ∀ f F, prefix_Text.Γ f = some F → CalleeOk Tryd.prog f F := Γof_ok (List.forall_mem_cons.2 ⟨strconv_Itoa.ok, List.forall_mem_cons.2 ⟨strings_Join.ok, fun _ h => nomatch h⟩⟩)
def prefix_Text.J2.t : CT := fun Q E fr H => lenIs 22 fr (slI fr 0 .u32 fun a0 => slSl fr 3 fun l0 l1 l2 => slI fr 5 .i64 fun x0 => prefix_Text.J2 a0 l0 l1 l2 x0 (fun y5_0 H => Q .normal (mkF 22 [(0, (.int .u32 a0)), (3, (.slice l0 l1 l2)), (5, (.int .i64 y5_0))]) H) E H)
noncomputable def prefix_Text.J2.plan : Plan := .go
theorem prefix_Text.J2.pok : PlanOk Tryd.prog prefix_Text.J2.plan (sub [1, 1, 0, 1, 0, 0, 1, 1, 1] prefix_Text.body) := by
  have e : PlanOk Tryd.prog prefix_Text.J2.plan (sub [1, 1, 0, 1, 0, 0, 1, 1, 1] prefix_Text.body) = (True) := by kernel_rfl
  exact e.mpr trivial
theorem prefix_Text.J2.eq (a0 : Int) (l0 : Option Addr) (l1 : Nat) (l2 : Nat) (x0 : Int) (Q : Ex → Fr → Heap → Prop) (E : Value → Heap → Prop) (H : Heap) :
    prefix_Text.J2.vc a0 l0 l1 l2 x0 (fun y5_0 H => Q .normal (mkF 22 [(0, (.int .u32 a0)), (3, (.slice l0 l1 l2)), (5, (.int .i64 y5_0))]) H) E H = keepT [0, 3, 5] [] (fun i => []) (wC Tryd.prog prefix_Text.Γ prefix_Text.J2.plan (sub [1, 1, 0, 1, 0, 0, 1, 1, 1] prefix_Text.body)) Q E (mkF 22 [(0, (.int .u32 a0)), (3, (.slice l0 l1 l2)), (5, (.int .i64 x0))]) H := by
  kernel_rfl
theorem prefix_Text.J2.ok : SoundCode Tryd.prog (sub [1, 1, 0, 1, 0, 0, 1, 1, 1] prefix_Text.body) prefix_Text.J2.t := by
  refine piece_sound (keepT_sound [0, 3, 5] [] (fun i => []) (wC_sound prefix_Text.hΓ Tryd.hm prefix_Text.J2.plan _ prefix_Text.J2.pok)) ?_
  intro Q E fr H h
  unfold prefix_Text.J2.t at h
  obtain ⟨hl, h⟩ := lenIs_elim h
  obtain ⟨a0, q0, h⟩ := slI_elim h
  obtain ⟨l0, l1, l2, q3, h⟩ := slSl_elim h
  obtain ⟨x0, q5, h⟩ := slI_elim h
  refine ⟨(mkF 22 [(0, (.int .u32 a0)), (3, (.slice l0 l1 l2)), (5, (.int .i64 x0))]), fun a ha => ha.mk (Nat.le_of_eq hl.symm) (List.forall_mem_cons.2 ⟨q0, List.forall_mem_cons.2 ⟨q3, List.forall_mem_cons.2 ⟨q5, fun _ h => nomatch h⟩⟩⟩), ?_⟩
  have e := prefix_Text.J2.eq a0 l0 l1 l2 x0 Q E H
  rw [← e]
  exact h.h
def prefix_Text.W1.t : CT := fun Q E fr H => lenIs 22 fr (slI fr 0 .u32 fun a0 => slSl fr 3 fun l0 l1 l2 => slI fr 5 .i64 fun x0 => prefix_Text.W1 a0 l0 l1 l2 x0 (fun y3_0 y3_1 y3_2 H => Q (.exit 0) (mkF 22 [(3, (.slice y3_0 y3_1 y3_2))]) H) E H)
noncomputable def prefix_Text.W1.plan : Plan := .seq (.go) (.seq (.go) (.seq (.go) (.use prefix_Text.J2.t)))
theorem prefix_Text.W1.pok : PlanOk Tryd.prog prefix_Text.W1.plan (sub [1, 1, 0, 1, 0, 0] prefix_Text.body) := by
  have e : PlanOk Tryd.prog prefix_Text.W1.plan (sub [1, 1, 0, 1, 0, 0] prefix_Text.body) = ((True) ∧ ((True) ∧ ((True) ∧ (SoundCode Tryd.prog (sub [1, 1, 0, 1, 0, 0, 1, 1, 1] prefix_Text.body) prefix_Text.J2.t)))) := by kernel_rfl
  exact e.mpr ⟨trivial, ⟨trivial, ⟨trivial, prefix_Text.J2.ok⟩⟩⟩
theorem prefix_Text.W1.eq (a0 : Int) (Q : Ex → Fr → Heap → Prop) (E : Value → Heap → Prop) (RR : Fr → Heap → Prop) (s : Option Addr × Nat × Nat × Int) (H : Heap) :
    (fun (RR : Option Addr × Nat × Nat × Int → Heap → Prop) (s : Option Addr × Nat × Nat × Int) (H : Heap) => prefix_Text.W1.vc a0 s.1 s.2.1 s.2.2.1 s.2.2.2 (fun y3_0 y3_1 y3_2 H => Q (.exit 0) (mkF 22 [(3, (.slice y3_0 y3_1 y3_2))]) H) (fun l0 l1 l2 x0 H => RR (l0, l1, l2, x0) H) E H) (fun s' H' => RR ((fun (s : Option Addr × Nat × Nat × Int) => (mkF 22 [(0, (.int .u32 a0)), (3, (.slice s.1 s.2.1 s.2.2.1)), (5, (.int .i64 s.2.2.2))])) s') H') s H = keepT [0, 3, 5] [] (fun i => if i = 0 then [3] else []) (wC Tryd.prog prefix_Text.Γ prefix_Text.W1.plan (sub [1, 1, 0, 1, 0, 0] prefix_Text.body)) (fun e fr' H' => match e with | .normal => RR fr' H' | .exit id => Q (.exit id) fr' H' | .ret => Q .ret fr' H') E ((fun (s : Option Addr × Nat × Nat × Int) => (mkF 22 [(0, (.int .u32 a0)), (3, (.slice s.1 s.2.1 s.2.2.1)), (5, (.int .i64 s.2.2.2))])) s) H := by
  kernel_rfl
theorem prefix_Text.W1.ok : SoundCode Tryd.prog (sub [1, 1, 0, 1, 0] prefix_Text.body) prefix_Text.W1.t := by
  have e : (sub [1, 1, 0, 1, 0] prefix_Text.body) = .loop (sub [1, 1, 0, 1, 0, 0] prefix_Text.body) := by kernel_rfl
  rw [e]
  refine piece_sound (loopN_sound (keepT_sound [0, 3, 5] [] (fun i => if i = 0 then [3] else []) (wC_sound prefix_Text.hΓ Tryd.hm prefix_Text.W1.plan _ prefix_Text.W1.pok))) ?_
  intro Q E fr H h
  unfold prefix_Text.W1.t at h
  obtain ⟨hl, h⟩ := lenIs_elim h
  obtain ⟨a0, q0, h⟩ := slI_elim h
  obtain ⟨l0, l1, l2, q3, h⟩ := slSl_elim h
  obtain ⟨x0, q5, h⟩ := slI_elim h
  obtain ⟨m, h⟩ := h.h
  refine ⟨(mkF 22 [(0, (.int .u32 a0)), (3, (.slice l0 l1 l2)), (5, (.int .i64 x0))]), fun a ha => ha.mk (Nat.le_of_eq hl.symm) (List.forall_mem_cons.2 ⟨q0, List.forall_mem_cons.2 ⟨q3, List.forall_mem_cons.2 ⟨q5, fun _ h => nomatch h⟩⟩⟩), m, ?_⟩
  have e := loopS_eq (B := (fun (RR : Option Addr × Nat × Nat × Int → Heap → Prop) (s : Option Addr × Nat × Nat × Int) (H : Heap) => prefix_Text.W1.vc a0 s.1 s.2.1 s.2.2.1 s.2.2.2 (fun y3_0 y3_1 y3_2 H => Q (.exit 0) (mkF 22 [(3, (.slice y3_0 y3_1 y3_2))]) H) (fun l0 l1 l2 x0 H => RR (l0, l1, l2, x0) H) E H)) (A := keepT [0, 3, 5] [] (fun i => if i = 0 then [3] else []) (wC Tryd.prog prefix_Text.Γ prefix_Text.W1.plan (sub [1, 1, 0, 1, 0, 0] prefix_Text.body))) (m := (fun (s : Option Addr × Nat × Nat × Int) => (mkF 22 [(0, (.int .u32 a0)), (3, (.slice s.1 s.2.1 s.2.2.1)), (5, (.int .i64 s.2.2.2))]))) (Q := Q) (E := E) (fun RR s H => prefix_Text.W1.eq a0 Q E RR s H) m (l0, l1, l2, x0) H
  exact cast e h
noncomputable def prefix_Text.plan : Plan := .seq (.go) (.seq (.go) (.seq (.seq (.go) (.block (.use prefix_Text.W1.t))) (.go)))
theorem prefix_Text.pok : PlanOk Tryd.prog prefix_Text.plan prefix_Text.body := by
  have e : PlanOk Tryd.prog prefix_Text.plan prefix_Text.body = ((True) ∧ ((True) ∧ (((True) ∧ (SoundCode Tryd.prog (sub [1, 1, 0, 1, 0] prefix_Text.body) prefix_Text.W1.t)) ∧ (True)))) := by kernel_rfl
  exact e.mpr ⟨trivial, ⟨trivial, ⟨⟨trivial, prefix_Text.W1.ok⟩, trivial⟩⟩⟩
theorem prefix_Text.eq (a0 : Int) (K : Value → Heap → Prop) (E : Value → Heap → Prop) (H : Heap) :
    fnT Tryd.prog Tryd.f18 (wC Tryd.prog prefix_Text.Γ prefix_Text.plan prefix_Text.body) [(.int .u32 a0)] K E H = prefix_Text.vc a0 (fun r0_0 H => K (.string r0_0) H) E H := by
  kernel_rfl
theorem prefix_Text.Fe {args : List Value} {K E : Value → Heap → Prop} {H : Heap} (h : prefix_Text.F args K E H) : ∃ a0, args = [(.int .u32 a0)] ∧ prefix_Text.c a0 (fun r0_0 H => K (.string r0_0) H) E H := by
  unfold prefix_Text.F at h
  split at h
  · exact ⟨_, rfl, h⟩
  · exact h.elim
theorem prefix_Text.ok : CalleeOk Tryd.prog 18 prefix_Text.F :=
  callee_ok prefix_Text.hΓ (fn := Tryd.f18) (c := prefix_Text.body) (T := wC Tryd.prog prefix_Text.Γ prefix_Text.plan prefix_Text.body) (by kernel_rfl) (by kernel_rfl) (by kernel_rfl) (wC_sound prefix_Text.hΓ Tryd.hm prefix_Text.plan _ prefix_Text.pok) fun _ K E H h => by
    obtain ⟨z0, e, h⟩ := prefix_Text.Fe h
    subst e
    have h2 : prefix_Text.vc z0 (fun r0_0 H => ∃ H', Heap.Le H' H ∧ K (.string r0_0) H') E H := h.h
    rw [prefix_Text.eq z0 (Fg K) E H]
    exact h2

/-! vizard/target.Path -/
noncomputable def target_Path.body : Code := Tryd.f8.body.getD .skip
def target_Path.vc (t0 : Bool) (t1 : Int) (t2 : Int) (K : ByteArray → Heap → Prop) (E : Value → Heap → Prop) (h0 : Heap) : Prop :=
  newB (.cells #[(.bool t0), (.int .u32 t1), (.int .i64 t2)] 24) (fun b0 h1 =>
  ldB h1 ((⟨b0, 0, none⟩ : Addr).add 0) fun x0 => ldI h1 .u32 ((⟨b0, 0, none⟩ : Addr).add 1) fun x1 => ldI h1 .i64 ((⟨b0, 0, none⟩ : Addr).add 2) fun x2 =>
  target_right.c x0 x1 x2 (fun x3 h2 =>
  (if (!x3) = true then
  K (⟨#[]⟩ : ByteArray) h2
  else
  ldB h2 ((⟨b0, 0, none⟩ : Addr).add 0) fun x4 =>
  (if x4 = true then
  K (⟨#[47, 46, 119, 101, 108, 108, 45, 107, 110, 111, 119, 110, 47, 109, 97, 115, 113, 117, 101, 47, 105, 112, 47, 42, 47, 42, 47]⟩ : ByteArray) h2
  else
  ldI h2 .u32 ((⟨b0, 0, none⟩ : Addr).add 1) fun x5 =>
  ldI h2 .i64 ((⟨b0, 0, none⟩ : Addr).add 2) fun x6 =>
  prefix_Text.c x5 (fun x7 h3 =>
  (ldI h3 .i64 ((⟨b0, 0, none⟩ : Addr).add 2) fun x8 =>
  eqv h3 h3 (some (.int .i64 x6)) (.int .i64 x8)) ∧
  (⟨#[47, 46, 119, 101, 108, 108, 45, 107, 110, 111, 119, 110, 47, 109, 97, 115, 113, 117, 101, 47, 117, 100, 112, 47]⟩ : ByteArray).size + x7.size ≤ 9223372036854775807 ∧
  ((⟨#[47, 46, 119, 101, 108, 108, 45, 107, 110, 111, 119, 110, 47, 109, 97, 115, 113, 117, 101, 47, 117, 100, 112, 47]⟩ : ByteArray) ++ x7).size + (⟨#[47]⟩ : ByteArray).size ≤ 9223372036854775807 ∧
  strconv_Itoa.c x6 (fun x9 h4 =>
  (((⟨#[47, 46, 119, 101, 108, 108, 45, 107, 110, 111, 119, 110, 47, 109, 97, 115, 113, 117, 101, 47, 117, 100, 112, 47]⟩ : ByteArray) ++ x7) ++ (⟨#[47]⟩ : ByteArray)).size + x9.size ≤ 9223372036854775807 ∧
  ((((⟨#[47, 46, 119, 101, 108, 108, 45, 107, 110, 111, 119, 110, 47, 109, 97, 115, 113, 117, 101, 47, 117, 100, 112, 47]⟩ : ByteArray) ++ x7) ++ (⟨#[47]⟩ : ByteArray)) ++ x9).size + (⟨#[47]⟩ : ByteArray).size ≤ 9223372036854775807 ∧
  K (((((⟨#[47, 46, 119, 101, 108, 108, 45, 107, 110, 111, 119, 110, 47, 109, 97, 115, 113, 117, 101, 47, 117, 100, 112, 47]⟩ : ByteArray) ++ x7) ++ (⟨#[47]⟩ : ByteArray)) ++ x9) ++ (⟨#[47]⟩ : ByteArray)) h4) E h3) E h2))) E h1) h0
structure target_Path.c (t0 : Bool) (t1 : Int) (t2 : Int) (K : ByteArray → Heap → Prop) (E : Value → Heap → Prop) (H : Heap) : Prop where
  h : target_Path.vc t0 t1 t2 (fun r0_0 H => ∃ H', Heap.Le H' H ∧ K r0_0 H') E H
def target_Path.F : FT := fun args K E H => match args with
  | [(.agg ⟨[(.bool t0), (.int .u32 t1), (.int .i64 t2)]⟩)] => target_Path.c t0 t1 t2 (fun r0_0 H => K (.string r0_0) H) E H
  | _ => False
noncomputable def target_Path.Γ : FuncId → Option FT := Γof [(17, target_right.F), (18, prefix_Text.F), (19, strconv_Itoa.F)]
theorem target_Path.hΓ : ∀ f F, target_Path.Γ f = some F → CalleeOk Tryd.prog f F := Γof_ok (List.forall_mem_cons.2 ⟨target_right.ok, List.forall_mem_cons.2 ⟨prefix_Text.ok, List.forall_mem_cons.2 ⟨strconv_Itoa.ok, fun _ h => nomatch h⟩⟩⟩)
noncomputable def target_Path.plan : Plan := .seq (.go) (.seq (.go) (.seq (.draw ⟨[0, 1, 2, 3, 4, 5, 6, 7, 8, 9], (dl [(0, []), (1, []), (5, []), (6, []), (2, [1, 0]), (3, []), (4, []), (7, [6, 2, 5, 1, 0]), (8, []), (9, [])] .fin), [10]⟩) (.go)))
theorem target_Path.pok : PlanOk Tryd.prog target_Path.plan target_Path.body := by
  have e : PlanOk Tryd.prog target_Path.plan target_Path.body = ((True) ∧ ((True) ∧ ((True) ∧ (True)))) := by kernel_rfl
  exact e.mpr ⟨trivial, ⟨trivial, ⟨trivial, trivial⟩⟩⟩
theorem target_Path.eq (t0 : Bool) (t1 : Int) (t2 : Int) (K : Value → Heap → Prop) (E : Value → Heap → Prop) (H : Heap) :
    fnT Tryd.prog Tryd.f8 (wC Tryd.prog target_Path.Γ target_Path.plan target_Path.body) [(.agg #[(.bool t0), (.int .u32 t1), (.int .i64 t2)])] K E H = target_Path.vc t0 t1 t2 (fun r0_0 H => K (.string r0_0) H) E H := by
  kernel_rfl
theorem target_Path.Fe {args : List Value} {K E : Value → Heap → Prop} {H : Heap} (h : target_Path.F args K E H) : ∃ t0 t1 t2, args = [(.agg #[(.bool t0), (.int .u32 t1), (.int .i64 t2)])] ∧ target_Path.c t0 t1 t2 (fun r0_0 H => K (.string r0_0) H) E H := by
  unfold target_Path.F at h
  split at h
  · exact ⟨_, _, _, rfl, h⟩
  · exact h.elim
theorem target_Path.ok : CalleeOk Tryd.prog 8 target_Path.F :=
  callee_ok target_Path.hΓ (fn := Tryd.f8) (c := target_Path.body) (T := wC Tryd.prog target_Path.Γ target_Path.plan target_Path.body) (by kernel_rfl) (by kernel_rfl) (by kernel_rfl) (wC_sound target_Path.hΓ Tryd.hm target_Path.plan _ target_Path.pok) fun _ K E H h => by
    obtain ⟨z0, z1, z2, e, h⟩ := target_Path.Fe h
    subst e
    have h2 : target_Path.vc z0 z1 z2 (fun r0_0 H => ∃ H', Heap.Le H' H ∧ K (.string r0_0) H') E H := h.h
    rw [target_Path.eq z0 z1 z2 (Fg K) E H]
    exact h2

/-! vizard/vizardref17.Right -/
noncomputable def vizardref17_Right.body : Code := Tryd.f20.body.getD .skip
def vizardref17_Right.vc (t0 : Bool) (t1 : Int) (t2 : Int) (K : Bool → Heap → Prop) (E : Value → Heap → Prop) (h0 : Heap) : Prop :=
  newB (.cells #[(.bool t0), (.int .u32 t1), (.int .i64 t2)] 24) (fun b0 h1 =>
  ldB h1 ((⟨b0, 0, none⟩ : Addr).add 0) fun x0 =>
  (if x0 = true then
  ldI h1 .u32 ((⟨b0, 0, none⟩ : Addr).add 1) fun x1 =>
  (if (x1 == 0) = true then
  ldI h1 .i64 ((⟨b0, 0, none⟩ : Addr).add 2) fun x2 =>
  K (x2 == 0) h1
  else
  K false h1)
  else
  ldI h1 .i64 ((⟨b0, 0, none⟩ : Addr).add 2) fun x3 =>
  (if (decide (x3 ≥ 1)) = true then
  ldI h1 .i64 ((⟨b0, 0, none⟩ : Addr).add 2) fun x4 =>
  K (decide (x4 ≤ 65535)) h1
  else
  K false h1))) h0
structure vizardref17_Right.c (t0 : Bool) (t1 : Int) (t2 : Int) (K : Bool → Heap → Prop) (E : Value → Heap → Prop) (H : Heap) : Prop where
  h : vizardref17_Right.vc t0 t1 t2 (fun r0_0 H => ∃ H', Heap.Le H' H ∧ K r0_0 H') E H
def vizardref17_Right.F : FT := fun args K E H => match args with
  | [(.agg ⟨[(.bool t0), (.int .u32 t1), (.int .i64 t2)]⟩)] => vizardref17_Right.c t0 t1 t2 (fun r0_0 H => K (.bool r0_0) H) E H
  | _ => False
noncomputable def vizardref17_Right.Γ : FuncId → Option FT := Γof []
theorem vizardref17_Right.hΓ : ∀ f F, vizardref17_Right.Γ f = some F → CalleeOk Tryd.prog f F := Γof_ok (fun _ h => nomatch h)
noncomputable def vizardref17_Right.plan : Plan := .go
theorem vizardref17_Right.pok : PlanOk Tryd.prog vizardref17_Right.plan vizardref17_Right.body := by
  have e : PlanOk Tryd.prog vizardref17_Right.plan vizardref17_Right.body = (True) := by kernel_rfl
  exact e.mpr trivial
theorem vizardref17_Right.eq (t0 : Bool) (t1 : Int) (t2 : Int) (K : Value → Heap → Prop) (E : Value → Heap → Prop) (H : Heap) :
    fnT Tryd.prog Tryd.f20 (wC Tryd.prog vizardref17_Right.Γ vizardref17_Right.plan vizardref17_Right.body) [(.agg #[(.bool t0), (.int .u32 t1), (.int .i64 t2)])] K E H = vizardref17_Right.vc t0 t1 t2 (fun r0_0 H => K (.bool r0_0) H) E H := by
  kernel_rfl
theorem vizardref17_Right.Fe {args : List Value} {K E : Value → Heap → Prop} {H : Heap} (h : vizardref17_Right.F args K E H) : ∃ t0 t1 t2, args = [(.agg #[(.bool t0), (.int .u32 t1), (.int .i64 t2)])] ∧ vizardref17_Right.c t0 t1 t2 (fun r0_0 H => K (.bool r0_0) H) E H := by
  unfold vizardref17_Right.F at h
  split at h
  · exact ⟨_, _, _, rfl, h⟩
  · exact h.elim
theorem vizardref17_Right.ok : CalleeOk Tryd.prog 20 vizardref17_Right.F :=
  callee_ok vizardref17_Right.hΓ (fn := Tryd.f20) (c := vizardref17_Right.body) (T := wC Tryd.prog vizardref17_Right.Γ vizardref17_Right.plan vizardref17_Right.body) (by kernel_rfl) (by kernel_rfl) (by kernel_rfl) (wC_sound vizardref17_Right.hΓ Tryd.hm vizardref17_Right.plan _ vizardref17_Right.pok) fun _ K E H h => by
    obtain ⟨z0, z1, z2, e, h⟩ := vizardref17_Right.Fe h
    subst e
    have h2 : vizardref17_Right.vc z0 z1 z2 (fun r0_0 H => ∃ H', Heap.Le H' H ∧ K (.bool r0_0) H') E H := h.h
    rw [vizardref17_Right.eq z0 z1 z2 (Fg K) E H]
    exact h2

/-! vizard/vizardref04.Number -/
noncomputable def vizardref04_Number.body : Code := Tryd.f22.body.getD .skip
def vizardref04_Number.W1.vc (n0 : Int) (s0 : ByteArray) (Kx0 : ByteArray → Heap → Prop) (RR : Int → ByteArray → Heap → Prop) (E : Value → Heap → Prop) (h0 : Heap) : Prop :=
  (if (decide (n0 > 0)) = true then
  10 ≠ (0 : Int) ∧
  newB (.cells #[(.int .u8 (IntKind.u8.wrap (IntKind.i64.wrap (48 + (Int.tmod n0 10)))))] 5) (fun b0 h1 =>
  rdBytes h1 (some (⟨b0, 0, none⟩ : Addr)) 1 fun x0 =>
  x0.size + s0.size ≤ 9223372036854775807 ∧
  10 ≠ (0 : Int) ∧
  RR (IntKind.i64.wrap (Int.tdiv n0 10)) (x0 ++ s0) h1) h0
  else
  Kx0 s0 h0)
structure vizardref04_Number.W1 (n0 : Int) (s0 : ByteArray) (Kx0 : ByteArray → Heap → Prop) (E : Value → Heap → Prop) (H : Heap) : Prop where
  h : Loop (fun (RR : Int × ByteArray → Heap → Prop) (s : Int × ByteArray) (H : Heap) => vizardref04_Number.W1.vc s.1 s.2 Kx0 (fun n0 s0 H => RR (n0, s0) H) E H) (n0, s0) H
def vizardref04_Number.vc (n0 : Int) (K : ByteArray → Heap → Prop) (E : Value → Heap → Prop) (h0 : Heap) : Prop :=
  10 ≠ (0 : Int) ∧
  newB (.cells #[(.int .u8 (IntKind.u8.wrap (IntKind.i64.wrap (48 + (Int.tmod n0 10)))))] 5) (fun b0 h1 =>
  rdBytes h1 (some (⟨b0, 0, none⟩ : Addr)) 1 fun x0 =>
  10 ≠ (0 : Int) ∧
  vizardref04_Number.W1 (IntKind.i64.wrap (Int.tdiv n0 10)) x0 K E h1) h0
structure vizardref04_Number.c (n0 : Int) (K : ByteArray → Heap → Prop) (E : Value → Heap → Prop) (H : Heap) : Prop where
  h : vizardref04_Number.vc n0 (fun r0_0 H => ∃ H', Heap.Le H' H ∧ K r0_0 H') E H
def vizardref04_Number.F : FT := fun args K E H => match args with
  | [(.int .i64 n0)] => vizardref04_Number.c n0 (fun r0_0 H => K (.string r0_0) H) E H
  | _ => False
noncomputable def vizardref04_Number.Γ : FuncId → Option FT := Γof []
theorem vizardref04_Number.hΓ : ∀ f F, vizardref04_Number.Γ f = some F → CalleeOk Tryd.prog f F := Γof_ok (fun _ h => nomatch h)
def vizardref04_Number.W1.t : CT := fun Q E fr H => lenIs 25 fr (slI fr 0 .i64 fun n0 => slS fr 3 fun s0 => vizardref04_Number.W1 n0 s0 (fun y3_0 H => Q (.exit 0) (mkF 25 [(3, (.string y3_0))]) H) E H)
noncomputable def vizardref04_Number.W1.plan : Plan := .go
theorem vizardref04_Number.W1.pok : PlanOk Tryd.prog vizardref04_Number.W1.plan (sub [1, 1, 0, 1, 0, 0] vizardref04_Number.body) := by
  have e : PlanOk Tryd.prog vizardref04_Number.W1.plan (sub [1, 1, 0, 1, 0, 0] vizardref04_Number.body) = (True) := by kernel_rfl
  exact e.mpr trivial
theorem vizardref04_Number.W1.eq (Q : Ex → Fr → Heap → Prop) (E : Value → Heap → Prop) (RR : Fr → Heap → Prop) (s : Int × ByteArray) (H : Heap) :
    (fun (RR : Int × ByteArray → Heap → Prop) (s : Int × ByteArray) (H : Heap) => vizardref04_Number.W1.vc s.1 s.2 (fun y3_0 H => Q (.exit 0) (mkF 25 [(3, (.string y3_0))]) H) (fun n0 s0 H => RR (n0, s0) H) E H) (fun s' H' => RR ((fun (s : Int × ByteArray) => (mkF 25 [(0, (.int .i64 s.1)), (3, (.string s.2))])) s') H') s H = keepT [0, 3] [] (fun i => if i = 0 then [3] else []) (wC Tryd.prog vizardref04_Number.Γ vizardref04_Number.W1.plan (sub [1, 1, 0, 1, 0, 0] vizardref04_Number.body)) (fun e fr' H' => match e with | .normal => RR fr' H' | .exit id => Q (.exit id) fr' H' | .ret => Q .ret fr' H') E ((fun (s : Int × ByteArray) => (mkF 25 [(0, (.int .i64 s.1)), (3, (.string s.2))])) s) H := by
  kernel_rfl
theorem vizardref04_Number.W1.ok : SoundCode Tryd.prog (sub [1, 1, 0, 1, 0] vizardref04_Number.body) vizardref04_Number.W1.t := by
  have e : (sub [1, 1, 0, 1, 0] vizardref04_Number.body) = .loop (sub [1, 1, 0, 1, 0, 0] vizardref04_Number.body) := by kernel_rfl
  rw [e]
  refine piece_sound (loopN_sound (keepT_sound [0, 3] [] (fun i => if i = 0 then [3] else []) (wC_sound vizardref04_Number.hΓ Tryd.hm vizardref04_Number.W1.plan _ vizardref04_Number.W1.pok))) ?_
  intro Q E fr H h
  unfold vizardref04_Number.W1.t at h
  obtain ⟨hl, h⟩ := lenIs_elim h
  obtain ⟨n0, q0, h⟩ := slI_elim h
  obtain ⟨s0, q3, h⟩ := slS_elim h
  obtain ⟨m, h⟩ := h.h
  refine ⟨(mkF 25 [(0, (.int .i64 n0)), (3, (.string s0))]), fun a ha => ha.mk (Nat.le_of_eq hl.symm) (List.forall_mem_cons.2 ⟨q0, List.forall_mem_cons.2 ⟨q3, fun _ h => nomatch h⟩⟩), m, ?_⟩
  have e := loopS_eq (B := (fun (RR : Int × ByteArray → Heap → Prop) (s : Int × ByteArray) (H : Heap) => vizardref04_Number.W1.vc s.1 s.2 (fun y3_0 H => Q (.exit 0) (mkF 25 [(3, (.string y3_0))]) H) (fun n0 s0 H => RR (n0, s0) H) E H)) (A := keepT [0, 3] [] (fun i => if i = 0 then [3] else []) (wC Tryd.prog vizardref04_Number.Γ vizardref04_Number.W1.plan (sub [1, 1, 0, 1, 0, 0] vizardref04_Number.body))) (m := (fun (s : Int × ByteArray) => (mkF 25 [(0, (.int .i64 s.1)), (3, (.string s.2))]))) (Q := Q) (E := E) (fun RR s H => vizardref04_Number.W1.eq  Q E RR s H) m (n0, s0) H
  exact cast e h
noncomputable def vizardref04_Number.plan : Plan := .seq (.go) (.seq (.go) (.seq (.seq (.go) (.block (.use vizardref04_Number.W1.t))) (.go)))
theorem vizardref04_Number.pok : PlanOk Tryd.prog vizardref04_Number.plan vizardref04_Number.body := by
  have e : PlanOk Tryd.prog vizardref04_Number.plan vizardref04_Number.body = ((True) ∧ ((True) ∧ (((True) ∧ (SoundCode Tryd.prog (sub [1, 1, 0, 1, 0] vizardref04_Number.body) vizardref04_Number.W1.t)) ∧ (True)))) := by kernel_rfl
  exact e.mpr ⟨trivial, ⟨trivial, ⟨⟨trivial, vizardref04_Number.W1.ok⟩, trivial⟩⟩⟩
theorem vizardref04_Number.eq (n0 : Int) (K : Value → Heap → Prop) (E : Value → Heap → Prop) (H : Heap) :
    fnT Tryd.prog Tryd.f22 (wC Tryd.prog vizardref04_Number.Γ vizardref04_Number.plan vizardref04_Number.body) [(.int .i64 n0)] K E H = vizardref04_Number.vc n0 (fun r0_0 H => K (.string r0_0) H) E H := by
  kernel_rfl
theorem vizardref04_Number.Fe {args : List Value} {K E : Value → Heap → Prop} {H : Heap} (h : vizardref04_Number.F args K E H) : ∃ n0, args = [(.int .i64 n0)] ∧ vizardref04_Number.c n0 (fun r0_0 H => K (.string r0_0) H) E H := by
  unfold vizardref04_Number.F at h
  split at h
  · exact ⟨_, rfl, h⟩
  · exact h.elim
theorem vizardref04_Number.ok : CalleeOk Tryd.prog 22 vizardref04_Number.F :=
  callee_ok vizardref04_Number.hΓ (fn := Tryd.f22) (c := vizardref04_Number.body) (T := wC Tryd.prog vizardref04_Number.Γ vizardref04_Number.plan vizardref04_Number.body) (by kernel_rfl) (by kernel_rfl) (by kernel_rfl) (wC_sound vizardref04_Number.hΓ Tryd.hm vizardref04_Number.plan _ vizardref04_Number.pok) fun _ K E H h => by
    obtain ⟨z0, e, h⟩ := vizardref04_Number.Fe h
    subst e
    have h2 : vizardref04_Number.vc z0 (fun r0_0 H => ∃ H', Heap.Le H' H ∧ K (.string r0_0) H') E H := h.h
    rw [vizardref04_Number.eq z0 (Fg K) E H]
    exact h2

/-! vizard/vizardref04.Text -/
noncomputable def vizardref04_Text.body : Code := Tryd.f21.body.getD .skip
def vizardref04_Text.vc (a0 : Int) (K : ByteArray → Heap → Prop) (E : Value → Heap → Prop) (h0 : Heap) : Prop :=
  16777216 ≠ (0 : Int) ∧
  vizardref04_Number.c (IntKind.i64.wrap (IntKind.u32.wrap (Int.tdiv a0 16777216))) (fun x0 h1 =>
  x0.size + (⟨#[46]⟩ : ByteArray).size ≤ 9223372036854775807 ∧
  65536 ≠ (0 : Int) ∧
  256 ≠ (0 : Int) ∧
  vizardref04_Number.c (IntKind.i64.wrap (Int.tmod (IntKind.u32.wrap (Int.tdiv a0 65536)) 256)) (fun x1 h2 =>
  (x0 ++ (⟨#[46]⟩ : ByteArray)).size + x1.size ≤ 9223372036854775807 ∧
  ((x0 ++ (⟨#[46]⟩ : ByteArray)) ++ x1).size + (⟨#[46]⟩ : ByteArray).size ≤ 9223372036854775807 ∧
  256 ≠ (0 : Int) ∧
  256 ≠ (0 : Int) ∧
  vizardref04_Number.c (IntKind.i64.wrap (Int.tmod (IntKind.u32.wrap (Int.tdiv a0 256)) 256)) (fun x2 h3 =>
  (((x0 ++ (⟨#[46]⟩ : ByteArray)) ++ x1) ++ (⟨#[46]⟩ : ByteArray)).size + x2.size ≤ 9223372036854775807 ∧
  ((((x0 ++ (⟨#[46]⟩ : ByteArray)) ++ x1) ++ (⟨#[46]⟩ : ByteArray)) ++ x2).size + (⟨#[46]⟩ : ByteArray).size ≤ 9223372036854775807 ∧
  256 ≠ (0 : Int) ∧
  vizardref04_Number.c (IntKind.i64.wrap (Int.tmod a0 256)) (fun x3 h4 =>
  (((((x0 ++ (⟨#[46]⟩ : ByteArray)) ++ x1) ++ (⟨#[46]⟩ : ByteArray)) ++ x2) ++ (⟨#[46]⟩ : ByteArray)).size + x3.size ≤ 9223372036854775807 ∧
  K ((((((x0 ++ (⟨#[46]⟩ : ByteArray)) ++ x1) ++ (⟨#[46]⟩ : ByteArray)) ++ x2) ++ (⟨#[46]⟩ : ByteArray)) ++ x3) h4) E h3) E h2) E h1) E h0
structure vizardref04_Text.c (a0 : Int) (K : ByteArray → Heap → Prop) (E : Value → Heap → Prop) (H : Heap) : Prop where
  h : vizardref04_Text.vc a0 (fun r0_0 H => ∃ H', Heap.Le H' H ∧ K r0_0 H') E H
def vizardref04_Text.F : FT := fun args K E H => match args with
  | [(.int .u32 a0)] => vizardref04_Text.c a0 (fun r0_0 H => K (.string r0_0) H) E H
  | _ => False
noncomputable def vizardref04_Text.Γ : FuncId → Option FT := Γof [(22, vizardref04_Number.F)]
theorem vizardref04_Text.hΓ : ∀ f F, vizardref04_Text.Γ f = some F → CalleeOk Tryd.prog f F := Γof_ok (List.forall_mem_cons.2 ⟨vizardref04_Number.ok, fun _ h => nomatch h⟩)
noncomputable def vizardref04_Text.plan : Plan := .go
theorem vizardref04_Text.pok : PlanOk Tryd.prog vizardref04_Text.plan vizardref04_Text.body := by
  have e : PlanOk Tryd.prog vizardref04_Text.plan vizardref04_Text.body = (True) := by kernel_rfl
  exact e.mpr trivial
theorem vizardref04_Text.eq (a0 : Int) (K : Value → Heap → Prop) (E : Value → Heap → Prop) (H : Heap) :
    fnT Tryd.prog Tryd.f21 (wC Tryd.prog vizardref04_Text.Γ vizardref04_Text.plan vizardref04_Text.body) [(.int .u32 a0)] K E H = vizardref04_Text.vc a0 (fun r0_0 H => K (.string r0_0) H) E H := by
  kernel_rfl
theorem vizardref04_Text.Fe {args : List Value} {K E : Value → Heap → Prop} {H : Heap} (h : vizardref04_Text.F args K E H) : ∃ a0, args = [(.int .u32 a0)] ∧ vizardref04_Text.c a0 (fun r0_0 H => K (.string r0_0) H) E H := by
  unfold vizardref04_Text.F at h
  split at h
  · exact ⟨_, rfl, h⟩
  · exact h.elim
theorem vizardref04_Text.ok : CalleeOk Tryd.prog 21 vizardref04_Text.F :=
  callee_ok vizardref04_Text.hΓ (fn := Tryd.f21) (c := vizardref04_Text.body) (T := wC Tryd.prog vizardref04_Text.Γ vizardref04_Text.plan vizardref04_Text.body) (by kernel_rfl) (by kernel_rfl) (by kernel_rfl) (wC_sound vizardref04_Text.hΓ Tryd.hm vizardref04_Text.plan _ vizardref04_Text.pok) fun _ K E H h => by
    obtain ⟨z0, e, h⟩ := vizardref04_Text.Fe h
    subst e
    have h2 : vizardref04_Text.vc z0 (fun r0_0 H => ∃ H', Heap.Le H' H ∧ K (.string r0_0) H') E H := h.h
    rw [vizardref04_Text.eq z0 (Fg K) E H]
    exact h2

/-! vizard/vizardref17.Path -/
noncomputable def vizardref17_Path.body : Code := Tryd.f9.body.getD .skip
def vizardref17_Path.vc (t0 : Bool) (t1 : Int) (t2 : Int) (K : ByteArray → Heap → Prop) (E : Value → Heap → Prop) (h0 : Heap) : Prop :=
  newB (.cells #[(.bool t0), (.int .u32 t1), (.int .i64 t2)] 24) (fun b0 h1 =>
  ldB h1 ((⟨b0, 0, none⟩ : Addr).add 0) fun x0 => ldI h1 .u32 ((⟨b0, 0, none⟩ : Addr).add 1) fun x1 => ldI h1 .i64 ((⟨b0, 0, none⟩ : Addr).add 2) fun x2 =>
  vizardref17_Right.c x0 x1 x2 (fun x3 h2 =>
  (if (!x3) = true then
  K (⟨#[]⟩ : ByteArray) h2
  else
  ldB h2 ((⟨b0, 0, none⟩ : Addr).add 0) fun x4 =>
  (if x4 = true then
  K (⟨#[47, 46, 119, 101, 108, 108, 45, 107, 110, 111, 119, 110, 47, 109, 97, 115, 113, 117, 101, 47, 105, 112, 47, 42, 47, 42, 47]⟩ : ByteArray) h2
  else
  ldI h2 .u32 ((⟨b0, 0, none⟩ : Addr).add 1) fun x5 =>
  ldI h2 .i64 ((⟨b0, 0, none⟩ : Addr).add 2) fun x6 =>
  vizardref04_Text.c x5 (fun x7 h3 =>
  (ldI h3 .i64 ((⟨b0, 0, none⟩ : Addr).add 2) fun x8 =>
  eqv h3 h3 (some (.int .i64 x6)) (.int .i64 x8)) ∧
  (⟨#[47, 46, 119, 101, 108, 108, 45, 107, 110, 111, 119, 110, 47, 109, 97, 115, 113, 117, 101, 47, 117, 100, 112, 47]⟩ : ByteArray).size + x7.size ≤ 9223372036854775807 ∧
  ((⟨#[47, 46, 119, 101, 108, 108, 45, 107, 110, 111, 119, 110, 47, 109, 97, 115, 113, 117, 101, 47, 117, 100, 112, 47]⟩ : ByteArray) ++ x7).size + (⟨#[47]⟩ : ByteArray).size ≤ 9223372036854775807 ∧
  vizardref04_Number.c x6 (fun x9 h4 =>
  (((⟨#[47, 46, 119, 101, 108, 108, 45, 107, 110, 111, 119, 110, 47, 109, 97, 115, 113, 117, 101, 47, 117, 100, 112, 47]⟩ : ByteArray) ++ x7) ++ (⟨#[47]⟩ : ByteArray)).size + x9.size ≤ 9223372036854775807 ∧
  ((((⟨#[47, 46, 119, 101, 108, 108, 45, 107, 110, 111, 119, 110, 47, 109, 97, 115, 113, 117, 101, 47, 117, 100, 112, 47]⟩ : ByteArray) ++ x7) ++ (⟨#[47]⟩ : ByteArray)) ++ x9).size + (⟨#[47]⟩ : ByteArray).size ≤ 9223372036854775807 ∧
  K (((((⟨#[47, 46, 119, 101, 108, 108, 45, 107, 110, 111, 119, 110, 47, 109, 97, 115, 113, 117, 101, 47, 117, 100, 112, 47]⟩ : ByteArray) ++ x7) ++ (⟨#[47]⟩ : ByteArray)) ++ x9) ++ (⟨#[47]⟩ : ByteArray)) h4) E h3) E h2))) E h1) h0
structure vizardref17_Path.c (t0 : Bool) (t1 : Int) (t2 : Int) (K : ByteArray → Heap → Prop) (E : Value → Heap → Prop) (H : Heap) : Prop where
  h : vizardref17_Path.vc t0 t1 t2 (fun r0_0 H => ∃ H', Heap.Le H' H ∧ K r0_0 H') E H
def vizardref17_Path.F : FT := fun args K E H => match args with
  | [(.agg ⟨[(.bool t0), (.int .u32 t1), (.int .i64 t2)]⟩)] => vizardref17_Path.c t0 t1 t2 (fun r0_0 H => K (.string r0_0) H) E H
  | _ => False
noncomputable def vizardref17_Path.Γ : FuncId → Option FT := Γof [(20, vizardref17_Right.F), (21, vizardref04_Text.F), (22, vizardref04_Number.F)]
theorem vizardref17_Path.hΓ : ∀ f F, vizardref17_Path.Γ f = some F → CalleeOk Tryd.prog f F := Γof_ok (List.forall_mem_cons.2 ⟨vizardref17_Right.ok, List.forall_mem_cons.2 ⟨vizardref04_Text.ok, List.forall_mem_cons.2 ⟨vizardref04_Number.ok, fun _ h => nomatch h⟩⟩⟩)
noncomputable def vizardref17_Path.plan : Plan := .seq (.go) (.seq (.go) (.seq (.draw ⟨[0, 1, 2, 3, 4, 5, 6, 7, 8, 9], (dl [(0, []), (1, []), (5, []), (6, []), (2, [1, 0]), (3, []), (4, []), (7, [6, 2, 5, 1, 0]), (8, []), (9, [])] .fin), [10]⟩) (.go)))
theorem vizardref17_Path.pok : PlanOk Tryd.prog vizardref17_Path.plan vizardref17_Path.body := by
  have e : PlanOk Tryd.prog vizardref17_Path.plan vizardref17_Path.body = ((True) ∧ ((True) ∧ ((True) ∧ (True)))) := by kernel_rfl
  exact e.mpr ⟨trivial, ⟨trivial, ⟨trivial, trivial⟩⟩⟩
theorem vizardref17_Path.eq (t0 : Bool) (t1 : Int) (t2 : Int) (K : Value → Heap → Prop) (E : Value → Heap → Prop) (H : Heap) :
    fnT Tryd.prog Tryd.f9 (wC Tryd.prog vizardref17_Path.Γ vizardref17_Path.plan vizardref17_Path.body) [(.agg #[(.bool t0), (.int .u32 t1), (.int .i64 t2)])] K E H = vizardref17_Path.vc t0 t1 t2 (fun r0_0 H => K (.string r0_0) H) E H := by
  kernel_rfl
theorem vizardref17_Path.Fe {args : List Value} {K E : Value → Heap → Prop} {H : Heap} (h : vizardref17_Path.F args K E H) : ∃ t0 t1 t2, args = [(.agg #[(.bool t0), (.int .u32 t1), (.int .i64 t2)])] ∧ vizardref17_Path.c t0 t1 t2 (fun r0_0 H => K (.string r0_0) H) E H := by
  unfold vizardref17_Path.F at h
  split at h
  · exact ⟨_, _, _, rfl, h⟩
  · exact h.elim
theorem vizardref17_Path.ok : CalleeOk Tryd.prog 9 vizardref17_Path.F :=
  callee_ok vizardref17_Path.hΓ (fn := Tryd.f9) (c := vizardref17_Path.body) (T := wC Tryd.prog vizardref17_Path.Γ vizardref17_Path.plan vizardref17_Path.body) (by kernel_rfl) (by kernel_rfl) (by kernel_rfl) (wC_sound vizardref17_Path.hΓ Tryd.hm vizardref17_Path.plan _ vizardref17_Path.pok) fun _ K E H h => by
    obtain ⟨z0, z1, z2, e, h⟩ := vizardref17_Path.Fe h
    subst e
    have h2 : vizardref17_Path.vc z0 z1 z2 (fun r0_0 H => ∃ H', Heap.Le H' H ∧ K (.string r0_0) H') E H := h.h
    rw [vizardref17_Path.eq z0 z1 z2 (Fg K) E H]
    exact h2

/-! vizard/target.Fields -/
noncomputable def target_Fields.body : Code := Tryd.f11.body.getD .skip
def target_Fields.J1.vc (authority0 : ByteArray) (t0 : Addr) (protocol0 : ByteArray) (Kr : Option Addr → Nat → Nat → Heap → Prop) (E : Value → Heap → Prop) (h0 : Heap) : Prop :=
  ldB h0 (t0.add 0) fun x0 => ldI h0 .u32 (t0.add 1) fun x1 => ldI h0 .i64 (t0.add 2) fun x2 =>
  target_Path.c x0 x1 x2 (fun x3 h1 =>
  newB (.cells #[(.string (⟨#[58, 109, 101, 116, 104, 111, 100]⟩ : ByteArray)), (.string (⟨#[67, 79, 78, 78, 69, 67, 84]⟩ : ByteArray)), (.string (⟨#[58, 112, 114, 111, 116, 111, 99, 111, 108]⟩ : ByteArray)), (.string protocol0), (.string (⟨#[58, 115, 99, 104, 101, 109, 101]⟩ : ByteArray)), (.string (⟨#[104, 116, 116, 112, 115]⟩ : ByteArray)), (.string (⟨#[58, 97, 117, 116, 104, 111, 114, 105, 116, 121]⟩ : ByteArray)), (.string authority0), (.string (⟨#[58, 112, 97, 116, 104]⟩ : ByteArray)), (.string x3), (.string (⟨#[99, 97, 112, 115, 117, 108, 101, 45, 112, 114, 111, 116, 111, 99, 111, 108]⟩ : ByteArray)), (.string (⟨#[63, 49]⟩ : ByteArray))] 35) (fun b0 h2 =>
  Kr (some (⟨b0, 0, none⟩ : Addr)) 6 6 h2) h1) E h0
structure target_Fields.J1 (authority0 : ByteArray) (t0 : Addr) (protocol0 : ByteArray) (Kr : Option Addr → Nat → Nat → Heap → Prop) (E : Value → Heap → Prop) (H : Heap) : Prop where
  h : target_Fields.J1.vc authority0 t0 protocol0 Kr E H
def target_Fields.vc (authority0 : ByteArray) (t0 : Bool) (t1 : Int) (t2 : Int) (K : Option Addr → Nat → Nat → Heap → Prop) (E : Value → Heap → Prop) (h0 : Heap) : Prop :=
  newB (.cells #[(.bool t0), (.int .u32 t1), (.int .i64 t2)] 24) (fun b0 h1 =>
  ldB h1 ((⟨b0, 0, none⟩ : Addr).add 0) fun x0 => ldI h1 .u32 ((⟨b0, 0, none⟩ : Addr).add 1) fun x1 => ldI h1 .i64 ((⟨b0, 0, none⟩ : Addr).add 2) fun x2 =>
  target_right.c x0 x1 x2 (fun x3 h2 =>
  (if (!x3) = true then
  K none 0 0 h2
  else
  ldB h2 ((⟨b0, 0, none⟩ : Addr).add 0) fun x4 =>
  (if x4 = true then
  target_Fields.J1 authority0 (⟨b0, 0, none⟩ : Addr) (⟨#[99, 111, 110, 110, 101, 99, 116, 45, 105, 112]⟩ : ByteArray) K E h2
  else
  target_Fields.J1 authority0 (⟨b0, 0, none⟩ : Addr) (⟨#[99, 111, 110, 110, 101, 99, 116, 45, 117, 100, 112]⟩ : ByteArray) K E h2))) E h1) h0
structure target_Fields.c (authority0 : ByteArray) (t0 : Bool) (t1 : Int) (t2 : Int) (K : Option Addr → Nat → Nat → Heap → Prop) (E : Value → Heap → Prop) (H : Heap) : Prop where
  h : target_Fields.vc authority0 t0 t1 t2 (fun r0_0 r0_1 r0_2 H => ∃ H', Heap.Le H' H ∧ K r0_0 r0_1 r0_2 H') E H
def target_Fields.F : FT := fun args K E H => match args with
  | [(.string authority0), (.agg ⟨[(.bool t0), (.int .u32 t1), (.int .i64 t2)]⟩)] => target_Fields.c authority0 t0 t1 t2 (fun r0_0 r0_1 r0_2 H => K (.slice r0_0 r0_1 r0_2) H) E H
  | _ => False
noncomputable def target_Fields.Γ : FuncId → Option FT := Γof [(8, target_Path.F), (17, target_right.F)]
theorem target_Fields.hΓ : ∀ f F, target_Fields.Γ f = some F → CalleeOk Tryd.prog f F := Γof_ok (List.forall_mem_cons.2 ⟨target_Path.ok, List.forall_mem_cons.2 ⟨target_right.ok, fun _ h => nomatch h⟩⟩)
def target_Fields.J1.t : CT := fun Q E fr H => lenIs 22 fr (slS fr 0 fun authority0 => slPA fr 3 fun t0 => slS fr 5 fun protocol0 => target_Fields.J1 authority0 t0 protocol0 (fun y4_0 y4_1 y4_2 H => Q .ret (mkF 22 [(4, (.slice y4_0 y4_1 y4_2))]) H) E H)
noncomputable def target_Fields.J1.plan : Plan := .go
theorem target_Fields.J1.pok : PlanOk Tryd.prog target_Fields.J1.plan (sub [1, 1, 1, 1] target_Fields.body) := by
  have e : PlanOk Tryd.prog target_Fields.J1.plan (sub [1, 1, 1, 1] target_Fields.body) = (True) := by kernel_rfl
  exact e.mpr trivial
theorem target_Fields.J1.eq (authority0 : ByteArray) (t0 : Addr) (protocol0 : ByteArray) (Q : Ex → Fr → Heap → Prop) (E : Value → Heap → Prop) (H : Heap) :
    target_Fields.J1.vc authority0 t0 protocol0 (fun y4_0 y4_1 y4_2 H => Q .ret (mkF 22 [(4, (.slice y4_0 y4_1 y4_2))]) H) E H = keepT [] [4] (fun i => []) (wC Tryd.prog target_Fields.Γ target_Fields.J1.plan (sub [1, 1, 1, 1] target_Fields.body)) Q E (mkF 22 [(0, (.string authority0)), (3, (.pointer (some t0))), (5, (.string protocol0))]) H := by
  kernel_rfl
theorem target_Fields.J1.ok : SoundCode Tryd.prog (sub [1, 1, 1, 1] target_Fields.body) target_Fields.J1.t := by
  refine piece_sound (keepT_sound [] [4] (fun i => []) (wC_sound target_Fields.hΓ Tryd.hm target_Fields.J1.plan _ target_Fields.J1.pok)) ?_
  intro Q E fr H h
  unfold target_Fields.J1.t at h
  obtain ⟨hl, h⟩ := lenIs_elim h
  obtain ⟨authority0, q0, h⟩ := slS_elim h
  obtain ⟨t0, q3, h⟩ := slPA_elim h
  obtain ⟨protocol0, q5, h⟩ := slS_elim h
  refine ⟨(mkF 22 [(0, (.string authority0)), (3, (.pointer (some t0))), (5, (.string protocol0))]), fun a ha => ha.mk (Nat.le_of_eq hl.symm) (List.forall_mem_cons.2 ⟨q0, List.forall_mem_cons.2 ⟨q3, List.forall_mem_cons.2 ⟨q5, fun _ h => nomatch h⟩⟩⟩), ?_⟩
  have e := target_Fields.J1.eq authority0 t0 protocol0 Q E H
  rw [← e]
  exact h.h
noncomputable def target_Fields.plan : Plan := .seq (.go) (.seq (.go) (.seq (.go) (.seq (.go) (.use target_Fields.J1.t))))
theorem target_Fields.pok : PlanOk Tryd.prog target_Fields.plan target_Fields.body := by
  have e : PlanOk Tryd.prog target_Fields.plan target_Fields.body = ((True) ∧ ((True) ∧ ((True) ∧ ((True) ∧ (SoundCode Tryd.prog (sub [1, 1, 1, 1] target_Fields.body) target_Fields.J1.t))))) := by kernel_rfl
  exact e.mpr ⟨trivial, ⟨trivial, ⟨trivial, ⟨trivial, target_Fields.J1.ok⟩⟩⟩⟩
theorem target_Fields.eq (authority0 : ByteArray) (t0 : Bool) (t1 : Int) (t2 : Int) (K : Value → Heap → Prop) (E : Value → Heap → Prop) (H : Heap) :
    fnT Tryd.prog Tryd.f11 (wC Tryd.prog target_Fields.Γ target_Fields.plan target_Fields.body) [(.string authority0), (.agg #[(.bool t0), (.int .u32 t1), (.int .i64 t2)])] K E H = target_Fields.vc authority0 t0 t1 t2 (fun r0_0 r0_1 r0_2 H => K (.slice r0_0 r0_1 r0_2) H) E H := by
  kernel_rfl
theorem target_Fields.Fe {args : List Value} {K E : Value → Heap → Prop} {H : Heap} (h : target_Fields.F args K E H) : ∃ authority0 t0 t1 t2, args = [(.string authority0), (.agg #[(.bool t0), (.int .u32 t1), (.int .i64 t2)])] ∧ target_Fields.c authority0 t0 t1 t2 (fun r0_0 r0_1 r0_2 H => K (.slice r0_0 r0_1 r0_2) H) E H := by
  unfold target_Fields.F at h
  split at h
  · exact ⟨_, _, _, _, rfl, h⟩
  · exact h.elim
theorem target_Fields.ok : CalleeOk Tryd.prog 11 target_Fields.F :=
  callee_ok target_Fields.hΓ (fn := Tryd.f11) (c := target_Fields.body) (T := wC Tryd.prog target_Fields.Γ target_Fields.plan target_Fields.body) (by kernel_rfl) (by kernel_rfl) (by kernel_rfl) (wC_sound target_Fields.hΓ Tryd.hm target_Fields.plan _ target_Fields.pok) fun _ K E H h => by
    obtain ⟨z0, z1, z2, z3, e, h⟩ := target_Fields.Fe h
    subst e
    have h2 : target_Fields.vc z0 z1 z2 z3 (fun r0_0 r0_1 r0_2 H => ∃ H', Heap.Le H' H ∧ K (.slice r0_0 r0_1 r0_2) H') E H := h.h
    rw [target_Fields.eq z0 z1 z2 z3 (Fg K) E H]
    exact h2

/-! vizard/vizardref17.Fields -/
noncomputable def vizardref17_Fields.body : Code := Tryd.f12.body.getD .skip
def vizardref17_Fields.J1.vc (authority0 : ByteArray) (t0 : Addr) (p0 : ByteArray) (Kr : Option Addr → Nat → Nat → Heap → Prop) (E : Value → Heap → Prop) (h0 : Heap) : Prop :=
  ldB h0 (t0.add 0) fun x0 => ldI h0 .u32 (t0.add 1) fun x1 => ldI h0 .i64 (t0.add 2) fun x2 =>
  vizardref17_Path.c x0 x1 x2 (fun x3 h1 =>
  newB (.cells #[(.string (⟨#[58, 109, 101, 116, 104, 111, 100]⟩ : ByteArray)), (.string (⟨#[67, 79, 78, 78, 69, 67, 84]⟩ : ByteArray)), (.string (⟨#[58, 112, 114, 111, 116, 111, 99, 111, 108]⟩ : ByteArray)), (.string p0), (.string (⟨#[58, 115, 99, 104, 101, 109, 101]⟩ : ByteArray)), (.string (⟨#[104, 116, 116, 112, 115]⟩ : ByteArray)), (.string (⟨#[58, 97, 117, 116, 104, 111, 114, 105, 116, 121]⟩ : ByteArray)), (.string authority0), (.string (⟨#[58, 112, 97, 116, 104]⟩ : ByteArray)), (.string x3), (.string (⟨#[99, 97, 112, 115, 117, 108, 101, 45, 112, 114, 111, 116, 111, 99, 111, 108]⟩ : ByteArray)), (.string (⟨#[63, 49]⟩ : ByteArray))] 35) (fun b0 h2 =>
  Kr (some (⟨b0, 0, none⟩ : Addr)) 6 6 h2) h1) E h0
structure vizardref17_Fields.J1 (authority0 : ByteArray) (t0 : Addr) (p0 : ByteArray) (Kr : Option Addr → Nat → Nat → Heap → Prop) (E : Value → Heap → Prop) (H : Heap) : Prop where
  h : vizardref17_Fields.J1.vc authority0 t0 p0 Kr E H
def vizardref17_Fields.vc (authority0 : ByteArray) (t0 : Bool) (t1 : Int) (t2 : Int) (K : Option Addr → Nat → Nat → Heap → Prop) (E : Value → Heap → Prop) (h0 : Heap) : Prop :=
  newB (.cells #[(.bool t0), (.int .u32 t1), (.int .i64 t2)] 24) (fun b0 h1 =>
  ldB h1 ((⟨b0, 0, none⟩ : Addr).add 0) fun x0 => ldI h1 .u32 ((⟨b0, 0, none⟩ : Addr).add 1) fun x1 => ldI h1 .i64 ((⟨b0, 0, none⟩ : Addr).add 2) fun x2 =>
  vizardref17_Right.c x0 x1 x2 (fun x3 h2 =>
  (if (!x3) = true then
  K none 0 0 h2
  else
  ldB h2 ((⟨b0, 0, none⟩ : Addr).add 0) fun x4 =>
  (if x4 = true then
  vizardref17_Fields.J1 authority0 (⟨b0, 0, none⟩ : Addr) (⟨#[99, 111, 110, 110, 101, 99, 116, 45, 105, 112]⟩ : ByteArray) K E h2
  else
  vizardref17_Fields.J1 authority0 (⟨b0, 0, none⟩ : Addr) (⟨#[99, 111, 110, 110, 101, 99, 116, 45, 117, 100, 112]⟩ : ByteArray) K E h2))) E h1) h0
structure vizardref17_Fields.c (authority0 : ByteArray) (t0 : Bool) (t1 : Int) (t2 : Int) (K : Option Addr → Nat → Nat → Heap → Prop) (E : Value → Heap → Prop) (H : Heap) : Prop where
  h : vizardref17_Fields.vc authority0 t0 t1 t2 (fun r0_0 r0_1 r0_2 H => ∃ H', Heap.Le H' H ∧ K r0_0 r0_1 r0_2 H') E H
def vizardref17_Fields.F : FT := fun args K E H => match args with
  | [(.string authority0), (.agg ⟨[(.bool t0), (.int .u32 t1), (.int .i64 t2)]⟩)] => vizardref17_Fields.c authority0 t0 t1 t2 (fun r0_0 r0_1 r0_2 H => K (.slice r0_0 r0_1 r0_2) H) E H
  | _ => False
noncomputable def vizardref17_Fields.Γ : FuncId → Option FT := Γof [(9, vizardref17_Path.F), (20, vizardref17_Right.F)]
theorem vizardref17_Fields.hΓ : ∀ f F, vizardref17_Fields.Γ f = some F → CalleeOk Tryd.prog f F := Γof_ok (List.forall_mem_cons.2 ⟨vizardref17_Path.ok, List.forall_mem_cons.2 ⟨vizardref17_Right.ok, fun _ h => nomatch h⟩⟩)
def vizardref17_Fields.J1.t : CT := fun Q E fr H => lenIs 22 fr (slS fr 0 fun authority0 => slPA fr 3 fun t0 => slS fr 5 fun p0 => vizardref17_Fields.J1 authority0 t0 p0 (fun y4_0 y4_1 y4_2 H => Q .ret (mkF 22 [(4, (.slice y4_0 y4_1 y4_2))]) H) E H)
noncomputable def vizardref17_Fields.J1.plan : Plan := .go
theorem vizardref17_Fields.J1.pok : PlanOk Tryd.prog vizardref17_Fields.J1.plan (sub [1, 1, 1, 1] vizardref17_Fields.body) := by
  have e : PlanOk Tryd.prog vizardref17_Fields.J1.plan (sub [1, 1, 1, 1] vizardref17_Fields.body) = (True) := by kernel_rfl
  exact e.mpr trivial
theorem vizardref17_Fields.J1.eq (authority0 : ByteArray) (t0 : Addr) (p0 : ByteArray) (Q : Ex → Fr → Heap → Prop) (E : Value → Heap → Prop) (H : Heap) :
    vizardref17_Fields.J1.vc authority0 t0 p0 (fun y4_0 y4_1 y4_2 H => Q .ret (mkF 22 [(4, (.slice y4_0 y4_1 y4_2))]) H) E H = keepT [] [4] (fun i => []) (wC Tryd.prog vizardref17_Fields.Γ vizardref17_Fields.J1.plan (sub [1, 1, 1, 1] vizardref17_Fields.body)) Q E (mkF 22 [(0, (.string authority0)), (3, (.pointer (some t0))), (5, (.string p0))]) H := by
  kernel_rfl
theorem vizardref17_Fields.J1.ok : SoundCode Tryd.prog (sub [1, 1, 1, 1] vizardref17_Fields.body) vizardref17_Fields.J1.t := by
  refine piece_sound (keepT_sound [] [4] (fun i => []) (wC_sound vizardref17_Fields.hΓ Tryd.hm vizardref17_Fields.J1.plan _ vizardref17_Fields.J1.pok)) ?_
  intro Q E fr H h
  unfold vizardref17_Fields.J1.t at h
  obtain ⟨hl, h⟩ := lenIs_elim h
  obtain ⟨authority0, q0, h⟩ := slS_elim h
  obtain ⟨t0, q3, h⟩ := slPA_elim h
  obtain ⟨p0, q5, h⟩ := slS_elim h
  refine ⟨(mkF 22 [(0, (.string authority0)), (3, (.pointer (some t0))), (5, (.string p0))]), fun a ha => ha.mk (Nat.le_of_eq hl.symm) (List.forall_mem_cons.2 ⟨q0, List.forall_mem_cons.2 ⟨q3, List.forall_mem_cons.2 ⟨q5, fun _ h => nomatch h⟩⟩⟩), ?_⟩
  have e := vizardref17_Fields.J1.eq authority0 t0 p0 Q E H
  rw [← e]
  exact h.h
noncomputable def vizardref17_Fields.plan : Plan := .seq (.go) (.seq (.go) (.seq (.go) (.seq (.go) (.use vizardref17_Fields.J1.t))))
theorem vizardref17_Fields.pok : PlanOk Tryd.prog vizardref17_Fields.plan vizardref17_Fields.body := by
  have e : PlanOk Tryd.prog vizardref17_Fields.plan vizardref17_Fields.body = ((True) ∧ ((True) ∧ ((True) ∧ ((True) ∧ (SoundCode Tryd.prog (sub [1, 1, 1, 1] vizardref17_Fields.body) vizardref17_Fields.J1.t))))) := by kernel_rfl
  exact e.mpr ⟨trivial, ⟨trivial, ⟨trivial, ⟨trivial, vizardref17_Fields.J1.ok⟩⟩⟩⟩
theorem vizardref17_Fields.eq (authority0 : ByteArray) (t0 : Bool) (t1 : Int) (t2 : Int) (K : Value → Heap → Prop) (E : Value → Heap → Prop) (H : Heap) :
    fnT Tryd.prog Tryd.f12 (wC Tryd.prog vizardref17_Fields.Γ vizardref17_Fields.plan vizardref17_Fields.body) [(.string authority0), (.agg #[(.bool t0), (.int .u32 t1), (.int .i64 t2)])] K E H = vizardref17_Fields.vc authority0 t0 t1 t2 (fun r0_0 r0_1 r0_2 H => K (.slice r0_0 r0_1 r0_2) H) E H := by
  kernel_rfl
theorem vizardref17_Fields.Fe {args : List Value} {K E : Value → Heap → Prop} {H : Heap} (h : vizardref17_Fields.F args K E H) : ∃ authority0 t0 t1 t2, args = [(.string authority0), (.agg #[(.bool t0), (.int .u32 t1), (.int .i64 t2)])] ∧ vizardref17_Fields.c authority0 t0 t1 t2 (fun r0_0 r0_1 r0_2 H => K (.slice r0_0 r0_1 r0_2) H) E H := by
  unfold vizardref17_Fields.F at h
  split at h
  · exact ⟨_, _, _, _, rfl, h⟩
  · exact h.elim
theorem vizardref17_Fields.ok : CalleeOk Tryd.prog 12 vizardref17_Fields.F :=
  callee_ok vizardref17_Fields.hΓ (fn := Tryd.f12) (c := vizardref17_Fields.body) (T := wC Tryd.prog vizardref17_Fields.Γ vizardref17_Fields.plan vizardref17_Fields.body) (by kernel_rfl) (by kernel_rfl) (by kernel_rfl) (wC_sound vizardref17_Fields.hΓ Tryd.hm vizardref17_Fields.plan _ vizardref17_Fields.pok) fun _ K E H h => by
    obtain ⟨z0, z1, z2, z3, e, h⟩ := vizardref17_Fields.Fe h
    subst e
    have h2 : vizardref17_Fields.vc z0 z1 z2 z3 (fun r0_0 r0_1 r0_2 H => ∃ H', Heap.Le H' H ∧ K (.slice r0_0 r0_1 r0_2) H') E H := h.h
    rw [vizardref17_Fields.eq z0 z1 z2 z3 (Fg K) E H]
    exact h2

/-! vizard/vizardref14.Same -/
noncomputable def vizardref14_Same.body : Code := Tryd.f10.body.getD .skip
def vizardref14_Same.W1.vc (a0 : Option Addr) (a1 : Nat) (a2 : Nat) (b0 : Option Addr) (b1 : Nat) (b2 : Nat) (i0 : Int) (Kx0 : Heap → Prop) (Kr : Bool → Heap → Prop) (RR : Int → Heap → Prop) (E : Value → Heap → Prop) (h0 : Heap) : Prop :=
  (if (decide (i0 < (a1 : Int))) = true then
  nilc a0 fun a3 => (0 : Int) ≤ i0 ∧ i0 < (a1 : Int) ∧
  ldS h0 ((a3.add (i0.toNat * 2)).add 0) fun x0 => ldS h0 ((a3.add (i0.toNat * 2)).add 1) fun x1 =>
  nilc b0 fun a4 => (0 : Int) ≤ i0 ∧ i0 < (b1 : Int) ∧
  ldS h0 ((a4.add (i0.toNat * 2)).add 0) fun x2 => ldS h0 ((a4.add (i0.toNat * 2)).add 1) fun x3 =>
  (if (!((x0 == x2) && ((x1 == x3) && true))) = true then
  Kr false h0
  else
  RR (IntKind.i64.wrap (i0 + 1)) h0)
  else
  Kx0 h0)
structure vizardref14_Same.W1 (a0 : Option Addr) (a1 : Nat) (a2 : Nat) (b0 : Option Addr) (b1 : Nat) (b2 : Nat) (i0 : Int) (Kx0 : Heap → Prop) (Kr : Bool → Heap → Prop) (E : Value → Heap → Prop) (H : Heap) : Prop where
  h : Loop (fun (RR : Int → Heap → Prop) (s : Int) (H : Heap) => vizardref14_Same.W1.vc a0 a1 a2 b0 b1 b2 s Kx0 Kr (fun i0 H => RR (i0) H) E H) (i0) H
def vizardref14_Same.vc (a0 : Option Addr) (a1 : Nat) (a2 : Nat) (b0 : Option Addr) (b1 : Nat) (b2 : Nat) (K : Bool → Heap → Prop) (E : Value → Heap → Prop) (h0 : Heap) : Prop :=
  (if ((a1 : Int) != (b1 : Int)) = true then
  K false h0
  else
  vizardref14_Same.W1 a0 a1 a2 b0 b1 b2 0 (fun h1 =>
  K true h1) K E h0)
structure vizardref14_Same.c (a0 : Option Addr) (a1 : Nat) (a2 : Nat) (b0 : Option Addr) (b1 : Nat) (b2 : Nat) (K : Bool → Heap → Prop) (E : Value → Heap → Prop) (H : Heap) : Prop where
  h : vizardref14_Same.vc a0 a1 a2 b0 b1 b2 (fun r0_0 H => ∃ H', Heap.Le H' H ∧ K r0_0 H') E H
def vizardref14_Same.F : FT := fun args K E H => match args with
  | [(.slice a0 a1 a2), (.slice b0 b1 b2)] => vizardref14_Same.c a0 a1 a2 b0 b1 b2 (fun r0_0 H => K (.bool r0_0) H) E H
  | _ => False
noncomputable def vizardref14_Same.Γ : FuncId → Option FT := Γof []
theorem vizardref14_Same.hΓ : ∀ f F, vizardref14_Same.Γ f = some F → CalleeOk Tryd.prog f F := Γof_ok (fun _ h => nomatch h)
def vizardref14_Same.W1.t : CT := fun Q E fr H => lenIs 26 fr (slSl fr 0 fun a0 a1 a2 => slSl fr 1 fun b0 b1 b2 => slI fr 5 .i64 fun i0 => vizardref14_Same.W1 a0 a1 a2 b0 b1 b2 i0 (fun  H => Q (.exit 0) (mkF 26 []) H) (fun y4_0 H => Q .ret (mkF 26 [(4, (.bool y4_0))]) H) E H)
noncomputable def vizardref14_Same.W1.plan : Plan := .seq (.go) (.seq (.block (.seq (.draw ⟨[0, 1, 2, 3, 4, 5, 6, 7, 8], (dl [(0, []), (1, []), (2, []), (3, []), (4, []), (5, []), (6, []), (7, []), (8, [])] .fin), []⟩) (.go))) (.go))
theorem vizardref14_Same.W1.pok : PlanOk Tryd.prog vizardref14_Same.W1.plan (sub [1, 1, 0, 1, 0, 0] vizardref14_Same.body) := by
  have e : PlanOk Tryd.prog vizardref14_Same.W1.plan (sub [1, 1, 0, 1, 0, 0] vizardref14_Same.body) = ((True) ∧ (((True) ∧ (True)) ∧ (True))) := by kernel_rfl
  exact e.mpr ⟨trivial, ⟨⟨trivial, trivial⟩, trivial⟩⟩
theorem vizardref14_Same.W1.eq (a0 : Option Addr) (a1 : Nat) (a2 : Nat) (b0 : Option Addr) (b1 : Nat) (b2 : Nat) (Q : Ex → Fr → Heap → Prop) (E : Value → Heap → Prop) (RR : Fr → Heap → Prop) (s : Int) (H : Heap) :
    (fun (RR : Int → Heap → Prop) (s : Int) (H : Heap) => vizardref14_Same.W1.vc a0 a1 a2 b0 b1 b2 s (fun  H => Q (.exit 0) (mkF 26 []) H) (fun y4_0 H => Q .ret (mkF 26 [(4, (.bool y4_0))]) H) (fun i0 H => RR (i0) H) E H) (fun s' H' => RR ((fun (s : Int) => (mkF 26 [(0, (.slice a0 a1 a2)), (1, (.slice b0 b1 b2)), (5, (.int .i64 s))])) s') H') s H = keepT [0, 1, 5] [4] (fun i => if i = 0 then [] else []) (wC Tryd.prog vizardref14_Same.Γ vizardref14_Same.W1.plan (sub [1, 1, 0, 1, 0, 0] vizardref14_Same.body)) (fun e fr' H' => match e with | .normal => RR fr' H' | .exit id => Q (.exit id) fr' H' | .ret => Q .ret fr' H') E ((fun (s : Int) => (mkF 26 [(0, (.slice a0 a1 a2)), (1, (.slice b0 b1 b2)), (5, (.int .i64 s))])) s) H := by
  kernel_rfl
theorem vizardref14_Same.W1.ok : SoundCode Tryd.prog (sub [1, 1, 0, 1, 0] vizardref14_Same.body) vizardref14_Same.W1.t := by
  have e : (sub [1, 1, 0, 1, 0] vizardref14_Same.body) = .loop (sub [1, 1, 0, 1, 0, 0] vizardref14_Same.body) := by kernel_rfl
  rw [e]
  refine piece_sound (loopN_sound (keepT_sound [0, 1, 5] [4] (fun i => if i = 0 then [] else []) (wC_sound vizardref14_Same.hΓ Tryd.hm vizardref14_Same.W1.plan _ vizardref14_Same.W1.pok))) ?_
  intro Q E fr H h
  unfold vizardref14_Same.W1.t at h
  obtain ⟨hl, h⟩ := lenIs_elim h
  obtain ⟨a0, a1, a2, q0, h⟩ := slSl_elim h
  obtain ⟨b0, b1, b2, q1, h⟩ := slSl_elim h
  obtain ⟨i0, q5, h⟩ := slI_elim h
  obtain ⟨m, h⟩ := h.h
  refine ⟨(mkF 26 [(0, (.slice a0 a1 a2)), (1, (.slice b0 b1 b2)), (5, (.int .i64 i0))]), fun a ha => ha.mk (Nat.le_of_eq hl.symm) (List.forall_mem_cons.2 ⟨q0, List.forall_mem_cons.2 ⟨q1, List.forall_mem_cons.2 ⟨q5, fun _ h => nomatch h⟩⟩⟩), m, ?_⟩
  have e := loopS_eq (B := (fun (RR : Int → Heap → Prop) (s : Int) (H : Heap) => vizardref14_Same.W1.vc a0 a1 a2 b0 b1 b2 s (fun  H => Q (.exit 0) (mkF 26 []) H) (fun y4_0 H => Q .ret (mkF 26 [(4, (.bool y4_0))]) H) (fun i0 H => RR (i0) H) E H)) (A := keepT [0, 1, 5] [4] (fun i => if i = 0 then [] else []) (wC Tryd.prog vizardref14_Same.Γ vizardref14_Same.W1.plan (sub [1, 1, 0, 1, 0, 0] vizardref14_Same.body))) (m := (fun (s : Int) => (mkF 26 [(0, (.slice a0 a1 a2)), (1, (.slice b0 b1 b2)), (5, (.int .i64 s))]))) (Q := Q) (E := E) (fun RR s H => vizardref14_Same.W1.eq a0 a1 a2 b0 b1 b2 Q E RR s H) m (i0) H
  exact cast e h
noncomputable def vizardref14_Same.plan : Plan := .seq (.go) (.seq (.go) (.seq (.seq (.go) (.block (.use vizardref14_Same.W1.t))) (.go)))
theorem vizardref14_Same.pok : PlanOk Tryd.prog vizardref14_Same.plan vizardref14_Same.body := by
  have e : PlanOk Tryd.prog vizardref14_Same.plan vizardref14_Same.body = ((True) ∧ ((True) ∧ (((True) ∧ (SoundCode Tryd.prog (sub [1, 1, 0, 1, 0] vizardref14_Same.body) vizardref14_Same.W1.t)) ∧ (True)))) := by kernel_rfl
  exact e.mpr ⟨trivial, ⟨trivial, ⟨⟨trivial, vizardref14_Same.W1.ok⟩, trivial⟩⟩⟩
theorem vizardref14_Same.eq (a0 : Option Addr) (a1 : Nat) (a2 : Nat) (b0 : Option Addr) (b1 : Nat) (b2 : Nat) (K : Value → Heap → Prop) (E : Value → Heap → Prop) (H : Heap) :
    fnT Tryd.prog Tryd.f10 (wC Tryd.prog vizardref14_Same.Γ vizardref14_Same.plan vizardref14_Same.body) [(.slice a0 a1 a2), (.slice b0 b1 b2)] K E H = vizardref14_Same.vc a0 a1 a2 b0 b1 b2 (fun r0_0 H => K (.bool r0_0) H) E H := by
  kernel_rfl
theorem vizardref14_Same.Fe {args : List Value} {K E : Value → Heap → Prop} {H : Heap} (h : vizardref14_Same.F args K E H) : ∃ a0 a1 a2 b0 b1 b2, args = [(.slice a0 a1 a2), (.slice b0 b1 b2)] ∧ vizardref14_Same.c a0 a1 a2 b0 b1 b2 (fun r0_0 H => K (.bool r0_0) H) E H := by
  unfold vizardref14_Same.F at h
  split at h
  · exact ⟨_, _, _, _, _, _, rfl, h⟩
  · exact h.elim
theorem vizardref14_Same.ok : CalleeOk Tryd.prog 10 vizardref14_Same.F :=
  callee_ok vizardref14_Same.hΓ (fn := Tryd.f10) (c := vizardref14_Same.body) (T := wC Tryd.prog vizardref14_Same.Γ vizardref14_Same.plan vizardref14_Same.body) (by kernel_rfl) (by kernel_rfl) (by kernel_rfl) (wC_sound vizardref14_Same.hΓ Tryd.hm vizardref14_Same.plan _ vizardref14_Same.pok) fun _ K E H h => by
    obtain ⟨z0, z1, z2, z3, z4, z5, e, h⟩ := vizardref14_Same.Fe h
    subst e
    have h2 : vizardref14_Same.vc z0 z1 z2 z3 z4 z5 (fun r0_0 H => ∃ H', Heap.Le H' H ∧ K (.bool r0_0) H') E H := h.h
    rw [vizardref14_Same.eq z0 z1 z2 z3 z4 z5 (Fg K) E H]
    exact h2

/-! vizard/vizardlaw17.TargetWrites -/
noncomputable def vizardlaw17_TargetWrites.body : Code := Tryd.f3.body.getD .skip
def vizardlaw17_TargetWrites.vc (authority0 : ByteArray) (t0 : Bool) (t1 : Int) (t2 : Int) (K : Bool → Heap → Prop) (E : Value → Heap → Prop) (h0 : Heap) : Prop :=
  newB (.cells #[(.bool t0), (.int .u32 t1), (.int .i64 t2)] 24) (fun b0 h1 =>
  ldB h1 ((⟨b0, 0, none⟩ : Addr).add 0) fun x0 => ldI h1 .u32 ((⟨b0, 0, none⟩ : Addr).add 1) fun x1 => ldI h1 .i64 ((⟨b0, 0, none⟩ : Addr).add 2) fun x2 =>
  ldB h1 ((⟨b0, 0, none⟩ : Addr).add 0) fun x3 => ldI h1 .u32 ((⟨b0, 0, none⟩ : Addr).add 1) fun x4 => ldI h1 .i64 ((⟨b0, 0, none⟩ : Addr).add 2) fun x5 =>
  target_Path.c x0 x1 x2 (fun x6 h2 =>
  (ldB h2 ((⟨b0, 0, none⟩ : Addr).add 0) fun x7 => ldI h2 .u32 ((⟨b0, 0, none⟩ : Addr).add 1) fun x8 => ldI h2 .i64 ((⟨b0, 0, none⟩ : Addr).add 2) fun x9 =>
  eqv h2 h2 (some (.agg #[(.bool x3), (.int .u32 x4), (.int .i64 x5)])) (.agg #[(.bool x7), (.int .u32 x8), (.int .i64 x9)])) ∧
  vizardref17_Path.c x3 x4 x5 (fun x10 h3 =>
  (if (x6.toList == x10.toList) = true then
  ldB h3 ((⟨b0, 0, none⟩ : Addr).add 0) fun x11 => ldI h3 .u32 ((⟨b0, 0, none⟩ : Addr).add 1) fun x12 => ldI h3 .i64 ((⟨b0, 0, none⟩ : Addr).add 2) fun x13 =>
  ldB h3 ((⟨b0, 0, none⟩ : Addr).add 0) fun x14 => ldI h3 .u32 ((⟨b0, 0, none⟩ : Addr).add 1) fun x15 => ldI h3 .i64 ((⟨b0, 0, none⟩ : Addr).add 2) fun x16 =>
  target_Fields.c authority0 x11 x12 x13 (fun x17 x18 x19 h4 =>
  (ldB h4 ((⟨b0, 0, none⟩ : Addr).add 0) fun x20 => ldI h4 .u32 ((⟨b0, 0, none⟩ : Addr).add 1) fun x21 => ldI h4 .i64 ((⟨b0, 0, none⟩ : Addr).add 2) fun x22 =>
  eqv h4 h4 (some (.agg #[(.bool x14), (.int .u32 x15), (.int .i64 x16)])) (.agg #[(.bool x20), (.int .u32 x21), (.int .i64 x22)])) ∧
  vizardref17_Fields.c authority0 x14 x15 x16 (fun x23 x24 x25 h5 =>
  vizardref14_Same.c x17 x18 x19 x23 x24 x25 K E h5) E h4) E h3
  else
  True ∧
  K false h3)) E h2) E h1) h0
structure vizardlaw17_TargetWrites.c (authority0 : ByteArray) (t0 : Bool) (t1 : Int) (t2 : Int) (K : Bool → Heap → Prop) (E : Value → Heap → Prop) (H : Heap) : Prop where
  h : vizardlaw17_TargetWrites.vc authority0 t0 t1 t2 (fun r0_0 H => ∃ H', Heap.Le H' H ∧ K r0_0 H') E H
def vizardlaw17_TargetWrites.F : FT := fun args K E H => match args with
  | [(.string authority0), (.agg ⟨[(.bool t0), (.int .u32 t1), (.int .i64 t2)]⟩)] => vizardlaw17_TargetWrites.c authority0 t0 t1 t2 (fun r0_0 H => K (.bool r0_0) H) E H
  | _ => False
noncomputable def vizardlaw17_TargetWrites.Γ : FuncId → Option FT := Γof [(8, target_Path.F), (9, vizardref17_Path.F), (10, vizardref14_Same.F), (11, target_Fields.F), (12, vizardref17_Fields.F)]
theorem vizardlaw17_TargetWrites.hΓ : ∀ f F, vizardlaw17_TargetWrites.Γ f = some F → CalleeOk Tryd.prog f F := Γof_ok (List.forall_mem_cons.2 ⟨target_Path.ok, List.forall_mem_cons.2 ⟨vizardref17_Path.ok, List.forall_mem_cons.2 ⟨vizardref14_Same.ok, List.forall_mem_cons.2 ⟨target_Fields.ok, List.forall_mem_cons.2 ⟨vizardref17_Fields.ok, fun _ h => nomatch h⟩⟩⟩⟩⟩)
noncomputable def vizardlaw17_TargetWrites.plan : Plan := .seq (.go) (.seq (.draw ⟨[0, 1, 2, 3, 4, 5, 6, 7, 8, 9, 10, 11, 12, 13], (dl [(0, []), (2, []), (1, [0]), (3, [2, 1, 0]), (4, []), (5, []), (6, []), (7, []), (9, []), (10, []), (8, [6, 7, 5, 4, 3, 1, 2, 0]), (11, [9, 10, 8, 5, 6, 7, 4, 3, 1, 2, 0]), (12, [8, 11, 5, 6, 7, 9, 10, 4, 3, 1, 2, 0]), (13, [])] .fin), [14]⟩) (.go))
theorem vizardlaw17_TargetWrites.pok : PlanOk Tryd.prog vizardlaw17_TargetWrites.plan vizardlaw17_TargetWrites.body := by
  have e : PlanOk Tryd.prog vizardlaw17_TargetWrites.plan vizardlaw17_TargetWrites.body = ((True) ∧ ((True) ∧ (True))) := by kernel_rfl
  exact e.mpr ⟨trivial, ⟨trivial, trivial⟩⟩
theorem vizardlaw17_TargetWrites.eq (authority0 : ByteArray) (t0 : Bool) (t1 : Int) (t2 : Int) (K : Value → Heap → Prop) (E : Value → Heap → Prop) (H : Heap) :
    fnT Tryd.prog Tryd.f3 (wC Tryd.prog vizardlaw17_TargetWrites.Γ vizardlaw17_TargetWrites.plan vizardlaw17_TargetWrites.body) [(.string authority0), (.agg #[(.bool t0), (.int .u32 t1), (.int .i64 t2)])] K E H = vizardlaw17_TargetWrites.vc authority0 t0 t1 t2 (fun r0_0 H => K (.bool r0_0) H) E H := by
  kernel_rfl
theorem vizardlaw17_TargetWrites.Fe {args : List Value} {K E : Value → Heap → Prop} {H : Heap} (h : vizardlaw17_TargetWrites.F args K E H) : ∃ authority0 t0 t1 t2, args = [(.string authority0), (.agg #[(.bool t0), (.int .u32 t1), (.int .i64 t2)])] ∧ vizardlaw17_TargetWrites.c authority0 t0 t1 t2 (fun r0_0 H => K (.bool r0_0) H) E H := by
  unfold vizardlaw17_TargetWrites.F at h
  split at h
  · exact ⟨_, _, _, _, rfl, h⟩
  · exact h.elim
theorem vizardlaw17_TargetWrites.ok : CalleeOk Tryd.prog 3 vizardlaw17_TargetWrites.F :=
  callee_ok vizardlaw17_TargetWrites.hΓ (fn := Tryd.f3) (c := vizardlaw17_TargetWrites.body) (T := wC Tryd.prog vizardlaw17_TargetWrites.Γ vizardlaw17_TargetWrites.plan vizardlaw17_TargetWrites.body) (by kernel_rfl) (by kernel_rfl) (by kernel_rfl) (wC_sound vizardlaw17_TargetWrites.hΓ Tryd.hm vizardlaw17_TargetWrites.plan _ vizardlaw17_TargetWrites.pok) fun _ K E H h => by
    obtain ⟨z0, z1, z2, z3, e, h⟩ := vizardlaw17_TargetWrites.Fe h
    subst e
    have h2 : vizardlaw17_TargetWrites.vc z0 z1 z2 z3 (fun r0_0 H => ∃ H', Heap.Le H' H ∧ K (.bool r0_0) H') E H := h.h
    rw [vizardlaw17_TargetWrites.eq z0 z1 z2 z3 (Fg K) E H]
    exact h2
end Go.Sh
