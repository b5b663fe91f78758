/- PRINTED by a program (sh.py): what the walk over each function asks, and that it asks just that. -/
import Derived.Test.YtennpdminebahaaPolI
import Derived.Test.YtennpdminebahaaIpC
namespace Go.Sh
open Go.Proofs
set_option linter.unusedVariables false
set_option maxRecDepth 8000
/-! vizard/vizardlaw22.its -/
noncomputable def vizardlaw22_its.body : Code := Try.f16.body.getD .skip
def vizardlaw22_its.vc (t0 : Bool) (t1 : Int) (t2 : Int) (t3 : Int) (t4 : Int) (t5 : Option Addr) (t6 : Nat) (t7 : Nat) (K : Bool → Int → Int → Int → Int → Option Addr → Nat → Nat → Heap → Prop) (E : Value → Heap → Prop) (h0 : Heap) : Prop :=
  newB (.cells #[(.bool t0), (.int .u32 t1), (.int .i64 t2), (.int .u32 t3), (.int .i64 t4), (.slice t5 t6 t7)] 46) (fun b0 h1 =>
  newB (.cells #[(.bool false), (.int .u32 0), (.int .i64 0), (.int .u32 0), (.int .i64 0), (.slice none 0 0)] 47) (fun b1 h2 =>
  ldB h2 (((⟨b0, 0, none⟩ : Addr).add 0).add 0) fun x0 => ldI h2 .u32 (((⟨b0, 0, none⟩ : Addr).add 0).add 1) fun x1 => ldI h2 .i64 (((⟨b0, 0, none⟩ : Addr).add 0).add 2) fun x2 =>
  ldI h2 .u32 ((⟨b0, 0, none⟩ : Addr).add 3) fun x3 =>
  ldI h2 .i64 ((⟨b0, 0, none⟩ : Addr).add 4) fun x4 =>
  ldSl h2 ((⟨b0, 0, none⟩ : Addr).add 5) fun x5 x6 x7 =>
  newB (.cells #[] 40) (fun b2 h3 =>
  (ldSl h3 ((⟨b0, 0, none⟩ : Addr).add 5) fun x8 x9 x10 =>
  eqv h3 h3 (some (.slice x5 x6 x7)) (.slice x8 x9 x10)) ∧
  (ldI h3 .i64 ((⟨b0, 0, none⟩ : Addr).add 4) fun x11 =>
  eqv h3 h3 (some (.int .i64 x4)) (.int .i64 x11)) ∧
  (ldI h3 .u32 ((⟨b0, 0, none⟩ : Addr).add 3) fun x12 =>
  eqv h3 h3 (some (.int .u32 x3)) (.int .u32 x12)) ∧
  (ldB h3 (((⟨b0, 0, none⟩ : Addr).add 0).add 0) fun x13 => ldI h3 .u32 (((⟨b0, 0, none⟩ : Addr).add 0).add 1) fun x14 => ldI h3 .i64 (((⟨b0, 0, none⟩ : Addr).add 0).add 2) fun x15 =>
  eqv h3 h3 (some (.agg #[(.bool x0), (.int .u32 x1), (.int .i64 x2)])) (.agg #[(.bool x13), (.int .u32 x14), (.int .i64 x15)])) ∧
  rdRow h3 x5 (x6 * 6) fun cs0 =>
  appT 40 (.agg #[(.bool false), (.int .i64 0), (.int .u32 0), (.int .i64 0), (.int .i64 0), (.int .i64 0)]) (some (⟨b2, 0, none⟩ : Addr)) 0 x6 0 6 48 cs0 (fun p0 n0 c0 h4 =>
  (ldI h4 .i64 ((⟨b0, 0, none⟩ : Addr).add 4) fun x16 =>
  eqv h4 h4 (some (.int .i64 x4)) (.int .i64 x16)) ∧
  (ldI h4 .u32 ((⟨b0, 0, none⟩ : Addr).add 3) fun x17 =>
  eqv h4 h4 (some (.int .u32 x3)) (.int .u32 x17)) ∧
  (ldB h4 (((⟨b0, 0, none⟩ : Addr).add 0).add 0) fun x18 => ldI h4 .u32 (((⟨b0, 0, none⟩ : Addr).add 0).add 1) fun x19 => ldI h4 .i64 (((⟨b0, 0, none⟩ : Addr).add 0).add 2) fun x20 =>
  eqv h4 h4 (some (.agg #[(.bool x0), (.int .u32 x1), (.int .i64 x2)])) (.agg #[(.bool x18), (.int .u32 x19), (.int .i64 x20)])) ∧
  stc h4 ((⟨b1, 0, none⟩ : Addr).add 0) (.bool x0) fun h5 =>
  stc h5 ((⟨b1, 0, none⟩ : Addr).add 1) (.int .u32 x1) fun h6 =>
  stc h6 ((⟨b1, 0, none⟩ : Addr).add 2) (.int .i64 x2) fun h7 =>
  stc h7 ((⟨b1, 0, none⟩ : Addr).add 3) (.int .u32 x3) fun h8 =>
  stc h8 ((⟨b1, 0, none⟩ : Addr).add 4) (.int .i64 x4) fun h9 =>
  stc h9 ((⟨b1, 0, none⟩ : Addr).add 5) (.slice p0 n0 c0) fun h10 =>
  ldB h10 ((⟨b1, 0, none⟩ : Addr).add 0) fun r0 => ldI h10 .u32 ((⟨b1, 0, none⟩ : Addr).add 1) fun r1 => ldI h10 .i64 ((⟨b1, 0, none⟩ : Addr).add 2) fun r2 => ldI h10 .u32 ((⟨b1, 0, none⟩ : Addr).add 3) fun r3 => ldI h10 .i64 ((⟨b1, 0, none⟩ : Addr).add 4) fun r4 => ldSl h10 ((⟨b1, 0, none⟩ : Addr).add 5) fun r5 r6 r7 =>
  K r0 r1 r2 r3 r4 r5 r6 r7 h10) h3) h2) h1) h0
structure vizardlaw22_its.c (t0 : Bool) (t1 : Int) (t2 : Int) (t3 : Int) (t4 : Int) (t5 : Option Addr) (t6 : Nat) (t7 : Nat) (K : Bool → Int → Int → Int → Int → Option Addr → Nat → Nat → Heap → Prop) (E : Value → Heap → Prop) (H : Heap) : Prop where
  h : vizardlaw22_its.vc t0 t1 t2 t3 t4 t5 t6 t7 (fun r0_0 r0_1 r0_2 r0_3 r0_4 r0_5 r0_6 r0_7 H => ∃ H', Heap.Le H' H ∧ K r0_0 r0_1 r0_2 r0_3 r0_4 r0_5 r0_6 r0_7 H') E H
def vizardlaw22_its.F : FT := fun args K E H => match args with
  | [(.agg ⟨[(.bool t0), (.int .u32 t1), (.int .i64 t2), (.int .u32 t3), (.int .i64 t4), (.slice t5 t6 t7)]⟩)] => vizardlaw22_its.c t0 t1 t2 t3 t4 t5 t6 t7 (fun r0_0 r0_1 r0_2 r0_3 r0_4 r0_5 r0_6 r0_7 H => K (.agg #[(.bool r0_0), (.int .u32 r0_1), (.int .i64 r0_2), (.int .u32 r0_3), (.int .i64 r0_4), (.slice r0_5 r0_6 r0_7)]) H) E H
  | _ => False
noncomputable def vizardlaw22_its.Γ : FuncId → Option FT := Γof []
theorem vizardlaw22_its.hΓ : ∀ f F, vizardlaw22_its.Γ f = some F → CalleeOk Try.prog f F := Γof_ok (fun _ h => nomatch h)
noncomputable def vizardlaw22_its.plan : Plan := .seq (.go) (.seq (.draw ⟨[0, 1, 2, 3, 4, 5, 6, 7, 8, 9, 10, 11], (dl [(0, []), (1, []), (2, []), (3, []), (4, []), (5, []), (7, []), (8, []), (6, []), (9, [6, 8, 7]), (10, []), (11, [10, 9, 0, 1, 2, 3, 4, 5, 6, 7, 8])] .fin), []⟩) (.go))
theorem vizardlaw22_its.pok : PlanOk Try.prog vizardlaw22_its.plan vizardlaw22_its.body := by
  have e : PlanOk Try.prog vizardlaw22_its.plan vizardlaw22_its.body = ((True) ∧ ((True) ∧ (True))) := by kernel_rfl
  exact e.mpr ⟨trivial, ⟨trivial, trivial⟩⟩
theorem vizardlaw22_its.eq (t0 : Bool) (t1 : Int) (t2 : Int) (t3 : Int) (t4 : Int) (t5 : Option Addr) (t6 : Nat) (t7 : Nat) (K : Value → Heap → Prop) (E : Value → Heap → Prop) (H : Heap) :
    fnT Try.prog Try.f16 (wC Try.prog vizardlaw22_its.Γ vizardlaw22_its.plan vizardlaw22_its.body) [(.agg #[(.bool t0), (.int .u32 t1), (.int .i64 t2), (.int .u32 t3), (.int .i64 t4), (.slice t5 t6 t7)])] K E H = vizardlaw22_its.vc t0 t1 t2 t3 t4 t5 t6 t7 (fun r0_0 r0_1 r0_2 r0_3 r0_4 r0_5 r0_6 r0_7 H => K (.agg #[(.bool r0_0), (.int .u32 r0_1), (.int .i64 r0_2), (.int .u32 r0_3), (.int .i64 r0_4), (.slice r0_5 r0_6 r0_7)]) H) E H := by
  kernel_rfl
theorem vizardlaw22_its.Fe {args : List Value} {K E : Value → Heap → Prop} {H : Heap} (h : vizardlaw22_its.F args K E H) : ∃ t0 t1 t2 t3 t4 t5 t6 t7, args = [(.agg #[(.bool t0), (.int .u32 t1), (.int .i64 t2), (.int .u32 t3), (.int .i64 t4), (.slice t5 t6 t7)])] ∧ vizardlaw22_its.c t0 t1 t2 t3 t4 t5 t6 t7 (fun r0_0 r0_1 r0_2 r0_3 r0_4 r0_5 r0_6 r0_7 H => K (.agg #[(.bool r0_0), (.int .u32 r0_1), (.int .i64 r0_2), (.int .u32 r0_3), (.int .i64 r0_4), (.slice r0_5 r0_6 r0_7)]) H) E H := by
  unfold vizardlaw22_its.F at h
  split at h
  · exact ⟨_, _, _, _, _, _, _, _, rfl, h⟩
  · exact h.elim
theorem vizardlaw22_its.ok : CalleeOk Try.prog 16 vizardlaw22_its.F :=
  callee_ok vizardlaw22_its.hΓ (fn := Try.f16) (c := vizardlaw22_its.body) (T := wC Try.prog vizardlaw22_its.Γ vizardlaw22_its.plan vizardlaw22_its.body) (by kernel_rfl) (by kernel_rfl) (by kernel_rfl) (wC_sound vizardlaw22_its.hΓ Try.hm vizardlaw22_its.plan _ vizardlaw22_its.pok) fun _ K E H h => by
    obtain ⟨z0, z1, z2, z3, z4, z5, z6, z7, e, h⟩ := vizardlaw22_its.Fe h
    subst e
    have h2 : vizardlaw22_its.vc z0 z1 z2 z3 z4 z5 z6 z7 (fun r0_0 r0_1 r0_2 r0_3 r0_4 r0_5 r0_6 r0_7 H => ∃ H', Heap.Le H' H ∧ K (.agg #[(.bool r0_0), (.int .u32 r0_1), (.int .i64 r0_2), (.int .u32 r0_3), (.int .i64 r0_4), (.slice r0_5 r0_6 r0_7)]) H') E H := h.h
    rw [vizardlaw22_its.eq z0 z1 z2 z3 z4 z5 z6 z7 (Fg K) E H]
    exact h2

/-! vizard/udp.word -/
noncomputable def udp_word.body : Code := Try.f77.body.getD .skip
def udp_word.vc (s0 : ByteArray) (K : Int → Heap → Prop) (E : Value → Heap → Prop) (h0 : Heap) : Prop :=
  (0 : Int) ≤ 0 ∧ 0 < (s0.size : Int) ∧
  (0 : Int) ≤ 8 ∧
  (0 : Int) ≤ 1 ∧ 1 < (s0.size : Int) ∧
  K (bits .or .i64 (shlI .i64 (IntKind.i64.wrap (bt s0 0)) 8) (IntKind.i64.wrap (bt s0 1))) h0
structure udp_word.c (s0 : ByteArray) (K : Int → Heap → Prop) (E : Value → Heap → Prop) (H : Heap) : Prop where
  h : udp_word.vc s0 (fun r0_0 H => ∃ H', Heap.Le H' H ∧ K r0_0 H') E H
def udp_word.F : FT := fun args K E H => match args with
  | [(.string s0)] => udp_word.c s0 (fun r0_0 H => K (.int .i64 r0_0) H) E H
  | _ => False
noncomputable def udp_word.Γ : FuncId → Option FT := Γof []
theorem udp_word.hΓ : ∀ f F, udp_word.Γ f = some F → CalleeOk Try.prog f F := Γof_ok (fun _ h => nomatch h)
noncomputable def udp_word.plan : Plan := .seq (.go) (.seq (.draw ⟨[0, 1, 2, 3, 4, 5, 6, 7], (dl [(0, []), (1, []), (2, []), (3, []), (4, []), (5, []), (6, []), (7, [])] .fin), [8]⟩) (.go))
theorem udp_word.pok : PlanOk Try.prog udp_word.plan udp_word.body := by
  have e : PlanOk Try.prog udp_word.plan udp_word.body = ((True) ∧ ((True) ∧ (True))) := by kernel_rfl
  exact e.mpr ⟨trivial, ⟨trivial, trivial⟩⟩
theorem udp_word.eq (s0 : ByteArray) (K : Value → Heap → Prop) (E : Value → Heap → Prop) (H : Heap) :
    fnT Try.prog Try.f77 (wC Try.prog udp_word.Γ udp_word.plan udp_word.body) [(.string s0)] K E H = udp_word.vc s0 (fun r0_0 H => K (.int .i64 r0_0) H) E H := by
  kernel_rfl
theorem udp_word.Fe {args : List Value} {K E : Value → Heap → Prop} {H : Heap} (h : udp_word.F args K E H) : ∃ s0, args = [(.string s0)] ∧ udp_word.c s0 (fun r0_0 H => K (.int .i64 r0_0) H) E H := by
  unfold udp_word.F at h
  split at h
  · exact ⟨_, rfl, h⟩
  · exact h.elim
theorem udp_word.ok : CalleeOk Try.prog 77 udp_word.F :=
  callee_ok udp_word.hΓ (fn := Try.f77) (c := udp_word.body) (T := wC Try.prog udp_word.Γ udp_word.plan udp_word.body) (by kernel_rfl) (by kernel_rfl) (by kernel_rfl) (wC_sound udp_word.hΓ Try.hm udp_word.plan _ udp_word.pok) fun _ K E H h => by
    obtain ⟨z0, e, h⟩ := udp_word.Fe h
    subst e
    have h2 : udp_word.vc z0 (fun r0_0 H => ∃ H', Heap.Le H' H ∧ K (.int .i64 r0_0) H') E H := h.h
    rw [udp_word.eq z0 (Fg K) E H]
    exact h2

/-! vizard/udp.Ports -/
noncomputable def udp_Ports.body : Code := Try.f55.body.getD .skip
def udp_Ports.J1.vc (h0 : Addr) (x0 : Bool) (Kn : Heap → Prop) (Kr : Int → Int → Bool → Heap → Prop) (E : Value → Heap → Prop) (h1 : Heap) : Prop :=
  (if x0 = true then
  Kr 0 0 false h1
  else
  Kn h1)
structure udp_Ports.J1 (h0 : Addr) (x0 : Bool) (Kn : Heap → Prop) (Kr : Int → Int → Bool → Heap → Prop) (E : Value → Heap → Prop) (H : Heap) : Prop where
  h : udp_Ports.J1.vc h0 x0 Kn Kr E H
def udp_Ports.J2.vc (h0 : Addr) (Kr : Int → Int → Bool → Heap → Prop) (E : Value → Heap → Prop) (h1 : Heap) : Prop :=
  ldS h1 (h0.add 7) fun x0 =>
  ldS h1 (h0.add 7) fun x1 =>
  (0 : Int) ≤ 2 ∧ 2 ≤ (x1.size : Int) ∧ x1.size ≤ x1.size ∧
  udp_word.c x0 (fun x2 h2 =>
  (ldS h2 (h0.add 7) fun x3 =>
  eqv h2 h2 (some (.string x1)) (.string x3)) ∧
  udp_word.c (x1.extract 2 x1.size) (fun x4 h3 =>
  Kr x2 x4 true h3) E h2) E h1
structure udp_Ports.J2 (h0 : Addr) (Kr : Int → Int → Bool → Heap → Prop) (E : Value → Heap → Prop) (H : Heap) : Prop where
  h : udp_Ports.J2.vc h0 Kr E H
def udp_Ports.vc (h0 : Int) (h1 : Int) (h2 : Int) (h3 : Int) (h4 : Int) (h5 : Int) (h6 : Int) (h7 : ByteArray) (K : Int → Int → Bool → Heap → Prop) (E : Value → Heap → Prop) (h8 : Heap) : Prop :=
  newB (.cells #[(.int .i64 h0), (.int .i64 h1), (.int .i64 h2), (.int .i64 h3), (.int .i64 h4), (.int .u32 h5), (.int .u32 h6), (.string h7)] 58) (fun b0 h9 =>
  ldI h9 .i64 ((⟨b0, 0, none⟩ : Addr).add 4) fun x0 =>
  (if (x0 != 17) = true then
  ldI h9 .i64 ((⟨b0, 0, none⟩ : Addr).add 4) fun x1 =>
  (if (x1 != 6) = true then
  udp_Ports.J1 (⟨b0, 0, none⟩ : Addr) true (fun h10 =>
  udp_Ports.J2 (⟨b0, 0, none⟩ : Addr) K E h10) K E h9
  else
  ldI h9 .i64 ((⟨b0, 0, none⟩ : Addr).add 2) fun x8 =>
  (if ((bits .and .i64 x8 8191) != 0) = true then
  udp_Ports.J1 (⟨b0, 0, none⟩ : Addr) true (fun h13 =>
  udp_Ports.J2 (⟨b0, 0, none⟩ : Addr) K E h13) K E h9
  else
  ldS h9 ((⟨b0, 0, none⟩ : Addr).add 7) fun x15 =>
  udp_Ports.J1 (⟨b0, 0, none⟩ : Addr) (decide ((x15.size : Int) < 4)) (fun h16 =>
  udp_Ports.J2 (⟨b0, 0, none⟩ : Addr) K E h16) K E h9))
  else
  ldI h9 .i64 ((⟨b0, 0, none⟩ : Addr).add 2) fun x22 =>
  (if ((bits .and .i64 x22 8191) != 0) = true then
  udp_Ports.J1 (⟨b0, 0, none⟩ : Addr) true (fun h19 =>
  udp_Ports.J2 (⟨b0, 0, none⟩ : Addr) K E h19) K E h9
  else
  ldS h9 ((⟨b0, 0, none⟩ : Addr).add 7) fun x29 =>
  udp_Ports.J1 (⟨b0, 0, none⟩ : Addr) (decide ((x29.size : Int) < 4)) (fun h22 =>
  udp_Ports.J2 (⟨b0, 0, none⟩ : Addr) K E h22) K E h9))) h8
structure udp_Ports.c (h0 : Int) (h1 : Int) (h2 : Int) (h3 : Int) (h4 : Int) (h5 : Int) (h6 : Int) (h7 : ByteArray) (K : Int → Int → Bool → Heap → Prop) (E : Value → Heap → Prop) (H : Heap) : Prop where
  h : udp_Ports.vc h0 h1 h2 h3 h4 h5 h6 h7 (fun r0_0 r1_0 r2_0 H => ∃ H', Heap.Le H' H ∧ K r0_0 r1_0 r2_0 H') E H
def udp_Ports.F : FT := fun args K E H => match args with
  | [(.agg ⟨[(.int .i64 h0), (.int .i64 h1), (.int .i64 h2), (.int .i64 h3), (.int .i64 h4), (.int .u32 h5), (.int .u32 h6), (.string h7)]⟩)] => udp_Ports.c h0 h1 h2 h3 h4 h5 h6 h7 (fun r0_0 r1_0 r2_0 H => K (.tuple #[(.int .i64 r0_0), (.int .i64 r1_0), (.bool r2_0)]) H) E H
  | _ => False
noncomputable def udp_Ports.Γ : FuncId → Option FT := Γof [(77, udp_word.F)]
theorem udp_Ports.hΓ : ∀ f F, udp_Ports.Γ f = some F → CalleeOk Try.prog f F := Γof_ok (List.forall_mem_cons.2 ⟨udp_word.ok, fun _ h => nomatch h⟩)
def udp_Ports.J1.t : CT := fun Q E fr H => lenIs 32 fr (slPA fr 1 fun h0 => slB fr 24 fun x0 => udp_Ports.J1 h0 x0 (fun  H => Q .normal (mkF 32 [(1, (.pointer (some h0)))]) H) (fun y2_0 y3_0 y4_0 H => Q .ret (mkF 32 [(2, (.int .i64 y2_0)), (3, (.int .i64 y3_0)), (4, (.bool y4_0))]) H) E H)
noncomputable def udp_Ports.J1.plan : Plan := .go
theorem udp_Ports.J1.pok : PlanOk Try.prog udp_Ports.J1.plan (sub [1, 0, 1] udp_Ports.body) := by
  have e : PlanOk Try.prog udp_Ports.J1.plan (sub [1, 0, 1] udp_Ports.body) = (True) := by kernel_rfl
  exact e.mpr trivial
theorem udp_Ports.J1.eq (h0 : Addr) (x0 : Bool) (Q : Ex → Fr → Heap → Prop) (E : Value → Heap → Prop) (H : Heap) :
    udp_Ports.J1.vc h0 x0 (fun  H => Q .normal (mkF 32 [(1, (.pointer (some h0)))]) H) (fun y2_0 y3_0 y4_0 H => Q .ret (mkF 32 [(2, (.int .i64 y2_0)), (3, (.int .i64 y3_0)), (4, (.bool y4_0))]) H) E H = keepT [1] [2, 3, 4] (fun i => []) (wC Try.prog udp_Ports.Γ udp_Ports.J1.plan (sub [1, 0, 1] udp_Ports.body)) Q E (mkF 32 [(1, (.pointer (some h0))), (24, (.bool x0))]) H := by
  kernel_rfl
theorem udp_Ports.J1.ok : SoundCode Try.prog (sub [1, 0, 1] udp_Ports.body) udp_Ports.J1.t := by
  refine piece_sound (keepT_sound [1] [2, 3, 4] (fun i => []) (wC_sound udp_Ports.hΓ Try.hm udp_Ports.J1.plan _ udp_Ports.J1.pok)) ?_
  intro Q E fr H h
  unfold udp_Ports.J1.t at h
  obtain ⟨hl, h⟩ := lenIs_elim h
  obtain ⟨h0, q1, h⟩ := slPA_elim h
  obtain ⟨x0, q24, h⟩ := slB_elim h
  refine ⟨(mkF 32 [(1, (.pointer (some h0))), (24, (.bool x0))]), fun a ha => ha.mk (Nat.le_of_eq hl.symm) (List.forall_mem_cons.2 ⟨q1, List.forall_mem_cons.2 ⟨q24, fun _ h => nomatch h⟩⟩), ?_⟩
  have e := udp_Ports.J1.eq h0 x0 Q E H
  rw [← e]
  exact h.h
def udp_Ports.J2.t : CT := fun Q E fr H => lenIs 32 fr (slPA fr 1 fun h0 => udp_Ports.J2 h0 (fun y2_0 y3_0 y4_0 H => Q .ret (mkF 32 [(2, (.int .i64 y2_0)), (3, (.int .i64 y3_0)), (4, (.bool y4_0))]) H) E H)
noncomputable def udp_Ports.J2.plan : Plan := .seq (.draw ⟨[0, 1, 2, 3, 4, 5, 6, 7], (dl [(0, []), (1, []), (3, []), (4, []), (5, []), (2, [1, 0]), (6, [5, 2, 4, 1, 3, 0]), (7, [])] .fin), [8, 9]⟩) (.go)
theorem udp_Ports.J2.pok : PlanOk Try.prog udp_Ports.J2.plan (sub [1, 1] udp_Ports.body) := by
  have e : PlanOk Try.prog udp_Ports.J2.plan (sub [1, 1] udp_Ports.body) = ((True) ∧ (True)) := by kernel_rfl
  exact e.mpr ⟨trivial, trivial⟩
theorem udp_Ports.J2.eq (h0 : Addr) (Q : Ex → Fr → Heap → Prop) (E : Value → Heap → Prop) (H : Heap) :
    udp_Ports.J2.vc h0 (fun y2_0 y3_0 y4_0 H => Q .ret (mkF 32 [(2, (.int .i64 y2_0)), (3, (.int .i64 y3_0)), (4, (.bool y4_0))]) H) E H = keepT [] [2, 3, 4] (fun i => []) (wC Try.prog udp_Ports.Γ udp_Ports.J2.plan (sub [1, 1] udp_Ports.body)) Q E (mkF 32 [(1, (.pointer (some h0)))]) H := by
  kernel_rfl
theorem udp_Ports.J2.ok : SoundCode Try.prog (sub [1, 1] udp_Ports.body) udp_Ports.J2.t := by
  refine piece_sound (keepT_sound [] [2, 3, 4] (fun i => []) (wC_sound udp_Ports.hΓ Try.hm udp_Ports.J2.plan _ udp_Ports.J2.pok)) ?_
  intro Q E fr H h
  unfold udp_Ports.J2.t at h
  obtain ⟨hl, h⟩ := lenIs_elim h
  obtain ⟨h0, q1, h⟩ := slPA_elim h
  refine ⟨(mkF 32 [(1, (.pointer (some h0)))]), fun a ha => ha.mk (Nat.le_of_eq hl.symm) (List.forall_mem_cons.2 ⟨q1, fun _ h => nomatch h⟩), ?_⟩
  have e := udp_Ports.J2.eq h0 Q E H
  rw [← e]
  exact h.h
noncomputable def udp_Ports.plan : Plan := .seq (.go) (.seq (.seq (.go) (.use udp_Ports.J1.t)) (.use udp_Ports.J2.t))
theorem udp_Ports.pok : PlanOk Try.prog udp_Ports.plan udp_Ports.body := by
  have e : PlanOk Try.prog udp_Ports.plan udp_Ports.body = ((True) ∧ (((True) ∧ (SoundCode Try.prog (sub [1, 0, 1] udp_Ports.body) udp_Ports.J1.t)) ∧ (SoundCode Try.prog (sub [1, 1] udp_Ports.body) udp_Ports.J2.t))) := by kernel_rfl
  exact e.mpr ⟨trivial, ⟨⟨trivial, udp_Ports.J1.ok⟩, udp_Ports.J2.ok⟩⟩
theorem udp_Ports.eq (h0 : Int) (h1 : Int) (h2 : Int) (h3 : Int) (h4 : Int) (h5 : Int) (h6 : Int) (h7 : ByteArray) (K : Value → Heap → Prop) (E : Value → Heap → Prop) (H : Heap) :
    fnT Try.prog Try.f55 (wC Try.prog udp_Ports.Γ udp_Ports.plan udp_Ports.body) [(.agg #[(.int .i64 h0), (.int .i64 h1), (.int .i64 h2), (.int .i64 h3), (.int .i64 h4), (.int .u32 h5), (.int .u32 h6), (.string h7)])] K E H = udp_Ports.vc h0 h1 h2 h3 h4 h5 h6 h7 (fun r0_0 r1_0 r2_0 H => K (.tuple #[(.int .i64 r0_0), (.int .i64 r1_0), (.bool r2_0)]) H) E H := by
  kernel_rfl
theorem udp_Ports.Fe {args : List Value} {K E : Value → Heap → Prop} {H : Heap} (h : udp_Ports.F args K E H) : ∃ h0 h1 h2 h3 h4 h5 h6 h7, args = [(.agg #[(.int .i64 h0), (.int .i64 h1), (.int .i64 h2), (.int .i64 h3), (.int .i64 h4), (.int .u32 h5), (.int .u32 h6), (.string h7)])] ∧ udp_Ports.c h0 h1 h2 h3 h4 h5 h6 h7 (fun r0_0 r1_0 r2_0 H => K (.tuple #[(.int .i64 r0_0), (.int .i64 r1_0), (.bool r2_0)]) H) E H := by
  unfold udp_Ports.F at h
  split at h
  · exact ⟨_, _, _, _, _, _, _, _, rfl, h⟩
  · exact h.elim
theorem udp_Ports.ok : CalleeOk Try.prog 55 udp_Ports.F :=
  callee_ok udp_Ports.hΓ (fn := Try.f55) (c := udp_Ports.body) (T := wC Try.prog udp_Ports.Γ udp_Ports.plan udp_Ports.body) (by kernel_rfl) (by kernel_rfl) (by kernel_rfl) (wC_sound udp_Ports.hΓ Try.hm udp_Ports.plan _ udp_Ports.pok) fun _ K E H h => by
    obtain ⟨z0, z1, z2, z3, z4, z5, z6, z7, e, h⟩ := udp_Ports.Fe h
    subst e
    have h2 : udp_Ports.vc z0 z1 z2 z3 z4 z5 z6 z7 (fun r0_0 r1_0 r2_0 H => ∃ H', Heap.Le H' H ∧ K (.tuple #[(.int .i64 r0_0), (.int .i64 r1_0), (.bool r2_0)]) H') E H := h.h
    rw [udp_Ports.eq z0 z1 z2 z3 z4 z5 z6 z7 (Fg K) E H]
    exact h2

/-! vizard/ipv4.Hop -/
noncomputable def ipv4_Hop.body : Code := Try.f60.body.getD .skip
def ipv4_Hop.vc (s0 : ByteArray) (K : ByteArray → Int → Heap → Prop) (E : Value → Heap → Prop) (h0 : Heap) : Prop :=
  ipv4_Parse.c s0 (fun x0 x1 x2 x3 x4 x5 x6 x7 x8 h1 =>
  newB (.cells #[(.int .i64 0), (.int .i64 0), (.int .i64 0), (.int .i64 0), (.int .i64 0), (.int .u32 0), (.int .u32 0), (.string (⟨#[]⟩ : ByteArray))] 58) (fun b0 h2 =>
  stc h2 ((⟨b0, 0, none⟩ : Addr).add 0) (.int .i64 x0) fun h3 =>
  stc h3 ((⟨b0, 0, none⟩ : Addr).add 1) (.int .i64 x1) fun h4 =>
  stc h4 ((⟨b0, 0, none⟩ : Addr).add 2) (.int .i64 x2) fun h5 =>
  stc h5 ((⟨b0, 0, none⟩ : Addr).add 3) (.int .i64 x3) fun h6 =>
  stc h6 ((⟨b0, 0, none⟩ : Addr).add 4) (.int .i64 x4) fun h7 =>
  stc h7 ((⟨b0, 0, none⟩ : Addr).add 5) (.int .u32 x5) fun h8 =>
  stc h8 ((⟨b0, 0, none⟩ : Addr).add 6) (.int .u32 x6) fun h9 =>
  stc h9 ((⟨b0, 0, none⟩ : Addr).add 7) (.string x7) fun h10 =>
  (if (x8 != 0) = true then
  K (⟨#[]⟩ : ByteArray) x8 h10
  else
  ldI h10 .i64 ((⟨b0, 0, none⟩ : Addr).add 3) fun x9 =>
  (if (decide (x9 < 2)) = true then
  K (⟨#[]⟩ : ByteArray) 2 h10
  else
  ldI h10 .i64 ((⟨b0, 0, none⟩ : Addr).add 3) fun x10 =>
  stc h10 ((⟨b0, 0, none⟩ : Addr).add 3) (.int .i64 (IntKind.i64.wrap (x10 - 1))) fun h11 =>
  ldI h11 .i64 ((⟨b0, 0, none⟩ : Addr).add 0) fun x11 => ldI h11 .i64 ((⟨b0, 0, none⟩ : Addr).add 1) fun x12 => ldI h11 .i64 ((⟨b0, 0, none⟩ : Addr).add 2) fun x13 => ldI h11 .i64 ((⟨b0, 0, none⟩ : Addr).add 3) fun x14 => ldI h11 .i64 ((⟨b0, 0, none⟩ : Addr).add 4) fun x15 => ldI h11 .u32 ((⟨b0, 0, none⟩ : Addr).add 5) fun x16 => ldI h11 .u32 ((⟨b0, 0, none⟩ : Addr).add 6) fun x17 => ldS h11 ((⟨b0, 0, none⟩ : Addr).add 7) fun x18 =>
  ipv4_Build.c x11 x12 x13 x14 x15 x16 x17 x18 K E h11))) h1) E h0
structure ipv4_Hop.c (s0 : ByteArray) (K : ByteArray → Int → Heap → Prop) (E : Value → Heap → Prop) (H : Heap) : Prop where
  h : ipv4_Hop.vc s0 (fun r0_0 r1_0 H => ∃ H', Heap.Le H' H ∧ K r0_0 r1_0 H') E H
def ipv4_Hop.F : FT := fun args K E H => match args with
  | [(.string s0)] => ipv4_Hop.c s0 (fun r0_0 r1_0 H => K (.tuple #[(.string r0_0), (.int .i64 r1_0)]) H) E H
  | _ => False
noncomputable def ipv4_Hop.Γ : FuncId → Option FT := Γof [(38, ipv4_Parse.F), (78, ipv4_Build.F)]
theorem ipv4_Hop.hΓ : ∀ f F, ipv4_Hop.Γ f = some F → CalleeOk Try.prog f F := Γof_ok (List.forall_mem_cons.2 ⟨ipv4_Parse.ok, List.forall_mem_cons.2 ⟨ipv4_Build.ok, fun _ h => nomatch h⟩⟩)
noncomputable def ipv4_Hop.plan : Plan := .go
theorem ipv4_Hop.pok : PlanOk Try.prog ipv4_Hop.plan ipv4_Hop.body := by
  have e : PlanOk Try.prog ipv4_Hop.plan ipv4_Hop.body = (True) := by kernel_rfl
  exact e.mpr trivial
theorem ipv4_Hop.eq (s0 : ByteArray) (K : Value → Heap → Prop) (E : Value → Heap → Prop) (H : Heap) :
    fnT Try.prog Try.f60 (wC Try.prog ipv4_Hop.Γ ipv4_Hop.plan ipv4_Hop.body) [(.string s0)] K E H = ipv4_Hop.vc s0 (fun r0_0 r1_0 H => K (.tuple #[(.string r0_0), (.int .i64 r1_0)]) H) E H := by
  kernel_rfl
theorem ipv4_Hop.Fe {args : List Value} {K E : Value → Heap → Prop} {H : Heap} (h : ipv4_Hop.F args K E H) : ∃ s0, args = [(.string s0)] ∧ ipv4_Hop.c s0 (fun r0_0 r1_0 H => K (.tuple #[(.string r0_0), (.int .i64 r1_0)]) H) E H := by
  unfold ipv4_Hop.F at h
  split at h
  · exact ⟨_, rfl, h⟩
  · exact h.elim
theorem ipv4_Hop.ok : CalleeOk Try.prog 60 ipv4_Hop.F :=
  callee_ok ipv4_Hop.hΓ (fn := Try.f60) (c := ipv4_Hop.body) (T := wC Try.prog ipv4_Hop.Γ ipv4_Hop.plan ipv4_Hop.body) (by kernel_rfl) (by kernel_rfl) (by kernel_rfl) (wC_sound ipv4_Hop.hΓ Try.hm ipv4_Hop.plan _ ipv4_Hop.pok) fun _ K E H h => by
    obtain ⟨z0, e, h⟩ := ipv4_Hop.Fe h
    subst e
    have h2 : ipv4_Hop.vc z0 (fun r0_0 r1_0 H => ∃ H', Heap.Le H' H ∧ K (.tuple #[(.string r0_0), (.int .i64 r1_0)]) H') E H := h.h
    rw [ipv4_Hop.eq z0 (Fg K) E H]
    exact h2

/-! vizard/tunnel.further -/
noncomputable def tunnel_further.body : Code := Try.f39.body.getD .skip
def tunnel_further.vc (s0 : ByteArray) (K : ByteArray → Int → Heap → Prop) (E : Value → Heap → Prop) (h0 : Heap) : Prop :=
  ipv4_Hop.c s0 (fun x0 x1 h1 =>
  (if (x1 != 0) = true then
  K (⟨#[]⟩ : ByteArray) x1 h1
  else
  ipv4_Parse.c s0 (fun x2 x3 x4 x5 x6 x7 x8 x9 x10 h2 =>
  newB (.cells #[(.int .i64 0), (.int .i64 0), (.int .i64 0), (.int .i64 0), (.int .i64 0), (.int .u32 0), (.int .u32 0), (.string (⟨#[]⟩ : ByteArray))] 58) (fun b0 h3 =>
  stc h3 ((⟨b0, 0, none⟩ : Addr).add 0) (.int .i64 x2) fun h4 =>
  stc h4 ((⟨b0, 0, none⟩ : Addr).add 1) (.int .i64 x3) fun h5 =>
  stc h5 ((⟨b0, 0, none⟩ : Addr).add 2) (.int .i64 x4) fun h6 =>
  stc h6 ((⟨b0, 0, none⟩ : Addr).add 3) (.int .i64 x5) fun h7 =>
  stc h7 ((⟨b0, 0, none⟩ : Addr).add 4) (.int .i64 x6) fun h8 =>
  stc h8 ((⟨b0, 0, none⟩ : Addr).add 5) (.int .u32 x7) fun h9 =>
  stc h9 ((⟨b0, 0, none⟩ : Addr).add 6) (.int .u32 x8) fun h10 =>
  stc h10 ((⟨b0, 0, none⟩ : Addr).add 7) (.string x9) fun h11 =>
  ipv4_Parse.c x0 (fun x11 x12 x13 x14 x15 x16 x17 x18 x19 h12 =>
  newB (.cells #[(.int .i64 0), (.int .i64 0), (.int .i64 0), (.int .i64 0), (.int .i64 0), (.int .u32 0), (.int .u32 0), (.string (⟨#[]⟩ : ByteArray))] 58) (fun b1 h13 =>
  stc h13 ((⟨b1, 0, none⟩ : Addr).add 0) (.int .i64 x11) fun h14 =>
  stc h14 ((⟨b1, 0, none⟩ : Addr).add 1) (.int .i64 x12) fun h15 =>
  stc h15 ((⟨b1, 0, none⟩ : Addr).add 2) (.int .i64 x13) fun h16 =>
  stc h16 ((⟨b1, 0, none⟩ : Addr).add 3) (.int .i64 x14) fun h17 =>
  stc h17 ((⟨b1, 0, none⟩ : Addr).add 4) (.int .i64 x15) fun h18 =>
  stc h18 ((⟨b1, 0, none⟩ : Addr).add 5) (.int .u32 x16) fun h19 =>
  stc h19 ((⟨b1, 0, none⟩ : Addr).add 6) (.int .u32 x17) fun h20 =>
  stc h20 ((⟨b1, 0, none⟩ : Addr).add 7) (.string x18) fun h21 =>
  ldI h21 .i64 ((⟨b0, 0, none⟩ : Addr).add 3) fun x20 =>
  stc h21 ((⟨b0, 0, none⟩ : Addr).add 3) (.int .i64 (IntKind.i64.wrap (x20 - 1))) fun h22 =>
  ldI h22 .i64 ((⟨b1, 0, none⟩ : Addr).add 0) fun x21 => ldI h22 .i64 ((⟨b1, 0, none⟩ : Addr).add 1) fun x22 => ldI h22 .i64 ((⟨b1, 0, none⟩ : Addr).add 2) fun x23 => ldI h22 .i64 ((⟨b1, 0, none⟩ : Addr).add 3) fun x24 => ldI h22 .i64 ((⟨b1, 0, none⟩ : Addr).add 4) fun x25 => ldI h22 .u32 ((⟨b1, 0, none⟩ : Addr).add 5) fun x26 => ldI h22 .u32 ((⟨b1, 0, none⟩ : Addr).add 6) fun x27 => ldS h22 ((⟨b1, 0, none⟩ : Addr).add 7) fun x28 =>
  ldI h22 .i64 ((⟨b0, 0, none⟩ : Addr).add 0) fun x29 => ldI h22 .i64 ((⟨b0, 0, none⟩ : Addr).add 1) fun x30 => ldI h22 .i64 ((⟨b0, 0, none⟩ : Addr).add 2) fun x31 => ldI h22 .i64 ((⟨b0, 0, none⟩ : Addr).add 3) fun x32 => ldI h22 .i64 ((⟨b0, 0, none⟩ : Addr).add 4) fun x33 => ldI h22 .u32 ((⟨b0, 0, none⟩ : Addr).add 5) fun x34 => ldI h22 .u32 ((⟨b0, 0, none⟩ : Addr).add 6) fun x35 => ldS h22 ((⟨b0, 0, none⟩ : Addr).add 7) fun x36 =>
  (if (!((x21 == x29) && ((x22 == x30) && ((x23 == x31) && ((x24 == x32) && ((x25 == x33) && ((x26 == x34) && ((x27 == x35) && ((x28 == x36) && true))))))))) = true then
  K (⟨#[]⟩ : ByteArray) 3 h22
  else
  K x0 x19 h22)) h12) E h11) h2) E h1)) E h0
structure tunnel_further.c (s0 : ByteArray) (K : ByteArray → Int → Heap → Prop) (E : Value → Heap → Prop) (H : Heap) : Prop where
  h : tunnel_further.vc s0 (fun r0_0 r1_0 H => ∃ H', Heap.Le H' H ∧ K r0_0 r1_0 H') E H
def tunnel_further.F : FT := fun args K E H => match args with
  | [(.string s0)] => tunnel_further.c s0 (fun r0_0 r1_0 H => K (.tuple #[(.string r0_0), (.int .i64 r1_0)]) H) E H
  | _ => False
noncomputable def tunnel_further.Γ : FuncId → Option FT := Γof [(38, ipv4_Parse.F), (60, ipv4_Hop.F)]
theorem tunnel_further.hΓ : ∀ f F, tunnel_further.Γ f = some F → CalleeOk Try.prog f F := Γof_ok (List.forall_mem_cons.2 ⟨ipv4_Parse.ok, List.forall_mem_cons.2 ⟨ipv4_Hop.ok, fun _ h => nomatch h⟩⟩)
noncomputable def tunnel_further.plan : Plan := .go
theorem tunnel_further.pok : PlanOk Try.prog tunnel_further.plan tunnel_further.body := by
  have e : PlanOk Try.prog tunnel_further.plan tunnel_further.body = (True) := by kernel_rfl
  exact e.mpr trivial
theorem tunnel_further.eq (s0 : ByteArray) (K : Value → Heap → Prop) (E : Value → Heap → Prop) (H : Heap) :
    fnT Try.prog Try.f39 (wC Try.prog tunnel_further.Γ tunnel_further.plan tunnel_further.body) [(.string s0)] K E H = tunnel_further.vc s0 (fun r0_0 r1_0 H => K (.tuple #[(.string r0_0), (.int .i64 r1_0)]) H) E H := by
  kernel_rfl
theorem tunnel_further.Fe {args : List Value} {K E : Value → Heap → Prop} {H : Heap} (h : tunnel_further.F args K E H) : ∃ s0, args = [(.string s0)] ∧ tunnel_further.c s0 (fun r0_0 r1_0 H => K (.tuple #[(.string r0_0), (.int .i64 r1_0)]) H) E H := by
  unfold tunnel_further.F at h
  split at h
  · exact ⟨_, rfl, h⟩
  · exact h.elim
theorem tunnel_further.ok : CalleeOk Try.prog 39 tunnel_further.F :=
  callee_ok tunnel_further.hΓ (fn := Try.f39) (c := tunnel_further.body) (T := wC Try.prog tunnel_further.Γ tunnel_further.plan tunnel_further.body) (by kernel_rfl) (by kernel_rfl) (by kernel_rfl) (wC_sound tunnel_further.hΓ Try.hm tunnel_further.plan _ tunnel_further.pok) fun _ K E H h => by
    obtain ⟨z0, e, h⟩ := tunnel_further.Fe h
    subst e
    have h2 : tunnel_further.vc z0 (fun r0_0 r1_0 H => ∃ H', Heap.Le H' H ∧ K (.tuple #[(.string r0_0), (.int .i64 r1_0)]) H') E H := h.h
    rw [tunnel_further.eq z0 (Fg K) E H]
    exact h2

/-! (vizard/tunnel.Tunnel).packet -/
noncomputable def tunnel_Tunnel_packet.body : Code := Try.f36.body.getD .skip
def tunnel_Tunnel_packet.J1.vc (s0 : ByteArray) (x0 : Addr) (h0 : Addr) (x1 : Bool) (Kn : Heap → Prop) (Kr : Int → Heap → Prop) (E : Value → Heap → Prop) (h1 : Heap) : Prop :=
  (if x1 = true then
  stc h1 (x0.add 0) (.bool false) fun h2 =>
  stc h2 (x0.add 1) (.int .i64 0) fun h3 =>
  stc h3 (x0.add 2) (.int .u32 0) fun h4 =>
  stc h4 (x0.add 3) (.int .i64 0) fun h5 =>
  stc h5 (x0.add 4) (.string (⟨#[]⟩ : ByteArray)) fun h6 =>
  Kr 15 h6
  else
  Kn h1)
structure tunnel_Tunnel_packet.J1 (s0 : ByteArray) (x0 : Addr) (h0 : Addr) (x1 : Bool) (Kn : Heap → Prop) (Kr : Int → Heap → Prop) (E : Value → Heap → Prop) (H : Heap) : Prop where
  h : tunnel_Tunnel_packet.J1.vc s0 x0 h0 x1 Kn Kr E H
def tunnel_Tunnel_packet.J2.vc (s0 : ByteArray) (x0 : Addr) (h0 : Addr) (Kr : Int → Heap → Prop) (E : Value → Heap → Prop) (h1 : Heap) : Prop :=
  tunnel_further.c s0 (fun x1 x2 h2 =>
  (if (x2 != 0) = true then
  stc h2 (x0.add 0) (.bool false) fun h3 =>
  stc h3 (x0.add 1) (.int .i64 0) fun h4 =>
  stc h4 (x0.add 2) (.int .u32 0) fun h5 =>
  stc h5 (x0.add 3) (.int .i64 0) fun h6 =>
  stc h6 (x0.add 4) (.string (⟨#[]⟩ : ByteArray)) fun h7 =>
  Kr x2 h7
  else
  ldI h2 .u32 (h0.add 6) fun x3 =>
  stc h2 (x0.add 0) (.bool true) fun h8 =>
  stc h8 (x0.add 1) (.int .i64 0) fun h9 =>
  stc h9 (x0.add 2) (.int .u32 x3) fun h10 =>
  stc h10 (x0.add 3) (.int .i64 0) fun h11 =>
  stc h11 (x0.add 4) (.string x1) fun h12 =>
  Kr 0 h12)) E h1
structure tunnel_Tunnel_packet.J2 (s0 : ByteArray) (x0 : Addr) (h0 : Addr) (Kr : Int → Heap → Prop) (E : Value → Heap → Prop) (H : Heap) : Prop where
  h : tunnel_Tunnel_packet.J2.vc s0 x0 h0 Kr E H
def tunnel_Tunnel_packet.vc (t0 : Bool) (t1 : Int) (t2 : Int) (t3 : Int) (t4 : Int) (t5 : Option Addr) (t6 : Nat) (t7 : Nat) (s0 : ByteArray) (K : Bool → Int → Int → Int → ByteArray → Int → Heap → Prop) (E : Value → Heap → Prop) (h0 : Heap) : Prop :=
  newB (.cells #[(.bool t0), (.int .u32 t1), (.int .i64 t2), (.int .u32 t3), (.int .i64 t4), (.slice t5 t6 t7)] 47) (fun b0 h1 =>
  newB (.cells #[(.bool false), (.int .i64 0), (.int .u32 0), (.int .i64 0), (.string (⟨#[]⟩ : ByteArray))] 50) (fun b1 h2 =>
  ipv4_Parse.c s0 (fun x0 x1 x2 x3 x4 x5 x6 x7 x8 h3 =>
  newB (.cells #[(.int .i64 0), (.int .i64 0), (.int .i64 0), (.int .i64 0), (.int .i64 0), (.int .u32 0), (.int .u32 0), (.string (⟨#[]⟩ : ByteArray))] 58) (fun b2 h4 =>
  stc h4 ((⟨b2, 0, none⟩ : Addr).add 0) (.int .i64 x0) fun h5 =>
  stc h5 ((⟨b2, 0, none⟩ : Addr).add 1) (.int .i64 x1) fun h6 =>
  stc h6 ((⟨b2, 0, none⟩ : Addr).add 2) (.int .i64 x2) fun h7 =>
  stc h7 ((⟨b2, 0, none⟩ : Addr).add 3) (.int .i64 x3) fun h8 =>
  stc h8 ((⟨b2, 0, none⟩ : Addr).add 4) (.int .i64 x4) fun h9 =>
  stc h9 ((⟨b2, 0, none⟩ : Addr).add 5) (.int .u32 x5) fun h10 =>
  stc h10 ((⟨b2, 0, none⟩ : Addr).add 6) (.int .u32 x6) fun h11 =>
  stc h11 ((⟨b2, 0, none⟩ : Addr).add 7) (.string x7) fun h12 =>
  (if (x8 != 0) = true then
  stc h12 ((⟨b1, 0, none⟩ : Addr).add 0) (.bool false) fun h13 =>
  stc h13 ((⟨b1, 0, none⟩ : Addr).add 1) (.int .i64 0) fun h14 =>
  stc h14 ((⟨b1, 0, none⟩ : Addr).add 2) (.int .u32 0) fun h15 =>
  stc h15 ((⟨b1, 0, none⟩ : Addr).add 3) (.int .i64 0) fun h16 =>
  stc h16 ((⟨b1, 0, none⟩ : Addr).add 4) (.string (⟨#[]⟩ : ByteArray)) fun h17 =>
  ldB h17 ((⟨b1, 0, none⟩ : Addr).add 0) fun r0 => ldI h17 .i64 ((⟨b1, 0, none⟩ : Addr).add 1) fun r1 => ldI h17 .u32 ((⟨b1, 0, none⟩ : Addr).add 2) fun r2 => ldI h17 .i64 ((⟨b1, 0, none⟩ : Addr).add 3) fun r3 => ldS h17 ((⟨b1, 0, none⟩ : Addr).add 4) fun r4 =>
  K r0 r1 r2 r3 r4 x8 h17
  else
  ldI h12 .i64 ((⟨b2, 0, none⟩ : Addr).add 0) fun x9 => ldI h12 .i64 ((⟨b2, 0, none⟩ : Addr).add 1) fun x10 => ldI h12 .i64 ((⟨b2, 0, none⟩ : Addr).add 2) fun x11 => ldI h12 .i64 ((⟨b2, 0, none⟩ : Addr).add 3) fun x12 => ldI h12 .i64 ((⟨b2, 0, none⟩ : Addr).add 4) fun x13 => ldI h12 .u32 ((⟨b2, 0, none⟩ : Addr).add 5) fun x14 => ldI h12 .u32 ((⟨b2, 0, none⟩ : Addr).add 6) fun x15 => ldS h12 ((⟨b2, 0, none⟩ : Addr).add 7) fun x16 =>
  udp_Ports.c x9 x10 x11 x12 x13 x14 x15 x16 (fun x17 x18 x19 h18 =>
  ldI h18 .u32 ((⟨b2, 0, none⟩ : Addr).add 5) fun x20 =>
  ldI h18 .u32 ((⟨b0, 0, none⟩ : Addr).add 3) fun x21 =>
  (if (x20 != x21) = true then
  tunnel_Tunnel_packet.J1 s0 (⟨b1, 0, none⟩ : Addr) (⟨b2, 0, none⟩ : Addr) true (fun h19 =>
  tunnel_Tunnel_packet.J2 s0 (⟨b1, 0, none⟩ : Addr) (⟨b2, 0, none⟩ : Addr) (fun x22 h20 =>
  ldB h20 ((⟨b1, 0, none⟩ : Addr).add 0) fun r5 => ldI h20 .i64 ((⟨b1, 0, none⟩ : Addr).add 1) fun r6 => ldI h20 .u32 ((⟨b1, 0, none⟩ : Addr).add 2) fun r7 => ldI h20 .i64 ((⟨b1, 0, none⟩ : Addr).add 3) fun r8 => ldS h20 ((⟨b1, 0, none⟩ : Addr).add 4) fun r9 =>
  K r5 r6 r7 r8 r9 x22 h20) E h19) (fun x23 h21 =>
  ldB h21 ((⟨b1, 0, none⟩ : Addr).add 0) fun r10 => ldI h21 .i64 ((⟨b1, 0, none⟩ : Addr).add 1) fun r11 => ldI h21 .u32 ((⟨b1, 0, none⟩ : Addr).add 2) fun r12 => ldI h21 .i64 ((⟨b1, 0, none⟩ : Addr).add 3) fun r13 => ldS h21 ((⟨b1, 0, none⟩ : Addr).add 4) fun r14 =>
  K r10 r11 r12 r13 r14 x23 h21) E h18
  else
  ldSl h18 ((⟨b0, 0, none⟩ : Addr).add 5) fun x24 x25 x26 =>
  ldI h18 .i64 ((⟨b2, 0, none⟩ : Addr).add 4) fun x27 =>
  ldI h18 .u32 ((⟨b2, 0, none⟩ : Addr).add 6) fun x28 =>
  policy_Allow.c x24 x25 x26 x27 x28 x18 (fun x29 h22 =>
  tunnel_Tunnel_packet.J1 s0 (⟨b1, 0, none⟩ : Addr) (⟨b2, 0, none⟩ : Addr) (!x29) (fun h23 =>
  tunnel_Tunnel_packet.J2 s0 (⟨b1, 0, none⟩ : Addr) (⟨b2, 0, none⟩ : Addr) (fun x30 h24 =>
  ldB h24 ((⟨b1, 0, none⟩ : Addr).add 0) fun r15 => ldI h24 .i64 ((⟨b1, 0, none⟩ : Addr).add 1) fun r16 => ldI h24 .u32 ((⟨b1, 0, none⟩ : Addr).add 2) fun r17 => ldI h24 .i64 ((⟨b1, 0, none⟩ : Addr).add 3) fun r18 => ldS h24 ((⟨b1, 0, none⟩ : Addr).add 4) fun r19 =>
  K r15 r16 r17 r18 r19 x30 h24) E h23) (fun x31 h25 =>
  ldB h25 ((⟨b1, 0, none⟩ : Addr).add 0) fun r20 => ldI h25 .i64 ((⟨b1, 0, none⟩ : Addr).add 1) fun r21 => ldI h25 .u32 ((⟨b1, 0, none⟩ : Addr).add 2) fun r22 => ldI h25 .i64 ((⟨b1, 0, none⟩ : Addr).add 3) fun r23 => ldS h25 ((⟨b1, 0, none⟩ : Addr).add 4) fun r24 =>
  K r20 r21 r22 r23 r24 x31 h25) E h22) E h18)) E h12)) h3) E h2) h1) h0
structure tunnel_Tunnel_packet.c (t0 : Bool) (t1 : Int) (t2 : Int) (t3 : Int) (t4 : Int) (t5 : Option Addr) (t6 : Nat) (t7 : Nat) (s0 : ByteArray) (K : Bool → Int → Int → Int → ByteArray → Int → Heap → Prop) (E : Value → Heap → Prop) (H : Heap) : Prop where
  h : tunnel_Tunnel_packet.vc t0 t1 t2 t3 t4 t5 t6 t7 s0 (fun r0_0 r0_1 r0_2 r0_3 r0_4 r1_0 H => ∃ H', Heap.Le H' H ∧ K r0_0 r0_1 r0_2 r0_3 r0_4 r1_0 H') E H
def tunnel_Tunnel_packet.F : FT := fun args K E H => match args with
  | [(.agg ⟨[(.bool t0), (.int .u32 t1), (.int .i64 t2), (.int .u32 t3), (.int .i64 t4), (.slice t5 t6 t7)]⟩), (.string s0)] => tunnel_Tunnel_packet.c t0 t1 t2 t3 t4 t5 t6 t7 s0 (fun r0_0 r0_1 r0_2 r0_3 r0_4 r1_0 H => K (.tuple #[(.agg #[(.bool r0_0), (.int .i64 r0_1), (.int .u32 r0_2), (.int .i64 r0_3), (.string r0_4)]), (.int .i64 r1_0)]) H) E H
  | _ => False
noncomputable def tunnel_Tunnel_packet.Γ : FuncId → Option FT := Γof [(14, policy_Allow.F), (38, ipv4_Parse.F), (39, tunnel_further.F), (55, udp_Ports.F)]
theorem tunnel_Tunnel_packet.hΓ : ∀ f F, tunnel_Tunnel_packet.Γ f = some F → CalleeOk Try.prog f F := Γof_ok (List.forall_mem_cons.2 ⟨policy_Allow.ok, List.forall_mem_cons.2 ⟨ipv4_Parse.ok, List.forall_mem_cons.2 ⟨tunnel_further.ok, List.forall_mem_cons.2 ⟨udp_Ports.ok, fun _ h => nomatch h⟩⟩⟩⟩)
def tunnel_Tunnel_packet.J1.t : CT := fun Q E fr H => lenIs 57 fr (slS fr 1 fun s0 => slPA fr 4 fun x0 => slPA fr 6 fun h0 => slB fr 42 fun x1 => tunnel_Tunnel_packet.J1 s0 x0 h0 x1 (fun  H => Q .normal (mkF 57 [(1, (.string s0)), (4, (.pointer (some x0))), (6, (.pointer (some h0)))]) H) (fun y5_0 H => Q .ret (mkF 57 [(4, (.pointer (some x0))), (5, (.int .i64 y5_0))]) H) E H)
noncomputable def tunnel_Tunnel_packet.J1.plan : Plan := .go
theorem tunnel_Tunnel_packet.J1.pok : PlanOk Try.prog tunnel_Tunnel_packet.J1.plan (sub [1, 1, 1, 1, 0, 1] tunnel_Tunnel_packet.body) := by
  have e : PlanOk Try.prog tunnel_Tunnel_packet.J1.plan (sub [1, 1, 1, 1, 0, 1] tunnel_Tunnel_packet.body) = (True) := by kernel_rfl
  exact e.mpr trivial
theorem tunnel_Tunnel_packet.J1.eq (s0 : ByteArray) (x0 : Addr) (h0 : Addr) (x1 : Bool) (Q : Ex → Fr → Heap → Prop) (E : Value → Heap → Prop) (H : Heap) :
    tunnel_Tunnel_packet.J1.vc s0 x0 h0 x1 (fun  H => Q .normal (mkF 57 [(1, (.string s0)), (4, (.pointer (some x0))), (6, (.pointer (some h0)))]) H) (fun y5_0 H => Q .ret (mkF 57 [(4, (.pointer (some x0))), (5, (.int .i64 y5_0))]) H) E H = keepT [1, 4, 6] [4, 5] (fun i => []) (wC Try.prog tunnel_Tunnel_packet.Γ tunnel_Tunnel_packet.J1.plan (sub [1, 1, 1, 1, 0, 1] tunnel_Tunnel_packet.body)) Q E (mkF 57 [(1, (.string s0)), (4, (.pointer (some x0))), (6, (.pointer (some h0))), (42, (.bool x1))]) H := by
  kernel_rfl
theorem tunnel_Tunnel_packet.J1.ok : SoundCode Try.prog (sub [1, 1, 1, 1, 0, 1] tunnel_Tunnel_packet.body) tunnel_Tunnel_packet.J1.t := by
  refine piece_sound (keepT_sound [1, 4, 6] [4, 5] (fun i => []) (wC_sound tunnel_Tunnel_packet.hΓ Try.hm tunnel_Tunnel_packet.J1.plan _ tunnel_Tunnel_packet.J1.pok)) ?_
  intro Q E fr H h
  unfold tunnel_Tunnel_packet.J1.t at h
  obtain ⟨hl, h⟩ := lenIs_elim h
  obtain ⟨s0, q1, h⟩ := slS_elim h
  obtain ⟨x0, q4, h⟩ := slPA_elim h
  obtain ⟨h0, q6, h⟩ := slPA_elim h
  obtain ⟨x1, q42, h⟩ := slB_elim h
  refine ⟨(mkF 57 [(1, (.string s0)), (4, (.pointer (some x0))), (6, (.pointer (some h0))), (42, (.bool x1))]), fun a ha => ha.mk (Nat.le_of_eq hl.symm) (List.forall_mem_cons.2 ⟨q1, List.forall_mem_cons.2 ⟨q4, List.forall_mem_cons.2 ⟨q6, List.forall_mem_cons.2 ⟨q42, fun _ h => nomatch h⟩⟩⟩⟩), ?_⟩
  have e := tunnel_Tunnel_packet.J1.eq s0 x0 h0 x1 Q E H
  rw [← e]
  exact h.h
def tunnel_Tunnel_packet.J2.t : CT := fun Q E fr H => lenIs 57 fr (slS fr 1 fun s0 => slPA fr 4 fun x0 => slPA fr 6 fun h0 => tunnel_Tunnel_packet.J2 s0 x0 h0 (fun y5_0 H => Q .ret (mkF 57 [(4, (.pointer (some x0))), (5, (.int .i64 y5_0))]) H) E H)
noncomputable def tunnel_Tunnel_packet.J2.plan : Plan := .go
theorem tunnel_Tunnel_packet.J2.pok : PlanOk Try.prog tunnel_Tunnel_packet.J2.plan (sub [1, 1, 1, 1, 1] tunnel_Tunnel_packet.body) := by
  have e : PlanOk Try.prog tunnel_Tunnel_packet.J2.plan (sub [1, 1, 1, 1, 1] tunnel_Tunnel_packet.body) = (True) := by kernel_rfl
  exact e.mpr trivial
theorem tunnel_Tunnel_packet.J2.eq (s0 : ByteArray) (x0 : Addr) (h0 : Addr) (Q : Ex → Fr → Heap → Prop) (E : Value → Heap → Prop) (H : Heap) :
    tunnel_Tunnel_packet.J2.vc s0 x0 h0 (fun y5_0 H => Q .ret (mkF 57 [(4, (.pointer (some x0))), (5, (.int .i64 y5_0))]) H) E H = keepT [] [4, 5] (fun i => []) (wC Try.prog tunnel_Tunnel_packet.Γ tunnel_Tunnel_packet.J2.plan (sub [1, 1, 1, 1, 1] tunnel_Tunnel_packet.body)) Q E (mkF 57 [(1, (.string s0)), (4, (.pointer (some x0))), (6, (.pointer (some h0)))]) H := by
  kernel_rfl
theorem tunnel_Tunnel_packet.J2.ok : SoundCode Try.prog (sub [1, 1, 1, 1, 1] tunnel_Tunnel_packet.body) tunnel_Tunnel_packet.J2.t := by
  refine piece_sound (keepT_sound [] [4, 5] (fun i => []) (wC_sound tunnel_Tunnel_packet.hΓ Try.hm tunnel_Tunnel_packet.J2.plan _ tunnel_Tunnel_packet.J2.pok)) ?_
  intro Q E fr H h
  unfold tunnel_Tunnel_packet.J2.t at h
  obtain ⟨hl, h⟩ := lenIs_elim h
  obtain ⟨s0, q1, h⟩ := slS_elim h
  obtain ⟨x0, q4, h⟩ := slPA_elim h
  obtain ⟨h0, q6, h⟩ := slPA_elim h
  refine ⟨(mkF 57 [(1, (.string s0)), (4, (.pointer (some x0))), (6, (.pointer (some h0)))]), fun a ha => ha.mk (Nat.le_of_eq hl.symm) (List.forall_mem_cons.2 ⟨q1, List.forall_mem_cons.2 ⟨q4, List.forall_mem_cons.2 ⟨q6, fun _ h => nomatch h⟩⟩⟩), ?_⟩
  have e := tunnel_Tunnel_packet.J2.eq s0 x0 h0 Q E H
  rw [← e]
  exact h.h
noncomputable def tunnel_Tunnel_packet.plan : Plan := .seq (.go) (.seq (.go) (.seq (.go) (.seq (.go) (.seq (.seq (.go) (.use tunnel_Tunnel_packet.J1.t)) (.use tunnel_Tunnel_packet.J2.t)))))
theorem tunnel_Tunnel_packet.pok : PlanOk Try.prog tunnel_Tunnel_packet.plan tunnel_Tunnel_packet.body := by
  have e : PlanOk Try.prog tunnel_Tunnel_packet.plan tunnel_Tunnel_packet.body = ((True) ∧ ((True) ∧ ((True) ∧ ((True) ∧ (((True) ∧ (SoundCode Try.prog (sub [1, 1, 1, 1, 0, 1] tunnel_Tunnel_packet.body) tunnel_Tunnel_packet.J1.t)) ∧ (SoundCode Try.prog (sub [1, 1, 1, 1, 1] tunnel_Tunnel_packet.body) tunnel_Tunnel_packet.J2.t)))))) := by kernel_rfl
  exact e.mpr ⟨trivial, ⟨trivial, ⟨trivial, ⟨trivial, ⟨⟨trivial, tunnel_Tunnel_packet.J1.ok⟩, tunnel_Tunnel_packet.J2.ok⟩⟩⟩⟩⟩
theorem tunnel_Tunnel_packet.eq (t0 : Bool) (t1 : Int) (t2 : Int) (t3 : Int) (t4 : Int) (t5 : Option Addr) (t6 : Nat) (t7 : Nat) (s0 : ByteArray) (K : Value → Heap → Prop) (E : Value → Heap → Prop) (H : Heap) :
    fnT Try.prog Try.f36 (wC Try.prog tunnel_Tunnel_packet.Γ tunnel_Tunnel_packet.plan tunnel_Tunnel_packet.body) [(.agg #[(.bool t0), (.int .u32 t1), (.int .i64 t2), (.int .u32 t3), (.int .i64 t4), (.slice t5 t6 t7)]), (.string s0)] K E H = tunnel_Tunnel_packet.vc t0 t1 t2 t3 t4 t5 t6 t7 s0 (fun r0_0 r0_1 r0_2 r0_3 r0_4 r1_0 H => K (.tuple #[(.agg #[(.bool r0_0), (.int .i64 r0_1), (.int .u32 r0_2), (.int .i64 r0_3), (.string r0_4)]), (.int .i64 r1_0)]) H) E H := by
  kernel_rfl
theorem tunnel_Tunnel_packet.Fe {args : List Value} {K E : Value → Heap → Prop} {H : Heap} (h : tunnel_Tunnel_packet.F args K E H) : ∃ t0 t1 t2 t3 t4 t5 t6 t7 s0, args = [(.agg #[(.bool t0), (.int .u32 t1), (.int .i64 t2), (.int .u32 t3), (.int .i64 t4), (.slice t5 t6 t7)]), (.string s0)] ∧ tunnel_Tunnel_packet.c t0 t1 t2 t3 t4 t5 t6 t7 s0 (fun r0_0 r0_1 r0_2 r0_3 r0_4 r1_0 H => K (.tuple #[(.agg #[(.bool r0_0), (.int .i64 r0_1), (.int .u32 r0_2), (.int .i64 r0_3), (.string r0_4)]), (.int .i64 r1_0)]) H) E H := by
  unfold tunnel_Tunnel_packet.F at h
  split at h
  · exact ⟨_, _, _, _, _, _, _, _, _, rfl, h⟩
  · exact h.elim
theorem tunnel_Tunnel_packet.ok : CalleeOk Try.prog 36 tunnel_Tunnel_packet.F :=
  callee_ok tunnel_Tunnel_packet.hΓ (fn := Try.f36) (c := tunnel_Tunnel_packet.body) (T := wC Try.prog tunnel_Tunnel_packet.Γ tunnel_Tunnel_packet.plan tunnel_Tunnel_packet.body) (by kernel_rfl) (by kernel_rfl) (by kernel_rfl) (wC_sound tunnel_Tunnel_packet.hΓ Try.hm tunnel_Tunnel_packet.plan _ tunnel_Tunnel_packet.pok) fun _ K E H h => by
    obtain ⟨z0, z1, z2, z3, z4, z5, z6, z7, z8, e, h⟩ := tunnel_Tunnel_packet.Fe h
    subst e
    have h2 : tunnel_Tunnel_packet.vc z0 z1 z2 z3 z4 z5 z6 z7 z8 (fun r0_0 r0_1 r0_2 r0_3 r0_4 r1_0 H => ∃ H', Heap.Le H' H ∧ K (.tuple #[(.agg #[(.bool r0_0), (.int .i64 r0_1), (.int .u32 r0_2), (.int .i64 r0_3), (.string r0_4)]), (.int .i64 r1_0)]) H') E H := h.h
    rw [tunnel_Tunnel_packet.eq z0 z1 z2 z3 z4 z5 z6 z7 z8 (Fg K) E H]
    exact h2

/-! (vizard/tunnel.Tunnel).Open -/
noncomputable def tunnel_Tunnel_Open.body : Code := Try.f21.body.getD .skip
def tunnel_Tunnel_Open.J1.vc (ok0 : Bool) (Kr : Int → Heap → Prop) (E : Value → Heap → Prop) (h0 : Heap) : Prop :=
  (if (!ok0) = true then
  Kr 15 h0
  else
  Kr 0 h0)
structure tunnel_Tunnel_Open.J1 (ok0 : Bool) (Kr : Int → Heap → Prop) (E : Value → Heap → Prop) (H : Heap) : Prop where
  h : tunnel_Tunnel_Open.J1.vc ok0 Kr E H
def tunnel_Tunnel_Open.vc (t0 : Bool) (t1 : Int) (t2 : Int) (t3 : Int) (t4 : Int) (t5 : Option Addr) (t6 : Nat) (t7 : Nat) (K : Int → Heap → Prop) (E : Value → Heap → Prop) (h0 : Heap) : Prop :=
  newB (.cells #[(.bool t0), (.int .u32 t1), (.int .i64 t2), (.int .u32 t3), (.int .i64 t4), (.slice t5 t6 t7)] 47) (fun b0 h1 =>
  ldSl h1 ((⟨b0, 0, none⟩ : Addr).add 5) fun x0 x1 x2 =>
  ldI h1 .u32 (((⟨b0, 0, none⟩ : Addr).add 0).add 1) fun x3 =>
  ldI h1 .i64 (((⟨b0, 0, none⟩ : Addr).add 0).add 2) fun x4 =>
  policy_Allow.c x0 x1 x2 17 x3 x4 (fun x5 h2 =>
  ldB h2 (((⟨b0, 0, none⟩ : Addr).add 0).add 0) fun x6 =>
  (if x6 = true then
  ldSl h2 ((⟨b0, 0, none⟩ : Addr).add 5) fun x7 x8 x9 =>
  policy_Routes.c x7 x8 x9 (fun x10 x11 x12 h3 =>
  tunnel_Tunnel_Open.J1 (decide ((x11 : Int) > 0)) K E h3) E h2
  else
  tunnel_Tunnel_Open.J1 x5 K E h2)) E h1) h0
structure tunnel_Tunnel_Open.c (t0 : Bool) (t1 : Int) (t2 : Int) (t3 : Int) (t4 : Int) (t5 : Option Addr) (t6 : Nat) (t7 : Nat) (K : Int → Heap → Prop) (E : Value → Heap → Prop) (H : Heap) : Prop where
  h : tunnel_Tunnel_Open.vc t0 t1 t2 t3 t4 t5 t6 t7 (fun r0_0 H => ∃ H', Heap.Le H' H ∧ K r0_0 H') E H
def tunnel_Tunnel_Open.F : FT := fun args K E H => match args with
  | [(.agg ⟨[(.bool t0), (.int .u32 t1), (.int .i64 t2), (.int .u32 t3), (.int .i64 t4), (.slice t5 t6 t7)]⟩)] => tunnel_Tunnel_Open.c t0 t1 t2 t3 t4 t5 t6 t7 (fun r0_0 H => K (.int .i64 r0_0) H) E H
  | _ => False
noncomputable def tunnel_Tunnel_Open.Γ : FuncId → Option FT := Γof [(10, policy_Routes.F), (14, policy_Allow.F)]
theorem tunnel_Tunnel_Open.hΓ : ∀ f F, tunnel_Tunnel_Open.Γ f = some F → CalleeOk Try.prog f F := Γof_ok (List.forall_mem_cons.2 ⟨policy_Routes.ok, List.forall_mem_cons.2 ⟨policy_Allow.ok, fun _ h => nomatch h⟩⟩)
def tunnel_Tunnel_Open.J1.t : CT := fun Q E fr H => lenIs 23 fr (slB fr 3 fun ok0 => tunnel_Tunnel_Open.J1 ok0 (fun y2_0 H => Q .ret (mkF 23 [(2, (.int .i64 y2_0))]) H) E H)
noncomputable def tunnel_Tunnel_Open.J1.plan : Plan := .go
theorem tunnel_Tunnel_Open.J1.pok : PlanOk Try.prog tunnel_Tunnel_Open.J1.plan (sub [1, 1, 1] tunnel_Tunnel_Open.body) := by
  have e : PlanOk Try.prog tunnel_Tunnel_Open.J1.plan (sub [1, 1, 1] tunnel_Tunnel_Open.body) = (True) := by kernel_rfl
  exact e.mpr trivial
theorem tunnel_Tunnel_Open.J1.eq (ok0 : Bool) (Q : Ex → Fr → Heap → Prop) (E : Value → Heap → Prop) (H : Heap) :
    tunnel_Tunnel_Open.J1.vc ok0 (fun y2_0 H => Q .ret (mkF 23 [(2, (.int .i64 y2_0))]) H) E H = keepT [] [2] (fun i => []) (wC Try.prog tunnel_Tunnel_Open.Γ tunnel_Tunnel_Open.J1.plan (sub [1, 1, 1] tunnel_Tunnel_Open.body)) Q E (mkF 23 [(3, (.bool ok0))]) H := by
  kernel_rfl
theorem tunnel_Tunnel_Open.J1.ok : SoundCode Try.prog (sub [1, 1, 1] tunnel_Tunnel_Open.body) tunnel_Tunnel_Open.J1.t := by
  refine piece_sound (keepT_sound [] [2] (fun i => []) (wC_sound tunnel_Tunnel_Open.hΓ Try.hm tunnel_Tunnel_Open.J1.plan _ tunnel_Tunnel_Open.J1.pok)) ?_
  intro Q E fr H h
  unfold tunnel_Tunnel_Open.J1.t at h
  obtain ⟨hl, h⟩ := lenIs_elim h
  obtain ⟨ok0, q3, h⟩ := slB_elim h
  refine ⟨(mkF 23 [(3, (.bool ok0))]), fun a ha => ha.mk (Nat.le_of_eq hl.symm) (List.forall_mem_cons.2 ⟨q3, fun _ h => nomatch h⟩), ?_⟩
  have e := tunnel_Tunnel_Open.J1.eq ok0 Q E H
  rw [← e]
  exact h.h
noncomputable def tunnel_Tunnel_Open.plan : Plan := .seq (.go) (.seq (.go) (.seq (.go) (.use tunnel_Tunnel_Open.J1.t)))
theorem tunnel_Tunnel_Open.pok : PlanOk Try.prog tunnel_Tunnel_Open.plan tunnel_Tunnel_Open.body := by
  have e : PlanOk Try.prog tunnel_Tunnel_Open.plan tunnel_Tunnel_Open.body = ((True) ∧ ((True) ∧ ((True) ∧ (SoundCode Try.prog (sub [1, 1, 1] tunnel_Tunnel_Open.body) tunnel_Tunnel_Open.J1.t)))) := by kernel_rfl
  exact e.mpr ⟨trivial, ⟨trivial, ⟨trivial, tunnel_Tunnel_Open.J1.ok⟩⟩⟩
theorem tunnel_Tunnel_Open.eq (t0 : Bool) (t1 : Int) (t2 : Int) (t3 : Int) (t4 : Int) (t5 : Option Addr) (t6 : Nat) (t7 : Nat) (K : Value → Heap → Prop) (E : Value → Heap → Prop) (H : Heap) :
    fnT Try.prog Try.f21 (wC Try.prog tunnel_Tunnel_Open.Γ tunnel_Tunnel_Open.plan tunnel_Tunnel_Open.body) [(.agg #[(.bool t0), (.int .u32 t1), (.int .i64 t2), (.int .u32 t3), (.int .i64 t4), (.slice t5 t6 t7)])] K E H = tunnel_Tunnel_Open.vc t0 t1 t2 t3 t4 t5 t6 t7 (fun r0_0 H => K (.int .i64 r0_0) H) E H := by
  kernel_rfl
theorem tunnel_Tunnel_Open.Fe {args : List Value} {K E : Value → Heap → Prop} {H : Heap} (h : tunnel_Tunnel_Open.F args K E H) : ∃ t0 t1 t2 t3 t4 t5 t6 t7, args = [(.agg #[(.bool t0), (.int .u32 t1), (.int .i64 t2), (.int .u32 t3), (.int .i64 t4), (.slice t5 t6 t7)])] ∧ tunnel_Tunnel_Open.c t0 t1 t2 t3 t4 t5 t6 t7 (fun r0_0 H => K (.int .i64 r0_0) H) E H := by
  unfold tunnel_Tunnel_Open.F at h
  split at h
  · exact ⟨_, _, _, _, _, _, _, _, rfl, h⟩
  · exact h.elim
theorem tunnel_Tunnel_Open.ok : CalleeOk Try.prog 21 tunnel_Tunnel_Open.F :=
  callee_ok tunnel_Tunnel_Open.hΓ (fn := Try.f21) (c := tunnel_Tunnel_Open.body) (T := wC Try.prog tunnel_Tunnel_Open.Γ tunnel_Tunnel_Open.plan tunnel_Tunnel_Open.body) (by kernel_rfl) (by kernel_rfl) (by kernel_rfl) (wC_sound tunnel_Tunnel_Open.hΓ Try.hm tunnel_Tunnel_Open.plan _ tunnel_Tunnel_Open.pok) fun _ K E H h => by
    obtain ⟨z0, z1, z2, z3, z4, z5, z6, z7, e, h⟩ := tunnel_Tunnel_Open.Fe h
    subst e
    have h2 : tunnel_Tunnel_Open.vc z0 z1 z2 z3 z4 z5 z6 z7 (fun r0_0 H => ∃ H', Heap.Le H' H ∧ K (.int .i64 r0_0) H') E H := h.h
    rw [tunnel_Tunnel_Open.eq z0 z1 z2 z3 z4 z5 z6 z7 (Fg K) E H]
    exact h2

/-! (vizard/tunnel.Tunnel).Up -/
noncomputable def tunnel_Tunnel_Up.body : Code := Try.f17.body.getD .skip
def tunnel_Tunnel_Up.vc (t0 : Bool) (t1 : Int) (t2 : Int) (t3 : Int) (t4 : Int) (t5 : Option Addr) (t6 : Nat) (t7 : Nat) (s0 : ByteArray) (K : Bool → Int → Int → Int → ByteArray → Int → Heap → Prop) (E : Value → Heap → Prop) (h0 : Heap) : Prop :=
  newB (.cells #[(.bool t0), (.int .u32 t1), (.int .i64 t2), (.int .u32 t3), (.int .i64 t4), (.slice t5 t6 t7)] 47) (fun b0 h1 =>
  newB (.cells #[(.bool false), (.int .i64 0), (.int .u32 0), (.int .i64 0), (.string (⟨#[]⟩ : ByteArray))] 50) (fun b1 h2 =>
  (if (decide ((s0.size : Int) > 1000)) = true then
  stc h2 ((⟨b1, 0, none⟩ : Addr).add 0) (.bool false) fun h3 =>
  stc h3 ((⟨b1, 0, none⟩ : Addr).add 1) (.int .i64 0) fun h4 =>
  stc h4 ((⟨b1, 0, none⟩ : Addr).add 2) (.int .u32 0) fun h5 =>
  stc h5 ((⟨b1, 0, none⟩ : Addr).add 3) (.int .i64 0) fun h6 =>
  stc h6 ((⟨b1, 0, none⟩ : Addr).add 4) (.string (⟨#[]⟩ : ByteArray)) fun h7 =>
  ldB h7 ((⟨b1, 0, none⟩ : Addr).add 0) fun r0 => ldI h7 .i64 ((⟨b1, 0, none⟩ : Addr).add 1) fun r1 => ldI h7 .u32 ((⟨b1, 0, none⟩ : Addr).add 2) fun r2 => ldI h7 .i64 ((⟨b1, 0, none⟩ : Addr).add 3) fun r3 => ldS h7 ((⟨b1, 0, none⟩ : Addr).add 4) fun r4 =>
  K r0 r1 r2 r3 r4 8 h7
  else
  ldB h2 (((⟨b0, 0, none⟩ : Addr).add 0).add 0) fun x0 =>
  (if x0 = true then
  ldB h2 ((⟨b0, 0, none⟩ : Addr).add 0) fun x1 => ldI h2 .u32 ((⟨b0, 0, none⟩ : Addr).add 1) fun x2 => ldI h2 .i64 ((⟨b0, 0, none⟩ : Addr).add 2) fun x3 => ldI h2 .u32 ((⟨b0, 0, none⟩ : Addr).add 3) fun x4 => ldI h2 .i64 ((⟨b0, 0, none⟩ : Addr).add 4) fun x5 => ldSl h2 ((⟨b0, 0, none⟩ : Addr).add 5) fun x6 x7 x8 =>
  tunnel_Tunnel_packet.c x1 x2 x3 x4 x5 x6 x7 x8 s0 (fun x9 x10 x11 x12 x13 x14 h8 =>
  stc h8 ((⟨b1, 0, none⟩ : Addr).add 0) (.bool x9) fun h9 =>
  stc h9 ((⟨b1, 0, none⟩ : Addr).add 1) (.int .i64 x10) fun h10 =>
  stc h10 ((⟨b1, 0, none⟩ : Addr).add 2) (.int .u32 x11) fun h11 =>
  stc h11 ((⟨b1, 0, none⟩ : Addr).add 3) (.int .i64 x12) fun h12 =>
  stc h12 ((⟨b1, 0, none⟩ : Addr).add 4) (.string x13) fun h13 =>
  ldB h13 ((⟨b1, 0, none⟩ : Addr).add 0) fun r5 => ldI h13 .i64 ((⟨b1, 0, none⟩ : Addr).add 1) fun r6 => ldI h13 .u32 ((⟨b1, 0, none⟩ : Addr).add 2) fun r7 => ldI h13 .i64 ((⟨b1, 0, none⟩ : Addr).add 3) fun r8 => ldS h13 ((⟨b1, 0, none⟩ : Addr).add 4) fun r9 =>
  K r5 r6 r7 r8 r9 x14 h13) E h2
  else
  ldB h2 ((⟨b0, 0, none⟩ : Addr).add 0) fun x15 => ldI h2 .u32 ((⟨b0, 0, none⟩ : Addr).add 1) fun x16 => ldI h2 .i64 ((⟨b0, 0, none⟩ : Addr).add 2) fun x17 => ldI h2 .u32 ((⟨b0, 0, none⟩ : Addr).add 3) fun x18 => ldI h2 .i64 ((⟨b0, 0, none⟩ : Addr).add 4) fun x19 => ldSl h2 ((⟨b0, 0, none⟩ : Addr).add 5) fun x20 x21 x22 =>
  tunnel_Tunnel_Open.c x15 x16 x17 x18 x19 x20 x21 x22 (fun x23 h14 =>
  (if (x23 != 0) = true then
  stc h14 ((⟨b1, 0, none⟩ : Addr).add 0) (.bool false) fun h15 =>
  stc h15 ((⟨b1, 0, none⟩ : Addr).add 1) (.int .i64 0) fun h16 =>
  stc h16 ((⟨b1, 0, none⟩ : Addr).add 2) (.int .u32 0) fun h17 =>
  stc h17 ((⟨b1, 0, none⟩ : Addr).add 3) (.int .i64 0) fun h18 =>
  stc h18 ((⟨b1, 0, none⟩ : Addr).add 4) (.string (⟨#[]⟩ : ByteArray)) fun h19 =>
  ldB h19 ((⟨b1, 0, none⟩ : Addr).add 0) fun r10 => ldI h19 .i64 ((⟨b1, 0, none⟩ : Addr).add 1) fun r11 => ldI h19 .u32 ((⟨b1, 0, none⟩ : Addr).add 2) fun r12 => ldI h19 .i64 ((⟨b1, 0, none⟩ : Addr).add 3) fun r13 => ldS h19 ((⟨b1, 0, none⟩ : Addr).add 4) fun r14 =>
  K r10 r11 r12 r13 r14 x23 h19
  else
  ldI h14 .i64 ((⟨b0, 0, none⟩ : Addr).add 4) fun x24 =>
  ldI h14 .u32 (((⟨b0, 0, none⟩ : Addr).add 0).add 1) fun x25 =>
  ldI h14 .i64 (((⟨b0, 0, none⟩ : Addr).add 0).add 2) fun x26 =>
  stc h14 ((⟨b1, 0, none⟩ : Addr).add 0) (.bool false) fun h20 =>
  stc h20 ((⟨b1, 0, none⟩ : Addr).add 1) (.int .i64 x24) fun h21 =>
  stc h21 ((⟨b1, 0, none⟩ : Addr).add 2) (.int .u32 x25) fun h22 =>
  stc h22 ((⟨b1, 0, none⟩ : Addr).add 3) (.int .i64 x26) fun h23 =>
  stc h23 ((⟨b1, 0, none⟩ : Addr).add 4) (.string s0) fun h24 =>
  ldB h24 ((⟨b1, 0, none⟩ : Addr).add 0) fun r15 => ldI h24 .i64 ((⟨b1, 0, none⟩ : Addr).add 1) fun r16 => ldI h24 .u32 ((⟨b1, 0, none⟩ : Addr).add 2) fun r17 => ldI h24 .i64 ((⟨b1, 0, none⟩ : Addr).add 3) fun r18 => ldS h24 ((⟨b1, 0, none⟩ : Addr).add 4) fun r19 =>
  K r15 r16 r17 r18 r19 0 h24)) E h2))) h1) h0
structure tunnel_Tunnel_Up.c (t0 : Bool) (t1 : Int) (t2 : Int) (t3 : Int) (t4 : Int) (t5 : Option Addr) (t6 : Nat) (t7 : Nat) (s0 : ByteArray) (K : Bool → Int → Int → Int → ByteArray → Int → Heap → Prop) (E : Value → Heap → Prop) (H : Heap) : Prop where
  h : tunnel_Tunnel_Up.vc t0 t1 t2 t3 t4 t5 t6 t7 s0 (fun r0_0 r0_1 r0_2 r0_3 r0_4 r1_0 H => ∃ H', Heap.Le H' H ∧ K r0_0 r0_1 r0_2 r0_3 r0_4 r1_0 H') E H
def tunnel_Tunnel_Up.F : FT := fun args K E H => match args with
  | [(.agg ⟨[(.bool t0), (.int .u32 t1), (.int .i64 t2), (.int .u32 t3), (.int .i64 t4), (.slice t5 t6 t7)]⟩), (.string s0)] => tunnel_Tunnel_Up.c t0 t1 t2 t3 t4 t5 t6 t7 s0 (fun r0_0 r0_1 r0_2 r0_3 r0_4 r1_0 H => K (.tuple #[(.agg #[(.bool r0_0), (.int .i64 r0_1), (.int .u32 r0_2), (.int .i64 r0_3), (.string r0_4)]), (.int .i64 r1_0)]) H) E H
  | _ => False
noncomputable def tunnel_Tunnel_Up.Γ : FuncId → Option FT := Γof [(21, tunnel_Tunnel_Open.F), (36, tunnel_Tunnel_packet.F)]
theorem tunnel_Tunnel_Up.hΓ : ∀ f F, tunnel_Tunnel_Up.Γ f = some F → CalleeOk Try.prog f F := Γof_ok (List.forall_mem_cons.2 ⟨tunnel_Tunnel_Open.ok, List.forall_mem_cons.2 ⟨tunnel_Tunnel_packet.ok, fun _ h => nomatch h⟩⟩)
noncomputable def tunnel_Tunnel_Up.plan : Plan := .go
theorem tunnel_Tunnel_Up.pok : PlanOk Try.prog tunnel_Tunnel_Up.plan tunnel_Tunnel_Up.body := by
  have e : PlanOk Try.prog tunnel_Tunnel_Up.plan tunnel_Tunnel_Up.body = (True) := by kernel_rfl
  exact e.mpr trivial
theorem tunnel_Tunnel_Up.eq (t0 : Bool) (t1 : Int) (t2 : Int) (t3 : Int) (t4 : Int) (t5 : Option Addr) (t6 : Nat) (t7 : Nat) (s0 : ByteArray) (K : Value → Heap → Prop) (E : Value → Heap → Prop) (H : Heap) :
    fnT Try.prog Try.f17 (wC Try.prog tunnel_Tunnel_Up.Γ tunnel_Tunnel_Up.plan tunnel_Tunnel_Up.body) [(.agg #[(.bool t0), (.int .u32 t1), (.int .i64 t2), (.int .u32 t3), (.int .i64 t4), (.slice t5 t6 t7)]), (.string s0)] K E H = tunnel_Tunnel_Up.vc t0 t1 t2 t3 t4 t5 t6 t7 s0 (fun r0_0 r0_1 r0_2 r0_3 r0_4 r1_0 H => K (.tuple #[(.agg #[(.bool r0_0), (.int .i64 r0_1), (.int .u32 r0_2), (.int .i64 r0_3), (.string r0_4)]), (.int .i64 r1_0)]) H) E H := by
  kernel_rfl
theorem tunnel_Tunnel_Up.Fe {args : List Value} {K E : Value → Heap → Prop} {H : Heap} (h : tunnel_Tunnel_Up.F args K E H) : ∃ t0 t1 t2 t3 t4 t5 t6 t7 s0, args = [(.agg #[(.bool t0), (.int .u32 t1), (.int .i64 t2), (.int .u32 t3), (.int .i64 t4), (.slice t5 t6 t7)]), (.string s0)] ∧ tunnel_Tunnel_Up.c t0 t1 t2 t3 t4 t5 t6 t7 s0 (fun r0_0 r0_1 r0_2 r0_3 r0_4 r1_0 H => K (.tuple #[(.agg #[(.bool r0_0), (.int .i64 r0_1), (.int .u32 r0_2), (.int .i64 r0_3), (.string r0_4)]), (.int .i64 r1_0)]) H) E H := by
  unfold tunnel_Tunnel_Up.F at h
  split at h
  · exact ⟨_, _, _, _, _, _, _, _, _, rfl, h⟩
  · exact h.elim
theorem tunnel_Tunnel_Up.ok : CalleeOk Try.prog 17 tunnel_Tunnel_Up.F :=
  callee_ok tunnel_Tunnel_Up.hΓ (fn := Try.f17) (c := tunnel_Tunnel_Up.body) (T := wC Try.prog tunnel_Tunnel_Up.Γ tunnel_Tunnel_Up.plan tunnel_Tunnel_Up.body) (by kernel_rfl) (by kernel_rfl) (by kernel_rfl) (wC_sound tunnel_Tunnel_Up.hΓ Try.hm tunnel_Tunnel_Up.plan _ tunnel_Tunnel_Up.pok) fun _ K E H h => by
    obtain ⟨z0, z1, z2, z3, z4, z5, z6, z7, z8, e, h⟩ := tunnel_Tunnel_Up.Fe h
    subst e
    have h2 : tunnel_Tunnel_Up.vc z0 z1 z2 z3 z4 z5 z6 z7 z8 (fun r0_0 r0_1 r0_2 r0_3 r0_4 r1_0 H => ∃ H', Heap.Le H' H ∧ K (.tuple #[(.agg #[(.bool r0_0), (.int .i64 r0_1), (.int .u32 r0_2), (.int .i64 r0_3), (.string r0_4)]), (.int .i64 r1_0)]) H') E H := h.h
    rw [tunnel_Tunnel_Up.eq z0 z1 z2 z3 z4 z5 z6 z7 z8 (Fg K) E H]
    exact h2

/-! (vizard/vizardref22.Tunnel).Open -/
noncomputable def vizardref22_Tunnel_Open.body : Code := Try.f22.body.getD .skip
def vizardref22_Tunnel_Open.J1.vc (x0 : Bool) (Kn : Heap → Prop) (Kr : Int → Heap → Prop) (E : Value → Heap → Prop) (h0 : Heap) : Prop :=
  (if x0 = true then
  Kr 0 h0
  else
  Kn h0)
structure vizardref22_Tunnel_Open.J1 (x0 : Bool) (Kn : Heap → Prop) (Kr : Int → Heap → Prop) (E : Value → Heap → Prop) (H : Heap) : Prop where
  h : vizardref22_Tunnel_Open.J1.vc x0 Kn Kr E H
def vizardref22_Tunnel_Open.vc (t0 : Bool) (t1 : Int) (t2 : Int) (t3 : Int) (t4 : Int) (t5 : Option Addr) (t6 : Nat) (t7 : Nat) (K : Int → Heap → Prop) (E : Value → Heap → Prop) (h0 : Heap) : Prop :=
  newB (.cells #[(.bool t0), (.int .u32 t1), (.int .i64 t2), (.int .u32 t3), (.int .i64 t4), (.slice t5 t6 t7)] 46) (fun b0 h1 =>
  ldB h1 (((⟨b0, 0, none⟩ : Addr).add 0).add 0) fun x0 =>
  (if x0 = true then
  ldSl h1 ((⟨b0, 0, none⟩ : Addr).add 5) fun x1 x2 x3 =>
  vizardref18_Routes.c x1 x2 x3 (fun x4 x5 x6 h2 =>
  (if (decide ((x5 : Int) > 0)) = true then
  vizardref22_Tunnel_Open.J1 true (fun h3 =>
  K 15 h3) K E h2
  else
  ldB h2 (((⟨b0, 0, none⟩ : Addr).add 0).add 0) fun x8 =>
  (if (!x8) = true then
  ldSl h2 ((⟨b0, 0, none⟩ : Addr).add 5) fun x9 x10 x11 =>
  ldI h2 .u32 (((⟨b0, 0, none⟩ : Addr).add 0).add 1) fun x12 =>
  ldI h2 .i64 (((⟨b0, 0, none⟩ : Addr).add 0).add 2) fun x13 =>
  vizardref18_Allow.c x9 x10 x11 17 x12 x13 (fun x14 h5 =>
  vizardref22_Tunnel_Open.J1 x14 (fun h6 =>
  K 15 h6) K E h5) E h2
  else
  vizardref22_Tunnel_Open.J1 false (fun h8 =>
  K 15 h8) K E h2))) E h1
  else
  ldB h1 (((⟨b0, 0, none⟩ : Addr).add 0).add 0) fun x17 =>
  (if (!x17) = true then
  ldSl h1 ((⟨b0, 0, none⟩ : Addr).add 5) fun x18 x19 x20 =>
  ldI h1 .u32 (((⟨b0, 0, none⟩ : Addr).add 0).add 1) fun x21 =>
  ldI h1 .i64 (((⟨b0, 0, none⟩ : Addr).add 0).add 2) fun x22 =>
  vizardref18_Allow.c x18 x19 x20 17 x21 x22 (fun x23 h10 =>
  vizardref22_Tunnel_Open.J1 x23 (fun h11 =>
  K 15 h11) K E h10) E h1
  else
  vizardref22_Tunnel_Open.J1 false (fun h13 =>
  K 15 h13) K E h1))) h0
structure vizardref22_Tunnel_Open.c (t0 : Bool) (t1 : Int) (t2 : Int) (t3 : Int) (t4 : Int) (t5 : Option Addr) (t6 : Nat) (t7 : Nat) (K : Int → Heap → Prop) (E : Value → Heap → Prop) (H : Heap) : Prop where
  h : vizardref22_Tunnel_Open.vc t0 t1 t2 t3 t4 t5 t6 t7 (fun r0_0 H => ∃ H', Heap.Le H' H ∧ K r0_0 H') E H
def vizardref22_Tunnel_Open.F : FT := fun args K E H => match args with
  | [(.agg ⟨[(.bool t0), (.int .u32 t1), (.int .i64 t2), (.int .u32 t3), (.int .i64 t4), (.slice t5 t6 t7)]⟩)] => vizardref22_Tunnel_Open.c t0 t1 t2 t3 t4 t5 t6 t7 (fun r0_0 H => K (.int .i64 r0_0) H) E H
  | _ => False
noncomputable def vizardref22_Tunnel_Open.Γ : FuncId → Option FT := Γof [(12, vizardref18_Routes.F), (24, vizardref18_Allow.F)]
theorem vizardref22_Tunnel_Open.hΓ : ∀ f F, vizardref22_Tunnel_Open.Γ f = some F → CalleeOk Try.prog f F := Γof_ok (List.forall_mem_cons.2 ⟨vizardref18_Routes.ok, List.forall_mem_cons.2 ⟨vizardref18_Allow.ok, fun _ h => nomatch h⟩⟩)
def vizardref22_Tunnel_Open.J1.t : CT := fun Q E fr H => lenIs 30 fr (slB fr 29 fun x0 => vizardref22_Tunnel_Open.J1 x0 (fun  H => Q .normal (mkF 30 []) H) (fun y2_0 H => Q .ret (mkF 30 [(2, (.int .i64 y2_0))]) H) E H)
noncomputable def vizardref22_Tunnel_Open.J1.plan : Plan := .go
theorem vizardref22_Tunnel_Open.J1.pok : PlanOk Try.prog vizardref22_Tunnel_Open.J1.plan (sub [1, 0, 1] vizardref22_Tunnel_Open.body) := by
  have e : PlanOk Try.prog vizardref22_Tunnel_Open.J1.plan (sub [1, 0, 1] vizardref22_Tunnel_Open.body) = (True) := by kernel_rfl
  exact e.mpr trivial
theorem vizardref22_Tunnel_Open.J1.eq (x0 : Bool) (Q : Ex → Fr → Heap → Prop) (E : Value → Heap → Prop) (H : Heap) :
    vizardref22_Tunnel_Open.J1.vc x0 (fun  H => Q .normal (mkF 30 []) H) (fun y2_0 H => Q .ret (mkF 30 [(2, (.int .i64 y2_0))]) H) E H = keepT [] [2] (fun i => []) (wC Try.prog vizardref22_Tunnel_Open.Γ vizardref22_Tunnel_Open.J1.plan (sub [1, 0, 1] vizardref22_Tunnel_Open.body)) Q E (mkF 30 [(29, (.bool x0))]) H := by
  kernel_rfl
theorem vizardref22_Tunnel_Open.J1.ok : SoundCode Try.prog (sub [1, 0, 1] vizardref22_Tunnel_Open.body) vizardref22_Tunnel_Open.J1.t := by
  refine piece_sound (keepT_sound [] [2] (fun i => []) (wC_sound vizardref22_Tunnel_Open.hΓ Try.hm vizardref22_Tunnel_Open.J1.plan _ vizardref22_Tunnel_Open.J1.pok)) ?_
  intro Q E fr H h
  unfold vizardref22_Tunnel_Open.J1.t at h
  obtain ⟨hl, h⟩ := lenIs_elim h
  obtain ⟨x0, q29, h⟩ := slB_elim h
  refine ⟨(mkF 30 [(29, (.bool x0))]), fun a ha => ha.mk (Nat.le_of_eq hl.symm) (List.forall_mem_cons.2 ⟨q29, fun _ h => nomatch h⟩), ?_⟩
  have e := vizardref22_Tunnel_Open.J1.eq x0 Q E H
  rw [← e]
  exact h.h
noncomputable def vizardref22_Tunnel_Open.plan : Plan := .seq (.go) (.seq (.seq (.go) (.use vizardref22_Tunnel_Open.J1.t)) (.go))
theorem vizardref22_Tunnel_Open.pok : PlanOk Try.prog vizardref22_Tunnel_Open.plan vizardref22_Tunnel_Open.body := by
  have e : PlanOk Try.prog vizardref22_Tunnel_Open.plan vizardref22_Tunnel_Open.body = ((True) ∧ (((True) ∧ (SoundCode Try.prog (sub [1, 0, 1] vizardref22_Tunnel_Open.body) vizardref22_Tunnel_Open.J1.t)) ∧ (True))) := by kernel_rfl
  exact e.mpr ⟨trivial, ⟨⟨trivial, vizardref22_Tunnel_Open.J1.ok⟩, trivial⟩⟩
theorem vizardref22_Tunnel_Open.eq (t0 : Bool) (t1 : Int) (t2 : Int) (t3 : Int) (t4 : Int) (t5 : Option Addr) (t6 : Nat) (t7 : Nat) (K : Value → Heap → Prop) (E : Value → Heap → Prop) (H : Heap) :
    fnT Try.prog Try.f22 (wC Try.prog vizardref22_Tunnel_Open.Γ vizardref22_Tunnel_Open.plan vizardref22_Tunnel_Open.body) [(.agg #[(.bool t0), (.int .u32 t1), (.int .i64 t2), (.int .u32 t3), (.int .i64 t4), (.slice t5 t6 t7)])] K E H = vizardref22_Tunnel_Open.vc t0 t1 t2 t3 t4 t5 t6 t7 (fun r0_0 H => K (.int .i64 r0_0) H) E H := by
  kernel_rfl
theorem vizardref22_Tunnel_Open.Fe {args : List Value} {K E : Value → Heap → Prop} {H : Heap} (h : vizardref22_Tunnel_Open.F args K E H) : ∃ t0 t1 t2 t3 t4 t5 t6 t7, args = [(.agg #[(.bool t0), (.int .u32 t1), (.int .i64 t2), (.int .u32 t3), (.int .i64 t4), (.slice t5 t6 t7)])] ∧ vizardref22_Tunnel_Open.c t0 t1 t2 t3 t4 t5 t6 t7 (fun r0_0 H => K (.int .i64 r0_0) H) E H := by
  unfold vizardref22_Tunnel_Open.F at h
  split at h
  · exact ⟨_, _, _, _, _, _, _, _, rfl, h⟩
  · exact h.elim
theorem vizardref22_Tunnel_Open.ok : CalleeOk Try.prog 22 vizardref22_Tunnel_Open.F :=
  callee_ok vizardref22_Tunnel_Open.hΓ (fn := Try.f22) (c := vizardref22_Tunnel_Open.body) (T := wC Try.prog vizardref22_Tunnel_Open.Γ vizardref22_Tunnel_Open.plan vizardref22_Tunnel_Open.body) (by kernel_rfl) (by kernel_rfl) (by kernel_rfl) (wC_sound vizardref22_Tunnel_Open.hΓ Try.hm vizardref22_Tunnel_Open.plan _ vizardref22_Tunnel_Open.pok) fun _ K E H h => by
    obtain ⟨z0, z1, z2, z3, z4, z5, z6, z7, e, h⟩ := vizardref22_Tunnel_Open.Fe h
    subst e
    have h2 : vizardref22_Tunnel_Open.vc z0 z1 z2 z3 z4 z5 z6 z7 (fun r0_0 H => ∃ H', Heap.Le H' H ∧ K (.int .i64 r0_0) H') E H := h.h
    rw [vizardref22_Tunnel_Open.eq z0 z1 z2 z3 z4 z5 z6 z7 (Fg K) E H]
    exact h2

/-! vizard/vizardref01.Number -/
noncomputable def vizardref01_Number.body : Code := Try.f41.body.getD .skip
def vizardref01_Number.W1.vc (s0 : ByteArray) (n0 : Int) (i0 : Int) (Kx0 : Int → Heap → Prop) (RR : Int → Int → Heap → Prop) (E : Value → Heap → Prop) (h0 : Heap) : Prop :=
  (if (decide (i0 < (s0.size : Int))) = true then
  (0 : Int) ≤ i0 ∧ i0 < (s0.size : Int) ∧
  RR (IntKind.i64.wrap ((IntKind.i64.wrap (n0 * 256)) + (IntKind.i64.wrap (bt s0 i0)))) (IntKind.i64.wrap (i0 + 1)) h0
  else
  Kx0 n0 h0)
structure vizardref01_Number.W1 (s0 : ByteArray) (n0 : Int) (i0 : Int) (Kx0 : Int → Heap → Prop) (E : Value → Heap → Prop) (H : Heap) : Prop where
  h : Loop (fun (RR : Int × Int → Heap → Prop) (s : Int × Int) (H : Heap) => vizardref01_Number.W1.vc s0 s.1 s.2 Kx0 (fun n0 i0 H => RR (n0, i0) H) E H) (n0, i0) H
def vizardref01_Number.vc (s0 : ByteArray) (K : Int → Heap → Prop) (E : Value → Heap → Prop) (h0 : Heap) : Prop :=
  vizardref01_Number.W1 s0 0 0 K E h0
structure vizardref01_Number.c (s0 : ByteArray) (K : Int → Heap → Prop) (E : Value → Heap → Prop) (H : Heap) : Prop where
  h : vizardref01_Number.vc s0 (fun r0_0 H => ∃ H', Heap.Le H' H ∧ K r0_0 H') E H
def vizardref01_Number.F : FT := fun args K E H => match args with
  | [(.string s0)] => vizardref01_Number.c s0 (fun r0_0 H => K (.int .i64 r0_0) H) E H
  | _ => False
noncomputable def vizardref01_Number.Γ : FuncId → Option FT := Γof []
theorem vizardref01_Number.hΓ : ∀ f F, vizardref01_Number.Γ f = some F → CalleeOk Try.prog f F := Γof_ok (fun _ h => nomatch h)
def vizardref01_Number.W1.t : CT := fun Q E fr H => lenIs 19 fr (slS fr 0 fun s0 => slI fr 3 .i64 fun n0 => slI fr 4 .i64 fun i0 => vizardref01_Number.W1 s0 n0 i0 (fun y3_0 H => Q (.exit 0) (mkF 19 [(3, (.int .i64 y3_0))]) H) E H)
noncomputable def vizardref01_Number.W1.plan : Plan := .go
theorem vizardref01_Number.W1.pok : PlanOk Try.prog vizardref01_Number.W1.plan (sub [1, 1, 0, 1, 0, 0] vizardref01_Number.body) := by
  have e : PlanOk Try.prog vizardref01_Number.W1.plan (sub [1, 1, 0, 1, 0, 0] vizardref01_Number.body) = (True) := by kernel_rfl
  exact e.mpr trivial
theorem vizardref01_Number.W1.eq (s0 : ByteArray) (Q : Ex → Fr → Heap → Prop) (E : Value → Heap → Prop) (RR : Fr → Heap → Prop) (s : Int × Int) (H : Heap) :
    (fun (RR : Int × Int → Heap → Prop) (s : Int × Int) (H : Heap) => vizardref01_Number.W1.vc s0 s.1 s.2 (fun y3_0 H => Q (.exit 0) (mkF 19 [(3, (.int .i64 y3_0))]) H) (fun n0 i0 H => RR (n0, i0) H) E H) (fun s' H' => RR ((fun (s : Int × Int) => (mkF 19 [(0, (.string s0)), (3, (.int .i64 s.1)), (4, (.int .i64 s.2))])) s') H') s H = keepT [0, 3, 4] [] (fun i => if i = 0 then [3] else []) (wC Try.prog vizardref01_Number.Γ vizardref01_Number.W1.plan (sub [1, 1, 0, 1, 0, 0] vizardref01_Number.body)) (fun e fr' H' => match e with | .normal => RR fr' H' | .exit id => Q (.exit id) fr' H' | .ret => Q .ret fr' H') E ((fun (s : Int × Int) => (mkF 19 [(0, (.string s0)), (3, (.int .i64 s.1)), (4, (.int .i64 s.2))])) s) H := by
  kernel_rfl
theorem vizardref01_Number.W1.ok : SoundCode Try.prog (sub [1, 1, 0, 1, 0] vizardref01_Number.body) vizardref01_Number.W1.t := by
  have e : (sub [1, 1, 0, 1, 0] vizardref01_Number.body) = .loop (sub [1, 1, 0, 1, 0, 0] vizardref01_Number.body) := by kernel_rfl
  rw [e]
  refine piece_sound (loopN_sound (keepT_sound [0, 3, 4] [] (fun i => if i = 0 then [3] else []) (wC_sound vizardref01_Number.hΓ Try.hm vizardref01_Number.W1.plan _ vizardref01_Number.W1.pok))) ?_
  intro Q E fr H h
  unfold vizardref01_Number.W1.t at h
  obtain ⟨hl, h⟩ := lenIs_elim h
  obtain ⟨s0, q0, h⟩ := slS_elim h
  obtain ⟨n0, q3, h⟩ := slI_elim h
  obtain ⟨i0, q4, h⟩ := slI_elim h
  obtain ⟨m, h⟩ := h.h
  refine ⟨(mkF 19 [(0, (.string s0)), (3, (.int .i64 n0)), (4, (.int .i64 i0))]), fun a ha => ha.mk (Nat.le_of_eq hl.symm) (List.forall_mem_cons.2 ⟨q0, List.forall_mem_cons.2 ⟨q3, List.forall_mem_cons.2 ⟨q4, fun _ h => nomatch h⟩⟩⟩), m, ?_⟩
  have e := loopS_eq (B := (fun (RR : Int × Int → Heap → Prop) (s : Int × Int) (H : Heap) => vizardref01_Number.W1.vc s0 s.1 s.2 (fun y3_0 H => Q (.exit 0) (mkF 19 [(3, (.int .i64 y3_0))]) H) (fun n0 i0 H => RR (n0, i0) H) E H)) (A := keepT [0, 3, 4] [] (fun i => if i = 0 then [3] else []) (wC Try.prog vizardref01_Number.Γ vizardref01_Number.W1.plan (sub [1, 1, 0, 1, 0, 0] vizardref01_Number.body))) (m := (fun (s : Int × Int) => (mkF 19 [(0, (.string s0)), (3, (.int .i64 s.1)), (4, (.int .i64 s.2))]))) (Q := Q) (E := E) (fun RR s H => vizardref01_Number.W1.eq s0 Q E RR s H) m (n0, i0) H
  exact cast e h
noncomputable def vizardref01_Number.plan : Plan := .seq (.go) (.seq (.go) (.seq (.seq (.go) (.block (.use vizardref01_Number.W1.t))) (.go)))
theorem vizardref01_Number.pok : PlanOk Try.prog vizardref01_Number.plan vizardref01_Number.body := by
  have e : PlanOk Try.prog vizardref01_Number.plan vizardref01_Number.body = ((True) ∧ ((True) ∧ (((True) ∧ (SoundCode Try.prog (sub [1, 1, 0, 1, 0] vizardref01_Number.body) vizardref01_Number.W1.t)) ∧ (True)))) := by kernel_rfl
  exact e.mpr ⟨trivial, ⟨trivial, ⟨⟨trivial, vizardref01_Number.W1.ok⟩, trivial⟩⟩⟩
theorem vizardref01_Number.eq (s0 : ByteArray) (K : Value → Heap → Prop) (E : Value → Heap → Prop) (H : Heap) :
    fnT Try.prog Try.f41 (wC Try.prog vizardref01_Number.Γ vizardref01_Number.plan vizardref01_Number.body) [(.string s0)] K E H = vizardref01_Number.vc s0 (fun r0_0 H => K (.int .i64 r0_0) H) E H := by
  kernel_rfl
theorem vizardref01_Number.Fe {args : List Value} {K E : Value → Heap → Prop} {H : Heap} (h : vizardref01_Number.F args K E H) : ∃ s0, args = [(.string s0)] ∧ vizardref01_Number.c s0 (fun r0_0 H => K (.int .i64 r0_0) H) E H := by
  unfold vizardref01_Number.F at h
  split at h
  · exact ⟨_, rfl, h⟩
  · exact h.elim
theorem vizardref01_Number.ok : CalleeOk Try.prog 41 vizardref01_Number.F :=
  callee_ok vizardref01_Number.hΓ (fn := Try.f41) (c := vizardref01_Number.body) (T := wC Try.prog vizardref01_Number.Γ vizardref01_Number.plan vizardref01_Number.body) (by kernel_rfl) (by kernel_rfl) (by kernel_rfl) (wC_sound vizardref01_Number.hΓ Try.hm vizardref01_Number.plan _ vizardref01_Number.pok) fun _ K E H h => by
    obtain ⟨z0, e, h⟩ := vizardref01_Number.Fe h
    subst e
    have h2 : vizardref01_Number.vc z0 (fun r0_0 H => ∃ H', Heap.Le H' H ∧ K (.int .i64 r0_0) H') E H := h.h
    rw [vizardref01_Number.eq z0 (Fg K) E H]
    exact h2

/-! vizard/vizardref02.byteOf -/
noncomputable def vizardref02_byteOf.body : Code := Try.f62.body.getD .skip
def vizardref02_byteOf.vc (n0 : Int) (K : Bool → Heap → Prop) (E : Value → Heap → Prop) (h0 : Heap) : Prop :=
  (if (decide (n0 ≥ 0)) = true then
  K (decide (n0 ≤ 255)) h0
  else
  K false h0)
structure vizardref02_byteOf.c (n0 : Int) (K : Bool → Heap → Prop) (E : Value → Heap → Prop) (H : Heap) : Prop where
  h : vizardref02_byteOf.vc n0 (fun r0_0 H => ∃ H', Heap.Le H' H ∧ K r0_0 H') E H
def vizardref02_byteOf.F : FT := fun args K E H => match args with
  | [(.int .i64 n0)] => vizardref02_byteOf.c n0 (fun r0_0 H => K (.bool r0_0) H) E H
  | _ => False
noncomputable def vizardref02_byteOf.Γ : FuncId → Option FT := Γof []
theorem vizardref02_byteOf.hΓ : ∀ f F, vizardref02_byteOf.Γ f = some F → CalleeOk Try.prog f F := Γof_ok (fun _ h => nomatch h)
noncomputable def vizardref02_byteOf.plan : Plan := .go
theorem vizardref02_byteOf.pok : PlanOk Try.prog vizardref02_byteOf.plan vizardref02_byteOf.body := by
  have e : PlanOk Try.prog vizardref02_byteOf.plan vizardref02_byteOf.body = (True) := by kernel_rfl
  exact e.mpr trivial
theorem vizardref02_byteOf.eq (n0 : Int) (K : Value → Heap → Prop) (E : Value → Heap → Prop) (H : Heap) :
    fnT Try.prog Try.f62 (wC Try.prog vizardref02_byteOf.Γ vizardref02_byteOf.plan vizardref02_byteOf.body) [(.int .i64 n0)] K E H = vizardref02_byteOf.vc n0 (fun r0_0 H => K (.bool r0_0) H) E H := by
  kernel_rfl
theorem vizardref02_byteOf.Fe {args : List Value} {K E : Value → Heap → Prop} {H : Heap} (h : vizardref02_byteOf.F args K E H) : ∃ n0, args = [(.int .i64 n0)] ∧ vizardref02_byteOf.c n0 (fun r0_0 H => K (.bool r0_0) H) E H := by
  unfold vizardref02_byteOf.F at h
  split at h
  · exact ⟨_, rfl, h⟩
  · exact h.elim
theorem vizardref02_byteOf.ok : CalleeOk Try.prog 62 vizardref02_byteOf.F :=
  callee_ok vizardref02_byteOf.hΓ (fn := Try.f62) (c := vizardref02_byteOf.body) (T := wC Try.prog vizardref02_byteOf.Γ vizardref02_byteOf.plan vizardref02_byteOf.body) (by kernel_rfl) (by kernel_rfl) (by kernel_rfl) (wC_sound vizardref02_byteOf.hΓ Try.hm vizardref02_byteOf.plan _ vizardref02_byteOf.pok) fun _ K E H h => by
    obtain ⟨z0, e, h⟩ := vizardref02_byteOf.Fe h
    subst e
    have h2 : vizardref02_byteOf.vc z0 (fun r0_0 H => ∃ H', Heap.Le H' H ∧ K (.bool r0_0) H') E H := h.h
    rw [vizardref02_byteOf.eq z0 (Fg K) E H]
    exact h2

/-! vizard/vizardref02.wordOf -/
noncomputable def vizardref02_wordOf.body : Code := Try.f63.body.getD .skip
def vizardref02_wordOf.vc (n0 : Int) (K : Bool → Heap → Prop) (E : Value → Heap → Prop) (h0 : Heap) : Prop :=
  (if (decide (n0 ≥ 0)) = true then
  K (decide (n0 ≤ 65535)) h0
  else
  K false h0)
structure vizardref02_wordOf.c (n0 : Int) (K : Bool → Heap → Prop) (E : Value → Heap → Prop) (H : Heap) : Prop where
  h : vizardref02_wordOf.vc n0 (fun r0_0 H => ∃ H', Heap.Le H' H ∧ K r0_0 H') E H
def vizardref02_wordOf.F : FT := fun args K E H => match args with
  | [(.int .i64 n0)] => vizardref02_wordOf.c n0 (fun r0_0 H => K (.bool r0_0) H) E H
  | _ => False
noncomputable def vizardref02_wordOf.Γ : FuncId → Option FT := Γof []
theorem vizardref02_wordOf.hΓ : ∀ f F, vizardref02_wordOf.Γ f = some F → CalleeOk Try.prog f F := Γof_ok (fun _ h => nomatch h)
noncomputable def vizardref02_wordOf.plan : Plan := .go
theorem vizardref02_wordOf.pok : PlanOk Try.prog vizardref02_wordOf.plan vizardref02_wordOf.body := by
  have e : PlanOk Try.prog vizardref02_wordOf.plan vizardref02_wordOf.body = (True) := by kernel_rfl
  exact e.mpr trivial
theorem vizardref02_wordOf.eq (n0 : Int) (K : Value → Heap → Prop) (E : Value → Heap → Prop) (H : Heap) :
    fnT Try.prog Try.f63 (wC Try.prog vizardref02_wordOf.Γ vizardref02_wordOf.plan vizardref02_wordOf.body) [(.int .i64 n0)] K E H = vizardref02_wordOf.vc n0 (fun r0_0 H => K (.bool r0_0) H) E H := by
  kernel_rfl
theorem vizardref02_wordOf.Fe {args : List Value} {K E : Value → Heap → Prop} {H : Heap} (h : vizardref02_wordOf.F args K E H) : ∃ n0, args = [(.int .i64 n0)] ∧ vizardref02_wordOf.c n0 (fun r0_0 H => K (.bool r0_0) H) E H := by
  unfold vizardref02_wordOf.F at h
  split at h
  · exact ⟨_, rfl, h⟩
  · exact h.elim
theorem vizardref02_wordOf.ok : CalleeOk Try.prog 63 vizardref02_wordOf.F :=
  callee_ok vizardref02_wordOf.hΓ (fn := Try.f63) (c := vizardref02_wordOf.body) (T := wC Try.prog vizardref02_wordOf.Γ vizardref02_wordOf.plan vizardref02_wordOf.body) (by kernel_rfl) (by kernel_rfl) (by kernel_rfl) (wC_sound vizardref02_wordOf.hΓ Try.hm vizardref02_wordOf.plan _ vizardref02_wordOf.pok) fun _ K E H h => by
    obtain ⟨z0, e, h⟩ := vizardref02_wordOf.Fe h
    subst e
    have h2 : vizardref02_wordOf.vc z0 (fun r0_0 H => ∃ H', Heap.Le H' H ∧ K (.bool r0_0) H') E H := h.h
    rw [vizardref02_wordOf.eq z0 (Fg K) E H]
    exact h2

/-! vizard/vizardref01.Bytes -/
noncomputable def vizardref01_Bytes.body : Code := Try.f87.body.getD .skip
def vizardref01_Bytes.vc (self : Int → Int → (ByteArray → Heap → Prop) → (Value → Heap → Prop) → Heap → Prop) (n0 : Int) (k0 : Int) (K : ByteArray → Heap → Prop) (E : Value → Heap → Prop) (h0 : Heap) : Prop :=
  (if (k0 == 0) = true then
  K (⟨#[]⟩ : ByteArray) h0
  else
  256 ≠ (0 : Int) ∧
  256 ≠ (0 : Int) ∧
  (self (IntKind.i64.wrap (Int.tdiv n0 256)) (IntKind.i64.wrap (k0 - 1)) (fun x0 h1 =>
  (eqv h1 h1 (some (.int .u8 (IntKind.u8.wrap (Int.tmod n0 256)))) (.int .u8 (IntKind.u8.wrap (Int.tmod n0 256)))) ∧
  newB (.cells #[(.int .u8 (IntKind.u8.wrap (Int.tmod n0 256)))] 5) (fun b0 h2 =>
  rdBytes h2 (some (⟨b0, 0, none⟩ : Addr)) 1 fun x1 =>
  x0.size + x1.size ≤ 9223372036854775807 ∧
  K (x0 ++ x1) h2) h1) E h0) ∧
  newB (.cells #[(.int .u8 (IntKind.u8.wrap (Int.tmod n0 256)))] 5) (fun b1 h3 =>
  rdBytes h3 (some (⟨b1, 0, none⟩ : Addr)) 1 fun x2 =>
  self (IntKind.i64.wrap (Int.tdiv n0 256)) (IntKind.i64.wrap (k0 - 1)) (fun x3 h4 =>
  (rdBytes h4 (some (⟨b1, 0, none⟩ : Addr)) 1 fun x4 =>
  eqv h4 h4 (some (.string x2)) (.string x4)) ∧
  (eqv h4 h4 (some (.int .u8 (IntKind.u8.wrap (Int.tmod n0 256)))) (.int .u8 (IntKind.u8.wrap (Int.tmod n0 256)))) ∧
  x3.size + x2.size ≤ 9223372036854775807 ∧
  K (x3 ++ x2) h4) E h3) h0)
def vizardref01_Bytes.cn : Nat → Int → Int → (ByteArray → Heap → Prop) → (Value → Heap → Prop) → Heap → Prop
  | 0, _, _, _, _, _ => False
  | n + 1, n0, k0, K, E, H => vizardref01_Bytes.vc (vizardref01_Bytes.cn n) n0 k0 (fun r0_0 H => ∃ H', Heap.Le H' H ∧ K r0_0 H') E H
structure vizardref01_Bytes.c (n0 : Int) (k0 : Int) (K : ByteArray → Heap → Prop) (E : Value → Heap → Prop) (H : Heap) : Prop where
  h : ∃ n, vizardref01_Bytes.cn n n0 k0 K E H
def vizardref01_Bytes.Fn (n : Nat) : FT := fun args K E H => match args with
  | [(.int .i64 n0), (.int .i64 k0)] => vizardref01_Bytes.cn n n0 k0 (fun r0_0 H => K (.string r0_0) H) E H
  | _ => False
def vizardref01_Bytes.F : FT := fun args K E H => match args with
  | [(.int .i64 n0), (.int .i64 k0)] => vizardref01_Bytes.c n0 k0 (fun r0_0 H => K (.string r0_0) H) E H
  | _ => False
noncomputable def vizardref01_Bytes.Γ (n : Nat) : FuncId → Option FT := Γof [(87, vizardref01_Bytes.Fn n)]
theorem vizardref01_Bytes.hΓ (n : Nat) (hr : CalleeOk Try.prog 87 (vizardref01_Bytes.Fn n)) : ∀ f F, (vizardref01_Bytes.Γ n) f = some F → CalleeOk Try.prog f F := Γof_ok (List.forall_mem_cons.2 ⟨hr, fun _ h => nomatch h⟩)
noncomputable def vizardref01_Bytes.plan (n : Nat) : Plan := .seq (.go) (.seq (.go) (.seq (.draw ⟨[0, 1, 2, 3, 4, 5, 6, 7, 8, 9, 10], (dl [(0, []), (1, []), (2, []), (3, []), (5, []), (6, []), (7, [])] (.alt (dl [(4, [1, 3, 0, 2]), (8, [7, 6, 5]), (9, []), (10, [])] .fin) (dl [(8, [7, 6, 5]), (9, []), (4, [1, 3, 0, 2]), (10, [])] .fin))), [11]⟩) (.go)))
theorem vizardref01_Bytes.pok (n : Nat) (hr : CalleeOk Try.prog 87 (vizardref01_Bytes.Fn n)) : PlanOk Try.prog (vizardref01_Bytes.plan n) vizardref01_Bytes.body := by
  have e : PlanOk Try.prog (vizardref01_Bytes.plan n) vizardref01_Bytes.body = ((True) ∧ ((True) ∧ ((True) ∧ (True)))) := by kernel_rfl
  exact e.mpr ⟨trivial, ⟨trivial, ⟨trivial, trivial⟩⟩⟩
theorem vizardref01_Bytes.eq (n : Nat) (n0 : Int) (k0 : Int) (K : Value → Heap → Prop) (E : Value → Heap → Prop) (H : Heap) :
    fnT Try.prog Try.f87 (wC Try.prog (vizardref01_Bytes.Γ n) (vizardref01_Bytes.plan n) vizardref01_Bytes.body) [(.int .i64 n0), (.int .i64 k0)] K E H = vizardref01_Bytes.vc (vizardref01_Bytes.cn n) n0 k0 (fun r0_0 H => K (.string r0_0) H) E H := by
  kernel_rfl
theorem vizardref01_Bytes.Fne {n : Nat} {args : List Value} {K E : Value → Heap → Prop} {H : Heap} (h : vizardref01_Bytes.Fn n args K E H) : ∃ n0 k0, args = [(.int .i64 n0), (.int .i64 k0)] ∧ vizardref01_Bytes.cn n n0 k0 (fun r0_0 H => K (.string r0_0) H) E H := by
  unfold vizardref01_Bytes.Fn at h
  split at h
  · exact ⟨_, _, rfl, h⟩
  · exact h.elim
theorem vizardref01_Bytes.Fe {args : List Value} {K E : Value → Heap → Prop} {H : Heap} (h : vizardref01_Bytes.F args K E H) : ∃ n0 k0, args = [(.int .i64 n0), (.int .i64 k0)] ∧ vizardref01_Bytes.c n0 k0 (fun r0_0 H => K (.string r0_0) H) E H := by
  unfold vizardref01_Bytes.F at h
  split at h
  · exact ⟨_, _, rfl, h⟩
  · exact h.elim
theorem vizardref01_Bytes.okn : ∀ n, CalleeOk Try.prog 87 (vizardref01_Bytes.Fn n)
  | 0 => fun args K E H w hS h => by
    obtain ⟨z0, z1, e, h⟩ := vizardref01_Bytes.Fne h
    exact (show False from h).elim
  | n + 1 => have hr := vizardref01_Bytes.okn n
    callee_ok (vizardref01_Bytes.hΓ n hr) (fn := Try.f87) (c := vizardref01_Bytes.body) (T := wC Try.prog (vizardref01_Bytes.Γ n) (vizardref01_Bytes.plan n) vizardref01_Bytes.body) (by kernel_rfl) (by kernel_rfl) (by kernel_rfl) (wC_sound (vizardref01_Bytes.hΓ n hr) Try.hm (vizardref01_Bytes.plan n) _ (vizardref01_Bytes.pok n hr)) fun _ K E H h => by
    obtain ⟨z0, z1, e, h⟩ := vizardref01_Bytes.Fne h
    subst e
    have h2 : vizardref01_Bytes.vc (vizardref01_Bytes.cn n) z0 z1 (fun r0_0 H => ∃ H', Heap.Le H' H ∧ K (.string r0_0) H') E H := h
    rw [vizardref01_Bytes.eq n z0 z1 (Fg K) E H]
    exact h2
theorem vizardref01_Bytes.ok : CalleeOk Try.prog 87 vizardref01_Bytes.F := by
  intro args K E H w hS h
  obtain ⟨z0, z1, e, h⟩ := vizardref01_Bytes.Fe h
  subst e
  obtain ⟨n, h⟩ := h.h
  exact vizardref01_Bytes.okn n _ K E H w hS h

/-! vizard/vizardref02.b -/
noncomputable def vizardref02_b.body : Code := Try.f79.body.getD .skip
def vizardref02_b.vc (n0 : Int) (k0 : Int) (K : ByteArray → Heap → Prop) (E : Value → Heap → Prop) (h0 : Heap) : Prop :=
  vizardref01_Bytes.c n0 k0 K E h0
structure vizardref02_b.c (n0 : Int) (k0 : Int) (K : ByteArray → Heap → Prop) (E : Value → Heap → Prop) (H : Heap) : Prop where
  h : vizardref02_b.vc n0 k0 (fun r0_0 H => ∃ H', Heap.Le H' H ∧ K r0_0 H') E H
def vizardref02_b.F : FT := fun args K E H => match args with
  | [(.int .i64 n0), (.int .i64 k0)] => vizardref02_b.c n0 k0 (fun r0_0 H => K (.string r0_0) H) E H
  | _ => False
noncomputable def vizardref02_b.Γ : FuncId → Option FT := Γof [(87, vizardref01_Bytes.F)]
theorem vizardref02_b.hΓ : ∀ f F, vizardref02_b.Γ f = some F → CalleeOk Try.prog f F := Γof_ok (List.forall_mem_cons.2 ⟨vizardref01_Bytes.ok, fun _ h => nomatch h⟩)
noncomputable def vizardref02_b.plan : Plan := .go
theorem vizardref02_b.pok : PlanOk Try.prog vizardref02_b.plan vizardref02_b.body := by
  have e : PlanOk Try.prog vizardref02_b.plan vizardref02_b.body = (True) := by kernel_rfl
  exact e.mpr trivial
theorem vizardref02_b.eq (n0 : Int) (k0 : Int) (K : Value → Heap → Prop) (E : Value → Heap → Prop) (H : Heap) :
    fnT Try.prog Try.f79 (wC Try.prog vizardref02_b.Γ vizardref02_b.plan vizardref02_b.body) [(.int .i64 n0), (.int .i64 k0)] K E H = vizardref02_b.vc n0 k0 (fun r0_0 H => K (.string r0_0) H) E H := by
  kernel_rfl
theorem vizardref02_b.Fe {args : List Value} {K E : Value → Heap → Prop} {H : Heap} (h : vizardref02_b.F args K E H) : ∃ n0 k0, args = [(.int .i64 n0), (.int .i64 k0)] ∧ vizardref02_b.c n0 k0 (fun r0_0 H => K (.string r0_0) H) E H := by
  unfold vizardref02_b.F at h
  split at h
  · exact ⟨_, _, rfl, h⟩
  · exact h.elim
theorem vizardref02_b.ok : CalleeOk Try.prog 79 vizardref02_b.F :=
  callee_ok vizardref02_b.hΓ (fn := Try.f79) (c := vizardref02_b.body) (T := wC Try.prog vizardref02_b.Γ vizardref02_b.plan vizardref02_b.body) (by kernel_rfl) (by kernel_rfl) (by kernel_rfl) (wC_sound vizardref02_b.hΓ Try.hm vizardref02_b.plan _ vizardref02_b.pok) fun _ K E H h => by
    obtain ⟨z0, z1, e, h⟩ := vizardref02_b.Fe h
    subst e
    have h2 : vizardref02_b.vc z0 z1 (fun r0_0 H => ∃ H', Heap.Le H' H ∧ K (.string r0_0) H') E H := h.h
    rw [vizardref02_b.eq z0 z1 (Fg K) E H]
    exact h2

/-! vizard/vizardref02.header -/
noncomputable def vizardref02_header.body : Code := Try.f64.body.getD .skip
def vizardref02_header.vc (h0 : Int) (h1 : Int) (h2 : Int) (h3 : Int) (h4 : Int) (h5 : Int) (h6 : Int) (h7 : ByteArray) (sum0 : Int) (K : ByteArray → Heap → Prop) (E : Value → Heap → Prop) (h8 : Heap) : Prop :=
  newB (.cells #[(.int .i64 h0), (.int .i64 h1), (.int .i64 h2), (.int .i64 h3), (.int .i64 h4), (.int .u32 h5), (.int .u32 h6), (.string h7)] 58) (fun b0 h9 =>
  ldI h9 .i64 ((⟨b0, 0, none⟩ : Addr).add 0) fun x0 =>
  ldS h9 ((⟨b0, 0, none⟩ : Addr).add 7) fun x1 =>
  ldI h9 .i64 ((⟨b0, 0, none⟩ : Addr).add 1) fun x2 =>
  ldI h9 .i64 ((⟨b0, 0, none⟩ : Addr).add 2) fun x3 =>
  ldI h9 .i64 ((⟨b0, 0, none⟩ : Addr).add 3) fun x4 =>
  ldI h9 .i64 ((⟨b0, 0, none⟩ : Addr).add 4) fun x5 =>
  ldI h9 .u32 ((⟨b0, 0, none⟩ : Addr).add 5) fun x6 =>
  ldI h9 .u32 ((⟨b0, 0, none⟩ : Addr).add 6) fun x7 =>
  vizardref02_b.c x0 1 (fun x8 h10 =>
  (eqv h10 h10 (some (.int .i64 (IntKind.i64.wrap x7))) (.int .i64 (IntKind.i64.wrap x7))) ∧
  (ldI h10 .u32 ((⟨b0, 0, none⟩ : Addr).add 6) fun x9 =>
  eqv h10 h10 (some (.int .u32 x7)) (.int .u32 x9)) ∧
  (eqv h10 h10 (some (.int .i64 (IntKind.i64.wrap x6))) (.int .i64 (IntKind.i64.wrap x6))) ∧
  (ldI h10 .u32 ((⟨b0, 0, none⟩ : Addr).add 5) fun x10 =>
  eqv h10 h10 (some (.int .u32 x6)) (.int .u32 x10)) ∧
  (ldI h10 .i64 ((⟨b0, 0, none⟩ : Addr).add 4) fun x11 =>
  eqv h10 h10 (some (.int .i64 x5)) (.int .i64 x11)) ∧
  (ldI h10 .i64 ((⟨b0, 0, none⟩ : Addr).add 3) fun x12 =>
  eqv h10 h10 (some (.int .i64 x4)) (.int .i64 x12)) ∧
  (ldI h10 .i64 ((⟨b0, 0, none⟩ : Addr).add 2) fun x13 =>
  eqv h10 h10 (some (.int .i64 x3)) (.int .i64 x13)) ∧
  (ldI h10 .i64 ((⟨b0, 0, none⟩ : Addr).add 1) fun x14 =>
  eqv h10 h10 (some (.int .i64 x2)) (.int .i64 x14)) ∧
  (eqv h10 h10 (some (.int .i64 (x1.size : Int))) (.int .i64 (x1.size : Int))) ∧
  (ldS h10 ((⟨b0, 0, none⟩ : Addr).add 7) fun x15 =>
  eqv h10 h10 (some (.string x1)) (.string x15)) ∧
  (⟨#[69]⟩ : ByteArray).size + x8.size ≤ 9223372036854775807 ∧
  vizardref02_b.c (IntKind.i64.wrap (20 + (x1.size : Int))) 2 (fun x16 h11 =>
  (eqv h11 h11 (some (.int .i64 (IntKind.i64.wrap x7))) (.int .i64 (IntKind.i64.wrap x7))) ∧
  (ldI h11 .u32 ((⟨b0, 0, none⟩ : Addr).add 6) fun x17 =>
  eqv h11 h11 (some (.int .u32 x7)) (.int .u32 x17)) ∧
  (eqv h11 h11 (some (.int .i64 (IntKind.i64.wrap x6))) (.int .i64 (IntKind.i64.wrap x6))) ∧
  (ldI h11 .u32 ((⟨b0, 0, none⟩ : Addr).add 5) fun x18 =>
  eqv h11 h11 (some (.int .u32 x6)) (.int .u32 x18)) ∧
  (ldI h11 .i64 ((⟨b0, 0, none⟩ : Addr).add 4) fun x19 =>
  eqv h11 h11 (some (.int .i64 x5)) (.int .i64 x19)) ∧
  (ldI h11 .i64 ((⟨b0, 0, none⟩ : Addr).add 3) fun x20 =>
  eqv h11 h11 (some (.int .i64 x4)) (.int .i64 x20)) ∧
  (ldI h11 .i64 ((⟨b0, 0, none⟩ : Addr).add 2) fun x21 =>
  eqv h11 h11 (some (.int .i64 x3)) (.int .i64 x21)) ∧
  (ldI h11 .i64 ((⟨b0, 0, none⟩ : Addr).add 1) fun x22 =>
  eqv h11 h11 (some (.int .i64 x2)) (.int .i64 x22)) ∧
  ((⟨#[69]⟩ : ByteArray) ++ x8).size + x16.size ≤ 9223372036854775807 ∧
  vizardref02_b.c x2 2 (fun x23 h12 =>
  (eqv h12 h12 (some (.int .i64 (IntKind.i64.wrap x7))) (.int .i64 (IntKind.i64.wrap x7))) ∧
  (ldI h12 .u32 ((⟨b0, 0, none⟩ : Addr).add 6) fun x24 =>
  eqv h12 h12 (some (.int .u32 x7)) (.int .u32 x24)) ∧
  (eqv h12 h12 (some (.int .i64 (IntKind.i64.wrap x6))) (.int .i64 (IntKind.i64.wrap x6))) ∧
  (ldI h12 .u32 ((⟨b0, 0, none⟩ : Addr).add 5) fun x25 =>
  eqv h12 h12 (some (.int .u32 x6)) (.int .u32 x25)) ∧
  (ldI h12 .i64 ((⟨b0, 0, none⟩ : Addr).add 4) fun x26 =>
  eqv h12 h12 (some (.int .i64 x5)) (.int .i64 x26)) ∧
  (ldI h12 .i64 ((⟨b0, 0, none⟩ : Addr).add 3) fun x27 =>
  eqv h12 h12 (some (.int .i64 x4)) (.int .i64 x27)) ∧
  (ldI h12 .i64 ((⟨b0, 0, none⟩ : Addr).add 2) fun x28 =>
  eqv h12 h12 (some (.int .i64 x3)) (.int .i64 x28)) ∧
  (((⟨#[69]⟩ : ByteArray) ++ x8) ++ x16).size + x23.size ≤ 9223372036854775807 ∧
  vizardref02_b.c x3 2 (fun x29 h13 =>
  (eqv h13 h13 (some (.int .i64 (IntKind.i64.wrap x7))) (.int .i64 (IntKind.i64.wrap x7))) ∧
  (ldI h13 .u32 ((⟨b0, 0, none⟩ : Addr).add 6) fun x30 =>
  eqv h13 h13 (some (.int .u32 x7)) (.int .u32 x30)) ∧
  (eqv h13 h13 (some (.int .i64 (IntKind.i64.wrap x6))) (.int .i64 (IntKind.i64.wrap x6))) ∧
  (ldI h13 .u32 ((⟨b0, 0, none⟩ : Addr).add 5) fun x31 =>
  eqv h13 h13 (some (.int .u32 x6)) (.int .u32 x31)) ∧
  (ldI h13 .i64 ((⟨b0, 0, none⟩ : Addr).add 4) fun x32 =>
  eqv h13 h13 (some (.int .i64 x5)) (.int .i64 x32)) ∧
  (ldI h13 .i64 ((⟨b0, 0, none⟩ : Addr).add 3) fun x33 =>
  eqv h13 h13 (some (.int .i64 x4)) (.int .i64 x33)) ∧
  ((((⟨#[69]⟩ : ByteArray) ++ x8) ++ x16) ++ x23).size + x29.size ≤ 9223372036854775807 ∧
  vizardref02_b.c x4 1 (fun x34 h14 =>
  (eqv h14 h14 (some (.int .i64 (IntKind.i64.wrap x7))) (.int .i64 (IntKind.i64.wrap x7))) ∧
  (ldI h14 .u32 ((⟨b0, 0, none⟩ : Addr).add 6) fun x35 =>
  eqv h14 h14 (some (.int .u32 x7)) (.int .u32 x35)) ∧
  (eqv h14 h14 (some (.int .i64 (IntKind.i64.wrap x6))) (.int .i64 (IntKind.i64.wrap x6))) ∧
  (ldI h14 .u32 ((⟨b0, 0, none⟩ : Addr).add 5) fun x36 =>
  eqv h14 h14 (some (.int .u32 x6)) (.int .u32 x36)) ∧
  (ldI h14 .i64 ((⟨b0, 0, none⟩ : Addr).add 4) fun x37 =>
  eqv h14 h14 (some (.int .i64 x5)) (.int .i64 x37)) ∧
  (((((⟨#[69]⟩ : ByteArray) ++ x8) ++ x16) ++ x23) ++ x29).size + x34.size ≤ 9223372036854775807 ∧
  vizardref02_b.c x5 1 (fun x38 h15 =>
  (eqv h15 h15 (some (.int .i64 (IntKind.i64.wrap x7))) (.int .i64 (IntKind.i64.wrap x7))) ∧
  (ldI h15 .u32 ((⟨b0, 0, none⟩ : Addr).add 6) fun x39 =>
  eqv h15 h15 (some (.int .u32 x7)) (.int .u32 x39)) ∧
  (eqv h15 h15 (some (.int .i64 (IntKind.i64.wrap x6))) (.int .i64 (IntKind.i64.wrap x6))) ∧
  (ldI h15 .u32 ((⟨b0, 0, none⟩ : Addr).add 5) fun x40 =>
  eqv h15 h15 (some (.int .u32 x6)) (.int .u32 x40)) ∧
  ((((((⟨#[69]⟩ : ByteArray) ++ x8) ++ x16) ++ x23) ++ x29) ++ x34).size + x38.size ≤ 9223372036854775807 ∧
  vizardref02_b.c sum0 2 (fun x41 h16 =>
  (eqv h16 h16 (some (.int .i64 (IntKind.i64.wrap x7))) (.int .i64 (IntKind.i64.wrap x7))) ∧
  (ldI h16 .u32 ((⟨b0, 0, none⟩ : Addr).add 6) fun x42 =>
  eqv h16 h16 (some (.int .u32 x7)) (.int .u32 x42)) ∧
  (eqv h16 h16 (some (.int .i64 (IntKind.i64.wrap x6))) (.int .i64 (IntKind.i64.wrap x6))) ∧
  (ldI h16 .u32 ((⟨b0, 0, none⟩ : Addr).add 5) fun x43 =>
  eqv h16 h16 (some (.int .u32 x6)) (.int .u32 x43)) ∧
  (((((((⟨#[69]⟩ : ByteArray) ++ x8) ++ x16) ++ x23) ++ x29) ++ x34) ++ x38).size + x41.size ≤ 9223372036854775807 ∧
  vizardref02_b.c (IntKind.i64.wrap x6) 4 (fun x44 h17 =>
  (eqv h17 h17 (some (.int .i64 (IntKind.i64.wrap x7))) (.int .i64 (IntKind.i64.wrap x7))) ∧
  (ldI h17 .u32 ((⟨b0, 0, none⟩ : Addr).add 6) fun x45 =>
  eqv h17 h17 (some (.int .u32 x7)) (.int .u32 x45)) ∧
  ((((((((⟨#[69]⟩ : ByteArray) ++ x8) ++ x16) ++ x23) ++ x29) ++ x34) ++ x38) ++ x41).size + x44.size ≤ 9223372036854775807 ∧
  vizardref02_b.c (IntKind.i64.wrap x7) 4 (fun x46 h18 =>
  (((((((((⟨#[69]⟩ : ByteArray) ++ x8) ++ x16) ++ x23) ++ x29) ++ x34) ++ x38) ++ x41) ++ x44).size + x46.size ≤ 9223372036854775807 ∧
  K ((((((((((⟨#[69]⟩ : ByteArray) ++ x8) ++ x16) ++ x23) ++ x29) ++ x34) ++ x38) ++ x41) ++ x44) ++ x46) h18) E h17) E h16) E h15) E h14) E h13) E h12) E h11) E h10) E h9) h8
structure vizardref02_header.c (h0 : Int) (h1 : Int) (h2 : Int) (h3 : Int) (h4 : Int) (h5 : Int) (h6 : Int) (h7 : ByteArray) (sum0 : Int) (K : ByteArray → Heap → Prop) (E : Value → Heap → Prop) (H : Heap) : Prop where
  h : vizardref02_header.vc h0 h1 h2 h3 h4 h5 h6 h7 sum0 (fun r0_0 H => ∃ H', Heap.Le H' H ∧ K r0_0 H') E H
def vizardref02_header.F : FT := fun args K E H => match args with
  | [(.agg ⟨[(.int .i64 h0), (.int .i64 h1), (.int .i64 h2), (.int .i64 h3), (.int .i64 h4), (.int .u32 h5), (.int .u32 h6), (.string h7)]⟩), (.int .i64 sum0)] => vizardref02_header.c h0 h1 h2 h3 h4 h5 h6 h7 sum0 (fun r0_0 H => K (.string r0_0) H) E H
  | _ => False
noncomputable def vizardref02_header.Γ : FuncId → Option FT := Γof [(79, vizardref02_b.F)]
theorem vizardref02_header.hΓ : ∀ f F, vizardref02_header.Γ f = some F → CalleeOk Try.prog f F := Γof_ok (List.forall_mem_cons.2 ⟨vizardref02_b.ok, fun _ h => nomatch h⟩)
noncomputable def vizardref02_header.plan : Plan := .seq (.go) (.seq (.draw ⟨[0, 1, 2, 3, 4, 5, 6, 7, 8, 9, 10, 11, 12, 13, 14, 15, 16, 17, 18, 19, 20, 21, 22, 23, 24, 25, 26, 27, 28, 29, 30, 31, 32, 33, 34, 35, 36, 37, 38], (dl [(0, []), (1, []), (4, []), (5, []), (6, []), (7, []), (10, []), (11, []), (14, []), (15, []), (18, []), (19, []), (22, []), (23, []), (26, []), (29, []), (30, []), (31, []), (34, []), (35, []), (36, []), (2, [1, 0]), (3, []), (8, [7, 2, 6, 1, 5, 0, 4]), (9, []), (12, [11, 8, 10, 7, 2, 6, 1, 5, 0, 4]), (13, []), (16, [15, 12, 14, 11, 8, 10, 7, 2, 6, 1, 5, 0, 4]), (17, []), (20, [19, 16, 18, 15, 12, 14, 11, 8, 10, 7, 2, 6, 1, 5, 0, 4]), (21, []), (24, [23, 20, 22, 19, 16, 18, 15, 12, 14, 11, 8, 10, 7, 2, 6, 1, 5, 0, 4]), (25, []), (27, [26, 24, 23, 20, 22, 19, 16, 18, 15, 12, 14, 11, 8, 10, 7, 2, 6, 1, 5, 0, 4]), (28, []), (32, [31, 27, 30, 26, 24, 29, 23, 20, 22, 19, 16, 18, 15, 12, 14, 11, 8, 10, 7, 2, 6, 1, 5, 0, 4]), (33, []), (37, [36, 32, 35, 31, 27, 34, 30, 26, 24, 29, 23, 20, 22, 19, 16, 18, 15, 12, 14, 11, 8, 10, 7, 2, 6, 1, 5, 0, 4]), (38, [])] .fin), [39]⟩) (.go))
theorem vizardref02_header.pok : PlanOk Try.prog vizardref02_header.plan vizardref02_header.body := by
  have e : PlanOk Try.prog vizardref02_header.plan vizardref02_header.body = ((True) ∧ ((True) ∧ (True))) := by kernel_rfl
  exact e.mpr ⟨trivial, ⟨trivial, trivial⟩⟩
theorem vizardref02_header.eq (h0 : Int) (h1 : Int) (h2 : Int) (h3 : Int) (h4 : Int) (h5 : Int) (h6 : Int) (h7 : ByteArray) (sum0 : Int) (K : Value → Heap → Prop) (E : Value → Heap → Prop) (H : Heap) :
    fnT Try.prog Try.f64 (wC Try.prog vizardref02_header.Γ vizardref02_header.plan vizardref02_header.body) [(.agg #[(.int .i64 h0), (.int .i64 h1), (.int .i64 h2), (.int .i64 h3), (.int .i64 h4), (.int .u32 h5), (.int .u32 h6), (.string h7)]), (.int .i64 sum0)] K E H = vizardref02_header.vc h0 h1 h2 h3 h4 h5 h6 h7 sum0 (fun r0_0 H => K (.string r0_0) H) E H := by
  kernel_rfl
theorem vizardref02_header.Fe {args : List Value} {K E : Value → Heap → Prop} {H : Heap} (h : vizardref02_header.F args K E H) : ∃ h0 h1 h2 h3 h4 h5 h6 h7 sum0, args = [(.agg #[(.int .i64 h0), (.int .i64 h1), (.int .i64 h2), (.int .i64 h3), (.int .i64 h4), (.int .u32 h5), (.int .u32 h6), (.string h7)]), (.int .i64 sum0)] ∧ vizardref02_header.c h0 h1 h2 h3 h4 h5 h6 h7 sum0 (fun r0_0 H => K (.string r0_0) H) E H := by
  unfold vizardref02_header.F at h
  split at h
  · exact ⟨_, _, _, _, _, _, _, _, _, rfl, h⟩
  · exact h.elim
theorem vizardref02_header.ok : CalleeOk Try.prog 64 vizardref02_header.F :=
  callee_ok vizardref02_header.hΓ (fn := Try.f64) (c := vizardref02_header.body) (T := wC Try.prog vizardref02_header.Γ vizardref02_header.plan vizardref02_header.body) (by kernel_rfl) (by kernel_rfl) (by kernel_rfl) (wC_sound vizardref02_header.hΓ Try.hm vizardref02_header.plan _ vizardref02_header.pok) fun _ K E H h => by
    obtain ⟨z0, z1, z2, z3, z4, z5, z6, z7, z8, e, h⟩ := vizardref02_header.Fe h
    subst e
    have h2 : vizardref02_header.vc z0 z1 z2 z3 z4 z5 z6 z7 z8 (fun r0_0 H => ∃ H', Heap.Le H' H ∧ K (.string r0_0) H') E H := h.h
    rw [vizardref02_header.eq z0 z1 z2 z3 z4 z5 z6 z7 z8 (Fg K) E H]
    exact h2

/-! vizard/vizardref02.Sum -/
noncomputable def vizardref02_Sum.body : Code := Try.f65.body.getD .skip
def vizardref02_Sum.W2.vc (s0 : ByteArray) (n0 : Int) (i0 : Int) (Kx0 : Int → Heap → Prop) (RR : Int → Int → Heap → Prop) (E : Value → Heap → Prop) (h0 : Heap) : Prop :=
  (if (decide ((IntKind.i64.wrap (i0 + 1)) < (s0.size : Int))) = true then
  (0 : Int) ≤ i0 ∧ i0 ≤ ((IntKind.i64.wrap (i0 + 2)) : Int) ∧ (IntKind.i64.wrap (i0 + 2)) ≤ (s0.size : Int) ∧
  vizardref01_Number.c (s0.extract i0.toNat (IntKind.i64.wrap (i0 + 2)).toNat) (fun x0 h1 =>
  RR (IntKind.i64.wrap (n0 + x0)) (IntKind.i64.wrap (i0 + 2)) h1) E h0
  else
  Kx0 n0 h0)
structure vizardref02_Sum.W2 (s0 : ByteArray) (n0 : Int) (i0 : Int) (Kx0 : Int → Heap → Prop) (E : Value → Heap → Prop) (H : Heap) : Prop where
  h : Loop (fun (RR : Int × Int → Heap → Prop) (s : Int × Int) (H : Heap) => vizardref02_Sum.W2.vc s0 s.1 s.2 Kx0 (fun n0 i0 H => RR (n0, i0) H) E H) (n0, i0) H
def vizardref02_Sum.W3.vc (n0 : Int) (Kx2 : Int → Heap → Prop) (RR : Int → Heap → Prop) (E : Value → Heap → Prop) (h0 : Heap) : Prop :=
  (if (decide (n0 > 65535)) = true then
  65536 ≠ (0 : Int) ∧
  65536 ≠ (0 : Int) ∧
  RR (IntKind.i64.wrap ((Int.tmod n0 65536) + (IntKind.i64.wrap (Int.tdiv n0 65536)))) h0
  else
  Kx2 n0 h0)
structure vizardref02_Sum.W3 (n0 : Int) (Kx2 : Int → Heap → Prop) (E : Value → Heap → Prop) (H : Heap) : Prop where
  h : Loop (fun (RR : Int → Heap → Prop) (s : Int) (H : Heap) => vizardref02_Sum.W3.vc s Kx2 (fun n0 H => RR (n0) H) E H) (n0) H
def vizardref02_Sum.J1.vc (s0 : ByteArray) (Kr : Int → Heap → Prop) (E : Value → Heap → Prop) (h0 : Heap) : Prop :=
  vizardref02_Sum.W2 s0 0 0 (fun n0 h1 =>
  vizardref02_Sum.W3 n0 (fun n1 h2 =>
  Kr (IntKind.i64.wrap (65535 - n1)) h2) E h1) E h0
structure vizardref02_Sum.J1 (s0 : ByteArray) (Kr : Int → Heap → Prop) (E : Value → Heap → Prop) (H : Heap) : Prop where
  h : vizardref02_Sum.J1.vc s0 Kr E H
def vizardref02_Sum.vc (s0 : ByteArray) (K : Int → Heap → Prop) (E : Value → Heap → Prop) (h0 : Heap) : Prop :=
  2 ≠ (0 : Int) ∧
  (if ((Int.tmod (s0.size : Int) 2) == 1) = true then
  s0.size + (⟨#[0]⟩ : ByteArray).size ≤ 9223372036854775807 ∧
  vizardref02_Sum.J1 (s0 ++ (⟨#[0]⟩ : ByteArray)) K E h0
  else
  vizardref02_Sum.J1 s0 K E h0)
structure vizardref02_Sum.c (s0 : ByteArray) (K : Int → Heap → Prop) (E : Value → Heap → Prop) (H : Heap) : Prop where
  h : vizardref02_Sum.vc s0 (fun r0_0 H => ∃ H', Heap.Le H' H ∧ K r0_0 H') E H
def vizardref02_Sum.F : FT := fun args K E H => match args with
  | [(.string s0)] => vizardref02_Sum.c s0 (fun r0_0 H => K (.int .i64 r0_0) H) E H
  | _ => False
noncomputable def vizardref02_Sum.Γ : FuncId → Option FT := Γof [(41, vizardref01_Number.F)]
theorem vizardref02_Sum.hΓ : ∀ f F, vizardref02_Sum.Γ f = some F → CalleeOk Try.prog f F := Γof_ok (List.forall_mem_cons.2 ⟨vizardref01_Number.ok, fun _ h => nomatch h⟩)
def vizardref02_Sum.W2.t : CT := fun Q E fr H => lenIs 35 fr (slS fr 0 fun s0 => slI fr 3 .i64 fun n0 => slI fr 4 .i64 fun i0 => vizardref02_Sum.W2 s0 n0 i0 (fun y3_0 H => Q (.exit 0) (mkF 35 [(3, (.int .i64 y3_0))]) H) E H)
noncomputable def vizardref02_Sum.W2.plan : Plan := .go
theorem vizardref02_Sum.W2.pok : PlanOk Try.prog vizardref02_Sum.W2.plan (sub [1, 1, 1, 0, 1, 0, 0] vizardref02_Sum.body) := by
  have e : PlanOk Try.prog vizardref02_Sum.W2.plan (sub [1, 1, 1, 0, 1, 0, 0] vizardref02_Sum.body) = (True) := by kernel_rfl
  exact e.mpr trivial
theorem vizardref02_Sum.W2.eq (s0 : ByteArray) (Q : Ex → Fr → Heap → Prop) (E : Value → Heap → Prop) (RR : Fr → Heap → Prop) (s : Int × Int) (H : Heap) :
    (fun (RR : Int × Int → Heap → Prop) (s : Int × Int) (H : Heap) => vizardref02_Sum.W2.vc s0 s.1 s.2 (fun y3_0 H => Q (.exit 0) (mkF 35 [(3, (.int .i64 y3_0))]) H) (fun n0 i0 H => RR (n0, i0) H) E H) (fun s' H' => RR ((fun (s : Int × Int) => (mkF 35 [(0, (.string s0)), (3, (.int .i64 s.1)), (4, (.int .i64 s.2))])) s') H') s H = keepT [0, 3, 4] [] (fun i => if i = 0 then [3] else []) (wC Try.prog vizardref02_Sum.Γ vizardref02_Sum.W2.plan (sub [1, 1, 1, 0, 1, 0, 0] vizardref02_Sum.body)) (fun e fr' H' => match e with | .normal => RR fr' H' | .exit id => Q (.exit id) fr' H' | .ret => Q .ret fr' H') E ((fun (s : Int × Int) => (mkF 35 [(0, (.string s0)), (3, (.int .i64 s.1)), (4, (.int .i64 s.2))])) s) H := by
  kernel_rfl
theorem vizardref02_Sum.W2.ok : SoundCode Try.prog (sub [1, 1, 1, 0, 1, 0] vizardref02_Sum.body) vizardref02_Sum.W2.t := by
  have e : (sub [1, 1, 1, 0, 1, 0] vizardref02_Sum.body) = .loop (sub [1, 1, 1, 0, 1, 0, 0] vizardref02_Sum.body) := by kernel_rfl
  rw [e]
  refine piece_sound (loopN_sound (keepT_sound [0, 3, 4] [] (fun i => if i = 0 then [3] else []) (wC_sound vizardref02_Sum.hΓ Try.hm vizardref02_Sum.W2.plan _ vizardref02_Sum.W2.pok))) ?_
  intro Q E fr H h
  unfold vizardref02_Sum.W2.t at h
  obtain ⟨hl, h⟩ := lenIs_elim h
  obtain ⟨s0, q0, h⟩ := slS_elim h
  obtain ⟨n0, q3, h⟩ := slI_elim h
  obtain ⟨i0, q4, h⟩ := slI_elim h
  obtain ⟨m, h⟩ := h.h
  refine ⟨(mkF 35 [(0, (.string s0)), (3, (.int .i64 n0)), (4, (.int .i64 i0))]), fun a ha => ha.mk (Nat.le_of_eq hl.symm) (List.forall_mem_cons.2 ⟨q0, List.forall_mem_cons.2 ⟨q3, List.forall_mem_cons.2 ⟨q4, fun _ h => nomatch h⟩⟩⟩), m, ?_⟩
  have e := loopS_eq (B := (fun (RR : Int × Int → Heap → Prop) (s : Int × Int) (H : Heap) => vizardref02_Sum.W2.vc s0 s.1 s.2 (fun y3_0 H => Q (.exit 0) (mkF 35 [(3, (.int .i64 y3_0))]) H) (fun n0 i0 H => RR (n0, i0) H) E H)) (A := keepT [0, 3, 4] [] (fun i => if i = 0 then [3] else []) (wC Try.prog vizardref02_Sum.Γ vizardref02_Sum.W2.plan (sub [1, 1, 1, 0, 1, 0, 0] vizardref02_Sum.body))) (m := (fun (s : Int × Int) => (mkF 35 [(0, (.string s0)), (3, (.int .i64 s.1)), (4, (.int .i64 s.2))]))) (Q := Q) (E := E) (fun RR s H => vizardref02_Sum.W2.eq s0 Q E RR s H) m (n0, i0) H
  exact cast e h
def vizardref02_Sum.W3.t : CT := fun Q E fr H => lenIs 35 fr (slI fr 3 .i64 fun n0 => vizardref02_Sum.W3 n0 (fun y3_0 H => Q (.exit 2) (mkF 35 [(3, (.int .i64 y3_0))]) H) E H)
noncomputable def vizardref02_Sum.W3.plan : Plan := .go
theorem vizardref02_Sum.W3.pok : PlanOk Try.prog vizardref02_Sum.W3.plan (sub [1, 1, 1, 1, 0, 0, 0] vizardref02_Sum.body) := by
  have e : PlanOk Try.prog vizardref02_Sum.W3.plan (sub [1, 1, 1, 1, 0, 0, 0] vizardref02_Sum.body) = (True) := by kernel_rfl
  exact e.mpr trivial
theorem vizardref02_Sum.W3.eq (Q : Ex → Fr → Heap → Prop) (E : Value → Heap → Prop) (RR : Fr → Heap → Prop) (s : Int) (H : Heap) :
    (fun (RR : Int → Heap → Prop) (s : Int) (H : Heap) => vizardref02_Sum.W3.vc s (fun y3_0 H => Q (.exit 2) (mkF 35 [(3, (.int .i64 y3_0))]) H) (fun n0 H => RR (n0) H) E H) (fun s' H' => RR ((fun (s : Int) => (mkF 35 [(3, (.int .i64 s))])) s') H') s H = keepT [3] [] (fun i => if i = 2 then [3] else []) (wC Try.prog vizardref02_Sum.Γ vizardref02_Sum.W3.plan (sub [1, 1, 1, 1, 0, 0, 0] vizardref02_Sum.body)) (fun e fr' H' => match e with | .normal => RR fr' H' | .exit id => Q (.exit id) fr' H' | .ret => Q .ret fr' H') E ((fun (s : Int) => (mkF 35 [(3, (.int .i64 s))])) s) H := by
  kernel_rfl
theorem vizardref02_Sum.W3.ok : SoundCode Try.prog (sub [1, 1, 1, 1, 0, 0] vizardref02_Sum.body) vizardref02_Sum.W3.t := by
  have e : (sub [1, 1, 1, 1, 0, 0] vizardref02_Sum.body) = .loop (sub [1, 1, 1, 1, 0, 0, 0] vizardref02_Sum.body) := by kernel_rfl
  rw [e]
  refine piece_sound (loopN_sound (keepT_sound [3] [] (fun i => if i = 2 then [3] else []) (wC_sound vizardref02_Sum.hΓ Try.hm vizardref02_Sum.W3.plan _ vizardref02_Sum.W3.pok))) ?_
  intro Q E fr H h
  unfold vizardref02_Sum.W3.t at h
  obtain ⟨hl, h⟩ := lenIs_elim h
  obtain ⟨n0, q3, h⟩ := slI_elim h
  obtain ⟨m, h⟩ := h.h
  refine ⟨(mkF 35 [(3, (.int .i64 n0))]), fun a ha => ha.mk (Nat.le_of_eq hl.symm) (List.forall_mem_cons.2 ⟨q3, fun _ h => nomatch h⟩), m, ?_⟩
  have e := loopS_eq (B := (fun (RR : Int → Heap → Prop) (s : Int) (H : Heap) => vizardref02_Sum.W3.vc s (fun y3_0 H => Q (.exit 2) (mkF 35 [(3, (.int .i64 y3_0))]) H) (fun n0 H => RR (n0) H) E H)) (A := keepT [3] [] (fun i => if i = 2 then [3] else []) (wC Try.prog vizardref02_Sum.Γ vizardref02_Sum.W3.plan (sub [1, 1, 1, 1, 0, 0, 0] vizardref02_Sum.body))) (m := (fun (s : Int) => (mkF 35 [(3, (.int .i64 s))]))) (Q := Q) (E := E) (fun RR s H => vizardref02_Sum.W3.eq  Q E RR s H) m (n0) H
  exact cast e h
def vizardref02_Sum.J1.t : CT := fun Q E fr H => lenIs 35 fr (slS fr 0 fun s0 => vizardref02_Sum.J1 s0 (fun y2_0 H => Q .ret (mkF 35 [(2, (.int .i64 y2_0))]) H) E H)
noncomputable def vizardref02_Sum.J1.plan : Plan := .seq (.go) (.seq (.seq (.go) (.block (.use vizardref02_Sum.W2.t))) (.seq (.block (.use vizardref02_Sum.W3.t)) (.go)))
theorem vizardref02_Sum.J1.pok : PlanOk Try.prog vizardref02_Sum.J1.plan (sub [1, 1] vizardref02_Sum.body) := by
  have e : PlanOk Try.prog vizardref02_Sum.J1.plan (sub [1, 1] vizardref02_Sum.body) = ((True) ∧ (((True) ∧ (SoundCode Try.prog (sub [1, 1, 1, 0, 1, 0] vizardref02_Sum.body) vizardref02_Sum.W2.t)) ∧ ((SoundCode Try.prog (sub [1, 1, 1, 1, 0, 0] vizardref02_Sum.body) vizardref02_Sum.W3.t) ∧ (True)))) := by kernel_rfl
  exact e.mpr ⟨trivial, ⟨⟨trivial, vizardref02_Sum.W2.ok⟩, ⟨vizardref02_Sum.W3.ok, trivial⟩⟩⟩
theorem vizardref02_Sum.J1.eq (s0 : ByteArray) (Q : Ex → Fr → Heap → Prop) (E : Value → Heap → Prop) (H : Heap) :
    vizardref02_Sum.J1.vc s0 (fun y2_0 H => Q .ret (mkF 35 [(2, (.int .i64 y2_0))]) H) E H = keepT [] [2] (fun i => []) (wC Try.prog vizardref02_Sum.Γ vizardref02_Sum.J1.plan (sub [1, 1] vizardref02_Sum.body)) Q E (mkF 35 [(0, (.string s0))]) H := by
  kernel_rfl
theorem vizardref02_Sum.J1.ok : SoundCode Try.prog (sub [1, 1] vizardref02_Sum.body) vizardref02_Sum.J1.t := by
  refine piece_sound (keepT_sound [] [2] (fun i => []) (wC_sound vizardref02_Sum.hΓ Try.hm vizardref02_Sum.J1.plan _ vizardref02_Sum.J1.pok)) ?_
  intro Q E fr H h
  unfold vizardref02_Sum.J1.t at h
  obtain ⟨hl, h⟩ := lenIs_elim h
  obtain ⟨s0, q0, h⟩ := slS_elim h
  refine ⟨(mkF 35 [(0, (.string s0))]), fun a ha => ha.mk (Nat.le_of_eq hl.symm) (List.forall_mem_cons.2 ⟨q0, fun _ h => nomatch h⟩), ?_⟩
  have e := vizardref02_Sum.J1.eq s0 Q E H
  rw [← e]
  exact h.h
noncomputable def vizardref02_Sum.plan : Plan := .seq (.go) (.seq (.go) (.use vizardref02_Sum.J1.t))
theorem vizardref02_Sum.pok : PlanOk Try.prog vizardref02_Sum.plan vizardref02_Sum.body := by
  have e : PlanOk Try.prog vizardref02_Sum.plan vizardref02_Sum.body = ((True) ∧ ((True) ∧ (SoundCode Try.prog (sub [1, 1] vizardref02_Sum.body) vizardref02_Sum.J1.t))) := by kernel_rfl
  exact e.mpr ⟨trivial, ⟨trivial, vizardref02_Sum.J1.ok⟩⟩
theorem vizardref02_Sum.eq (s0 : ByteArray) (K : Value → Heap → Prop) (E : Value → Heap → Prop) (H : Heap) :
    fnT Try.prog Try.f65 (wC Try.prog vizardref02_Sum.Γ vizardref02_Sum.plan vizardref02_Sum.body) [(.string s0)] K E H = vizardref02_Sum.vc s0 (fun r0_0 H => K (.int .i64 r0_0) H) E H := by
  kernel_rfl
theorem vizardref02_Sum.Fe {args : List Value} {K E : Value → Heap → Prop} {H : Heap} (h : vizardref02_Sum.F args K E H) : ∃ s0, args = [(.string s0)] ∧ vizardref02_Sum.c s0 (fun r0_0 H => K (.int .i64 r0_0) H) E H := by
  unfold vizardref02_Sum.F at h
  split at h
  · exact ⟨_, rfl, h⟩
  · exact h.elim
theorem vizardref02_Sum.ok : CalleeOk Try.prog 65 vizardref02_Sum.F :=
  callee_ok vizardref02_Sum.hΓ (fn := Try.f65) (c := vizardref02_Sum.body) (T := wC Try.prog vizardref02_Sum.Γ vizardref02_Sum.plan vizardref02_Sum.body) (by kernel_rfl) (by kernel_rfl) (by kernel_rfl) (wC_sound vizardref02_Sum.hΓ Try.hm vizardref02_Sum.plan _ vizardref02_Sum.pok) fun _ K E H h => by
    obtain ⟨z0, e, h⟩ := vizardref02_Sum.Fe h
    subst e
    have h2 : vizardref02_Sum.vc z0 (fun r0_0 H => ∃ H', Heap.Le H' H ∧ K (.int .i64 r0_0) H') E H := h.h
    rw [vizardref02_Sum.eq z0 (Fg K) E H]
    exact h2

/-! vizard/vizardref02.Build -/
noncomputable def vizardref02_Build.body : Code := Try.f42.body.getD .skip
def vizardref02_Build.J1.vc (h0 : Addr) (x0 : Bool) (Kn : Heap → Prop) (Kr : ByteArray → Int → Heap → Prop) (E : Value → Heap → Prop) (h1 : Heap) : Prop :=
  (if x0 = true then
  Kr (⟨#[]⟩ : ByteArray) 2 h1
  else
  Kn h1)
structure vizardref02_Build.J1 (h0 : Addr) (x0 : Bool) (Kn : Heap → Prop) (Kr : ByteArray → Int → Heap → Prop) (E : Value → Heap → Prop) (H : Heap) : Prop where
  h : vizardref02_Build.J1.vc h0 x0 Kn Kr E H
def vizardref02_Build.J2.vc (h0 : Addr) (Kr : ByteArray → Int → Heap → Prop) (E : Value → Heap → Prop) (h1 : Heap) : Prop :=
  ldS h1 (h0.add 7) fun x0 =>
  (if (decide ((x0.size : Int) > 65515)) = true then
  Kr (⟨#[]⟩ : ByteArray) 8 h1
  else
  ldI h1 .i64 (h0.add 0) fun x1 => ldI h1 .i64 (h0.add 1) fun x2 => ldI h1 .i64 (h0.add 2) fun x3 => ldI h1 .i64 (h0.add 3) fun x4 => ldI h1 .i64 (h0.add 4) fun x5 => ldI h1 .u32 (h0.add 5) fun x6 => ldI h1 .u32 (h0.add 6) fun x7 => ldS h1 (h0.add 7) fun x8 =>
  ldI h1 .i64 (h0.add 0) fun x9 => ldI h1 .i64 (h0.add 1) fun x10 => ldI h1 .i64 (h0.add 2) fun x11 => ldI h1 .i64 (h0.add 3) fun x12 => ldI h1 .i64 (h0.add 4) fun x13 => ldI h1 .u32 (h0.add 5) fun x14 => ldI h1 .u32 (h0.add 6) fun x15 => ldS h1 (h0.add 7) fun x16 =>
  ldS h1 (h0.add 7) fun x17 =>
  vizardref02_header.c x9 x10 x11 x12 x13 x14 x15 x16 0 (fun x18 h2 =>
  (ldS h2 (h0.add 7) fun x19 =>
  eqv h2 h2 (some (.string x17)) (.string x19)) ∧
  (ldI h2 .i64 (h0.add 0) fun x20 => ldI h2 .i64 (h0.add 1) fun x21 => ldI h2 .i64 (h0.add 2) fun x22 => ldI h2 .i64 (h0.add 3) fun x23 => ldI h2 .i64 (h0.add 4) fun x24 => ldI h2 .u32 (h0.add 5) fun x25 => ldI h2 .u32 (h0.add 6) fun x26 => ldS h2 (h0.add 7) fun x27 =>
  eqv h2 h2 (some (.agg #[(.int .i64 x1), (.int .i64 x2), (.int .i64 x3), (.int .i64 x4), (.int .i64 x5), (.int .u32 x6), (.int .u32 x7), (.string x8)])) (.agg #[(.int .i64 x20), (.int .i64 x21), (.int .i64 x22), (.int .i64 x23), (.int .i64 x24), (.int .u32 x25), (.int .u32 x26), (.string x27)])) ∧
  vizardref02_Sum.c x18 (fun x28 h3 =>
  (ldS h3 (h0.add 7) fun x29 =>
  eqv h3 h3 (some (.string x17)) (.string x29)) ∧
  (ldI h3 .i64 (h0.add 0) fun x30 => ldI h3 .i64 (h0.add 1) fun x31 => ldI h3 .i64 (h0.add 2) fun x32 => ldI h3 .i64 (h0.add 3) fun x33 => ldI h3 .i64 (h0.add 4) fun x34 => ldI h3 .u32 (h0.add 5) fun x35 => ldI h3 .u32 (h0.add 6) fun x36 => ldS h3 (h0.add 7) fun x37 =>
  eqv h3 h3 (some (.agg #[(.int .i64 x1), (.int .i64 x2), (.int .i64 x3), (.int .i64 x4), (.int .i64 x5), (.int .u32 x6), (.int .u32 x7), (.string x8)])) (.agg #[(.int .i64 x30), (.int .i64 x31), (.int .i64 x32), (.int .i64 x33), (.int .i64 x34), (.int .u32 x35), (.int .u32 x36), (.string x37)])) ∧
  vizardref02_header.c x1 x2 x3 x4 x5 x6 x7 x8 x28 (fun x38 h4 =>
  (ldS h4 (h0.add 7) fun x39 =>
  eqv h4 h4 (some (.string x17)) (.string x39)) ∧
  x38.size + x17.size ≤ 9223372036854775807 ∧
  Kr (x38 ++ x17) 0 h4) E h3) E h2) E h1)
structure vizardref02_Build.J2 (h0 : Addr) (Kr : ByteArray → Int → Heap → Prop) (E : Value → Heap → Prop) (H : Heap) : Prop where
  h : vizardref02_Build.J2.vc h0 Kr E H
def vizardref02_Build.vc (h0 : Int) (h1 : Int) (h2 : Int) (h3 : Int) (h4 : Int) (h5 : Int) (h6 : Int) (h7 : ByteArray) (K : ByteArray → Int → Heap → Prop) (E : Value → Heap → Prop) (h8 : Heap) : Prop :=
  newB (.cells #[(.int .i64 h0), (.int .i64 h1), (.int .i64 h2), (.int .i64 h3), (.int .i64 h4), (.int .u32 h5), (.int .u32 h6), (.string h7)] 58) (fun b0 h9 =>
  ldI h9 .i64 ((⟨b0, 0, none⟩ : Addr).add 0) fun x0 =>
  vizardref02_byteOf.c x0 (fun x1 h10 =>
  (if (!x1) = true then
  vizardref02_Build.J1 (⟨b0, 0, none⟩ : Addr) true (fun h11 =>
  vizardref02_Build.J2 (⟨b0, 0, none⟩ : Addr) K E h11) K E h10
  else
  ldI h10 .i64 ((⟨b0, 0, none⟩ : Addr).add 3) fun x6 =>
  vizardref02_byteOf.c x6 (fun x7 h14 =>
  (if (!x7) = true then
  vizardref02_Build.J1 (⟨b0, 0, none⟩ : Addr) true (fun h15 =>
  vizardref02_Build.J2 (⟨b0, 0, none⟩ : Addr) K E h15) K E h14
  else
  ldI h14 .i64 ((⟨b0, 0, none⟩ : Addr).add 4) fun x12 =>
  vizardref02_byteOf.c x12 (fun x13 h18 =>
  (if (!x13) = true then
  vizardref02_Build.J1 (⟨b0, 0, none⟩ : Addr) true (fun h19 =>
  vizardref02_Build.J2 (⟨b0, 0, none⟩ : Addr) K E h19) K E h18
  else
  ldI h18 .i64 ((⟨b0, 0, none⟩ : Addr).add 1) fun x18 =>
  vizardref02_wordOf.c x18 (fun x19 h22 =>
  (if (!x19) = true then
  vizardref02_Build.J1 (⟨b0, 0, none⟩ : Addr) true (fun h23 =>
  vizardref02_Build.J2 (⟨b0, 0, none⟩ : Addr) K E h23) K E h22
  else
  ldI h22 .i64 ((⟨b0, 0, none⟩ : Addr).add 2) fun x24 =>
  vizardref02_wordOf.c x24 (fun x25 h26 =>
  vizardref02_Build.J1 (⟨b0, 0, none⟩ : Addr) (!x25) (fun h27 =>
  vizardref02_Build.J2 (⟨b0, 0, none⟩ : Addr) K E h27) K E h26) E h22)) E h18)) E h14)) E h10)) E h9) h8
structure vizardref02_Build.c (h0 : Int) (h1 : Int) (h2 : Int) (h3 : Int) (h4 : Int) (h5 : Int) (h6 : Int) (h7 : ByteArray) (K : ByteArray → Int → Heap → Prop) (E : Value → Heap → Prop) (H : Heap) : Prop where
  h : vizardref02_Build.vc h0 h1 h2 h3 h4 h5 h6 h7 (fun r0_0 r1_0 H => ∃ H', Heap.Le H' H ∧ K r0_0 r1_0 H') E H
def vizardref02_Build.F : FT := fun args K E H => match args with
  | [(.agg ⟨[(.int .i64 h0), (.int .i64 h1), (.int .i64 h2), (.int .i64 h3), (.int .i64 h4), (.int .u32 h5), (.int .u32 h6), (.string h7)]⟩)] => vizardref02_Build.c h0 h1 h2 h3 h4 h5 h6 h7 (fun r0_0 r1_0 H => K (.tuple #[(.string r0_0), (.int .i64 r1_0)]) H) E H
  | _ => False
noncomputable def vizardref02_Build.Γ : FuncId → Option FT := Γof [(62, vizardref02_byteOf.F), (63, vizardref02_wordOf.F), (64, vizardref02_header.F), (65, vizardref02_Sum.F)]
theorem vizardref02_Build.hΓ : ∀ f F, vizardref02_Build.Γ f = some F → CalleeOk Try.prog f F := Γof_ok (List.forall_mem_cons.2 ⟨vizardref02_byteOf.ok, List.forall_mem_cons.2 ⟨vizardref02_wordOf.ok, List.forall_mem_cons.2 ⟨vizardref02_header.ok, List.forall_mem_cons.2 ⟨vizardref02_Sum.ok, fun _ h => nomatch h⟩⟩⟩⟩)
def vizardref02_Build.J1.t : CT := fun Q E fr H => lenIs 44 fr (slPA fr 1 fun h0 => slB fr 31 fun x0 => vizardref02_Build.J1 h0 x0 (fun  H => Q .normal (mkF 44 [(1, (.pointer (some h0)))]) H) (fun y2_0 y3_0 H => Q .ret (mkF 44 [(2, (.string y2_0)), (3, (.int .i64 y3_0))]) H) E H)
noncomputable def vizardref02_Build.J1.plan : Plan := .go
theorem vizardref02_Build.J1.pok : PlanOk Try.prog vizardref02_Build.J1.plan (sub [1, 0, 1] vizardref02_Build.body) := by
  have e : PlanOk Try.prog vizardref02_Build.J1.plan (sub [1, 0, 1] vizardref02_Build.body) = (True) := by kernel_rfl
  exact e.mpr trivial
theorem vizardref02_Build.J1.eq (h0 : Addr) (x0 : Bool) (Q : Ex → Fr → Heap → Prop) (E : Value → Heap → Prop) (H : Heap) :
    vizardref02_Build.J1.vc h0 x0 (fun  H => Q .normal (mkF 44 [(1, (.pointer (some h0)))]) H) (fun y2_0 y3_0 H => Q .ret (mkF 44 [(2, (.string y2_0)), (3, (.int .i64 y3_0))]) H) E H = keepT [1] [2, 3] (fun i => []) (wC Try.prog vizardref02_Build.Γ vizardref02_Build.J1.plan (sub [1, 0, 1] vizardref02_Build.body)) Q E (mkF 44 [(1, (.pointer (some h0))), (31, (.bool x0))]) H := by
  kernel_rfl
theorem vizardref02_Build.J1.ok : SoundCode Try.prog (sub [1, 0, 1] vizardref02_Build.body) vizardref02_Build.J1.t := by
  refine piece_sound (keepT_sound [1] [2, 3] (fun i => []) (wC_sound vizardref02_Build.hΓ Try.hm vizardref02_Build.J1.plan _ vizardref02_Build.J1.pok)) ?_
  intro Q E fr H h
  unfold vizardref02_Build.J1.t at h
  obtain ⟨hl, h⟩ := lenIs_elim h
  obtain ⟨h0, q1, h⟩ := slPA_elim h
  obtain ⟨x0, q31, h⟩ := slB_elim h
  refine ⟨(mkF 44 [(1, (.pointer (some h0))), (31, (.bool x0))]), fun a ha => ha.mk (Nat.le_of_eq hl.symm) (List.forall_mem_cons.2 ⟨q1, List.forall_mem_cons.2 ⟨q31, fun _ h => nomatch h⟩⟩), ?_⟩
  have e := vizardref02_Build.J1.eq h0 x0 Q E H
  rw [← e]
  exact h.h
def vizardref02_Build.J2.t : CT := fun Q E fr H => lenIs 44 fr (slPA fr 1 fun h0 => vizardref02_Build.J2 h0 (fun y2_0 y3_0 H => Q .ret (mkF 44 [(2, (.string y2_0)), (3, (.int .i64 y3_0))]) H) E H)
noncomputable def vizardref02_Build.J2.plan : Plan := .seq (.go) (.seq (.draw ⟨[0, 1, 2, 3, 4, 5, 6, 7], (dl [(0, []), (1, []), (5, []), (6, []), (2, [1]), (3, [2, 1]), (4, [0, 3, 2, 1]), (7, [])] .fin), [8, 9]⟩) (.go))
theorem vizardref02_Build.J2.pok : PlanOk Try.prog vizardref02_Build.J2.plan (sub [1, 1] vizardref02_Build.body) := by
  have e : PlanOk Try.prog vizardref02_Build.J2.plan (sub [1, 1] vizardref02_Build.body) = ((True) ∧ ((True) ∧ (True))) := by kernel_rfl
  exact e.mpr ⟨trivial, ⟨trivial, trivial⟩⟩
theorem vizardref02_Build.J2.eq (h0 : Addr) (Q : Ex → Fr → Heap → Prop) (E : Value → Heap → Prop) (H : Heap) :
    vizardref02_Build.J2.vc h0 (fun y2_0 y3_0 H => Q .ret (mkF 44 [(2, (.string y2_0)), (3, (.int .i64 y3_0))]) H) E H = keepT [] [2, 3] (fun i => []) (wC Try.prog vizardref02_Build.Γ vizardref02_Build.J2.plan (sub [1, 1] vizardref02_Build.body)) Q E (mkF 44 [(1, (.pointer (some h0)))]) H := by
  kernel_rfl
theorem vizardref02_Build.J2.ok : SoundCode Try.prog (sub [1, 1] vizardref02_Build.body) vizardref02_Build.J2.t := by
  refine piece_sound (keepT_sound [] [2, 3] (fun i => []) (wC_sound vizardref02_Build.hΓ Try.hm vizardref02_Build.J2.plan _ vizardref02_Build.J2.pok)) ?_
  intro Q E fr H h
  unfold vizardref02_Build.J2.t at h
  obtain ⟨hl, h⟩ := lenIs_elim h
  obtain ⟨h0, q1, h⟩ := slPA_elim h
  refine ⟨(mkF 44 [(1, (.pointer (some h0)))]), fun a ha => ha.mk (Nat.le_of_eq hl.symm) (List.forall_mem_cons.2 ⟨q1, fun _ h => nomatch h⟩), ?_⟩
  have e := vizardref02_Build.J2.eq h0 Q E H
  rw [← e]
  exact h.h
noncomputable def vizardref02_Build.plan : Plan := .seq (.go) (.seq (.seq (.go) (.use vizardref02_Build.J1.t)) (.use vizardref02_Build.J2.t))
theorem vizardref02_Build.pok : PlanOk Try.prog vizardref02_Build.plan vizardref02_Build.body := by
  have e : PlanOk Try.prog vizardref02_Build.plan vizardref02_Build.body = ((True) ∧ (((True) ∧ (SoundCode Try.prog (sub [1, 0, 1] vizardref02_Build.body) vizardref02_Build.J1.t)) ∧ (SoundCode Try.prog (sub [1, 1] vizardref02_Build.body) vizardref02_Build.J2.t))) := by kernel_rfl
  exact e.mpr ⟨trivial, ⟨⟨trivial, vizardref02_Build.J1.ok⟩, vizardref02_Build.J2.ok⟩⟩
theorem vizardref02_Build.eq (h0 : Int) (h1 : Int) (h2 : Int) (h3 : Int) (h4 : Int) (h5 : Int) (h6 : Int) (h7 : ByteArray) (K : Value → Heap → Prop) (E : Value → Heap → Prop) (H : Heap) :
    fnT Try.prog Try.f42 (wC Try.prog vizardref02_Build.Γ vizardref02_Build.plan vizardref02_Build.body) [(.agg #[(.int .i64 h0), (.int .i64 h1), (.int .i64 h2), (.int .i64 h3), (.int .i64 h4), (.int .u32 h5), (.int .u32 h6), (.string h7)])] K E H = vizardref02_Build.vc h0 h1 h2 h3 h4 h5 h6 h7 (fun r0_0 r1_0 H => K (.tuple #[(.string r0_0), (.int .i64 r1_0)]) H) E H := by
  kernel_rfl
theorem vizardref02_Build.Fe {args : List Value} {K E : Value → Heap → Prop} {H : Heap} (h : vizardref02_Build.F args K E H) : ∃ h0 h1 h2 h3 h4 h5 h6 h7, args = [(.agg #[(.int .i64 h0), (.int .i64 h1), (.int .i64 h2), (.int .i64 h3), (.int .i64 h4), (.int .u32 h5), (.int .u32 h6), (.string h7)])] ∧ vizardref02_Build.c h0 h1 h2 h3 h4 h5 h6 h7 (fun r0_0 r1_0 H => K (.tuple #[(.string r0_0), (.int .i64 r1_0)]) H) E H := by
  unfold vizardref02_Build.F at h
  split at h
  · exact ⟨_, _, _, _, _, _, _, _, rfl, h⟩
  · exact h.elim
theorem vizardref02_Build.ok : CalleeOk Try.prog 42 vizardref02_Build.F :=
  callee_ok vizardref02_Build.hΓ (fn := Try.f42) (c := vizardref02_Build.body) (T := wC Try.prog vizardref02_Build.Γ vizardref02_Build.plan vizardref02_Build.body) (by kernel_rfl) (by kernel_rfl) (by kernel_rfl) (wC_sound vizardref02_Build.hΓ Try.hm vizardref02_Build.plan _ vizardref02_Build.pok) fun _ K E H h => by
    obtain ⟨z0, z1, z2, z3, z4, z5, z6, z7, e, h⟩ := vizardref02_Build.Fe h
    subst e
    have h2 : vizardref02_Build.vc z0 z1 z2 z3 z4 z5 z6 z7 (fun r0_0 r1_0 H => ∃ H', Heap.Le H' H ∧ K (.tuple #[(.string r0_0), (.int .i64 r1_0)]) H') E H := h.h
    rw [vizardref02_Build.eq z0 z1 z2 z3 z4 z5 z6 z7 (Fg K) E H]
    exact h2

/-! vizard/vizardref02.Parse -/
noncomputable def vizardref02_Parse.body : Code := Try.f25.body.getD .skip
def vizardref02_Parse.J1.vc (s0 : ByteArray) (x0 : Addr) (n0 : Int) (x1 : Bool) (Kn : Heap → Prop) (Kr : Int → Heap → Prop) (E : Value → Heap → Prop) (h0 : Heap) : Prop :=
  (if x1 = true then
  stc h0 (x0.add 0) (.int .i64 0) fun h1 =>
  stc h1 (x0.add 1) (.int .i64 0) fun h2 =>
  stc h2 (x0.add 2) (.int .i64 0) fun h3 =>
  stc h3 (x0.add 3) (.int .i64 0) fun h4 =>
  stc h4 (x0.add 4) (.int .i64 0) fun h5 =>
  stc h5 (x0.add 5) (.int .u32 0) fun h6 =>
  stc h6 (x0.add 6) (.int .u32 0) fun h7 =>
  stc h7 (x0.add 7) (.string (⟨#[]⟩ : ByteArray)) fun h8 =>
  Kr 1 h8
  else
  (if (decide ((s0.size : Int) > n0)) = true then
  stc h0 (x0.add 0) (.int .i64 0) fun h9 =>
  stc h9 (x0.add 1) (.int .i64 0) fun h10 =>
  stc h10 (x0.add 2) (.int .i64 0) fun h11 =>
  stc h11 (x0.add 3) (.int .i64 0) fun h12 =>
  stc h12 (x0.add 4) (.int .i64 0) fun h13 =>
  stc h13 (x0.add 5) (.int .u32 0) fun h14 =>
  stc h14 (x0.add 6) (.int .u32 0) fun h15 =>
  stc h15 (x0.add 7) (.string (⟨#[]⟩ : ByteArray)) fun h16 =>
  Kr 6 h16
  else
  Kn h0))
structure vizardref02_Parse.J1 (s0 : ByteArray) (x0 : Addr) (n0 : Int) (x1 : Bool) (Kn : Heap → Prop) (Kr : Int → Heap → Prop) (E : Value → Heap → Prop) (H : Heap) : Prop where
  h : vizardref02_Parse.J1.vc s0 x0 n0 x1 Kn Kr E H
def vizardref02_Parse.J3.vc (s0 : ByteArray) (x0 : Addr) (h0 : Addr) (Kr : Int → Heap → Prop) (E : Value → Heap → Prop) (h1 : Heap) : Prop :=
  ldI h1 .i64 (h0.add 0) fun x1 => ldI h1 .i64 (h0.add 1) fun x2 => ldI h1 .i64 (h0.add 2) fun x3 => ldI h1 .i64 (h0.add 3) fun x4 => ldI h1 .i64 (h0.add 4) fun x5 => ldI h1 .u32 (h0.add 5) fun x6 => ldI h1 .u32 (h0.add 6) fun x7 => ldS h1 (h0.add 7) fun x8 =>
  vizardref02_Build.c x1 x2 x3 x4 x5 x6 x7 x8 (fun x9 x10 h2 =>
  (if (!(x9.toList == s0.toList)) = true then
  stc h2 (x0.add 0) (.int .i64 0) fun h3 =>
  stc h3 (x0.add 1) (.int .i64 0) fun h4 =>
  stc h4 (x0.add 2) (.int .i64 0) fun h5 =>
  stc h5 (x0.add 3) (.int .i64 0) fun h6 =>
  stc h6 (x0.add 4) (.int .i64 0) fun h7 =>
  stc h7 (x0.add 5) (.int .u32 0) fun h8 =>
  stc h8 (x0.add 6) (.int .u32 0) fun h9 =>
  stc h9 (x0.add 7) (.string (⟨#[]⟩ : ByteArray)) fun h10 =>
  Kr 9 h10
  else
  ldI h2 .i64 (h0.add 0) fun x11 => ldI h2 .i64 (h0.add 1) fun x12 => ldI h2 .i64 (h0.add 2) fun x13 => ldI h2 .i64 (h0.add 3) fun x14 => ldI h2 .i64 (h0.add 4) fun x15 => ldI h2 .u32 (h0.add 5) fun x16 => ldI h2 .u32 (h0.add 6) fun x17 => ldS h2 (h0.add 7) fun x18 =>
  stc h2 (x0.add 0) (.int .i64 x11) fun h11 =>
  stc h11 (x0.add 1) (.int .i64 x12) fun h12 =>
  stc h12 (x0.add 2) (.int .i64 x13) fun h13 =>
  stc h13 (x0.add 3) (.int .i64 x14) fun h14 =>
  stc h14 (x0.add 4) (.int .i64 x15) fun h15 =>
  stc h15 (x0.add 5) (.int .u32 x16) fun h16 =>
  stc h16 (x0.add 6) (.int .u32 x17) fun h17 =>
  stc h17 (x0.add 7) (.string x18) fun h18 =>
  Kr 0 h18)) E h1
structure vizardref02_Parse.J3 (s0 : ByteArray) (x0 : Addr) (h0 : Addr) (Kr : Int → Heap → Prop) (E : Value → Heap → Prop) (H : Heap) : Prop where
  h : vizardref02_Parse.J3.vc s0 x0 h0 Kr E H
def vizardref02_Parse.J2.vc (s0 : ByteArray) (x0 : Addr) (Kr : Int → Heap → Prop) (E : Value → Heap → Prop) (h0 : Heap) : Prop :=
  (0 : Int) ≤ 1 ∧ 1 < (s0.size : Int) ∧
  (0 : Int) ≤ 4 ∧ 4 ≤ (6 : Int) ∧ 6 ≤ (s0.size : Int) ∧
  (0 : Int) ≤ 6 ∧ 6 ≤ (8 : Int) ∧ 8 ≤ (s0.size : Int) ∧
  (0 : Int) ≤ 8 ∧ 8 < (s0.size : Int) ∧
  (0 : Int) ≤ 9 ∧ 9 < (s0.size : Int) ∧
  (0 : Int) ≤ 12 ∧ 12 ≤ (16 : Int) ∧ 16 ≤ (s0.size : Int) ∧
  (0 : Int) ≤ 16 ∧ 16 ≤ (20 : Int) ∧ 20 ≤ (s0.size : Int) ∧
  (0 : Int) ≤ 20 ∧ 20 ≤ (s0.size : Int) ∧ s0.size ≤ s0.size ∧
  (vizardref01_Number.c (s0.extract 4 6) (fun x1 h1 =>
  (eqv h1 h1 (some (.int .i64 (IntKind.i64.wrap (bt s0 9)))) (.int .i64 (IntKind.i64.wrap (bt s0 9)))) ∧
  (eqv h1 h1 (some (.int .i64 (IntKind.i64.wrap (bt s0 8)))) (.int .i64 (IntKind.i64.wrap (bt s0 8)))) ∧
  (eqv h1 h1 (some (.int .i64 (IntKind.i64.wrap (bt s0 1)))) (.int .i64 (IntKind.i64.wrap (bt s0 1)))) ∧
  (vizardref01_Number.c (s0.extract 6 8) (fun x2 h2 =>
  (eqv h2 h2 (some (.int .i64 (IntKind.i64.wrap (bt s0 9)))) (.int .i64 (IntKind.i64.wrap (bt s0 9)))) ∧
  (eqv h2 h2 (some (.int .i64 (IntKind.i64.wrap (bt s0 8)))) (.int .i64 (IntKind.i64.wrap (bt s0 8)))) ∧
  (eqv h2 h2 (some (.int .i64 (IntKind.i64.wrap (bt s0 1)))) (.int .i64 (IntKind.i64.wrap (bt s0 1)))) ∧
  (vizardref01_Number.c (s0.extract 12 16) (fun x3 h3 =>
  (eqv h3 h3 (some (.int .i64 (IntKind.i64.wrap (bt s0 9)))) (.int .i64 (IntKind.i64.wrap (bt s0 9)))) ∧
  (eqv h3 h3 (some (.int .i64 (IntKind.i64.wrap (bt s0 8)))) (.int .i64 (IntKind.i64.wrap (bt s0 8)))) ∧
  (eqv h3 h3 (some (.int .i64 (IntKind.i64.wrap (bt s0 1)))) (.int .i64 (IntKind.i64.wrap (bt s0 1)))) ∧
  (vizardref01_Number.c (s0.extract 16 20) (fun x4 h4 =>
  (eqv h4 h4 (some (.int .u32 (IntKind.u32.wrap x3))) (.int .u32 (IntKind.u32.wrap x3))) ∧
  (eqv h4 h4 (some (.int .i64 (IntKind.i64.wrap (bt s0 9)))) (.int .i64 (IntKind.i64.wrap (bt s0 9)))) ∧
  (eqv h4 h4 (some (.int .i64 (IntKind.i64.wrap (bt s0 8)))) (.int .i64 (IntKind.i64.wrap (bt s0 8)))) ∧
  (eqv h4 h4 (some (.int .i64 (IntKind.i64.wrap (bt s0 1)))) (.int .i64 (IntKind.i64.wrap (bt s0 1)))) ∧
  newB (.cells #[(.int .i64 0), (.int .i64 0), (.int .i64 0), (.int .i64 0), (.int .i64 0), (.int .u32 0), (.int .u32 0), (.string (⟨#[]⟩ : ByteArray))] 58) (fun b0 h5 =>
  (eqv h5 h5 (some (.int .u32 (IntKind.u32.wrap x4))) (.int .u32 (IntKind.u32.wrap x4))) ∧
  (eqv h5 h5 (some (.int .u32 (IntKind.u32.wrap x3))) (.int .u32 (IntKind.u32.wrap x3))) ∧
  (eqv h5 h5 (some (.int .i64 (IntKind.i64.wrap (bt s0 9)))) (.int .i64 (IntKind.i64.wrap (bt s0 9)))) ∧
  (eqv h5 h5 (some (.int .i64 (IntKind.i64.wrap (bt s0 8)))) (.int .i64 (IntKind.i64.wrap (bt s0 8)))) ∧
  (eqv h5 h5 (some (.int .i64 (IntKind.i64.wrap (bt s0 1)))) (.int .i64 (IntKind.i64.wrap (bt s0 1)))) ∧
  stc h5 ((⟨b0, 0, none⟩ : Addr).add 0) (.int .i64 (IntKind.i64.wrap (bt s0 1))) fun h6 =>
  stc h6 ((⟨b0, 0, none⟩ : Addr).add 1) (.int .i64 x1) fun h7 =>
  stc h7 ((⟨b0, 0, none⟩ : Addr).add 2) (.int .i64 x2) fun h8 =>
  stc h8 ((⟨b0, 0, none⟩ : Addr).add 3) (.int .i64 (IntKind.i64.wrap (bt s0 8))) fun h9 =>
  stc h9 ((⟨b0, 0, none⟩ : Addr).add 4) (.int .i64 (IntKind.i64.wrap (bt s0 9))) fun h10 =>
  stc h10 ((⟨b0, 0, none⟩ : Addr).add 5) (.int .u32 (IntKind.u32.wrap x3)) fun h11 =>
  stc h11 ((⟨b0, 0, none⟩ : Addr).add 6) (.int .u32 (IntKind.u32.wrap x4)) fun h12 =>
  stc h12 ((⟨b0, 0, none⟩ : Addr).add 7) (.string (s0.extract 20 s0.size)) fun h13 =>
  vizardref02_Parse.J3 s0 x0 (⟨b0, 0, none⟩ : Addr) Kr E h13) h4) E h3) ∧
  newB (.cells #[(.int .i64 0), (.int .i64 0), (.int .i64 0), (.int .i64 0), (.int .i64 0), (.int .u32 0), (.int .u32 0), (.string (⟨#[]⟩ : ByteArray))] 58) (fun b1 h15 =>
  (eqv h15 h15 (some (.int .u32 (IntKind.u32.wrap x3))) (.int .u32 (IntKind.u32.wrap x3))) ∧
  (eqv h15 h15 (some (.int .i64 (IntKind.i64.wrap (bt s0 9)))) (.int .i64 (IntKind.i64.wrap (bt s0 9)))) ∧
  (eqv h15 h15 (some (.int .i64 (IntKind.i64.wrap (bt s0 8)))) (.int .i64 (IntKind.i64.wrap (bt s0 8)))) ∧
  (eqv h15 h15 (some (.int .i64 (IntKind.i64.wrap (bt s0 1)))) (.int .i64 (IntKind.i64.wrap (bt s0 1)))) ∧
  vizardref01_Number.c (s0.extract 16 20) (fun x6 h16 =>
  (eqv h16 h16 (some (.int .u32 (IntKind.u32.wrap x3))) (.int .u32 (IntKind.u32.wrap x3))) ∧
  (eqv h16 h16 (some (.int .i64 (IntKind.i64.wrap (bt s0 9)))) (.int .i64 (IntKind.i64.wrap (bt s0 9)))) ∧
  (eqv h16 h16 (some (.int .i64 (IntKind.i64.wrap (bt s0 8)))) (.int .i64 (IntKind.i64.wrap (bt s0 8)))) ∧
  (eqv h16 h16 (some (.int .i64 (IntKind.i64.wrap (bt s0 1)))) (.int .i64 (IntKind.i64.wrap (bt s0 1)))) ∧
  stc h16 ((⟨b1, 0, none⟩ : Addr).add 0) (.int .i64 (IntKind.i64.wrap (bt s0 1))) fun h17 =>
  stc h17 ((⟨b1, 0, none⟩ : Addr).add 1) (.int .i64 x1) fun h18 =>
  stc h18 ((⟨b1, 0, none⟩ : Addr).add 2) (.int .i64 x2) fun h19 =>
  stc h19 ((⟨b1, 0, none⟩ : Addr).add 3) (.int .i64 (IntKind.i64.wrap (bt s0 8))) fun h20 =>
  stc h20 ((⟨b1, 0, none⟩ : Addr).add 4) (.int .i64 (IntKind.i64.wrap (bt s0 9))) fun h21 =>
  stc h21 ((⟨b1, 0, none⟩ : Addr).add 5) (.int .u32 (IntKind.u32.wrap x3)) fun h22 =>
  stc h22 ((⟨b1, 0, none⟩ : Addr).add 6) (.int .u32 (IntKind.u32.wrap x6)) fun h23 =>
  stc h23 ((⟨b1, 0, none⟩ : Addr).add 7) (.string (s0.extract 20 s0.size)) fun h24 =>
  vizardref02_Parse.J3 s0 x0 (⟨b1, 0, none⟩ : Addr) Kr E h24) E h15) h3) E h2) ∧
  newB (.cells #[(.int .i64 0), (.int .i64 0), (.int .i64 0), (.int .i64 0), (.int .i64 0), (.int .u32 0), (.int .u32 0), (.string (⟨#[]⟩ : ByteArray))] 58) (fun b2 h26 =>
  (eqv h26 h26 (some (.int .i64 (IntKind.i64.wrap (bt s0 9)))) (.int .i64 (IntKind.i64.wrap (bt s0 9)))) ∧
  (eqv h26 h26 (some (.int .i64 (IntKind.i64.wrap (bt s0 8)))) (.int .i64 (IntKind.i64.wrap (bt s0 8)))) ∧
  (eqv h26 h26 (some (.int .i64 (IntKind.i64.wrap (bt s0 1)))) (.int .i64 (IntKind.i64.wrap (bt s0 1)))) ∧
  vizardref01_Number.c (s0.extract 12 16) (fun x8 h27 =>
  (eqv h27 h27 (some (.int .i64 (IntKind.i64.wrap (bt s0 9)))) (.int .i64 (IntKind.i64.wrap (bt s0 9)))) ∧
  (eqv h27 h27 (some (.int .i64 (IntKind.i64.wrap (bt s0 8)))) (.int .i64 (IntKind.i64.wrap (bt s0 8)))) ∧
  (eqv h27 h27 (some (.int .i64 (IntKind.i64.wrap (bt s0 1)))) (.int .i64 (IntKind.i64.wrap (bt s0 1)))) ∧
  vizardref01_Number.c (s0.extract 16 20) (fun x9 h28 =>
  (eqv h28 h28 (some (.int .u32 (IntKind.u32.wrap x8))) (.int .u32 (IntKind.u32.wrap x8))) ∧
  (eqv h28 h28 (some (.int .i64 (IntKind.i64.wrap (bt s0 9)))) (.int .i64 (IntKind.i64.wrap (bt s0 9)))) ∧
  (eqv h28 h28 (some (.int .i64 (IntKind.i64.wrap (bt s0 8)))) (.int .i64 (IntKind.i64.wrap (bt s0 8)))) ∧
  (eqv h28 h28 (some (.int .i64 (IntKind.i64.wrap (bt s0 1)))) (.int .i64 (IntKind.i64.wrap (bt s0 1)))) ∧
  stc h28 ((⟨b2, 0, none⟩ : Addr).add 0) (.int .i64 (IntKind.i64.wrap (bt s0 1))) fun h29 =>
  stc h29 ((⟨b2, 0, none⟩ : Addr).add 1) (.int .i64 x1) fun h30 =>
  stc h30 ((⟨b2, 0, none⟩ : Addr).add 2) (.int .i64 x2) fun h31 =>
  stc h31 ((⟨b2, 0, none⟩ : Addr).add 3) (.int .i64 (IntKind.i64.wrap (bt s0 8))) fun h32 =>
  stc h32 ((⟨b2, 0, none⟩ : Addr).add 4) (.int .i64 (IntKind.i64.wrap (bt s0 9))) fun h33 =>
  stc h33 ((⟨b2, 0, none⟩ : Addr).add 5) (.int .u32 (IntKind.u32.wrap x8)) fun h34 =>
  stc h34 ((⟨b2, 0, none⟩ : Addr).add 6) (.int .u32 (IntKind.u32.wrap x9)) fun h35 =>
  stc h35 ((⟨b2, 0, none⟩ : Addr).add 7) (.string (s0.extract 20 s0.size)) fun h36 =>
  vizardref02_Parse.J3 s0 x0 (⟨b2, 0, none⟩ : Addr) Kr E h36) E h27) E h26) h2) E h1) ∧
  newB (.cells #[(.int .i64 0), (.int .i64 0), (.int .i64 0), (.int .i64 0), (.int .i64 0), (.int .u32 0), (.int .u32 0), (.string (⟨#[]⟩ : ByteArray))] 58) (fun b3 h38 =>
  (eqv h38 h38 (some (.int .i64 (IntKind.i64.wrap (bt s0 9)))) (.int .i64 (IntKind.i64.wrap (bt s0 9)))) ∧
  (eqv h38 h38 (some (.int .i64 (IntKind.i64.wrap (bt s0 8)))) (.int .i64 (IntKind.i64.wrap (bt s0 8)))) ∧
  (eqv h38 h38 (some (.int .i64 (IntKind.i64.wrap (bt s0 1)))) (.int .i64 (IntKind.i64.wrap (bt s0 1)))) ∧
  vizardref01_Number.c (s0.extract 6 8) (fun x11 h39 =>
  (eqv h39 h39 (some (.int .i64 (IntKind.i64.wrap (bt s0 9)))) (.int .i64 (IntKind.i64.wrap (bt s0 9)))) ∧
  (eqv h39 h39 (some (.int .i64 (IntKind.i64.wrap (bt s0 8)))) (.int .i64 (IntKind.i64.wrap (bt s0 8)))) ∧
  (eqv h39 h39 (some (.int .i64 (IntKind.i64.wrap (bt s0 1)))) (.int .i64 (IntKind.i64.wrap (bt s0 1)))) ∧
  vizardref01_Number.c (s0.extract 12 16) (fun x12 h40 =>
  (eqv h40 h40 (some (.int .i64 (IntKind.i64.wrap (bt s0 9)))) (.int .i64 (IntKind.i64.wrap (bt s0 9)))) ∧
  (eqv h40 h40 (some (.int .i64 (IntKind.i64.wrap (bt s0 8)))) (.int .i64 (IntKind.i64.wrap (bt s0 8)))) ∧
  (eqv h40 h40 (some (.int .i64 (IntKind.i64.wrap (bt s0 1)))) (.int .i64 (IntKind.i64.wrap (bt s0 1)))) ∧
  vizardref01_Number.c (s0.extract 16 20) (fun x13 h41 =>
  (eqv h41 h41 (some (.int .u32 (IntKind.u32.wrap x12))) (.int .u32 (IntKind.u32.wrap x12))) ∧
  (eqv h41 h41 (some (.int .i64 (IntKind.i64.wrap (bt s0 9)))) (.int .i64 (IntKind.i64.wrap (bt s0 9)))) ∧
  (eqv h41 h41 (some (.int .i64 (IntKind.i64.wrap (bt s0 8)))) (.int .i64 (IntKind.i64.wrap (bt s0 8)))) ∧
  (eqv h41 h41 (some (.int .i64 (IntKind.i64.wrap (bt s0 1)))) (.int .i64 (IntKind.i64.wrap (bt s0 1)))) ∧
  stc h41 ((⟨b3, 0, none⟩ : Addr).add 0) (.int .i64 (IntKind.i64.wrap (bt s0 1))) fun h42 =>
  stc h42 ((⟨b3, 0, none⟩ : Addr).add 1) (.int .i64 x1) fun h43 =>
  stc h43 ((⟨b3, 0, none⟩ : Addr).add 2) (.int .i64 x11) fun h44 =>
  stc h44 ((⟨b3, 0, none⟩ : Addr).add 3) (.int .i64 (IntKind.i64.wrap (bt s0 8))) fun h45 =>
  stc h45 ((⟨b3, 0, none⟩ : Addr).add 4) (.int .i64 (IntKind.i64.wrap (bt s0 9))) fun h46 =>
  stc h46 ((⟨b3, 0, none⟩ : Addr).add 5) (.int .u32 (IntKind.u32.wrap x12)) fun h47 =>
  stc h47 ((⟨b3, 0, none⟩ : Addr).add 6) (.int .u32 (IntKind.u32.wrap x13)) fun h48 =>
  stc h48 ((⟨b3, 0, none⟩ : Addr).add 7) (.string (s0.extract 20 s0.size)) fun h49 =>
  vizardref02_Parse.J3 s0 x0 (⟨b3, 0, none⟩ : Addr) Kr E h49) E h40) E h39) E h38) h1) E h0) ∧
  newB (.cells #[(.int .i64 0), (.int .i64 0), (.int .i64 0), (.int .i64 0), (.int .i64 0), (.int .u32 0), (.int .u32 0), (.string (⟨#[]⟩ : ByteArray))] 58) (fun b4 h51 =>
  (eqv h51 h51 (some (.int .i64 (IntKind.i64.wrap (bt s0 9)))) (.int .i64 (IntKind.i64.wrap (bt s0 9)))) ∧
  (eqv h51 h51 (some (.int .i64 (IntKind.i64.wrap (bt s0 8)))) (.int .i64 (IntKind.i64.wrap (bt s0 8)))) ∧
  (eqv h51 h51 (some (.int .i64 (IntKind.i64.wrap (bt s0 1)))) (.int .i64 (IntKind.i64.wrap (bt s0 1)))) ∧
  vizardref01_Number.c (s0.extract 4 6) (fun x15 h52 =>
  (eqv h52 h52 (some (.int .i64 (IntKind.i64.wrap (bt s0 9)))) (.int .i64 (IntKind.i64.wrap (bt s0 9)))) ∧
  (eqv h52 h52 (some (.int .i64 (IntKind.i64.wrap (bt s0 8)))) (.int .i64 (IntKind.i64.wrap (bt s0 8)))) ∧
  (eqv h52 h52 (some (.int .i64 (IntKind.i64.wrap (bt s0 1)))) (.int .i64 (IntKind.i64.wrap (bt s0 1)))) ∧
  vizardref01_Number.c (s0.extract 6 8) (fun x16 h53 =>
  (eqv h53 h53 (some (.int .i64 (IntKind.i64.wrap (bt s0 9)))) (.int .i64 (IntKind.i64.wrap (bt s0 9)))) ∧
  (eqv h53 h53 (some (.int .i64 (IntKind.i64.wrap (bt s0 8)))) (.int .i64 (IntKind.i64.wrap (bt s0 8)))) ∧
  (eqv h53 h53 (some (.int .i64 (IntKind.i64.wrap (bt s0 1)))) (.int .i64 (IntKind.i64.wrap (bt s0 1)))) ∧
  vizardref01_Number.c (s0.extract 12 16) (fun x17 h54 =>
  (eqv h54 h54 (some (.int .i64 (IntKind.i64.wrap (bt s0 9)))) (.int .i64 (IntKind.i64.wrap (bt s0 9)))) ∧
  (eqv h54 h54 (some (.int .i64 (IntKind.i64.wrap (bt s0 8)))) (.int .i64 (IntKind.i64.wrap (bt s0 8)))) ∧
  (eqv h54 h54 (some (.int .i64 (IntKind.i64.wrap (bt s0 1)))) (.int .i64 (IntKind.i64.wrap (bt s0 1)))) ∧
  vizardref01_Number.c (s0.extract 16 20) (fun x18 h55 =>
  (eqv h55 h55 (some (.int .u32 (IntKind.u32.wrap x17))) (.int .u32 (IntKind.u32.wrap x17))) ∧
  (eqv h55 h55 (some (.int .i64 (IntKind.i64.wrap (bt s0 9)))) (.int .i64 (IntKind.i64.wrap (bt s0 9)))) ∧
  (eqv h55 h55 (some (.int .i64 (IntKind.i64.wrap (bt s0 8)))) (.int .i64 (IntKind.i64.wrap (bt s0 8)))) ∧
  (eqv h55 h55 (some (.int .i64 (IntKind.i64.wrap (bt s0 1)))) (.int .i64 (IntKind.i64.wrap (bt s0 1)))) ∧
  stc h55 ((⟨b4, 0, none⟩ : Addr).add 0) (.int .i64 (IntKind.i64.wrap (bt s0 1))) fun h56 =>
  stc h56 ((⟨b4, 0, none⟩ : Addr).add 1) (.int .i64 x15) fun h57 =>
  stc h57 ((⟨b4, 0, none⟩ : Addr).add 2) (.int .i64 x16) fun h58 =>
  stc h58 ((⟨b4, 0, none⟩ : Addr).add 3) (.int .i64 (IntKind.i64.wrap (bt s0 8))) fun h59 =>
  stc h59 ((⟨b4, 0, none⟩ : Addr).add 4) (.int .i64 (IntKind.i64.wrap (bt s0 9))) fun h60 =>
  stc h60 ((⟨b4, 0, none⟩ : Addr).add 5) (.int .u32 (IntKind.u32.wrap x17)) fun h61 =>
  stc h61 ((⟨b4, 0, none⟩ : Addr).add 6) (.int .u32 (IntKind.u32.wrap x18)) fun h62 =>
  stc h62 ((⟨b4, 0, none⟩ : Addr).add 7) (.string (s0.extract 20 s0.size)) fun h63 =>
  vizardref02_Parse.J3 s0 x0 (⟨b4, 0, none⟩ : Addr) Kr E h63) E h54) E h53) E h52) E h51) h0
structure vizardref02_Parse.J2 (s0 : ByteArray) (x0 : Addr) (Kr : Int → Heap → Prop) (E : Value → Heap → Prop) (H : Heap) : Prop where
  h : vizardref02_Parse.J2.vc s0 x0 Kr E H
def vizardref02_Parse.vc (s0 : ByteArray) (K : Int → Int → Int → Int → Int → Int → Int → ByteArray → Int → Heap → Prop) (E : Value → Heap → Prop) (h0 : Heap) : Prop :=
  newB (.cells #[(.int .i64 0), (.int .i64 0), (.int .i64 0), (.int .i64 0), (.int .i64 0), (.int .u32 0), (.int .u32 0), (.string (⟨#[]⟩ : ByteArray))] 58) (fun b0 h1 =>
  (if (decide ((s0.size : Int) < 20)) = true then
  stc h1 ((⟨b0, 0, none⟩ : Addr).add 0) (.int .i64 0) fun h2 =>
  stc h2 ((⟨b0, 0, none⟩ : Addr).add 1) (.int .i64 0) fun h3 =>
  stc h3 ((⟨b0, 0, none⟩ : Addr).add 2) (.int .i64 0) fun h4 =>
  stc h4 ((⟨b0, 0, none⟩ : Addr).add 3) (.int .i64 0) fun h5 =>
  stc h5 ((⟨b0, 0, none⟩ : Addr).add 4) (.int .i64 0) fun h6 =>
  stc h6 ((⟨b0, 0, none⟩ : Addr).add 5) (.int .u32 0) fun h7 =>
  stc h7 ((⟨b0, 0, none⟩ : Addr).add 6) (.int .u32 0) fun h8 =>
  stc h8 ((⟨b0, 0, none⟩ : Addr).add 7) (.string (⟨#[]⟩ : ByteArray)) fun h9 =>
  ldI h9 .i64 ((⟨b0, 0, none⟩ : Addr).add 0) fun r0 => ldI h9 .i64 ((⟨b0, 0, none⟩ : Addr).add 1) fun r1 => ldI h9 .i64 ((⟨b0, 0, none⟩ : Addr).add 2) fun r2 => ldI h9 .i64 ((⟨b0, 0, none⟩ : Addr).add 3) fun r3 => ldI h9 .i64 ((⟨b0, 0, none⟩ : Addr).add 4) fun r4 => ldI h9 .u32 ((⟨b0, 0, none⟩ : Addr).add 5) fun r5 => ldI h9 .u32 ((⟨b0, 0, none⟩ : Addr).add 6) fun r6 => ldS h9 ((⟨b0, 0, none⟩ : Addr).add 7) fun r7 =>
  K r0 r1 r2 r3 r4 r5 r6 r7 1 h9
  else
  (0 : Int) ≤ 0 ∧ 0 < (s0.size : Int) ∧
  (if ((bt s0 0) != 69) = true then
  stc h1 ((⟨b0, 0, none⟩ : Addr).add 0) (.int .i64 0) fun h10 =>
  stc h10 ((⟨b0, 0, none⟩ : Addr).add 1) (.int .i64 0) fun h11 =>
  stc h11 ((⟨b0, 0, none⟩ : Addr).add 2) (.int .i64 0) fun h12 =>
  stc h12 ((⟨b0, 0, none⟩ : Addr).add 3) (.int .i64 0) fun h13 =>
  stc h13 ((⟨b0, 0, none⟩ : Addr).add 4) (.int .i64 0) fun h14 =>
  stc h14 ((⟨b0, 0, none⟩ : Addr).add 5) (.int .u32 0) fun h15 =>
  stc h15 ((⟨b0, 0, none⟩ : Addr).add 6) (.int .u32 0) fun h16 =>
  stc h16 ((⟨b0, 0, none⟩ : Addr).add 7) (.string (⟨#[]⟩ : ByteArray)) fun h17 =>
  ldI h17 .i64 ((⟨b0, 0, none⟩ : Addr).add 0) fun r8 => ldI h17 .i64 ((⟨b0, 0, none⟩ : Addr).add 1) fun r9 => ldI h17 .i64 ((⟨b0, 0, none⟩ : Addr).add 2) fun r10 => ldI h17 .i64 ((⟨b0, 0, none⟩ : Addr).add 3) fun r11 => ldI h17 .i64 ((⟨b0, 0, none⟩ : Addr).add 4) fun r12 => ldI h17 .u32 ((⟨b0, 0, none⟩ : Addr).add 5) fun r13 => ldI h17 .u32 ((⟨b0, 0, none⟩ : Addr).add 6) fun r14 => ldS h17 ((⟨b0, 0, none⟩ : Addr).add 7) fun r15 =>
  K r8 r9 r10 r11 r12 r13 r14 r15 3 h17
  else
  (0 : Int) ≤ 2 ∧ 2 ≤ (4 : Int) ∧ 4 ≤ (s0.size : Int) ∧
  vizardref01_Number.c (s0.extract 2 4) (fun x0 h18 =>
  (if (decide (x0 < 20)) = true then
  vizardref02_Parse.J1 s0 (⟨b0, 0, none⟩ : Addr) x0 true (fun h19 =>
  vizardref02_Parse.J2 s0 (⟨b0, 0, none⟩ : Addr) (fun x1 h20 =>
  ldI h20 .i64 ((⟨b0, 0, none⟩ : Addr).add 0) fun r16 => ldI h20 .i64 ((⟨b0, 0, none⟩ : Addr).add 1) fun r17 => ldI h20 .i64 ((⟨b0, 0, none⟩ : Addr).add 2) fun r18 => ldI h20 .i64 ((⟨b0, 0, none⟩ : Addr).add 3) fun r19 => ldI h20 .i64 ((⟨b0, 0, none⟩ : Addr).add 4) fun r20 => ldI h20 .u32 ((⟨b0, 0, none⟩ : Addr).add 5) fun r21 => ldI h20 .u32 ((⟨b0, 0, none⟩ : Addr).add 6) fun r22 => ldS h20 ((⟨b0, 0, none⟩ : Addr).add 7) fun r23 =>
  K r16 r17 r18 r19 r20 r21 r22 r23 x1 h20) E h19) (fun x2 h21 =>
  ldI h21 .i64 ((⟨b0, 0, none⟩ : Addr).add 0) fun r24 => ldI h21 .i64 ((⟨b0, 0, none⟩ : Addr).add 1) fun r25 => ldI h21 .i64 ((⟨b0, 0, none⟩ : Addr).add 2) fun r26 => ldI h21 .i64 ((⟨b0, 0, none⟩ : Addr).add 3) fun r27 => ldI h21 .i64 ((⟨b0, 0, none⟩ : Addr).add 4) fun r28 => ldI h21 .u32 ((⟨b0, 0, none⟩ : Addr).add 5) fun r29 => ldI h21 .u32 ((⟨b0, 0, none⟩ : Addr).add 6) fun r30 => ldS h21 ((⟨b0, 0, none⟩ : Addr).add 7) fun r31 =>
  K r24 r25 r26 r27 r28 r29 r30 r31 x2 h21) E h18
  else
  vizardref02_Parse.J1 s0 (⟨b0, 0, none⟩ : Addr) x0 (decide ((s0.size : Int) < x0)) (fun h22 =>
  vizardref02_Parse.J2 s0 (⟨b0, 0, none⟩ : Addr) (fun x3 h23 =>
  ldI h23 .i64 ((⟨b0, 0, none⟩ : Addr).add 0) fun r32 => ldI h23 .i64 ((⟨b0, 0, none⟩ : Addr).add 1) fun r33 => ldI h23 .i64 ((⟨b0, 0, none⟩ : Addr).add 2) fun r34 => ldI h23 .i64 ((⟨b0, 0, none⟩ : Addr).add 3) fun r35 => ldI h23 .i64 ((⟨b0, 0, none⟩ : Addr).add 4) fun r36 => ldI h23 .u32 ((⟨b0, 0, none⟩ : Addr).add 5) fun r37 => ldI h23 .u32 ((⟨b0, 0, none⟩ : Addr).add 6) fun r38 => ldS h23 ((⟨b0, 0, none⟩ : Addr).add 7) fun r39 =>
  K r32 r33 r34 r35 r36 r37 r38 r39 x3 h23) E h22) (fun x4 h24 =>
  ldI h24 .i64 ((⟨b0, 0, none⟩ : Addr).add 0) fun r40 => ldI h24 .i64 ((⟨b0, 0, none⟩ : Addr).add 1) fun r41 => ldI h24 .i64 ((⟨b0, 0, none⟩ : Addr).add 2) fun r42 => ldI h24 .i64 ((⟨b0, 0, none⟩ : Addr).add 3) fun r43 => ldI h24 .i64 ((⟨b0, 0, none⟩ : Addr).add 4) fun r44 => ldI h24 .u32 ((⟨b0, 0, none⟩ : Addr).add 5) fun r45 => ldI h24 .u32 ((⟨b0, 0, none⟩ : Addr).add 6) fun r46 => ldS h24 ((⟨b0, 0, none⟩ : Addr).add 7) fun r47 =>
  K r40 r41 r42 r43 r44 r45 r46 r47 x4 h24) E h18)) E h1))) h0
structure vizardref02_Parse.c (s0 : ByteArray) (K : Int → Int → Int → Int → Int → Int → Int → ByteArray → Int → Heap → Prop) (E : Value → Heap → Prop) (H : Heap) : Prop where
  h : vizardref02_Parse.vc s0 (fun r0_0 r0_1 r0_2 r0_3 r0_4 r0_5 r0_6 r0_7 r1_0 H => ∃ H', Heap.Le H' H ∧ K r0_0 r0_1 r0_2 r0_3 r0_4 r0_5 r0_6 r0_7 r1_0 H') E H
def vizardref02_Parse.F : FT := fun args K E H => match args with
  | [(.string s0)] => vizardref02_Parse.c s0 (fun r0_0 r0_1 r0_2 r0_3 r0_4 r0_5 r0_6 r0_7 r1_0 H => K (.tuple #[(.agg #[(.int .i64 r0_0), (.int .i64 r0_1), (.int .i64 r0_2), (.int .i64 r0_3), (.int .i64 r0_4), (.int .u32 r0_5), (.int .u32 r0_6), (.string r0_7)]), (.int .i64 r1_0)]) H) E H
  | _ => False
noncomputable def vizardref02_Parse.Γ : FuncId → Option FT := Γof [(41, vizardref01_Number.F), (42, vizardref02_Build.F)]
theorem vizardref02_Parse.hΓ : ∀ f F, vizardref02_Parse.Γ f = some F → CalleeOk Try.prog f F := Γof_ok (List.forall_mem_cons.2 ⟨vizardref01_Number.ok, List.forall_mem_cons.2 ⟨vizardref02_Build.ok, fun _ h => nomatch h⟩⟩)
def vizardref02_Parse.J1.t : CT := fun Q E fr H => lenIs 71 fr (slS fr 0 fun s0 => slPA fr 2 fun x0 => slI fr 4 .i64 fun n0 => slB fr 19 fun x1 => vizardref02_Parse.J1 s0 x0 n0 x1 (fun  H => Q .normal (mkF 71 [(0, (.string s0)), (2, (.pointer (some x0)))]) H) (fun y3_0 H => Q .ret (mkF 71 [(2, (.pointer (some x0))), (3, (.int .i64 y3_0))]) H) E H)
noncomputable def vizardref02_Parse.J1.plan : Plan := .go
theorem vizardref02_Parse.J1.pok : PlanOk Try.prog vizardref02_Parse.J1.plan (sub [1, 1, 1, 1, 0, 0, 1] vizardref02_Parse.body) := by
  have e : PlanOk Try.prog vizardref02_Parse.J1.plan (sub [1, 1, 1, 1, 0, 0, 1] vizardref02_Parse.body) = (True) := by kernel_rfl
  exact e.mpr trivial
theorem vizardref02_Parse.J1.eq (s0 : ByteArray) (x0 : Addr) (n0 : Int) (x1 : Bool) (Q : Ex → Fr → Heap → Prop) (E : Value → Heap → Prop) (H : Heap) :
    vizardref02_Parse.J1.vc s0 x0 n0 x1 (fun  H => Q .normal (mkF 71 [(0, (.string s0)), (2, (.pointer (some x0)))]) H) (fun y3_0 H => Q .ret (mkF 71 [(2, (.pointer (some x0))), (3, (.int .i64 y3_0))]) H) E H = keepT [0, 2] [2, 3] (fun i => []) (wC Try.prog vizardref02_Parse.Γ vizardref02_Parse.J1.plan (sub [1, 1, 1, 1, 0, 0, 1] vizardref02_Parse.body)) Q E (mkF 71 [(0, (.string s0)), (2, (.pointer (some x0))), (4, (.int .i64 n0)), (19, (.bool x1))]) H := by
  kernel_rfl
theorem vizardref02_Parse.J1.ok : SoundCode Try.prog (sub [1, 1, 1, 1, 0, 0, 1] vizardref02_Parse.body) vizardref02_Parse.J1.t := by
  refine piece_sound (keepT_sound [0, 2] [2, 3] (fun i => []) (wC_sound vizardref02_Parse.hΓ Try.hm vizardref02_Parse.J1.plan _ vizardref02_Parse.J1.pok)) ?_
  intro Q E fr H h
  unfold vizardref02_Parse.J1.t at h
  obtain ⟨hl, h⟩ := lenIs_elim h
  obtain ⟨s0, q0, h⟩ := slS_elim h
  obtain ⟨x0, q2, h⟩ := slPA_elim h
  obtain ⟨n0, q4, h⟩ := slI_elim h
  obtain ⟨x1, q19, h⟩ := slB_elim h
  refine ⟨(mkF 71 [(0, (.string s0)), (2, (.pointer (some x0))), (4, (.int .i64 n0)), (19, (.bool x1))]), fun a ha => ha.mk (Nat.le_of_eq hl.symm) (List.forall_mem_cons.2 ⟨q0, List.forall_mem_cons.2 ⟨q2, List.forall_mem_cons.2 ⟨q4, List.forall_mem_cons.2 ⟨q19, fun _ h => nomatch h⟩⟩⟩⟩), ?_⟩
  have e := vizardref02_Parse.J1.eq s0 x0 n0 x1 Q E H
  rw [← e]
  exact h.h
def vizardref02_Parse.J3.t : CT := fun Q E fr H => lenIs 71 fr (slS fr 0 fun s0 => slPA fr 2 fun x0 => slPA fr 5 fun h0 => vizardref02_Parse.J3 s0 x0 h0 (fun y3_0 H => Q .ret (mkF 71 [(2, (.pointer (some x0))), (3, (.int .i64 y3_0))]) H) E H)
noncomputable def vizardref02_Parse.J3.plan : Plan := .go
theorem vizardref02_Parse.J3.pok : PlanOk Try.prog vizardref02_Parse.J3.plan (sub [1, 1, 1, 1, 1, 1] vizardref02_Parse.body) := by
  have e : PlanOk Try.prog vizardref02_Parse.J3.plan (sub [1, 1, 1, 1, 1, 1] vizardref02_Parse.body) = (True) := by kernel_rfl
  exact e.mpr trivial
theorem vizardref02_Parse.J3.eq (s0 : ByteArray) (x0 : Addr) (h0 : Addr) (Q : Ex → Fr → Heap → Prop) (E : Value → Heap → Prop) (H : Heap) :
    vizardref02_Parse.J3.vc s0 x0 h0 (fun y3_0 H => Q .ret (mkF 71 [(2, (.pointer (some x0))), (3, (.int .i64 y3_0))]) H) E H = keepT [] [2, 3] (fun i => []) (wC Try.prog vizardref02_Parse.Γ vizardref02_Parse.J3.plan (sub [1, 1, 1, 1, 1, 1] vizardref02_Parse.body)) Q E (mkF 71 [(0, (.string s0)), (2, (.pointer (some x0))), (5, (.pointer (some h0)))]) H := by
  kernel_rfl
theorem vizardref02_Parse.J3.ok : SoundCode Try.prog (sub [1, 1, 1, 1, 1, 1] vizardref02_Parse.body) vizardref02_Parse.J3.t := by
  refine piece_sound (keepT_sound [] [2, 3] (fun i => []) (wC_sound vizardref02_Parse.hΓ Try.hm vizardref02_Parse.J3.plan _ vizardref02_Parse.J3.pok)) ?_
  intro Q E fr H h
  unfold vizardref02_Parse.J3.t at h
  obtain ⟨hl, h⟩ := lenIs_elim h
  obtain ⟨s0, q0, h⟩ := slS_elim h
  obtain ⟨x0, q2, h⟩ := slPA_elim h
  obtain ⟨h0, q5, h⟩ := slPA_elim h
  refine ⟨(mkF 71 [(0, (.string s0)), (2, (.pointer (some x0))), (5, (.pointer (some h0)))]), fun a ha => ha.mk (Nat.le_of_eq hl.symm) (List.forall_mem_cons.2 ⟨q0, List.forall_mem_cons.2 ⟨q2, List.forall_mem_cons.2 ⟨q5, fun _ h => nomatch h⟩⟩⟩), ?_⟩
  have e := vizardref02_Parse.J3.eq s0 x0 h0 Q E H
  rw [← e]
  exact h.h
def vizardref02_Parse.J2.t : CT := fun Q E fr H => lenIs 71 fr (slS fr 0 fun s0 => slPA fr 2 fun x0 => vizardref02_Parse.J2 s0 x0 (fun y3_0 H => Q .ret (mkF 71 [(2, (.pointer (some x0))), (3, (.int .i64 y3_0))]) H) E H)
noncomputable def vizardref02_Parse.J2.plan : Plan := .seq (.draw ⟨[0, 1, 2, 3, 4, 5, 6, 7, 8, 9, 10, 11, 12, 13, 14, 15, 16, 17, 18, 19, 20, 21, 22, 23, 24, 25, 26, 27], (dl [(0, []), (1, []), (2, []), (3, []), (4, []), (6, []), (7, []), (9, []), (10, []), (11, []), (12, []), (13, []), (14, []), (15, []), (16, []), (19, []), (20, []), (23, []), (24, [])] (.alt (dl [(5, [4, 3])] (.alt (dl [(8, [7, 5, 6, 4, 3])] (.alt (dl [(17, [16, 8, 15, 7, 5, 6, 4, 3]), (18, [])] (.alt (dl [(21, [20, 17, 19, 16, 8, 15, 7, 5, 6, 4, 3]), (22, []), (25, []), (26, []), (27, [26, 25, 21, 0, 1, 2, 3, 4, 5, 6, 7, 8, 9, 10, 11, 12, 13, 14, 15, 16, 17, 18, 19, 20, 22, 23, 24])] .fin) (dl [(26, []), (21, [20, 17, 19, 16, 8, 15, 7, 5, 6, 4, 3]), (22, []), (25, []), (27, [26, 25, 21, 0, 1, 2, 3, 4, 5, 6, 7, 8, 9, 10, 11, 12, 13, 14, 15, 16, 17, 18, 19, 20, 22, 23, 24])] .fin))) (dl [(26, []), (17, [16, 8, 15, 7, 5, 6, 4, 3]), (18, []), (21, [20, 17, 19, 16, 8, 15, 7, 5, 6, 4, 3]), (22, []), (25, []), (27, [26, 25, 21, 0, 1, 2, 3, 4, 5, 6, 7, 8, 9, 10, 11, 12, 13, 14, 15, 16, 17, 18, 19, 20, 22, 23, 24])] .fin))) (dl [(26, []), (8, [7, 5, 6, 4, 3]), (17, [16, 8, 15, 7, 5, 6, 4, 3]), (18, []), (21, [20, 17, 19, 16, 8, 15, 7, 5, 6, 4, 3]), (22, []), (25, []), (27, [26, 25, 21, 0, 1, 2, 3, 4, 5, 6, 7, 8, 9, 10, 11, 12, 13, 14, 15, 16, 17, 18, 19, 20, 22, 23, 24])] .fin))) (dl [(26, []), (5, [4, 3]), (8, [7, 5, 6, 4, 3]), (17, [16, 8, 15, 7, 5, 6, 4, 3]), (18, []), (21, [20, 17, 19, 16, 8, 15, 7, 5, 6, 4, 3]), (22, []), (25, []), (27, [26, 25, 21, 0, 1, 2, 3, 4, 5, 6, 7, 8, 9, 10, 11, 12, 13, 14, 15, 16, 17, 18, 19, 20, 22, 23, 24])] .fin))), []⟩) (.use vizardref02_Parse.J3.t)
theorem vizardref02_Parse.J2.pok : PlanOk Try.prog vizardref02_Parse.J2.plan (sub [1, 1, 1, 1, 1] vizardref02_Parse.body) := by
  have e : PlanOk Try.prog vizardref02_Parse.J2.plan (sub [1, 1, 1, 1, 1] vizardref02_Parse.body) = ((True) ∧ (SoundCode Try.prog (sub [1, 1, 1, 1, 1, 1] vizardref02_Parse.body) vizardref02_Parse.J3.t)) := by kernel_rfl
  exact e.mpr ⟨trivial, vizardref02_Parse.J3.ok⟩
theorem vizardref02_Parse.J2.eq (s0 : ByteArray) (x0 : Addr) (Q : Ex → Fr → Heap → Prop) (E : Value → Heap → Prop) (H : Heap) :
    vizardref02_Parse.J2.vc s0 x0 (fun y3_0 H => Q .ret (mkF 71 [(2, (.pointer (some x0))), (3, (.int .i64 y3_0))]) H) E H = keepT [] [2, 3] (fun i => []) (wC Try.prog vizardref02_Parse.Γ vizardref02_Parse.J2.plan (sub [1, 1, 1, 1, 1] vizardref02_Parse.body)) Q E (mkF 71 [(0, (.string s0)), (2, (.pointer (some x0)))]) H := by
  kernel_rfl
theorem vizardref02_Parse.J2.ok : SoundCode Try.prog (sub [1, 1, 1, 1, 1] vizardref02_Parse.body) vizardref02_Parse.J2.t := by
  refine piece_sound (keepT_sound [] [2, 3] (fun i => []) (wC_sound vizardref02_Parse.hΓ Try.hm vizardref02_Parse.J2.plan _ vizardref02_Parse.J2.pok)) ?_
  intro Q E fr H h
  unfold vizardref02_Parse.J2.t at h
  obtain ⟨hl, h⟩ := lenIs_elim h
  obtain ⟨s0, q0, h⟩ := slS_elim h
  obtain ⟨x0, q2, h⟩ := slPA_elim h
  refine ⟨(mkF 71 [(0, (.string s0)), (2, (.pointer (some x0)))]), fun a ha => ha.mk (Nat.le_of_eq hl.symm) (List.forall_mem_cons.2 ⟨q0, List.forall_mem_cons.2 ⟨q2, fun _ h => nomatch h⟩⟩), ?_⟩
  have e := vizardref02_Parse.J2.eq s0 x0 Q E H
  rw [← e]
  exact h.h
noncomputable def vizardref02_Parse.plan : Plan := .seq (.go) (.seq (.go) (.seq (.go) (.seq (.go) (.seq (.block (.seq (.go) (.use vizardref02_Parse.J1.t))) (.use vizardref02_Parse.J2.t)))))
theorem vizardref02_Parse.pok : PlanOk Try.prog vizardref02_Parse.plan vizardref02_Parse.body := by
  have e : PlanOk Try.prog vizardref02_Parse.plan vizardref02_Parse.body = ((True) ∧ ((True) ∧ ((True) ∧ ((True) ∧ (((True) ∧ (SoundCode Try.prog (sub [1, 1, 1, 1, 0, 0, 1] vizardref02_Parse.body) vizardref02_Parse.J1.t)) ∧ (SoundCode Try.prog (sub [1, 1, 1, 1, 1] vizardref02_Parse.body) vizardref02_Parse.J2.t)))))) := by kernel_rfl
  exact e.mpr ⟨trivial, ⟨trivial, ⟨trivial, ⟨trivial, ⟨⟨trivial, vizardref02_Parse.J1.ok⟩, vizardref02_Parse.J2.ok⟩⟩⟩⟩⟩
theorem vizardref02_Parse.eq (s0 : ByteArray) (K : Value → Heap → Prop) (E : Value → Heap → Prop) (H : Heap) :
    fnT Try.prog Try.f25 (wC Try.prog vizardref02_Parse.Γ vizardref02_Parse.plan vizardref02_Parse.body) [(.string s0)] K E H = vizardref02_Parse.vc s0 (fun r0_0 r0_1 r0_2 r0_3 r0_4 r0_5 r0_6 r0_7 r1_0 H => K (.tuple #[(.agg #[(.int .i64 r0_0), (.int .i64 r0_1), (.int .i64 r0_2), (.int .i64 r0_3), (.int .i64 r0_4), (.int .u32 r0_5), (.int .u32 r0_6), (.string r0_7)]), (.int .i64 r1_0)]) H) E H := by
  kernel_rfl
theorem vizardref02_Parse.Fe {args : List Value} {K E : Value → Heap → Prop} {H : Heap} (h : vizardref02_Parse.F args K E H) : ∃ s0, args = [(.string s0)] ∧ vizardref02_Parse.c s0 (fun r0_0 r0_1 r0_2 r0_3 r0_4 r0_5 r0_6 r0_7 r1_0 H => K (.tuple #[(.agg #[(.int .i64 r0_0), (.int .i64 r0_1), (.int .i64 r0_2), (.int .i64 r0_3), (.int .i64 r0_4), (.int .u32 r0_5), (.int .u32 r0_6), (.string r0_7)]), (.int .i64 r1_0)]) H) E H := by
  unfold vizardref02_Parse.F at h
  split at h
  · exact ⟨_, rfl, h⟩
  · exact h.elim
theorem vizardref02_Parse.ok : CalleeOk Try.prog 25 vizardref02_Parse.F :=
  callee_ok vizardref02_Parse.hΓ (fn := Try.f25) (c := vizardref02_Parse.body) (T := wC Try.prog vizardref02_Parse.Γ vizardref02_Parse.plan vizardref02_Parse.body) (by kernel_rfl) (by kernel_rfl) (by kernel_rfl) (wC_sound vizardref02_Parse.hΓ Try.hm vizardref02_Parse.plan _ vizardref02_Parse.pok) fun _ K E H h => by
    obtain ⟨z0, e, h⟩ := vizardref02_Parse.Fe h
    subst e
    have h2 : vizardref02_Parse.vc z0 (fun r0_0 r0_1 r0_2 r0_3 r0_4 r0_5 r0_6 r0_7 r1_0 H => ∃ H', Heap.Le H' H ∧ K (.tuple #[(.agg #[(.int .i64 r0_0), (.int .i64 r0_1), (.int .i64 r0_2), (.int .i64 r0_3), (.int .i64 r0_4), (.int .u32 r0_5), (.int .u32 r0_6), (.string r0_7)]), (.int .i64 r1_0)]) H') E H := h.h
    rw [vizardref02_Parse.eq z0 (Fg K) E H]
    exact h2

/-! vizard/vizardref03.Ports -/
noncomputable def vizardref03_Ports.body : Code := Try.f43.body.getD .skip
def vizardref03_Ports.J1.vc (h0 : Addr) (x0 : Bool) (Kn : Heap → Prop) (Kr : Int → Int → Bool → Heap → Prop) (E : Value → Heap → Prop) (h1 : Heap) : Prop :=
  (if x0 = true then
  Kr 0 0 false h1
  else
  Kn h1)
structure vizardref03_Ports.J1 (h0 : Addr) (x0 : Bool) (Kn : Heap → Prop) (Kr : Int → Int → Bool → Heap → Prop) (E : Value → Heap → Prop) (H : Heap) : Prop where
  h : vizardref03_Ports.J1.vc h0 x0 Kn Kr E H
def vizardref03_Ports.J2.vc (h0 : Addr) (Kr : Int → Int → Bool → Heap → Prop) (E : Value → Heap → Prop) (h1 : Heap) : Prop :=
  ldS h1 (h0.add 7) fun x0 =>
  (0 : Int) ≤ 2 ∧ 2 ≤ (x0.size : Int) ∧
  ldS h1 (h0.add 7) fun x1 =>
  (0 : Int) ≤ 2 ∧ 2 ≤ (4 : Int) ∧ 4 ≤ (x1.size : Int) ∧
  vizardref01_Number.c (x0.extract 0 2) (fun x2 h2 =>
  (ldS h2 (h0.add 7) fun x3 =>
  eqv h2 h2 (some (.string x1)) (.string x3)) ∧
  vizardref01_Number.c (x1.extract 2 4) (fun x4 h3 =>
  Kr x2 x4 true h3) E h2) E h1
structure vizardref03_Ports.J2 (h0 : Addr) (Kr : Int → Int → Bool → Heap → Prop) (E : Value → Heap → Prop) (H : Heap) : Prop where
  h : vizardref03_Ports.J2.vc h0 Kr E H
def vizardref03_Ports.vc (h0 : Int) (h1 : Int) (h2 : Int) (h3 : Int) (h4 : Int) (h5 : Int) (h6 : Int) (h7 : ByteArray) (K : Int → Int → Bool → Heap → Prop) (E : Value → Heap → Prop) (h8 : Heap) : Prop :=
  newB (.cells #[(.int .i64 h0), (.int .i64 h1), (.int .i64 h2), (.int .i64 h3), (.int .i64 h4), (.int .u32 h5), (.int .u32 h6), (.string h7)] 58) (fun b0 h9 =>
  ldI h9 .i64 ((⟨b0, 0, none⟩ : Addr).add 4) fun x0 =>
  (if (x0 != 17) = true then
  ldI h9 .i64 ((⟨b0, 0, none⟩ : Addr).add 4) fun x1 =>
  (if (x1 != 6) = true then
  vizardref03_Ports.J1 (⟨b0, 0, none⟩ : Addr) true (fun h10 =>
  vizardref03_Ports.J2 (⟨b0, 0, none⟩ : Addr) K E h10) K E h9
  else
  ldI h9 .i64 ((⟨b0, 0, none⟩ : Addr).add 2) fun x8 =>
  8192 ≠ (0 : Int) ∧
  (if ((Int.tmod x8 8192) != 0) = true then
  vizardref03_Ports.J1 (⟨b0, 0, none⟩ : Addr) true (fun h13 =>
  vizardref03_Ports.J2 (⟨b0, 0, none⟩ : Addr) K E h13) K E h9
  else
  ldS h9 ((⟨b0, 0, none⟩ : Addr).add 7) fun x15 =>
  vizardref03_Ports.J1 (⟨b0, 0, none⟩ : Addr) (decide ((x15.size : Int) < 4)) (fun h16 =>
  vizardref03_Ports.J2 (⟨b0, 0, none⟩ : Addr) K E h16) K E h9))
  else
  ldI h9 .i64 ((⟨b0, 0, none⟩ : Addr).add 2) fun x22 =>
  8192 ≠ (0 : Int) ∧
  (if ((Int.tmod x22 8192) != 0) = true then
  vizardref03_Ports.J1 (⟨b0, 0, none⟩ : Addr) true (fun h19 =>
  vizardref03_Ports.J2 (⟨b0, 0, none⟩ : Addr) K E h19) K E h9
  else
  ldS h9 ((⟨b0, 0, none⟩ : Addr).add 7) fun x29 =>
  vizardref03_Ports.J1 (⟨b0, 0, none⟩ : Addr) (decide ((x29.size : Int) < 4)) (fun h22 =>
  vizardref03_Ports.J2 (⟨b0, 0, none⟩ : Addr) K E h22) K E h9))) h8
structure vizardref03_Ports.c (h0 : Int) (h1 : Int) (h2 : Int) (h3 : Int) (h4 : Int) (h5 : Int) (h6 : Int) (h7 : ByteArray) (K : Int → Int → Bool → Heap → Prop) (E : Value → Heap → Prop) (H : Heap) : Prop where
  h : vizardref03_Ports.vc h0 h1 h2 h3 h4 h5 h6 h7 (fun r0_0 r1_0 r2_0 H => ∃ H', Heap.Le H' H ∧ K r0_0 r1_0 r2_0 H') E H
def vizardref03_Ports.F : FT := fun args K E H => match args with
  | [(.agg ⟨[(.int .i64 h0), (.int .i64 h1), (.int .i64 h2), (.int .i64 h3), (.int .i64 h4), (.int .u32 h5), (.int .u32 h6), (.string h7)]⟩)] => vizardref03_Ports.c h0 h1 h2 h3 h4 h5 h6 h7 (fun r0_0 r1_0 r2_0 H => K (.tuple #[(.int .i64 r0_0), (.int .i64 r1_0), (.bool r2_0)]) H) E H
  | _ => False
noncomputable def vizardref03_Ports.Γ : FuncId → Option FT := Γof [(41, vizardref01_Number.F)]
theorem vizardref03_Ports.hΓ : ∀ f F, vizardref03_Ports.Γ f = some F → CalleeOk Try.prog f F := Γof_ok (List.forall_mem_cons.2 ⟨vizardref01_Number.ok, fun _ h => nomatch h⟩)
def vizardref03_Ports.J1.t : CT := fun Q E fr H => lenIs 33 fr (slPA fr 1 fun h0 => slB fr 24 fun x0 => vizardref03_Ports.J1 h0 x0 (fun  H => Q .normal (mkF 33 [(1, (.pointer (some h0)))]) H) (fun y2_0 y3_0 y4_0 H => Q .ret (mkF 33 [(2, (.int .i64 y2_0)), (3, (.int .i64 y3_0)), (4, (.bool y4_0))]) H) E H)
noncomputable def vizardref03_Ports.J1.plan : Plan := .go
theorem vizardref03_Ports.J1.pok : PlanOk Try.prog vizardref03_Ports.J1.plan (sub [1, 0, 1] vizardref03_Ports.body) := by
  have e : PlanOk Try.prog vizardref03_Ports.J1.plan (sub [1, 0, 1] vizardref03_Ports.body) = (True) := by kernel_rfl
  exact e.mpr trivial
theorem vizardref03_Ports.J1.eq (h0 : Addr) (x0 : Bool) (Q : Ex → Fr → Heap → Prop) (E : Value → Heap → Prop) (H : Heap) :
    vizardref03_Ports.J1.vc h0 x0 (fun  H => Q .normal (mkF 33 [(1, (.pointer (some h0)))]) H) (fun y2_0 y3_0 y4_0 H => Q .ret (mkF 33 [(2, (.int .i64 y2_0)), (3, (.int .i64 y3_0)), (4, (.bool y4_0))]) H) E H = keepT [1] [2, 3, 4] (fun i => []) (wC Try.prog vizardref03_Ports.Γ vizardref03_Ports.J1.plan (sub [1, 0, 1] vizardref03_Ports.body)) Q E (mkF 33 [(1, (.pointer (some h0))), (24, (.bool x0))]) H := by
  kernel_rfl
theorem vizardref03_Ports.J1.ok : SoundCode Try.prog (sub [1, 0, 1] vizardref03_Ports.body) vizardref03_Ports.J1.t := by
  refine piece_sound (keepT_sound [1] [2, 3, 4] (fun i => []) (wC_sound vizardref03_Ports.hΓ Try.hm vizardref03_Ports.J1.plan _ vizardref03_Ports.J1.pok)) ?_
  intro Q E fr H h
  unfold vizardref03_Ports.J1.t at h
  obtain ⟨hl, h⟩ := lenIs_elim h
  obtain ⟨h0, q1, h⟩ := slPA_elim h
  obtain ⟨x0, q24, h⟩ := slB_elim h
  refine ⟨(mkF 33 [(1, (.pointer (some h0))), (24, (.bool x0))]), fun a ha => ha.mk (Nat.le_of_eq hl.symm) (List.forall_mem_cons.2 ⟨q1, List.forall_mem_cons.2 ⟨q24, fun _ h => nomatch h⟩⟩), ?_⟩
  have e := vizardref03_Ports.J1.eq h0 x0 Q E H
  rw [← e]
  exact h.h
def vizardref03_Ports.J2.t : CT := fun Q E fr H => lenIs 33 fr (slPA fr 1 fun h0 => vizardref03_Ports.J2 h0 (fun y2_0 y3_0 y4_0 H => Q .ret (mkF 33 [(2, (.int .i64 y2_0)), (3, (.int .i64 y3_0)), (4, (.bool y4_0))]) H) E H)
noncomputable def vizardref03_Ports.J2.plan : Plan := .seq (.draw ⟨[0, 1, 2, 3, 4, 5, 6, 7, 8], (dl [(0, []), (1, []), (2, []), (4, []), (5, []), (6, []), (3, [2, 1, 0]), (7, [6, 3, 5, 2, 4, 1, 0]), (8, [])] .fin), [9, 10]⟩) (.go)
theorem vizardref03_Ports.J2.pok : PlanOk Try.prog vizardref03_Ports.J2.plan (sub [1, 1] vizardref03_Ports.body) := by
  have e : PlanOk Try.prog vizardref03_Ports.J2.plan (sub [1, 1] vizardref03_Ports.body) = ((True) ∧ (True)) := by kernel_rfl
  exact e.mpr ⟨trivial, trivial⟩
theorem vizardref03_Ports.J2.eq (h0 : Addr) (Q : Ex → Fr → Heap → Prop) (E : Value → Heap → Prop) (H : Heap) :
    vizardref03_Ports.J2.vc h0 (fun y2_0 y3_0 y4_0 H => Q .ret (mkF 33 [(2, (.int .i64 y2_0)), (3, (.int .i64 y3_0)), (4, (.bool y4_0))]) H) E H = keepT [] [2, 3, 4] (fun i => []) (wC Try.prog vizardref03_Ports.Γ vizardref03_Ports.J2.plan (sub [1, 1] vizardref03_Ports.body)) Q E (mkF 33 [(1, (.pointer (some h0)))]) H := by
  kernel_rfl
theorem vizardref03_Ports.J2.ok : SoundCode Try.prog (sub [1, 1] vizardref03_Ports.body) vizardref03_Ports.J2.t := by
  refine piece_sound (keepT_sound [] [2, 3, 4] (fun i => []) (wC_sound vizardref03_Ports.hΓ Try.hm vizardref03_Ports.J2.plan _ vizardref03_Ports.J2.pok)) ?_
  intro Q E fr H h
  unfold vizardref03_Ports.J2.t at h
  obtain ⟨hl, h⟩ := lenIs_elim h
  obtain ⟨h0, q1, h⟩ := slPA_elim h
  refine ⟨(mkF 33 [(1, (.pointer (some h0)))]), fun a ha => ha.mk (Nat.le_of_eq hl.symm) (List.forall_mem_cons.2 ⟨q1, fun _ h => nomatch h⟩), ?_⟩
  have e := vizardref03_Ports.J2.eq h0 Q E H
  rw [← e]
  exact h.h
noncomputable def vizardref03_Ports.plan : Plan := .seq (.go) (.seq (.seq (.go) (.use vizardref03_Ports.J1.t)) (.use vizardref03_Ports.J2.t))
theorem vizardref03_Ports.pok : PlanOk Try.prog vizardref03_Ports.plan vizardref03_Ports.body := by
  have e : PlanOk Try.prog vizardref03_Ports.plan vizardref03_Ports.body = ((True) ∧ (((True) ∧ (SoundCode Try.prog (sub [1, 0, 1] vizardref03_Ports.body) vizardref03_Ports.J1.t)) ∧ (SoundCode Try.prog (sub [1, 1] vizardref03_Ports.body) vizardref03_Ports.J2.t))) := by kernel_rfl
  exact e.mpr ⟨trivial, ⟨⟨trivial, vizardref03_Ports.J1.ok⟩, vizardref03_Ports.J2.ok⟩⟩
theorem vizardref03_Ports.eq (h0 : Int) (h1 : Int) (h2 : Int) (h3 : Int) (h4 : Int) (h5 : Int) (h6 : Int) (h7 : ByteArray) (K : Value → Heap → Prop) (E : Value → Heap → Prop) (H : Heap) :
    fnT Try.prog Try.f43 (wC Try.prog vizardref03_Ports.Γ vizardref03_Ports.plan vizardref03_Ports.body) [(.agg #[(.int .i64 h0), (.int .i64 h1), (.int .i64 h2), (.int .i64 h3), (.int .i64 h4), (.int .u32 h5), (.int .u32 h6), (.string h7)])] K E H = vizardref03_Ports.vc h0 h1 h2 h3 h4 h5 h6 h7 (fun r0_0 r1_0 r2_0 H => K (.tuple #[(.int .i64 r0_0), (.int .i64 r1_0), (.bool r2_0)]) H) E H := by
  kernel_rfl
theorem vizardref03_Ports.Fe {args : List Value} {K E : Value → Heap → Prop} {H : Heap} (h : vizardref03_Ports.F args K E H) : ∃ h0 h1 h2 h3 h4 h5 h6 h7, args = [(.agg #[(.int .i64 h0), (.int .i64 h1), (.int .i64 h2), (.int .i64 h3), (.int .i64 h4), (.int .u32 h5), (.int .u32 h6), (.string h7)])] ∧ vizardref03_Ports.c h0 h1 h2 h3 h4 h5 h6 h7 (fun r0_0 r1_0 r2_0 H => K (.tuple #[(.int .i64 r0_0), (.int .i64 r1_0), (.bool r2_0)]) H) E H := by
  unfold vizardref03_Ports.F at h
  split at h
  · exact ⟨_, _, _, _, _, _, _, _, rfl, h⟩
  · exact h.elim
theorem vizardref03_Ports.ok : CalleeOk Try.prog 43 vizardref03_Ports.F :=
  callee_ok vizardref03_Ports.hΓ (fn := Try.f43) (c := vizardref03_Ports.body) (T := wC Try.prog vizardref03_Ports.Γ vizardref03_Ports.plan vizardref03_Ports.body) (by kernel_rfl) (by kernel_rfl) (by kernel_rfl) (wC_sound vizardref03_Ports.hΓ Try.hm vizardref03_Ports.plan _ vizardref03_Ports.pok) fun _ K E H h => by
    obtain ⟨z0, z1, z2, z3, z4, z5, z6, z7, e, h⟩ := vizardref03_Ports.Fe h
    subst e
    have h2 : vizardref03_Ports.vc z0 z1 z2 z3 z4 z5 z6 z7 (fun r0_0 r1_0 r2_0 H => ∃ H', Heap.Le H' H ∧ K (.tuple #[(.int .i64 r0_0), (.int .i64 r1_0), (.bool r2_0)]) H') E H := h.h
    rw [vizardref03_Ports.eq z0 z1 z2 z3 z4 z5 z6 z7 (Fg K) E H]
    exact h2

/-! vizard/vizardref22.Port -/
noncomputable def vizardref22_Port.body : Code := Try.f26.body.getD .skip
def vizardref22_Port.vc (h0 : Int) (h1 : Int) (h2 : Int) (h3 : Int) (h4 : Int) (h5 : Int) (h6 : Int) (h7 : ByteArray) (K : Int → Heap → Prop) (E : Value → Heap → Prop) (h8 : Heap) : Prop :=
  newB (.cells #[(.int .i64 h0), (.int .i64 h1), (.int .i64 h2), (.int .i64 h3), (.int .i64 h4), (.int .u32 h5), (.int .u32 h6), (.string h7)] 58) (fun b0 h9 =>
  ldI h9 .i64 ((⟨b0, 0, none⟩ : Addr).add 0) fun x0 => ldI h9 .i64 ((⟨b0, 0, none⟩ : Addr).add 1) fun x1 => ldI h9 .i64 ((⟨b0, 0, none⟩ : Addr).add 2) fun x2 => ldI h9 .i64 ((⟨b0, 0, none⟩ : Addr).add 3) fun x3 => ldI h9 .i64 ((⟨b0, 0, none⟩ : Addr).add 4) fun x4 => ldI h9 .u32 ((⟨b0, 0, none⟩ : Addr).add 5) fun x5 => ldI h9 .u32 ((⟨b0, 0, none⟩ : Addr).add 6) fun x6 => ldS h9 ((⟨b0, 0, none⟩ : Addr).add 7) fun x7 =>
  vizardref03_Ports.c x0 x1 x2 x3 x4 x5 x6 x7 (fun x8 x9 x10 h10 =>
  K x9 h10) E h9) h8
structure vizardref22_Port.c (h0 : Int) (h1 : Int) (h2 : Int) (h3 : Int) (h4 : Int) (h5 : Int) (h6 : Int) (h7 : ByteArray) (K : Int → Heap → Prop) (E : Value → Heap → Prop) (H : Heap) : Prop where
  h : vizardref22_Port.vc h0 h1 h2 h3 h4 h5 h6 h7 (fun r0_0 H => ∃ H', Heap.Le H' H ∧ K r0_0 H') E H
def vizardref22_Port.F : FT := fun args K E H => match args with
  | [(.agg ⟨[(.int .i64 h0), (.int .i64 h1), (.int .i64 h2), (.int .i64 h3), (.int .i64 h4), (.int .u32 h5), (.int .u32 h6), (.string h7)]⟩)] => vizardref22_Port.c h0 h1 h2 h3 h4 h5 h6 h7 (fun r0_0 H => K (.int .i64 r0_0) H) E H
  | _ => False
noncomputable def vizardref22_Port.Γ : FuncId → Option FT := Γof [(43, vizardref03_Ports.F)]
theorem vizardref22_Port.hΓ : ∀ f F, vizardref22_Port.Γ f = some F → CalleeOk Try.prog f F := Γof_ok (List.forall_mem_cons.2 ⟨vizardref03_Ports.ok, fun _ h => nomatch h⟩)
noncomputable def vizardref22_Port.plan : Plan := .go
theorem vizardref22_Port.pok : PlanOk Try.prog vizardref22_Port.plan vizardref22_Port.body := by
  have e : PlanOk Try.prog vizardref22_Port.plan vizardref22_Port.body = (True) := by kernel_rfl
  exact e.mpr trivial
theorem vizardref22_Port.eq (h0 : Int) (h1 : Int) (h2 : Int) (h3 : Int) (h4 : Int) (h5 : Int) (h6 : Int) (h7 : ByteArray) (K : Value → Heap → Prop) (E : Value → Heap → Prop) (H : Heap) :
    fnT Try.prog Try.f26 (wC Try.prog vizardref22_Port.Γ vizardref22_Port.plan vizardref22_Port.body) [(.agg #[(.int .i64 h0), (.int .i64 h1), (.int .i64 h2), (.int .i64 h3), (.int .i64 h4), (.int .u32 h5), (.int .u32 h6), (.string h7)])] K E H = vizardref22_Port.vc h0 h1 h2 h3 h4 h5 h6 h7 (fun r0_0 H => K (.int .i64 r0_0) H) E H := by
  kernel_rfl
theorem vizardref22_Port.Fe {args : List Value} {K E : Value → Heap → Prop} {H : Heap} (h : vizardref22_Port.F args K E H) : ∃ h0 h1 h2 h3 h4 h5 h6 h7, args = [(.agg #[(.int .i64 h0), (.int .i64 h1), (.int .i64 h2), (.int .i64 h3), (.int .i64 h4), (.int .u32 h5), (.int .u32 h6), (.string h7)])] ∧ vizardref22_Port.c h0 h1 h2 h3 h4 h5 h6 h7 (fun r0_0 H => K (.int .i64 r0_0) H) E H := by
  unfold vizardref22_Port.F at h
  split at h
  · exact ⟨_, _, _, _, _, _, _, _, rfl, h⟩
  · exact h.elim
theorem vizardref22_Port.ok : CalleeOk Try.prog 26 vizardref22_Port.F :=
  callee_ok vizardref22_Port.hΓ (fn := Try.f26) (c := vizardref22_Port.body) (T := wC Try.prog vizardref22_Port.Γ vizardref22_Port.plan vizardref22_Port.body) (by kernel_rfl) (by kernel_rfl) (by kernel_rfl) (wC_sound vizardref22_Port.hΓ Try.hm vizardref22_Port.plan _ vizardref22_Port.pok) fun _ K E H h => by
    obtain ⟨z0, z1, z2, z3, z4, z5, z6, z7, e, h⟩ := vizardref22_Port.Fe h
    subst e
    have h2 : vizardref22_Port.vc z0 z1 z2 z3 z4 z5 z6 z7 (fun r0_0 H => ∃ H', Heap.Le H' H ∧ K (.int .i64 r0_0) H') E H := h.h
    rw [vizardref22_Port.eq z0 z1 z2 z3 z4 z5 z6 z7 (Fg K) E H]
    exact h2

/-! vizard/vizardref02.Hop -/
noncomputable def vizardref02_Hop.body : Code := Try.f37.body.getD .skip
def vizardref02_Hop.vc (s0 : ByteArray) (K : ByteArray → Int → Heap → Prop) (E : Value → Heap → Prop) (h0 : Heap) : Prop :=
  vizardref02_Parse.c s0 (fun x0 x1 x2 x3 x4 x5 x6 x7 x8 h1 =>
  newB (.cells #[(.int .i64 0), (.int .i64 0), (.int .i64 0), (.int .i64 0), (.int .i64 0), (.int .u32 0), (.int .u32 0), (.string (⟨#[]⟩ : ByteArray))] 58) (fun b0 h2 =>
  stc h2 ((⟨b0, 0, none⟩ : Addr).add 0) (.int .i64 x0) fun h3 =>
  stc h3 ((⟨b0, 0, none⟩ : Addr).add 1) (.int .i64 x1) fun h4 =>
  stc h4 ((⟨b0, 0, none⟩ : Addr).add 2) (.int .i64 x2) fun h5 =>
  stc h5 ((⟨b0, 0, none⟩ : Addr).add 3) (.int .i64 x3) fun h6 =>
  stc h6 ((⟨b0, 0, none⟩ : Addr).add 4) (.int .i64 x4) fun h7 =>
  stc h7 ((⟨b0, 0, none⟩ : Addr).add 5) (.int .u32 x5) fun h8 =>
  stc h8 ((⟨b0, 0, none⟩ : Addr).add 6) (.int .u32 x6) fun h9 =>
  stc h9 ((⟨b0, 0, none⟩ : Addr).add 7) (.string x7) fun h10 =>
  (if (x8 != 0) = true then
  K (⟨#[]⟩ : ByteArray) x8 h10
  else
  ldI h10 .i64 ((⟨b0, 0, none⟩ : Addr).add 3) fun x9 =>
  (if (decide (x9 < 2)) = true then
  K (⟨#[]⟩ : ByteArray) 2 h10
  else
  ldI h10 .i64 ((⟨b0, 0, none⟩ : Addr).add 3) fun x10 =>
  stc h10 ((⟨b0, 0, none⟩ : Addr).add 3) (.int .i64 (IntKind.i64.wrap (x10 - 1))) fun h11 =>
  ldI h11 .i64 ((⟨b0, 0, none⟩ : Addr).add 0) fun x11 => ldI h11 .i64 ((⟨b0, 0, none⟩ : Addr).add 1) fun x12 => ldI h11 .i64 ((⟨b0, 0, none⟩ : Addr).add 2) fun x13 => ldI h11 .i64 ((⟨b0, 0, none⟩ : Addr).add 3) fun x14 => ldI h11 .i64 ((⟨b0, 0, none⟩ : Addr).add 4) fun x15 => ldI h11 .u32 ((⟨b0, 0, none⟩ : Addr).add 5) fun x16 => ldI h11 .u32 ((⟨b0, 0, none⟩ : Addr).add 6) fun x17 => ldS h11 ((⟨b0, 0, none⟩ : Addr).add 7) fun x18 =>
  vizardref02_Build.c x11 x12 x13 x14 x15 x16 x17 x18 K E h11))) h1) E h0
structure vizardref02_Hop.c (s0 : ByteArray) (K : ByteArray → Int → Heap → Prop) (E : Value → Heap → Prop) (H : Heap) : Prop where
  h : vizardref02_Hop.vc s0 (fun r0_0 r1_0 H => ∃ H', Heap.Le H' H ∧ K r0_0 r1_0 H') E H
def vizardref02_Hop.F : FT := fun args K E H => match args with
  | [(.string s0)] => vizardref02_Hop.c s0 (fun r0_0 r1_0 H => K (.tuple #[(.string r0_0), (.int .i64 r1_0)]) H) E H
  | _ => False
noncomputable def vizardref02_Hop.Γ : FuncId → Option FT := Γof [(25, vizardref02_Parse.F), (42, vizardref02_Build.F)]
theorem vizardref02_Hop.hΓ : ∀ f F, vizardref02_Hop.Γ f = some F → CalleeOk Try.prog f F := Γof_ok (List.forall_mem_cons.2 ⟨vizardref02_Parse.ok, List.forall_mem_cons.2 ⟨vizardref02_Build.ok, fun _ h => nomatch h⟩⟩)
noncomputable def vizardref02_Hop.plan : Plan := .go
theorem vizardref02_Hop.pok : PlanOk Try.prog vizardref02_Hop.plan vizardref02_Hop.body := by
  have e : PlanOk Try.prog vizardref02_Hop.plan vizardref02_Hop.body = (True) := by kernel_rfl
  exact e.mpr trivial
theorem vizardref02_Hop.eq (s0 : ByteArray) (K : Value → Heap → Prop) (E : Value → Heap → Prop) (H : Heap) :
    fnT Try.prog Try.f37 (wC Try.prog vizardref02_Hop.Γ vizardref02_Hop.plan vizardref02_Hop.body) [(.string s0)] K E H = vizardref02_Hop.vc s0 (fun r0_0 r1_0 H => K (.tuple #[(.string r0_0), (.int .i64 r1_0)]) H) E H := by
  kernel_rfl
theorem vizardref02_Hop.Fe {args : List Value} {K E : Value → Heap → Prop} {H : Heap} (h : vizardref02_Hop.F args K E H) : ∃ s0, args = [(.string s0)] ∧ vizardref02_Hop.c s0 (fun r0_0 r1_0 H => K (.tuple #[(.string r0_0), (.int .i64 r1_0)]) H) E H := by
  unfold vizardref02_Hop.F at h
  split at h
  · exact ⟨_, rfl, h⟩
  · exact h.elim
theorem vizardref02_Hop.ok : CalleeOk Try.prog 37 vizardref02_Hop.F :=
  callee_ok vizardref02_Hop.hΓ (fn := Try.f37) (c := vizardref02_Hop.body) (T := wC Try.prog vizardref02_Hop.Γ vizardref02_Hop.plan vizardref02_Hop.body) (by kernel_rfl) (by kernel_rfl) (by kernel_rfl) (wC_sound vizardref02_Hop.hΓ Try.hm vizardref02_Hop.plan _ vizardref02_Hop.pok) fun _ K E H h => by
    obtain ⟨z0, e, h⟩ := vizardref02_Hop.Fe h
    subst e
    have h2 : vizardref02_Hop.vc z0 (fun r0_0 r1_0 H => ∃ H', Heap.Le H' H ∧ K (.tuple #[(.string r0_0), (.int .i64 r1_0)]) H') E H := h.h
    rw [vizardref02_Hop.eq z0 (Fg K) E H]
    exact h2

/-! (vizard/vizardref22.Tunnel).Up -/
noncomputable def vizardref22_Tunnel_Up.body : Code := Try.f18.body.getD .skip
def vizardref22_Tunnel_Up.J1.vc (s0 : ByteArray) (x0 : Addr) (h0 : Addr) (x1 : Bool) (Kn : Heap → Prop) (Kr : Int → Heap → Prop) (E : Value → Heap → Prop) (h1 : Heap) : Prop :=
  (if x1 = true then
  stc h1 (x0.add 0) (.bool false) fun h2 =>
  stc h2 (x0.add 1) (.int .i64 0) fun h3 =>
  stc h3 (x0.add 2) (.int .u32 0) fun h4 =>
  stc h4 (x0.add 3) (.int .i64 0) fun h5 =>
  stc h5 (x0.add 4) (.string (⟨#[]⟩ : ByteArray)) fun h6 =>
  Kr 15 h6
  else
  Kn h1)
structure vizardref22_Tunnel_Up.J1 (s0 : ByteArray) (x0 : Addr) (h0 : Addr) (x1 : Bool) (Kn : Heap → Prop) (Kr : Int → Heap → Prop) (E : Value → Heap → Prop) (H : Heap) : Prop where
  h : vizardref22_Tunnel_Up.J1.vc s0 x0 h0 x1 Kn Kr E H
def vizardref22_Tunnel_Up.J2.vc (s0 : ByteArray) (x0 : Addr) (h0 : Addr) (Kr : Int → Heap → Prop) (E : Value → Heap → Prop) (h1 : Heap) : Prop :=
  vizardref02_Hop.c s0 (fun x1 x2 h2 =>
  (if (x2 != 0) = true then
  stc h2 (x0.add 0) (.bool false) fun h3 =>
  stc h3 (x0.add 1) (.int .i64 0) fun h4 =>
  stc h4 (x0.add 2) (.int .u32 0) fun h5 =>
  stc h5 (x0.add 3) (.int .i64 0) fun h6 =>
  stc h6 (x0.add 4) (.string (⟨#[]⟩ : ByteArray)) fun h7 =>
  Kr x2 h7
  else
  ldI h2 .u32 (h0.add 6) fun x3 =>
  stc h2 (x0.add 0) (.bool true) fun h8 =>
  stc h8 (x0.add 1) (.int .i64 0) fun h9 =>
  stc h9 (x0.add 2) (.int .u32 x3) fun h10 =>
  stc h10 (x0.add 3) (.int .i64 0) fun h11 =>
  stc h11 (x0.add 4) (.string x1) fun h12 =>
  Kr 0 h12)) E h1
structure vizardref22_Tunnel_Up.J2 (s0 : ByteArray) (x0 : Addr) (h0 : Addr) (Kr : Int → Heap → Prop) (E : Value → Heap → Prop) (H : Heap) : Prop where
  h : vizardref22_Tunnel_Up.J2.vc s0 x0 h0 Kr E H
def vizardref22_Tunnel_Up.vc (t0 : Bool) (t1 : Int) (t2 : Int) (t3 : Int) (t4 : Int) (t5 : Option Addr) (t6 : Nat) (t7 : Nat) (s0 : ByteArray) (K : Bool → Int → Int → Int → ByteArray → Int → Heap → Prop) (E : Value → Heap → Prop) (h0 : Heap) : Prop :=
  newB (.cells #[(.bool t0), (.int .u32 t1), (.int .i64 t2), (.int .u32 t3), (.int .i64 t4), (.slice t5 t6 t7)] 46) (fun b0 h1 =>
  newB (.cells #[(.bool false), (.int .i64 0), (.int .u32 0), (.int .i64 0), (.string (⟨#[]⟩ : ByteArray))] 50) (fun b1 h2 =>
  (if (decide ((s0.size : Int) > 1000)) = true then
  stc h2 ((⟨b1, 0, none⟩ : Addr).add 0) (.bool false) fun h3 =>
  stc h3 ((⟨b1, 0, none⟩ : Addr).add 1) (.int .i64 0) fun h4 =>
  stc h4 ((⟨b1, 0, none⟩ : Addr).add 2) (.int .u32 0) fun h5 =>
  stc h5 ((⟨b1, 0, none⟩ : Addr).add 3) (.int .i64 0) fun h6 =>
  stc h6 ((⟨b1, 0, none⟩ : Addr).add 4) (.string (⟨#[]⟩ : ByteArray)) fun h7 =>
  ldB h7 ((⟨b1, 0, none⟩ : Addr).add 0) fun r0 => ldI h7 .i64 ((⟨b1, 0, none⟩ : Addr).add 1) fun r1 => ldI h7 .u32 ((⟨b1, 0, none⟩ : Addr).add 2) fun r2 => ldI h7 .i64 ((⟨b1, 0, none⟩ : Addr).add 3) fun r3 => ldS h7 ((⟨b1, 0, none⟩ : Addr).add 4) fun r4 =>
  K r0 r1 r2 r3 r4 8 h7
  else
  ldB h2 (((⟨b0, 0, none⟩ : Addr).add 0).add 0) fun x0 =>
  (if (!x0) = true then
  ldB h2 ((⟨b0, 0, none⟩ : Addr).add 0) fun x1 => ldI h2 .u32 ((⟨b0, 0, none⟩ : Addr).add 1) fun x2 => ldI h2 .i64 ((⟨b0, 0, none⟩ : Addr).add 2) fun x3 => ldI h2 .u32 ((⟨b0, 0, none⟩ : Addr).add 3) fun x4 => ldI h2 .i64 ((⟨b0, 0, none⟩ : Addr).add 4) fun x5 => ldSl h2 ((⟨b0, 0, none⟩ : Addr).add 5) fun x6 x7 x8 =>
  vizardref22_Tunnel_Open.c x1 x2 x3 x4 x5 x6 x7 x8 (fun x9 h8 =>
  (if (x9 != 0) = true then
  stc h8 ((⟨b1, 0, none⟩ : Addr).add 0) (.bool false) fun h9 =>
  stc h9 ((⟨b1, 0, none⟩ : Addr).add 1) (.int .i64 0) fun h10 =>
  stc h10 ((⟨b1, 0, none⟩ : Addr).add 2) (.int .u32 0) fun h11 =>
  stc h11 ((⟨b1, 0, none⟩ : Addr).add 3) (.int .i64 0) fun h12 =>
  stc h12 ((⟨b1, 0, none⟩ : Addr).add 4) (.string (⟨#[]⟩ : ByteArray)) fun h13 =>
  ldB h13 ((⟨b1, 0, none⟩ : Addr).add 0) fun r5 => ldI h13 .i64 ((⟨b1, 0, none⟩ : Addr).add 1) fun r6 => ldI h13 .u32 ((⟨b1, 0, none⟩ : Addr).add 2) fun r7 => ldI h13 .i64 ((⟨b1, 0, none⟩ : Addr).add 3) fun r8 => ldS h13 ((⟨b1, 0, none⟩ : Addr).add 4) fun r9 =>
  K r5 r6 r7 r8 r9 15 h13
  else
  ldI h8 .i64 ((⟨b0, 0, none⟩ : Addr).add 4) fun x10 =>
  ldI h8 .u32 (((⟨b0, 0, none⟩ : Addr).add 0).add 1) fun x11 =>
  ldI h8 .i64 (((⟨b0, 0, none⟩ : Addr).add 0).add 2) fun x12 =>
  stc h8 ((⟨b1, 0, none⟩ : Addr).add 0) (.bool false) fun h14 =>
  stc h14 ((⟨b1, 0, none⟩ : Addr).add 1) (.int .i64 x10) fun h15 =>
  stc h15 ((⟨b1, 0, none⟩ : Addr).add 2) (.int .u32 x11) fun h16 =>
  stc h16 ((⟨b1, 0, none⟩ : Addr).add 3) (.int .i64 x12) fun h17 =>
  stc h17 ((⟨b1, 0, none⟩ : Addr).add 4) (.string s0) fun h18 =>
  ldB h18 ((⟨b1, 0, none⟩ : Addr).add 0) fun r10 => ldI h18 .i64 ((⟨b1, 0, none⟩ : Addr).add 1) fun r11 => ldI h18 .u32 ((⟨b1, 0, none⟩ : Addr).add 2) fun r12 => ldI h18 .i64 ((⟨b1, 0, none⟩ : Addr).add 3) fun r13 => ldS h18 ((⟨b1, 0, none⟩ : Addr).add 4) fun r14 =>
  K r10 r11 r12 r13 r14 0 h18)) E h2
  else
  vizardref02_Parse.c s0 (fun x13 x14 x15 x16 x17 x18 x19 x20 x21 h19 =>
  newB (.cells #[(.int .i64 0), (.int .i64 0), (.int .i64 0), (.int .i64 0), (.int .i64 0), (.int .u32 0), (.int .u32 0), (.string (⟨#[]⟩ : ByteArray))] 58) (fun b2 h20 =>
  stc h20 ((⟨b2, 0, none⟩ : Addr).add 0) (.int .i64 x13) fun h21 =>
  stc h21 ((⟨b2, 0, none⟩ : Addr).add 1) (.int .i64 x14) fun h22 =>
  stc h22 ((⟨b2, 0, none⟩ : Addr).add 2) (.int .i64 x15) fun h23 =>
  stc h23 ((⟨b2, 0, none⟩ : Addr).add 3) (.int .i64 x16) fun h24 =>
  stc h24 ((⟨b2, 0, none⟩ : Addr).add 4) (.int .i64 x17) fun h25 =>
  stc h25 ((⟨b2, 0, none⟩ : Addr).add 5) (.int .u32 x18) fun h26 =>
  stc h26 ((⟨b2, 0, none⟩ : Addr).add 6) (.int .u32 x19) fun h27 =>
  stc h27 ((⟨b2, 0, none⟩ : Addr).add 7) (.string x20) fun h28 =>
  (if (x21 != 0) = true then
  stc h28 ((⟨b1, 0, none⟩ : Addr).add 0) (.bool false) fun h29 =>
  stc h29 ((⟨b1, 0, none⟩ : Addr).add 1) (.int .i64 0) fun h30 =>
  stc h30 ((⟨b1, 0, none⟩ : Addr).add 2) (.int .u32 0) fun h31 =>
  stc h31 ((⟨b1, 0, none⟩ : Addr).add 3) (.int .i64 0) fun h32 =>
  stc h32 ((⟨b1, 0, none⟩ : Addr).add 4) (.string (⟨#[]⟩ : ByteArray)) fun h33 =>
  ldB h33 ((⟨b1, 0, none⟩ : Addr).add 0) fun r15 => ldI h33 .i64 ((⟨b1, 0, none⟩ : Addr).add 1) fun r16 => ldI h33 .u32 ((⟨b1, 0, none⟩ : Addr).add 2) fun r17 => ldI h33 .i64 ((⟨b1, 0, none⟩ : Addr).add 3) fun r18 => ldS h33 ((⟨b1, 0, none⟩ : Addr).add 4) fun r19 =>
  K r15 r16 r17 r18 r19 x21 h33
  else
  ldI h28 .u32 ((⟨b2, 0, none⟩ : Addr).add 5) fun x22 =>
  ldI h28 .u32 ((⟨b0, 0, none⟩ : Addr).add 3) fun x23 =>
  (if (x22 != x23) = true then
  True ∧
  True ∧
  True ∧
  vizardref22_Tunnel_Up.J1 s0 (⟨b1, 0, none⟩ : Addr) (⟨b2, 0, none⟩ : Addr) true (fun h34 =>
  vizardref22_Tunnel_Up.J2 s0 (⟨b1, 0, none⟩ : Addr) (⟨b2, 0, none⟩ : Addr) (fun x24 h35 =>
  ldB h35 ((⟨b1, 0, none⟩ : Addr).add 0) fun r20 => ldI h35 .i64 ((⟨b1, 0, none⟩ : Addr).add 1) fun r21 => ldI h35 .u32 ((⟨b1, 0, none⟩ : Addr).add 2) fun r22 => ldI h35 .i64 ((⟨b1, 0, none⟩ : Addr).add 3) fun r23 => ldS h35 ((⟨b1, 0, none⟩ : Addr).add 4) fun r24 =>
  K r20 r21 r22 r23 r24 x24 h35) E h34) (fun x25 h36 =>
  ldB h36 ((⟨b1, 0, none⟩ : Addr).add 0) fun r25 => ldI h36 .i64 ((⟨b1, 0, none⟩ : Addr).add 1) fun r26 => ldI h36 .u32 ((⟨b1, 0, none⟩ : Addr).add 2) fun r27 => ldI h36 .i64 ((⟨b1, 0, none⟩ : Addr).add 3) fun r28 => ldS h36 ((⟨b1, 0, none⟩ : Addr).add 4) fun r29 =>
  K r25 r26 r27 r28 r29 x25 h36) E h28
  else
  ldSl h28 ((⟨b0, 0, none⟩ : Addr).add 5) fun x26 x27 x28 =>
  ldI h28 .i64 ((⟨b2, 0, none⟩ : Addr).add 4) fun x29 =>
  ldI h28 .u32 ((⟨b2, 0, none⟩ : Addr).add 6) fun x30 =>
  ldI h28 .i64 ((⟨b2, 0, none⟩ : Addr).add 0) fun x31 => ldI h28 .i64 ((⟨b2, 0, none⟩ : Addr).add 1) fun x32 => ldI h28 .i64 ((⟨b2, 0, none⟩ : Addr).add 2) fun x33 => ldI h28 .i64 ((⟨b2, 0, none⟩ : Addr).add 3) fun x34 => ldI h28 .i64 ((⟨b2, 0, none⟩ : Addr).add 4) fun x35 => ldI h28 .u32 ((⟨b2, 0, none⟩ : Addr).add 5) fun x36 => ldI h28 .u32 ((⟨b2, 0, none⟩ : Addr).add 6) fun x37 => ldS h28 ((⟨b2, 0, none⟩ : Addr).add 7) fun x38 =>
  vizardref22_Port.c x31 x32 x33 x34 x35 x36 x37 x38 (fun x39 h37 =>
  (ldI h37 .u32 ((⟨b2, 0, none⟩ : Addr).add 6) fun x40 =>
  eqv h37 h37 (some (.int .u32 x30)) (.int .u32 x40)) ∧
  (ldI h37 .i64 ((⟨b2, 0, none⟩ : Addr).add 4) fun x41 =>
  eqv h37 h37 (some (.int .i64 x29)) (.int .i64 x41)) ∧
  (ldSl h37 ((⟨b0, 0, none⟩ : Addr).add 5) fun x42 x43 x44 =>
  eqv h37 h37 (some (.slice x26 x27 x28)) (.slice x42 x43 x44)) ∧
  vizardref18_Allow.c x26 x27 x28 x29 x30 x39 (fun x45 h38 =>
  vizardref22_Tunnel_Up.J1 s0 (⟨b1, 0, none⟩ : Addr) (⟨b2, 0, none⟩ : Addr) (!x45) (fun h39 =>
  vizardref22_Tunnel_Up.J2 s0 (⟨b1, 0, none⟩ : Addr) (⟨b2, 0, none⟩ : Addr) (fun x46 h40 =>
  ldB h40 ((⟨b1, 0, none⟩ : Addr).add 0) fun r30 => ldI h40 .i64 ((⟨b1, 0, none⟩ : Addr).add 1) fun r31 => ldI h40 .u32 ((⟨b1, 0, none⟩ : Addr).add 2) fun r32 => ldI h40 .i64 ((⟨b1, 0, none⟩ : Addr).add 3) fun r33 => ldS h40 ((⟨b1, 0, none⟩ : Addr).add 4) fun r34 =>
  K r30 r31 r32 r33 r34 x46 h40) E h39) (fun x47 h41 =>
  ldB h41 ((⟨b1, 0, none⟩ : Addr).add 0) fun r35 => ldI h41 .i64 ((⟨b1, 0, none⟩ : Addr).add 1) fun r36 => ldI h41 .u32 ((⟨b1, 0, none⟩ : Addr).add 2) fun r37 => ldI h41 .i64 ((⟨b1, 0, none⟩ : Addr).add 3) fun r38 => ldS h41 ((⟨b1, 0, none⟩ : Addr).add 4) fun r39 =>
  K r35 r36 r37 r38 r39 x47 h41) E h38) E h37) E h28))) h19) E h2))) h1) h0
structure vizardref22_Tunnel_Up.c (t0 : Bool) (t1 : Int) (t2 : Int) (t3 : Int) (t4 : Int) (t5 : Option Addr) (t6 : Nat) (t7 : Nat) (s0 : ByteArray) (K : Bool → Int → Int → Int → ByteArray → Int → Heap → Prop) (E : Value → Heap → Prop) (H : Heap) : Prop where
  h : vizardref22_Tunnel_Up.vc t0 t1 t2 t3 t4 t5 t6 t7 s0 (fun r0_0 r0_1 r0_2 r0_3 r0_4 r1_0 H => ∃ H', Heap.Le H' H ∧ K r0_0 r0_1 r0_2 r0_3 r0_4 r1_0 H') E H
def vizardref22_Tunnel_Up.F : FT := fun args K E H => match args with
  | [(.agg ⟨[(.bool t0), (.int .u32 t1), (.int .i64 t2), (.int .u32 t3), (.int .i64 t4), (.slice t5 t6 t7)]⟩), (.string s0)] => vizardref22_Tunnel_Up.c t0 t1 t2 t3 t4 t5 t6 t7 s0 (fun r0_0 r0_1 r0_2 r0_3 r0_4 r1_0 H => K (.tuple #[(.agg #[(.bool r0_0), (.int .i64 r0_1), (.int .u32 r0_2), (.int .i64 r0_3), (.string r0_4)]), (.int .i64 r1_0)]) H) E H
  | _ => False
noncomputable def vizardref22_Tunnel_Up.Γ : FuncId → Option FT := Γof [(22, vizardref22_Tunnel_Open.F), (24, vizardref18_Allow.F), (25, vizardref02_Parse.F), (26, vizardref22_Port.F), (37, vizardref02_Hop.F)]
theorem vizardref22_Tunnel_Up.hΓ : ∀ f F, vizardref22_Tunnel_Up.Γ f = some F → CalleeOk Try.prog f F := Γof_ok (List.forall_mem_cons.2 ⟨vizardref22_Tunnel_Open.ok, List.forall_mem_cons.2 ⟨vizardref18_Allow.ok, List.forall_mem_cons.2 ⟨vizardref02_Parse.ok, List.forall_mem_cons.2 ⟨vizardref22_Port.ok, List.forall_mem_cons.2 ⟨vizardref02_Hop.ok, fun _ h => nomatch h⟩⟩⟩⟩⟩)
def vizardref22_Tunnel_Up.J1.t : CT := fun Q E fr H => lenIs 71 fr (slS fr 1 fun s0 => slPA fr 4 fun x0 => slPA fr 6 fun h0 => slB fr 56 fun x1 => vizardref22_Tunnel_Up.J1 s0 x0 h0 x1 (fun  H => Q .normal (mkF 71 [(1, (.string s0)), (4, (.pointer (some x0))), (6, (.pointer (some h0)))]) H) (fun y5_0 H => Q .ret (mkF 71 [(4, (.pointer (some x0))), (5, (.int .i64 y5_0))]) H) E H)
noncomputable def vizardref22_Tunnel_Up.J1.plan : Plan := .go
theorem vizardref22_Tunnel_Up.J1.pok : PlanOk Try.prog vizardref22_Tunnel_Up.J1.plan (sub [1, 1, 1, 1, 1, 0, 1] vizardref22_Tunnel_Up.body) := by
  have e : PlanOk Try.prog vizardref22_Tunnel_Up.J1.plan (sub [1, 1, 1, 1, 1, 0, 1] vizardref22_Tunnel_Up.body) = (True) := by kernel_rfl
  exact e.mpr trivial
theorem vizardref22_Tunnel_Up.J1.eq (s0 : ByteArray) (x0 : Addr) (h0 : Addr) (x1 : Bool) (Q : Ex → Fr → Heap → Prop) (E : Value → Heap → Prop) (H : Heap) :
    vizardref22_Tunnel_Up.J1.vc s0 x0 h0 x1 (fun  H => Q .normal (mkF 71 [(1, (.string s0)), (4, (.pointer (some x0))), (6, (.pointer (some h0)))]) H) (fun y5_0 H => Q .ret (mkF 71 [(4, (.pointer (some x0))), (5, (.int .i64 y5_0))]) H) E H = keepT [1, 4, 6] [4, 5] (fun i => []) (wC Try.prog vizardref22_Tunnel_Up.Γ vizardref22_Tunnel_Up.J1.plan (sub [1, 1, 1, 1, 1, 0, 1] vizardref22_Tunnel_Up.body)) Q E (mkF 71 [(1, (.string s0)), (4, (.pointer (some x0))), (6, (.pointer (some h0))), (56, (.bool x1))]) H := by
  kernel_rfl
theorem vizardref22_Tunnel_Up.J1.ok : SoundCode Try.prog (sub [1, 1, 1, 1, 1, 0, 1] vizardref22_Tunnel_Up.body) vizardref22_Tunnel_Up.J1.t := by
  refine piece_sound (keepT_sound [1, 4, 6] [4, 5] (fun i => []) (wC_sound vizardref22_Tunnel_Up.hΓ Try.hm vizardref22_Tunnel_Up.J1.plan _ vizardref22_Tunnel_Up.J1.pok)) ?_
  intro Q E fr H h
  unfold vizardref22_Tunnel_Up.J1.t at h
  obtain ⟨hl, h⟩ := lenIs_elim h
  obtain ⟨s0, q1, h⟩ := slS_elim h
  obtain ⟨x0, q4, h⟩ := slPA_elim h
  obtain ⟨h0, q6, h⟩ := slPA_elim h
  obtain ⟨x1, q56, h⟩ := slB_elim h
  refine ⟨(mkF 71 [(1, (.string s0)), (4, (.pointer (some x0))), (6, (.pointer (some h0))), (56, (.bool x1))]), fun a ha => ha.mk (Nat.le_of_eq hl.symm) (List.forall_mem_cons.2 ⟨q1, List.forall_mem_cons.2 ⟨q4, List.forall_mem_cons.2 ⟨q6, List.forall_mem_cons.2 ⟨q56, fun _ h => nomatch h⟩⟩⟩⟩), ?_⟩
  have e := vizardref22_Tunnel_Up.J1.eq s0 x0 h0 x1 Q E H
  rw [← e]
  exact h.h
def vizardref22_Tunnel_Up.J2.t : CT := fun Q E fr H => lenIs 71 fr (slS fr 1 fun s0 => slPA fr 4 fun x0 => slPA fr 6 fun h0 => vizardref22_Tunnel_Up.J2 s0 x0 h0 (fun y5_0 H => Q .ret (mkF 71 [(4, (.pointer (some x0))), (5, (.int .i64 y5_0))]) H) E H)
noncomputable def vizardref22_Tunnel_Up.J2.plan : Plan := .go
theorem vizardref22_Tunnel_Up.J2.pok : PlanOk Try.prog vizardref22_Tunnel_Up.J2.plan (sub [1, 1, 1, 1, 1, 1] vizardref22_Tunnel_Up.body) := by
  have e : PlanOk Try.prog vizardref22_Tunnel_Up.J2.plan (sub [1, 1, 1, 1, 1, 1] vizardref22_Tunnel_Up.body) = (True) := by kernel_rfl
  exact e.mpr trivial
theorem vizardref22_Tunnel_Up.J2.eq (s0 : ByteArray) (x0 : Addr) (h0 : Addr) (Q : Ex → Fr → Heap → Prop) (E : Value → Heap → Prop) (H : Heap) :
    vizardref22_Tunnel_Up.J2.vc s0 x0 h0 (fun y5_0 H => Q .ret (mkF 71 [(4, (.pointer (some x0))), (5, (.int .i64 y5_0))]) H) E H = keepT [] [4, 5] (fun i => []) (wC Try.prog vizardref22_Tunnel_Up.Γ vizardref22_Tunnel_Up.J2.plan (sub [1, 1, 1, 1, 1, 1] vizardref22_Tunnel_Up.body)) Q E (mkF 71 [(1, (.string s0)), (4, (.pointer (some x0))), (6, (.pointer (some h0)))]) H := by
  kernel_rfl
theorem vizardref22_Tunnel_Up.J2.ok : SoundCode Try.prog (sub [1, 1, 1, 1, 1, 1] vizardref22_Tunnel_Up.body) vizardref22_Tunnel_Up.J2.t := by
  refine piece_sound (keepT_sound [] [4, 5] (fun i => []) (wC_sound vizardref22_Tunnel_Up.hΓ Try.hm vizardref22_Tunnel_Up.J2.plan _ vizardref22_Tunnel_Up.J2.pok)) ?_
  intro Q E fr H h
  unfold vizardref22_Tunnel_Up.J2.t at h
  obtain ⟨hl, h⟩ := lenIs_elim h
  obtain ⟨s0, q1, h⟩ := slS_elim h
  obtain ⟨x0, q4, h⟩ := slPA_elim h
  obtain ⟨h0, q6, h⟩ := slPA_elim h
  refine ⟨(mkF 71 [(1, (.string s0)), (4, (.pointer (some x0))), (6, (.pointer (some h0)))]), fun a ha => ha.mk (Nat.le_of_eq hl.symm) (List.forall_mem_cons.2 ⟨q1, List.forall_mem_cons.2 ⟨q4, List.forall_mem_cons.2 ⟨q6, fun _ h => nomatch h⟩⟩⟩), ?_⟩
  have e := vizardref22_Tunnel_Up.J2.eq s0 x0 h0 Q E H
  rw [← e]
  exact h.h
noncomputable def vizardref22_Tunnel_Up.plan : Plan := .seq (.go) (.seq (.go) (.seq (.go) (.seq (.go) (.seq (.go) (.seq (.seq (.draw ⟨[0, 1, 2, 3, 4, 5, 6, 7, 8, 9, 10, 11, 12, 13, 14, 15, 16], (dl [(0, []), (1, []), (2, []), (3, []), (4, []), (5, []), (6, []), (7, []), (8, []), (9, []), (10, []), (11, []), (12, []), (13, [12, 5, 4, 1, 3, 0, 2]), (14, [7, 9, 11, 13, 5, 6, 8, 10, 12, 4, 1, 3, 0, 2]), (15, []), (16, [])] .fin), []⟩) (.use vizardref22_Tunnel_Up.J1.t)) (.use vizardref22_Tunnel_Up.J2.t))))))
theorem vizardref22_Tunnel_Up.pok : PlanOk Try.prog vizardref22_Tunnel_Up.plan vizardref22_Tunnel_Up.body := by
  have e : PlanOk Try.prog vizardref22_Tunnel_Up.plan vizardref22_Tunnel_Up.body = ((True) ∧ ((True) ∧ ((True) ∧ ((True) ∧ ((True) ∧ (((True) ∧ (SoundCode Try.prog (sub [1, 1, 1, 1, 1, 0, 1] vizardref22_Tunnel_Up.body) vizardref22_Tunnel_Up.J1.t)) ∧ (SoundCode Try.prog (sub [1, 1, 1, 1, 1, 1] vizardref22_Tunnel_Up.body) vizardref22_Tunnel_Up.J2.t))))))) := by kernel_rfl
  exact e.mpr ⟨trivial, ⟨trivial, ⟨trivial, ⟨trivial, ⟨trivial, ⟨⟨trivial, vizardref22_Tunnel_Up.J1.ok⟩, vizardref22_Tunnel_Up.J2.ok⟩⟩⟩⟩⟩⟩
theorem vizardref22_Tunnel_Up.eq (t0 : Bool) (t1 : Int) (t2 : Int) (t3 : Int) (t4 : Int) (t5 : Option Addr) (t6 : Nat) (t7 : Nat) (s0 : ByteArray) (K : Value → Heap → Prop) (E : Value → Heap → Prop) (H : Heap) :
    fnT Try.prog Try.f18 (wC Try.prog vizardref22_Tunnel_Up.Γ vizardref22_Tunnel_Up.plan vizardref22_Tunnel_Up.body) [(.agg #[(.bool t0), (.int .u32 t1), (.int .i64 t2), (.int .u32 t3), (.int .i64 t4), (.slice t5 t6 t7)]), (.string s0)] K E H = vizardref22_Tunnel_Up.vc t0 t1 t2 t3 t4 t5 t6 t7 s0 (fun r0_0 r0_1 r0_2 r0_3 r0_4 r1_0 H => K (.tuple #[(.agg #[(.bool r0_0), (.int .i64 r0_1), (.int .u32 r0_2), (.int .i64 r0_3), (.string r0_4)]), (.int .i64 r1_0)]) H) E H := by
  kernel_rfl
theorem vizardref22_Tunnel_Up.Fe {args : List Value} {K E : Value → Heap → Prop} {H : Heap} (h : vizardref22_Tunnel_Up.F args K E H) : ∃ t0 t1 t2 t3 t4 t5 t6 t7 s0, args = [(.agg #[(.bool t0), (.int .u32 t1), (.int .i64 t2), (.int .u32 t3), (.int .i64 t4), (.slice t5 t6 t7)]), (.string s0)] ∧ vizardref22_Tunnel_Up.c t0 t1 t2 t3 t4 t5 t6 t7 s0 (fun r0_0 r0_1 r0_2 r0_3 r0_4 r1_0 H => K (.tuple #[(.agg #[(.bool r0_0), (.int .i64 r0_1), (.int .u32 r0_2), (.int .i64 r0_3), (.string r0_4)]), (.int .i64 r1_0)]) H) E H := by
  unfold vizardref22_Tunnel_Up.F at h
  split at h
  · exact ⟨_, _, _, _, _, _, _, _, _, rfl, h⟩
  · exact h.elim
theorem vizardref22_Tunnel_Up.ok : CalleeOk Try.prog 18 vizardref22_Tunnel_Up.F :=
  callee_ok vizardref22_Tunnel_Up.hΓ (fn := Try.f18) (c := vizardref22_Tunnel_Up.body) (T := wC Try.prog vizardref22_Tunnel_Up.Γ vizardref22_Tunnel_Up.plan vizardref22_Tunnel_Up.body) (by kernel_rfl) (by kernel_rfl) (by kernel_rfl) (wC_sound vizardref22_Tunnel_Up.hΓ Try.hm vizardref22_Tunnel_Up.plan _ vizardref22_Tunnel_Up.pok) fun _ K E H h => by
    obtain ⟨z0, z1, z2, z3, z4, z5, z6, z7, z8, e, h⟩ := vizardref22_Tunnel_Up.Fe h
    subst e
    have h2 : vizardref22_Tunnel_Up.vc z0 z1 z2 z3 z4 z5 z6 z7 z8 (fun r0_0 r0_1 r0_2 r0_3 r0_4 r1_0 H => ∃ H', Heap.Le H' H ∧ K (.tuple #[(.agg #[(.bool r0_0), (.int .i64 r0_1), (.int .u32 r0_2), (.int .i64 r0_3), (.string r0_4)]), (.int .i64 r1_0)]) H') E H := h.h
    rw [vizardref22_Tunnel_Up.eq z0 z1 z2 z3 z4 z5 z6 z7 z8 (Fg K) E H]
    exact h2

/-! (vizard/tunnel.Tunnel).Down -/
noncomputable def tunnel_Tunnel_Down.body : Code := Try.f19.body.getD .skip
def tunnel_Tunnel_Down.J1.vc (s0 : ByteArray) (t0 : Addr) (x0 : Bool) (Kn : Heap → Prop) (Kr : ByteArray → Int → Heap → Prop) (E : Value → Heap → Prop) (h0 : Heap) : Prop :=
  (if x0 = true then
  Kr (⟨#[]⟩ : ByteArray) 15 h0
  else
  ldB h0 ((t0.add 0).add 0) fun x1 =>
  (if (!x1) = true then
  Kr s0 0 h0
  else
  Kn h0))
structure tunnel_Tunnel_Down.J1 (s0 : ByteArray) (t0 : Addr) (x0 : Bool) (Kn : Heap → Prop) (Kr : ByteArray → Int → Heap → Prop) (E : Value → Heap → Prop) (H : Heap) : Prop where
  h : tunnel_Tunnel_Down.J1.vc s0 t0 x0 Kn Kr E H
def tunnel_Tunnel_Down.J2.vc (s0 : ByteArray) (t0 : Addr) (Kr : ByteArray → Int → Heap → Prop) (E : Value → Heap → Prop) (h0 : Heap) : Prop :=
  ipv4_Parse.c s0 (fun x0 x1 x2 x3 x4 x5 x6 x7 x8 h1 =>
  newB (.cells #[(.int .i64 0), (.int .i64 0), (.int .i64 0), (.int .i64 0), (.int .i64 0), (.int .u32 0), (.int .u32 0), (.string (⟨#[]⟩ : ByteArray))] 58) (fun b0 h2 =>
  stc h2 ((⟨b0, 0, none⟩ : Addr).add 0) (.int .i64 x0) fun h3 =>
  stc h3 ((⟨b0, 0, none⟩ : Addr).add 1) (.int .i64 x1) fun h4 =>
  stc h4 ((⟨b0, 0, none⟩ : Addr).add 2) (.int .i64 x2) fun h5 =>
  stc h5 ((⟨b0, 0, none⟩ : Addr).add 3) (.int .i64 x3) fun h6 =>
  stc h6 ((⟨b0, 0, none⟩ : Addr).add 4) (.int .i64 x4) fun h7 =>
  stc h7 ((⟨b0, 0, none⟩ : Addr).add 5) (.int .u32 x5) fun h8 =>
  stc h8 ((⟨b0, 0, none⟩ : Addr).add 6) (.int .u32 x6) fun h9 =>
  stc h9 ((⟨b0, 0, none⟩ : Addr).add 7) (.string x7) fun h10 =>
  (if (x8 != 0) = true then
  Kr (⟨#[]⟩ : ByteArray) x8 h10
  else
  ldI h10 .u32 ((⟨b0, 0, none⟩ : Addr).add 6) fun x9 =>
  ldI h10 .u32 (t0.add 3) fun x10 =>
  (if (x9 != x10) = true then
  Kr (⟨#[]⟩ : ByteArray) 15 h10
  else
  tunnel_further.c s0 Kr E h10))) h1) E h0
structure tunnel_Tunnel_Down.J2 (s0 : ByteArray) (t0 : Addr) (Kr : ByteArray → Int → Heap → Prop) (E : Value → Heap → Prop) (H : Heap) : Prop where
  h : tunnel_Tunnel_Down.J2.vc s0 t0 Kr E H
def tunnel_Tunnel_Down.vc (t0 : Bool) (t1 : Int) (t2 : Int) (t3 : Int) (t4 : Int) (t5 : Option Addr) (t6 : Nat) (t7 : Nat) (src0 : Int) (from0 : Int) (s0 : ByteArray) (K : ByteArray → Int → Heap → Prop) (E : Value → Heap → Prop) (h0 : Heap) : Prop :=
  newB (.cells #[(.bool t0), (.int .u32 t1), (.int .i64 t2), (.int .u32 t3), (.int .i64 t4), (.slice t5 t6 t7)] 47) (fun b0 h1 =>
  (if (decide ((s0.size : Int) > 1000)) = true then
  K (⟨#[]⟩ : ByteArray) 8 h1
  else
  ldB h1 (((⟨b0, 0, none⟩ : Addr).add 0).add 0) fun x0 =>
  (if (!x0) = true then
  ldI h1 .u32 (((⟨b0, 0, none⟩ : Addr).add 0).add 1) fun x1 =>
  (if (src0 != x1) = true then
  tunnel_Tunnel_Down.J1 s0 (⟨b0, 0, none⟩ : Addr) true (fun h2 =>
  tunnel_Tunnel_Down.J2 s0 (⟨b0, 0, none⟩ : Addr) K E h2) K E h1
  else
  ldI h1 .i64 (((⟨b0, 0, none⟩ : Addr).add 0).add 2) fun x6 =>
  tunnel_Tunnel_Down.J1 s0 (⟨b0, 0, none⟩ : Addr) (from0 != x6) (fun h5 =>
  tunnel_Tunnel_Down.J2 s0 (⟨b0, 0, none⟩ : Addr) K E h5) K E h1)
  else
  tunnel_Tunnel_Down.J1 s0 (⟨b0, 0, none⟩ : Addr) false (fun h8 =>
  tunnel_Tunnel_Down.J2 s0 (⟨b0, 0, none⟩ : Addr) K E h8) K E h1))) h0
structure tunnel_Tunnel_Down.c (t0 : Bool) (t1 : Int) (t2 : Int) (t3 : Int) (t4 : Int) (t5 : Option Addr) (t6 : Nat) (t7 : Nat) (src0 : Int) (from0 : Int) (s0 : ByteArray) (K : ByteArray → Int → Heap → Prop) (E : Value → Heap → Prop) (H : Heap) : Prop where
  h : tunnel_Tunnel_Down.vc t0 t1 t2 t3 t4 t5 t6 t7 src0 from0 s0 (fun r0_0 r1_0 H => ∃ H', Heap.Le H' H ∧ K r0_0 r1_0 H') E H
def tunnel_Tunnel_Down.F : FT := fun args K E H => match args with
  | [(.agg ⟨[(.bool t0), (.int .u32 t1), (.int .i64 t2), (.int .u32 t3), (.int .i64 t4), (.slice t5 t6 t7)]⟩), (.int .u32 src0), (.int .i64 from0), (.string s0)] => tunnel_Tunnel_Down.c t0 t1 t2 t3 t4 t5 t6 t7 src0 from0 s0 (fun r0_0 r1_0 H => K (.tuple #[(.string r0_0), (.int .i64 r1_0)]) H) E H
  | _ => False
noncomputable def tunnel_Tunnel_Down.Γ : FuncId → Option FT := Γof [(38, ipv4_Parse.F), (39, tunnel_further.F)]
theorem tunnel_Tunnel_Down.hΓ : ∀ f F, tunnel_Tunnel_Down.Γ f = some F → CalleeOk Try.prog f F := Γof_ok (List.forall_mem_cons.2 ⟨ipv4_Parse.ok, List.forall_mem_cons.2 ⟨tunnel_further.ok, fun _ h => nomatch h⟩⟩)
def tunnel_Tunnel_Down.J1.t : CT := fun Q E fr H => lenIs 60 fr (slS fr 3 fun s0 => slPA fr 4 fun t0 => slB fr 16 fun x0 => tunnel_Tunnel_Down.J1 s0 t0 x0 (fun  H => Q .normal (mkF 60 [(3, (.string s0)), (4, (.pointer (some t0)))]) H) (fun y8_0 y9_0 H => Q .ret (mkF 60 [(8, (.string y8_0)), (9, (.int .i64 y9_0))]) H) E H)
noncomputable def tunnel_Tunnel_Down.J1.plan : Plan := .go
theorem tunnel_Tunnel_Down.J1.pok : PlanOk Try.prog tunnel_Tunnel_Down.J1.plan (sub [1, 0, 0, 1, 1, 1] tunnel_Tunnel_Down.body) := by
  have e : PlanOk Try.prog tunnel_Tunnel_Down.J1.plan (sub [1, 0, 0, 1, 1, 1] tunnel_Tunnel_Down.body) = (True) := by kernel_rfl
  exact e.mpr trivial
theorem tunnel_Tunnel_Down.J1.eq (s0 : ByteArray) (t0 : Addr) (x0 : Bool) (Q : Ex → Fr → Heap → Prop) (E : Value → Heap → Prop) (H : Heap) :
    tunnel_Tunnel_Down.J1.vc s0 t0 x0 (fun  H => Q .normal (mkF 60 [(3, (.string s0)), (4, (.pointer (some t0)))]) H) (fun y8_0 y9_0 H => Q .ret (mkF 60 [(8, (.string y8_0)), (9, (.int .i64 y9_0))]) H) E H = keepT [3, 4] [8, 9] (fun i => []) (wC Try.prog tunnel_Tunnel_Down.Γ tunnel_Tunnel_Down.J1.plan (sub [1, 0, 0, 1, 1, 1] tunnel_Tunnel_Down.body)) Q E (mkF 60 [(3, (.string s0)), (4, (.pointer (some t0))), (16, (.bool x0))]) H := by
  kernel_rfl
theorem tunnel_Tunnel_Down.J1.ok : SoundCode Try.prog (sub [1, 0, 0, 1, 1, 1] tunnel_Tunnel_Down.body) tunnel_Tunnel_Down.J1.t := by
  refine piece_sound (keepT_sound [3, 4] [8, 9] (fun i => []) (wC_sound tunnel_Tunnel_Down.hΓ Try.hm tunnel_Tunnel_Down.J1.plan _ tunnel_Tunnel_Down.J1.pok)) ?_
  intro Q E fr H h
  unfold tunnel_Tunnel_Down.J1.t at h
  obtain ⟨hl, h⟩ := lenIs_elim h
  obtain ⟨s0, q3, h⟩ := slS_elim h
  obtain ⟨t0, q4, h⟩ := slPA_elim h
  obtain ⟨x0, q16, h⟩ := slB_elim h
  refine ⟨(mkF 60 [(3, (.string s0)), (4, (.pointer (some t0))), (16, (.bool x0))]), fun a ha => ha.mk (Nat.le_of_eq hl.symm) (List.forall_mem_cons.2 ⟨q3, List.forall_mem_cons.2 ⟨q4, List.forall_mem_cons.2 ⟨q16, fun _ h => nomatch h⟩⟩⟩), ?_⟩
  have e := tunnel_Tunnel_Down.J1.eq s0 t0 x0 Q E H
  rw [← e]
  exact h.h
def tunnel_Tunnel_Down.J2.t : CT := fun Q E fr H => lenIs 60 fr (slS fr 3 fun s0 => slPA fr 4 fun t0 => tunnel_Tunnel_Down.J2 s0 t0 (fun y8_0 y9_0 H => Q .ret (mkF 60 [(8, (.string y8_0)), (9, (.int .i64 y9_0))]) H) E H)
noncomputable def tunnel_Tunnel_Down.J2.plan : Plan := .go
theorem tunnel_Tunnel_Down.J2.pok : PlanOk Try.prog tunnel_Tunnel_Down.J2.plan (sub [1, 1] tunnel_Tunnel_Down.body) := by
  have e : PlanOk Try.prog tunnel_Tunnel_Down.J2.plan (sub [1, 1] tunnel_Tunnel_Down.body) = (True) := by kernel_rfl
  exact e.mpr trivial
theorem tunnel_Tunnel_Down.J2.eq (s0 : ByteArray) (t0 : Addr) (Q : Ex → Fr → Heap → Prop) (E : Value → Heap → Prop) (H : Heap) :
    tunnel_Tunnel_Down.J2.vc s0 t0 (fun y8_0 y9_0 H => Q .ret (mkF 60 [(8, (.string y8_0)), (9, (.int .i64 y9_0))]) H) E H = keepT [] [8, 9] (fun i => []) (wC Try.prog tunnel_Tunnel_Down.Γ tunnel_Tunnel_Down.J2.plan (sub [1, 1] tunnel_Tunnel_Down.body)) Q E (mkF 60 [(3, (.string s0)), (4, (.pointer (some t0)))]) H := by
  kernel_rfl
theorem tunnel_Tunnel_Down.J2.ok : SoundCode Try.prog (sub [1, 1] tunnel_Tunnel_Down.body) tunnel_Tunnel_Down.J2.t := by
  refine piece_sound (keepT_sound [] [8, 9] (fun i => []) (wC_sound tunnel_Tunnel_Down.hΓ Try.hm tunnel_Tunnel_Down.J2.plan _ tunnel_Tunnel_Down.J2.pok)) ?_
  intro Q E fr H h
  unfold tunnel_Tunnel_Down.J2.t at h
  obtain ⟨hl, h⟩ := lenIs_elim h
  obtain ⟨s0, q3, h⟩ := slS_elim h
  obtain ⟨t0, q4, h⟩ := slPA_elim h
  refine ⟨(mkF 60 [(3, (.string s0)), (4, (.pointer (some t0)))]), fun a ha => ha.mk (Nat.le_of_eq hl.symm) (List.forall_mem_cons.2 ⟨q3, List.forall_mem_cons.2 ⟨q4, fun _ h => nomatch h⟩⟩), ?_⟩
  have e := tunnel_Tunnel_Down.J2.eq s0 t0 Q E H
  rw [← e]
  exact h.h
noncomputable def tunnel_Tunnel_Down.plan : Plan := .seq (.go) (.seq (.block (.seq (.go) (.cond (.go) (.seq (.go) (.use tunnel_Tunnel_Down.J1.t))))) (.use tunnel_Tunnel_Down.J2.t))
theorem tunnel_Tunnel_Down.pok : PlanOk Try.prog tunnel_Tunnel_Down.plan tunnel_Tunnel_Down.body := by
  have e : PlanOk Try.prog tunnel_Tunnel_Down.plan tunnel_Tunnel_Down.body = ((True) ∧ (((True) ∧ ((True) ∧ ((True) ∧ (SoundCode Try.prog (sub [1, 0, 0, 1, 1, 1] tunnel_Tunnel_Down.body) tunnel_Tunnel_Down.J1.t)))) ∧ (SoundCode Try.prog (sub [1, 1] tunnel_Tunnel_Down.body) tunnel_Tunnel_Down.J2.t))) := by kernel_rfl
  exact e.mpr ⟨trivial, ⟨⟨trivial, ⟨trivial, ⟨trivial, tunnel_Tunnel_Down.J1.ok⟩⟩⟩, tunnel_Tunnel_Down.J2.ok⟩⟩
theorem tunnel_Tunnel_Down.eq (t0 : Bool) (t1 : Int) (t2 : Int) (t3 : Int) (t4 : Int) (t5 : Option Addr) (t6 : Nat) (t7 : Nat) (src0 : Int) (from0 : Int) (s0 : ByteArray) (K : Value → Heap → Prop) (E : Value → Heap → Prop) (H : Heap) :
    fnT Try.prog Try.f19 (wC Try.prog tunnel_Tunnel_Down.Γ tunnel_Tunnel_Down.plan tunnel_Tunnel_Down.body) [(.agg #[(.bool t0), (.int .u32 t1), (.int .i64 t2), (.int .u32 t3), (.int .i64 t4), (.slice t5 t6 t7)]), (.int .u32 src0), (.int .i64 from0), (.string s0)] K E H = tunnel_Tunnel_Down.vc t0 t1 t2 t3 t4 t5 t6 t7 src0 from0 s0 (fun r0_0 r1_0 H => K (.tuple #[(.string r0_0), (.int .i64 r1_0)]) H) E H := by
  kernel_rfl
theorem tunnel_Tunnel_Down.Fe {args : List Value} {K E : Value → Heap → Prop} {H : Heap} (h : tunnel_Tunnel_Down.F args K E H) : ∃ t0 t1 t2 t3 t4 t5 t6 t7 src0 from0 s0, args = [(.agg #[(.bool t0), (.int .u32 t1), (.int .i64 t2), (.int .u32 t3), (.int .i64 t4), (.slice t5 t6 t7)]), (.int .u32 src0), (.int .i64 from0), (.string s0)] ∧ tunnel_Tunnel_Down.c t0 t1 t2 t3 t4 t5 t6 t7 src0 from0 s0 (fun r0_0 r1_0 H => K (.tuple #[(.string r0_0), (.int .i64 r1_0)]) H) E H := by
  unfold tunnel_Tunnel_Down.F at h
  split at h
  · exact ⟨_, _, _, _, _, _, _, _, _, _, _, rfl, h⟩
  · exact h.elim
theorem tunnel_Tunnel_Down.ok : CalleeOk Try.prog 19 tunnel_Tunnel_Down.F :=
  callee_ok tunnel_Tunnel_Down.hΓ (fn := Try.f19) (c := tunnel_Tunnel_Down.body) (T := wC Try.prog tunnel_Tunnel_Down.Γ tunnel_Tunnel_Down.plan tunnel_Tunnel_Down.body) (by kernel_rfl) (by kernel_rfl) (by kernel_rfl) (wC_sound tunnel_Tunnel_Down.hΓ Try.hm tunnel_Tunnel_Down.plan _ tunnel_Tunnel_Down.pok) fun _ K E H h => by
    obtain ⟨z0, z1, z2, z3, z4, z5, z6, z7, z8, z9, z10, e, h⟩ := tunnel_Tunnel_Down.Fe h
    subst e
    have h2 : tunnel_Tunnel_Down.vc z0 z1 z2 z3 z4 z5 z6 z7 z8 z9 z10 (fun r0_0 r1_0 H => ∃ H', Heap.Le H' H ∧ K (.tuple #[(.string r0_0), (.int .i64 r1_0)]) H') E H := h.h
    rw [tunnel_Tunnel_Down.eq z0 z1 z2 z3 z4 z5 z6 z7 z8 z9 z10 (Fg K) E H]
    exact h2

/-! (vizard/vizardref22.Tunnel).Down -/
noncomputable def vizardref22_Tunnel_Down.body : Code := Try.f20.body.getD .skip
def vizardref22_Tunnel_Down.J1.vc (s0 : ByteArray) (x0 : Bool) (Kn : Heap → Prop) (Kr : ByteArray → Int → Heap → Prop) (E : Value → Heap → Prop) (h0 : Heap) : Prop :=
  (if x0 = true then
  Kr (⟨#[]⟩ : ByteArray) 15 h0
  else
  Kn h0)
structure vizardref22_Tunnel_Down.J1 (s0 : ByteArray) (x0 : Bool) (Kn : Heap → Prop) (Kr : ByteArray → Int → Heap → Prop) (E : Value → Heap → Prop) (H : Heap) : Prop where
  h : vizardref22_Tunnel_Down.J1.vc s0 x0 Kn Kr E H
def vizardref22_Tunnel_Down.J2.vc (s0 : ByteArray) (Kr : ByteArray → Int → Heap → Prop) (E : Value → Heap → Prop) (h0 : Heap) : Prop :=
  Kr s0 0 h0
structure vizardref22_Tunnel_Down.J2 (s0 : ByteArray) (Kr : ByteArray → Int → Heap → Prop) (E : Value → Heap → Prop) (H : Heap) : Prop where
  h : vizardref22_Tunnel_Down.J2.vc s0 Kr E H
def vizardref22_Tunnel_Down.vc (t0 : Bool) (t1 : Int) (t2 : Int) (t3 : Int) (t4 : Int) (t5 : Option Addr) (t6 : Nat) (t7 : Nat) (src0 : Int) (from0 : Int) (s0 : ByteArray) (K : ByteArray → Int → Heap → Prop) (E : Value → Heap → Prop) (h0 : Heap) : Prop :=
  newB (.cells #[(.bool t0), (.int .u32 t1), (.int .i64 t2), (.int .u32 t3), (.int .i64 t4), (.slice t5 t6 t7)] 46) (fun b0 h1 =>
  (if (decide ((s0.size : Int) > 1000)) = true then
  K (⟨#[]⟩ : ByteArray) 8 h1
  else
  ldB h1 (((⟨b0, 0, none⟩ : Addr).add 0).add 0) fun x0 =>
  (if (!x0) = true then
  ldI h1 .u32 (((⟨b0, 0, none⟩ : Addr).add 0).add 1) fun x1 =>
  (if (src0 != x1) = true then
  vizardref22_Tunnel_Down.J1 s0 true (fun h2 =>
  vizardref22_Tunnel_Down.J2 s0 K E h2) K E h1
  else
  ldI h1 .i64 (((⟨b0, 0, none⟩ : Addr).add 0).add 2) fun x6 =>
  vizardref22_Tunnel_Down.J1 s0 (from0 != x6) (fun h5 =>
  vizardref22_Tunnel_Down.J2 s0 K E h5) K E h1)
  else
  vizardref02_Parse.c s0 (fun x11 x12 x13 x14 x15 x16 x17 x18 x19 h8 =>
  newB (.cells #[(.int .i64 0), (.int .i64 0), (.int .i64 0), (.int .i64 0), (.int .i64 0), (.int .u32 0), (.int .u32 0), (.string (⟨#[]⟩ : ByteArray))] 58) (fun b1 h9 =>
  stc h9 ((⟨b1, 0, none⟩ : Addr).add 0) (.int .i64 x11) fun h10 =>
  stc h10 ((⟨b1, 0, none⟩ : Addr).add 1) (.int .i64 x12) fun h11 =>
  stc h11 ((⟨b1, 0, none⟩ : Addr).add 2) (.int .i64 x13) fun h12 =>
  stc h12 ((⟨b1, 0, none⟩ : Addr).add 3) (.int .i64 x14) fun h13 =>
  stc h13 ((⟨b1, 0, none⟩ : Addr).add 4) (.int .i64 x15) fun h14 =>
  stc h14 ((⟨b1, 0, none⟩ : Addr).add 5) (.int .u32 x16) fun h15 =>
  stc h15 ((⟨b1, 0, none⟩ : Addr).add 6) (.int .u32 x17) fun h16 =>
  stc h16 ((⟨b1, 0, none⟩ : Addr).add 7) (.string x18) fun h17 =>
  (if (x19 != 0) = true then
  K (⟨#[]⟩ : ByteArray) x19 h17
  else
  ldI h17 .u32 ((⟨b1, 0, none⟩ : Addr).add 6) fun x20 =>
  ldI h17 .u32 ((⟨b0, 0, none⟩ : Addr).add 3) fun x21 =>
  (if (x20 != x21) = true then
  K (⟨#[]⟩ : ByteArray) 15 h17
  else
  vizardref02_Hop.c s0 K E h17))) h8) E h1))) h0
structure vizardref22_Tunnel_Down.c (t0 : Bool) (t1 : Int) (t2 : Int) (t3 : Int) (t4 : Int) (t5 : Option Addr) (t6 : Nat) (t7 : Nat) (src0 : Int) (from0 : Int) (s0 : ByteArray) (K : ByteArray → Int → Heap → Prop) (E : Value → Heap → Prop) (H : Heap) : Prop where
  h : vizardref22_Tunnel_Down.vc t0 t1 t2 t3 t4 t5 t6 t7 src0 from0 s0 (fun r0_0 r1_0 H => ∃ H', Heap.Le H' H ∧ K r0_0 r1_0 H') E H
def vizardref22_Tunnel_Down.F : FT := fun args K E H => match args with
  | [(.agg ⟨[(.bool t0), (.int .u32 t1), (.int .i64 t2), (.int .u32 t3), (.int .i64 t4), (.slice t5 t6 t7)]⟩), (.int .u32 src0), (.int .i64 from0), (.string s0)] => vizardref22_Tunnel_Down.c t0 t1 t2 t3 t4 t5 t6 t7 src0 from0 s0 (fun r0_0 r1_0 H => K (.tuple #[(.string r0_0), (.int .i64 r1_0)]) H) E H
  | _ => False
noncomputable def vizardref22_Tunnel_Down.Γ : FuncId → Option FT := Γof [(25, vizardref02_Parse.F), (37, vizardref02_Hop.F)]
theorem vizardref22_Tunnel_Down.hΓ : ∀ f F, vizardref22_Tunnel_Down.Γ f = some F → CalleeOk Try.prog f F := Γof_ok (List.forall_mem_cons.2 ⟨vizardref02_Parse.ok, List.forall_mem_cons.2 ⟨vizardref02_Hop.ok, fun _ h => nomatch h⟩⟩)
def vizardref22_Tunnel_Down.J1.t : CT := fun Q E fr H => lenIs 49 fr (slS fr 3 fun s0 => slB fr 30 fun x0 => vizardref22_Tunnel_Down.J1 s0 x0 (fun  H => Q .normal (mkF 49 [(3, (.string s0))]) H) (fun y8_0 y9_0 H => Q .ret (mkF 49 [(8, (.string y8_0)), (9, (.int .i64 y9_0))]) H) E H)
noncomputable def vizardref22_Tunnel_Down.J1.plan : Plan := .go
theorem vizardref22_Tunnel_Down.J1.pok : PlanOk Try.prog vizardref22_Tunnel_Down.J1.plan (sub [1, 1, 0, 1, 0, 0, 1] vizardref22_Tunnel_Down.body) := by
  have e : PlanOk Try.prog vizardref22_Tunnel_Down.J1.plan (sub [1, 1, 0, 1, 0, 0, 1] vizardref22_Tunnel_Down.body) = (True) := by kernel_rfl
  exact e.mpr trivial
theorem vizardref22_Tunnel_Down.J1.eq (s0 : ByteArray) (x0 : Bool) (Q : Ex → Fr → Heap → Prop) (E : Value → Heap → Prop) (H : Heap) :
    vizardref22_Tunnel_Down.J1.vc s0 x0 (fun  H => Q .normal (mkF 49 [(3, (.string s0))]) H) (fun y8_0 y9_0 H => Q .ret (mkF 49 [(8, (.string y8_0)), (9, (.int .i64 y9_0))]) H) E H = keepT [3] [8, 9] (fun i => []) (wC Try.prog vizardref22_Tunnel_Down.Γ vizardref22_Tunnel_Down.J1.plan (sub [1, 1, 0, 1, 0, 0, 1] vizardref22_Tunnel_Down.body)) Q E (mkF 49 [(3, (.string s0)), (30, (.bool x0))]) H := by
  kernel_rfl
theorem vizardref22_Tunnel_Down.J1.ok : SoundCode Try.prog (sub [1, 1, 0, 1, 0, 0, 1] vizardref22_Tunnel_Down.body) vizardref22_Tunnel_Down.J1.t := by
  refine piece_sound (keepT_sound [3] [8, 9] (fun i => []) (wC_sound vizardref22_Tunnel_Down.hΓ Try.hm vizardref22_Tunnel_Down.J1.plan _ vizardref22_Tunnel_Down.J1.pok)) ?_
  intro Q E fr H h
  unfold vizardref22_Tunnel_Down.J1.t at h
  obtain ⟨hl, h⟩ := lenIs_elim h
  obtain ⟨s0, q3, h⟩ := slS_elim h
  obtain ⟨x0, q30, h⟩ := slB_elim h
  refine ⟨(mkF 49 [(3, (.string s0)), (30, (.bool x0))]), fun a ha => ha.mk (Nat.le_of_eq hl.symm) (List.forall_mem_cons.2 ⟨q3, List.forall_mem_cons.2 ⟨q30, fun _ h => nomatch h⟩⟩), ?_⟩
  have e := vizardref22_Tunnel_Down.J1.eq s0 x0 Q E H
  rw [← e]
  exact h.h
def vizardref22_Tunnel_Down.J2.t : CT := fun Q E fr H => lenIs 49 fr (slS fr 3 fun s0 => vizardref22_Tunnel_Down.J2 s0 (fun y8_0 y9_0 H => Q .ret (mkF 49 [(8, (.string y8_0)), (9, (.int .i64 y9_0))]) H) E H)
noncomputable def vizardref22_Tunnel_Down.J2.plan : Plan := .go
theorem vizardref22_Tunnel_Down.J2.pok : PlanOk Try.prog vizardref22_Tunnel_Down.J2.plan (sub [1, 1, 0, 1, 0, 1] vizardref22_Tunnel_Down.body) := by
  have e : PlanOk Try.prog vizardref22_Tunnel_Down.J2.plan (sub [1, 1, 0, 1, 0, 1] vizardref22_Tunnel_Down.body) = (True) := by kernel_rfl
  exact e.mpr trivial
theorem vizardref22_Tunnel_Down.J2.eq (s0 : ByteArray) (Q : Ex → Fr → Heap → Prop) (E : Value → Heap → Prop) (H : Heap) :
    vizardref22_Tunnel_Down.J2.vc s0 (fun y8_0 y9_0 H => Q .ret (mkF 49 [(8, (.string y8_0)), (9, (.int .i64 y9_0))]) H) E H = keepT [] [8, 9] (fun i => []) (wC Try.prog vizardref22_Tunnel_Down.Γ vizardref22_Tunnel_Down.J2.plan (sub [1, 1, 0, 1, 0, 1] vizardref22_Tunnel_Down.body)) Q E (mkF 49 [(3, (.string s0))]) H := by
  kernel_rfl
theorem vizardref22_Tunnel_Down.J2.ok : SoundCode Try.prog (sub [1, 1, 0, 1, 0, 1] vizardref22_Tunnel_Down.body) vizardref22_Tunnel_Down.J2.t := by
  refine piece_sound (keepT_sound [] [8, 9] (fun i => []) (wC_sound vizardref22_Tunnel_Down.hΓ Try.hm vizardref22_Tunnel_Down.J2.plan _ vizardref22_Tunnel_Down.J2.pok)) ?_
  intro Q E fr H h
  unfold vizardref22_Tunnel_Down.J2.t at h
  obtain ⟨hl, h⟩ := lenIs_elim h
  obtain ⟨s0, q3, h⟩ := slS_elim h
  refine ⟨(mkF 49 [(3, (.string s0))]), fun a ha => ha.mk (Nat.le_of_eq hl.symm) (List.forall_mem_cons.2 ⟨q3, fun _ h => nomatch h⟩), ?_⟩
  have e := vizardref22_Tunnel_Down.J2.eq s0 Q E H
  rw [← e]
  exact h.h
noncomputable def vizardref22_Tunnel_Down.plan : Plan := .seq (.go) (.seq (.go) (.seq (.seq (.go) (.cond (.seq (.seq (.go) (.use vizardref22_Tunnel_Down.J1.t)) (.use vizardref22_Tunnel_Down.J2.t)) (.go))) (.go)))
theorem vizardref22_Tunnel_Down.pok : PlanOk Try.prog vizardref22_Tunnel_Down.plan vizardref22_Tunnel_Down.body := by
  have e : PlanOk Try.prog vizardref22_Tunnel_Down.plan vizardref22_Tunnel_Down.body = ((True) ∧ ((True) ∧ (((True) ∧ ((((True) ∧ (SoundCode Try.prog (sub [1, 1, 0, 1, 0, 0, 1] vizardref22_Tunnel_Down.body) vizardref22_Tunnel_Down.J1.t)) ∧ (SoundCode Try.prog (sub [1, 1, 0, 1, 0, 1] vizardref22_Tunnel_Down.body) vizardref22_Tunnel_Down.J2.t)) ∧ (True))) ∧ (True)))) := by kernel_rfl
  exact e.mpr ⟨trivial, ⟨trivial, ⟨⟨trivial, ⟨⟨⟨trivial, vizardref22_Tunnel_Down.J1.ok⟩, vizardref22_Tunnel_Down.J2.ok⟩, trivial⟩⟩, trivial⟩⟩⟩
theorem vizardref22_Tunnel_Down.eq (t0 : Bool) (t1 : Int) (t2 : Int) (t3 : Int) (t4 : Int) (t5 : Option Addr) (t6 : Nat) (t7 : Nat) (src0 : Int) (from0 : Int) (s0 : ByteArray) (K : Value → Heap → Prop) (E : Value → Heap → Prop) (H : Heap) :
    fnT Try.prog Try.f20 (wC Try.prog vizardref22_Tunnel_Down.Γ vizardref22_Tunnel_Down.plan vizardref22_Tunnel_Down.body) [(.agg #[(.bool t0), (.int .u32 t1), (.int .i64 t2), (.int .u32 t3), (.int .i64 t4), (.slice t5 t6 t7)]), (.int .u32 src0), (.int .i64 from0), (.string s0)] K E H = vizardref22_Tunnel_Down.vc t0 t1 t2 t3 t4 t5 t6 t7 src0 from0 s0 (fun r0_0 r1_0 H => K (.tuple #[(.string r0_0), (.int .i64 r1_0)]) H) E H := by
  kernel_rfl
theorem vizardref22_Tunnel_Down.Fe {args : List Value} {K E : Value → Heap → Prop} {H : Heap} (h : vizardref22_Tunnel_Down.F args K E H) : ∃ t0 t1 t2 t3 t4 t5 t6 t7 src0 from0 s0, args = [(.agg #[(.bool t0), (.int .u32 t1), (.int .i64 t2), (.int .u32 t3), (.int .i64 t4), (.slice t5 t6 t7)]), (.int .u32 src0), (.int .i64 from0), (.string s0)] ∧ vizardref22_Tunnel_Down.c t0 t1 t2 t3 t4 t5 t6 t7 src0 from0 s0 (fun r0_0 r1_0 H => K (.tuple #[(.string r0_0), (.int .i64 r1_0)]) H) E H := by
  unfold vizardref22_Tunnel_Down.F at h
  split at h
  · exact ⟨_, _, _, _, _, _, _, _, _, _, _, rfl, h⟩
  · exact h.elim
theorem vizardref22_Tunnel_Down.ok : CalleeOk Try.prog 20 vizardref22_Tunnel_Down.F :=
  callee_ok vizardref22_Tunnel_Down.hΓ (fn := Try.f20) (c := vizardref22_Tunnel_Down.body) (T := wC Try.prog vizardref22_Tunnel_Down.Γ vizardref22_Tunnel_Down.plan vizardref22_Tunnel_Down.body) (by kernel_rfl) (by kernel_rfl) (by kernel_rfl) (wC_sound vizardref22_Tunnel_Down.hΓ Try.hm vizardref22_Tunnel_Down.plan _ vizardref22_Tunnel_Down.pok) fun _ K E H h => by
    obtain ⟨z0, z1, z2, z3, z4, z5, z6, z7, z8, z9, z10, e, h⟩ := vizardref22_Tunnel_Down.Fe h
    subst e
    have h2 : vizardref22_Tunnel_Down.vc z0 z1 z2 z3 z4 z5 z6 z7 z8 z9 z10 (fun r0_0 r1_0 H => ∃ H', Heap.Le H' H ∧ K (.tuple #[(.string r0_0), (.int .i64 r1_0)]) H') E H := h.h
    rw [vizardref22_Tunnel_Down.eq z0 z1 z2 z3 z4 z5 z6 z7 z8 z9 z10 (Fg K) E H]
    exact h2

/-! vizard/vizardlaw22.TunnelGoes -/
noncomputable def vizardlaw22_TunnelGoes.body : Code := Try.f7.body.getD .skip
def vizardlaw22_TunnelGoes.vc (t0 : Bool) (t1 : Int) (t2 : Int) (t3 : Int) (t4 : Int) (t5 : Option Addr) (t6 : Nat) (t7 : Nat) (s0 : ByteArray) (src0 : Int) (from0 : Int) (K : Bool → Heap → Prop) (E : Value → Heap → Prop) (h0 : Heap) : Prop :=
  newB (.cells #[(.bool t0), (.int .u32 t1), (.int .i64 t2), (.int .u32 t3), (.int .i64 t4), (.slice t5 t6 t7)] 46) (fun b0 h1 =>
  ldB h1 ((⟨b0, 0, none⟩ : Addr).add 0) fun x0 => ldI h1 .u32 ((⟨b0, 0, none⟩ : Addr).add 1) fun x1 => ldI h1 .i64 ((⟨b0, 0, none⟩ : Addr).add 2) fun x2 => ldI h1 .u32 ((⟨b0, 0, none⟩ : Addr).add 3) fun x3 => ldI h1 .i64 ((⟨b0, 0, none⟩ : Addr).add 4) fun x4 => ldSl h1 ((⟨b0, 0, none⟩ : Addr).add 5) fun x5 x6 x7 =>
  vizardlaw22_its.c x0 x1 x2 x3 x4 x5 x6 x7 (fun x8 x9 x10 x11 x12 x13 x14 x15 h2 =>
  newB (.cells #[(.bool false), (.int .u32 0), (.int .i64 0), (.int .u32 0), (.int .i64 0), (.slice none 0 0)] 47) (fun b1 h3 =>
  stc h3 ((⟨b1, 0, none⟩ : Addr).add 0) (.bool x8) fun h4 =>
  stc h4 ((⟨b1, 0, none⟩ : Addr).add 1) (.int .u32 x9) fun h5 =>
  stc h5 ((⟨b1, 0, none⟩ : Addr).add 2) (.int .i64 x10) fun h6 =>
  stc h6 ((⟨b1, 0, none⟩ : Addr).add 3) (.int .u32 x11) fun h7 =>
  stc h7 ((⟨b1, 0, none⟩ : Addr).add 4) (.int .i64 x12) fun h8 =>
  stc h8 ((⟨b1, 0, none⟩ : Addr).add 5) (.slice x13 x14 x15) fun h9 =>
  ldB h9 ((⟨b1, 0, none⟩ : Addr).add 0) fun x16 => ldI h9 .u32 ((⟨b1, 0, none⟩ : Addr).add 1) fun x17 => ldI h9 .i64 ((⟨b1, 0, none⟩ : Addr).add 2) fun x18 => ldI h9 .u32 ((⟨b1, 0, none⟩ : Addr).add 3) fun x19 => ldI h9 .i64 ((⟨b1, 0, none⟩ : Addr).add 4) fun x20 => ldSl h9 ((⟨b1, 0, none⟩ : Addr).add 5) fun x21 x22 x23 =>
  tunnel_Tunnel_Up.c x16 x17 x18 x19 x20 x21 x22 x23 s0 (fun x24 x25 x26 x27 x28 x29 h10 =>
  newB (.cells #[(.bool false), (.int .i64 0), (.int .u32 0), (.int .i64 0), (.string (⟨#[]⟩ : ByteArray))] 50) (fun b2 h11 =>
  stc h11 ((⟨b2, 0, none⟩ : Addr).add 0) (.bool x24) fun h12 =>
  stc h12 ((⟨b2, 0, none⟩ : Addr).add 1) (.int .i64 x25) fun h13 =>
  stc h13 ((⟨b2, 0, none⟩ : Addr).add 2) (.int .u32 x26) fun h14 =>
  stc h14 ((⟨b2, 0, none⟩ : Addr).add 3) (.int .i64 x27) fun h15 =>
  stc h15 ((⟨b2, 0, none⟩ : Addr).add 4) (.string x28) fun h16 =>
  ldB h16 ((⟨b0, 0, none⟩ : Addr).add 0) fun x30 => ldI h16 .u32 ((⟨b0, 0, none⟩ : Addr).add 1) fun x31 => ldI h16 .i64 ((⟨b0, 0, none⟩ : Addr).add 2) fun x32 => ldI h16 .u32 ((⟨b0, 0, none⟩ : Addr).add 3) fun x33 => ldI h16 .i64 ((⟨b0, 0, none⟩ : Addr).add 4) fun x34 => ldSl h16 ((⟨b0, 0, none⟩ : Addr).add 5) fun x35 x36 x37 =>
  vizardref22_Tunnel_Up.c x30 x31 x32 x33 x34 x35 x36 x37 s0 (fun x38 x39 x40 x41 x42 x43 h17 =>
  newB (.cells #[(.bool false), (.int .i64 0), (.int .u32 0), (.int .i64 0), (.string (⟨#[]⟩ : ByteArray))] 50) (fun b3 h18 =>
  stc h18 ((⟨b3, 0, none⟩ : Addr).add 0) (.bool x38) fun h19 =>
  stc h19 ((⟨b3, 0, none⟩ : Addr).add 1) (.int .i64 x39) fun h20 =>
  stc h20 ((⟨b3, 0, none⟩ : Addr).add 2) (.int .u32 x40) fun h21 =>
  stc h21 ((⟨b3, 0, none⟩ : Addr).add 3) (.int .i64 x41) fun h22 =>
  stc h22 ((⟨b3, 0, none⟩ : Addr).add 4) (.string x42) fun h23 =>
  ldB h23 ((⟨b1, 0, none⟩ : Addr).add 0) fun x44 => ldI h23 .u32 ((⟨b1, 0, none⟩ : Addr).add 1) fun x45 => ldI h23 .i64 ((⟨b1, 0, none⟩ : Addr).add 2) fun x46 => ldI h23 .u32 ((⟨b1, 0, none⟩ : Addr).add 3) fun x47 => ldI h23 .i64 ((⟨b1, 0, none⟩ : Addr).add 4) fun x48 => ldSl h23 ((⟨b1, 0, none⟩ : Addr).add 5) fun x49 x50 x51 =>
  tunnel_Tunnel_Down.c x44 x45 x46 x47 x48 x49 x50 x51 src0 from0 s0 (fun x52 x53 h24 =>
  ldB h24 ((⟨b0, 0, none⟩ : Addr).add 0) fun x54 => ldI h24 .u32 ((⟨b0, 0, none⟩ : Addr).add 1) fun x55 => ldI h24 .i64 ((⟨b0, 0, none⟩ : Addr).add 2) fun x56 => ldI h24 .u32 ((⟨b0, 0, none⟩ : Addr).add 3) fun x57 => ldI h24 .i64 ((⟨b0, 0, none⟩ : Addr).add 4) fun x58 => ldSl h24 ((⟨b0, 0, none⟩ : Addr).add 5) fun x59 x60 x61 =>
  vizardref22_Tunnel_Down.c x54 x55 x56 x57 x58 x59 x60 x61 src0 from0 s0 (fun x62 x63 h25 =>
  ldB h25 ((⟨b1, 0, none⟩ : Addr).add 0) fun x64 => ldI h25 .u32 ((⟨b1, 0, none⟩ : Addr).add 1) fun x65 => ldI h25 .i64 ((⟨b1, 0, none⟩ : Addr).add 2) fun x66 => ldI h25 .u32 ((⟨b1, 0, none⟩ : Addr).add 3) fun x67 => ldI h25 .i64 ((⟨b1, 0, none⟩ : Addr).add 4) fun x68 => ldSl h25 ((⟨b1, 0, none⟩ : Addr).add 5) fun x69 x70 x71 =>
  ldB h25 ((⟨b0, 0, none⟩ : Addr).add 0) fun x72 => ldI h25 .u32 ((⟨b0, 0, none⟩ : Addr).add 1) fun x73 => ldI h25 .i64 ((⟨b0, 0, none⟩ : Addr).add 2) fun x74 => ldI h25 .u32 ((⟨b0, 0, none⟩ : Addr).add 3) fun x75 => ldI h25 .i64 ((⟨b0, 0, none⟩ : Addr).add 4) fun x76 => ldSl h25 ((⟨b0, 0, none⟩ : Addr).add 5) fun x77 x78 x79 =>
  tunnel_Tunnel_Open.c x64 x65 x66 x67 x68 x69 x70 x71 (fun x80 h26 =>
  (ldB h26 ((⟨b0, 0, none⟩ : Addr).add 0) fun x81 => ldI h26 .u32 ((⟨b0, 0, none⟩ : Addr).add 1) fun x82 => ldI h26 .i64 ((⟨b0, 0, none⟩ : Addr).add 2) fun x83 => ldI h26 .u32 ((⟨b0, 0, none⟩ : Addr).add 3) fun x84 => ldI h26 .i64 ((⟨b0, 0, none⟩ : Addr).add 4) fun x85 => ldSl h26 ((⟨b0, 0, none⟩ : Addr).add 5) fun x86 x87 x88 =>
  eqv h26 h26 (some (.agg #[(.bool x72), (.int .u32 x73), (.int .i64 x74), (.int .u32 x75), (.int .i64 x76), (.slice x77 x78 x79)])) (.agg #[(.bool x81), (.int .u32 x82), (.int .i64 x83), (.int .u32 x84), (.int .i64 x85), (.slice x86 x87 x88)])) ∧
  vizardref22_Tunnel_Open.c x72 x73 x74 x75 x76 x77 x78 x79 (fun x89 h27 =>
  (if (x80 == x89) = true then
  ldB h27 ((⟨b2, 0, none⟩ : Addr).add 0) fun x90 => ldI h27 .i64 ((⟨b2, 0, none⟩ : Addr).add 1) fun x91 => ldI h27 .u32 ((⟨b2, 0, none⟩ : Addr).add 2) fun x92 => ldI h27 .i64 ((⟨b2, 0, none⟩ : Addr).add 3) fun x93 => ldS h27 ((⟨b2, 0, none⟩ : Addr).add 4) fun x94 =>
  ldB h27 ((⟨b3, 0, none⟩ : Addr).add 0) fun x95 => ldI h27 .i64 ((⟨b3, 0, none⟩ : Addr).add 1) fun x96 => ldI h27 .u32 ((⟨b3, 0, none⟩ : Addr).add 2) fun x97 => ldI h27 .i64 ((⟨b3, 0, none⟩ : Addr).add 3) fun x98 => ldS h27 ((⟨b3, 0, none⟩ : Addr).add 4) fun x99 =>
  (if ((x90 == x95) && ((x91 == x96) && ((x92 == x97) && ((x93 == x98) && ((x94 == x99) && true))))) = true then
  (if (x29 == x43) = true then
  (if (x52.toList == x62.toList) = true then
  K (x53 == x63) h27
  else
  K false h27)
  else
  K false h27)
  else
  K false h27)
  else
  K false h27)) E h26) E h25) E h24) E h23) h17) E h16) h10) E h9) h2) E h1) h0
structure vizardlaw22_TunnelGoes.c (t0 : Bool) (t1 : Int) (t2 : Int) (t3 : Int) (t4 : Int) (t5 : Option Addr) (t6 : Nat) (t7 : Nat) (s0 : ByteArray) (src0 : Int) (from0 : Int) (K : Bool → Heap → Prop) (E : Value → Heap → Prop) (H : Heap) : Prop where
  h : vizardlaw22_TunnelGoes.vc t0 t1 t2 t3 t4 t5 t6 t7 s0 src0 from0 (fun r0_0 H => ∃ H', Heap.Le H' H ∧ K r0_0 H') E H
def vizardlaw22_TunnelGoes.F : FT := fun args K E H => match args with
  | [(.agg ⟨[(.bool t0), (.int .u32 t1), (.int .i64 t2), (.int .u32 t3), (.int .i64 t4), (.slice t5 t6 t7)]⟩), (.string s0), (.int .u32 src0), (.int .i64 from0)] => vizardlaw22_TunnelGoes.c t0 t1 t2 t3 t4 t5 t6 t7 s0 src0 from0 (fun r0_0 H => K (.bool r0_0) H) E H
  | _ => False
noncomputable def vizardlaw22_TunnelGoes.Γ : FuncId → Option FT := Γof [(16, vizardlaw22_its.F), (17, tunnel_Tunnel_Up.F), (18, vizardref22_Tunnel_Up.F), (19, tunnel_Tunnel_Down.F), (20, vizardref22_Tunnel_Down.F), (21, tunnel_Tunnel_Open.F), (22, vizardref22_Tunnel_Open.F)]
theorem vizardlaw22_TunnelGoes.hΓ : ∀ f F, vizardlaw22_TunnelGoes.Γ f = some F → CalleeOk Try.prog f F := Γof_ok (List.forall_mem_cons.2 ⟨vizardlaw22_its.ok, List.forall_mem_cons.2 ⟨tunnel_Tunnel_Up.ok, List.forall_mem_cons.2 ⟨vizardref22_Tunnel_Up.ok, List.forall_mem_cons.2 ⟨tunnel_Tunnel_Down.ok, List.forall_mem_cons.2 ⟨vizardref22_Tunnel_Down.ok, List.forall_mem_cons.2 ⟨tunnel_Tunnel_Open.ok, List.forall_mem_cons.2 ⟨vizardref22_Tunnel_Open.ok, fun _ h => nomatch h⟩⟩⟩⟩⟩⟩⟩)
noncomputable def vizardlaw22_TunnelGoes.plan : Plan := .seq (.go) (.seq (.go) (.seq (.go) (.seq (.go) (.seq (.go) (.seq (.go) (.seq (.draw ⟨[0, 1, 2, 3, 4, 5, 6, 7, 8, 9, 10, 11, 12, 13, 14, 15, 16, 17, 18, 19, 20, 21, 22, 23, 24], (dl [(0, []), (2, []), (1, [0]), (3, [2, 1, 0]), (4, []), (5, []), (6, []), (7, []), (8, []), (9, []), (10, []), (11, []), (12, []), (13, []), (14, []), (15, []), (16, []), (17, []), (18, []), (19, []), (20, []), (21, []), (22, []), (23, []), (24, [])] .fin), [25]⟩) (.go)))))))
theorem vizardlaw22_TunnelGoes.pok : PlanOk Try.prog vizardlaw22_TunnelGoes.plan vizardlaw22_TunnelGoes.body := by
  have e : PlanOk Try.prog vizardlaw22_TunnelGoes.plan vizardlaw22_TunnelGoes.body = ((True) ∧ ((True) ∧ ((True) ∧ ((True) ∧ ((True) ∧ ((True) ∧ ((True) ∧ (True)))))))) := by kernel_rfl
  exact e.mpr ⟨trivial, ⟨trivial, ⟨trivial, ⟨trivial, ⟨trivial, ⟨trivial, ⟨trivial, trivial⟩⟩⟩⟩⟩⟩⟩
theorem vizardlaw22_TunnelGoes.eq (t0 : Bool) (t1 : Int) (t2 : Int) (t3 : Int) (t4 : Int) (t5 : Option Addr) (t6 : Nat) (t7 : Nat) (s0 : ByteArray) (src0 : Int) (from0 : Int) (K : Value → Heap → Prop) (E : Value → Heap → Prop) (H : Heap) :
    fnT Try.prog Try.f7 (wC Try.prog vizardlaw22_TunnelGoes.Γ vizardlaw22_TunnelGoes.plan vizardlaw22_TunnelGoes.body) [(.agg #[(.bool t0), (.int .u32 t1), (.int .i64 t2), (.int .u32 t3), (.int .i64 t4), (.slice t5 t6 t7)]), (.string s0), (.int .u32 src0), (.int .i64 from0)] K E H = vizardlaw22_TunnelGoes.vc t0 t1 t2 t3 t4 t5 t6 t7 s0 src0 from0 (fun r0_0 H => K (.bool r0_0) H) E H := by
  kernel_rfl
theorem vizardlaw22_TunnelGoes.Fe {args : List Value} {K E : Value → Heap → Prop} {H : Heap} (h : vizardlaw22_TunnelGoes.F args K E H) : ∃ t0 t1 t2 t3 t4 t5 t6 t7 s0 src0 from0, args = [(.agg #[(.bool t0), (.int .u32 t1), (.int .i64 t2), (.int .u32 t3), (.int .i64 t4), (.slice t5 t6 t7)]), (.string s0), (.int .u32 src0), (.int .i64 from0)] ∧ vizardlaw22_TunnelGoes.c t0 t1 t2 t3 t4 t5 t6 t7 s0 src0 from0 (fun r0_0 H => K (.bool r0_0) H) E H := by
  unfold vizardlaw22_TunnelGoes.F at h
  split at h
  · exact ⟨_, _, _, _, _, _, _, _, _, _, _, rfl, h⟩
  · exact h.elim
theorem vizardlaw22_TunnelGoes.ok : CalleeOk Try.prog 7 vizardlaw22_TunnelGoes.F :=
  callee_ok vizardlaw22_TunnelGoes.hΓ (fn := Try.f7) (c := vizardlaw22_TunnelGoes.body) (T := wC Try.prog vizardlaw22_TunnelGoes.Γ vizardlaw22_TunnelGoes.plan vizardlaw22_TunnelGoes.body) (by kernel_rfl) (by kernel_rfl) (by kernel_rfl) (wC_sound vizardlaw22_TunnelGoes.hΓ Try.hm vizardlaw22_TunnelGoes.plan _ vizardlaw22_TunnelGoes.pok) fun _ K E H h => by
    obtain ⟨z0, z1, z2, z3, z4, z5, z6, z7, z8, z9, z10, e, h⟩ := vizardlaw22_TunnelGoes.Fe h
    subst e
    have h2 : vizardlaw22_TunnelGoes.vc z0 z1 z2 z3 z4 z5 z6 z7 z8 z9 z10 (fun r0_0 H => ∃ H', Heap.Le H' H ∧ K (.bool r0_0) H') E H := h.h
    rw [vizardlaw22_TunnelGoes.eq z0 z1 z2 z3 z4 z5 z6 z7 z8 z9 z10 (Fg K) E H]
    exact h2

/-! vizard/vizardlaw22.works -/
noncomputable def vizardlaw22_works.body : Code := Try.f23.body.getD .skip
def vizardlaw22_works.vc (K : Bool → Heap → Prop) (E : Value → Heap → Prop) (h0 : Heap) : Prop :=
  newB (.cells #[(.bool true), (.int .i64 0), (.int .u32 0), (.int .i64 0), (.int .i64 0), (.int .i64 65535)] 40) (fun b0 h1 =>
  newB (.cells #[(.bool false), (.int .u32 0), (.int .i64 0), (.int .u32 0), (.int .i64 0), (.slice none 0 0)] 47) (fun b1 h2 =>
  stc h2 ((⟨b1, 0, none⟩ : Addr).add 0) (.bool false) fun h3 =>
  stc h3 ((⟨b1, 0, none⟩ : Addr).add 1) (.int .u32 167772162) fun h4 =>
  stc h4 ((⟨b1, 0, none⟩ : Addr).add 2) (.int .i64 53) fun h5 =>
  stc h5 ((⟨b1, 0, none⟩ : Addr).add 3) (.int .u32 0) fun h6 =>
  stc h6 ((⟨b1, 0, none⟩ : Addr).add 4) (.int .i64 40000) fun h7 =>
  stc h7 ((⟨b1, 0, none⟩ : Addr).add 5) (.slice (some (⟨b0, 0, none⟩ : Addr)) 1 1) fun h8 =>
  ldB h8 ((⟨b1, 0, none⟩ : Addr).add 0) fun x0 => ldI h8 .u32 ((⟨b1, 0, none⟩ : Addr).add 1) fun x1 => ldI h8 .i64 ((⟨b1, 0, none⟩ : Addr).add 2) fun x2 => ldI h8 .u32 ((⟨b1, 0, none⟩ : Addr).add 3) fun x3 => ldI h8 .i64 ((⟨b1, 0, none⟩ : Addr).add 4) fun x4 => ldSl h8 ((⟨b1, 0, none⟩ : Addr).add 5) fun x5 x6 x7 =>
  tunnel_Tunnel_Up.c x0 x1 x2 x3 x4 x5 x6 x7 (⟨#[113]⟩ : ByteArray) (fun x8 x9 x10 x11 x12 x13 h9 =>
  newB (.cells #[(.bool false), (.int .i64 0), (.int .u32 0), (.int .i64 0), (.string (⟨#[]⟩ : ByteArray))] 50) (fun b2 h10 =>
  stc h10 ((⟨b2, 0, none⟩ : Addr).add 0) (.bool x8) fun h11 =>
  stc h11 ((⟨b2, 0, none⟩ : Addr).add 1) (.int .i64 x9) fun h12 =>
  stc h12 ((⟨b2, 0, none⟩ : Addr).add 2) (.int .u32 x10) fun h13 =>
  stc h13 ((⟨b2, 0, none⟩ : Addr).add 3) (.int .i64 x11) fun h14 =>
  stc h14 ((⟨b2, 0, none⟩ : Addr).add 4) (.string x12) fun h15 =>
  ldB h15 ((⟨b1, 0, none⟩ : Addr).add 0) fun x14 => ldI h15 .u32 ((⟨b1, 0, none⟩ : Addr).add 1) fun x15 => ldI h15 .i64 ((⟨b1, 0, none⟩ : Addr).add 2) fun x16 => ldI h15 .u32 ((⟨b1, 0, none⟩ : Addr).add 3) fun x17 => ldI h15 .i64 ((⟨b1, 0, none⟩ : Addr).add 4) fun x18 => ldSl h15 ((⟨b1, 0, none⟩ : Addr).add 5) fun x19 x20 x21 =>
  tunnel_Tunnel_Down.c x14 x15 x16 x17 x18 x19 x20 x21 167772162 53 (⟨#[97]⟩ : ByteArray) (fun x22 x23 h16 =>
  ldB h16 ((⟨b1, 0, none⟩ : Addr).add 0) fun x24 => ldI h16 .u32 ((⟨b1, 0, none⟩ : Addr).add 1) fun x25 => ldI h16 .i64 ((⟨b1, 0, none⟩ : Addr).add 2) fun x26 => ldI h16 .u32 ((⟨b1, 0, none⟩ : Addr).add 3) fun x27 => ldI h16 .i64 ((⟨b1, 0, none⟩ : Addr).add 4) fun x28 => ldSl h16 ((⟨b1, 0, none⟩ : Addr).add 5) fun x29 x30 x31 =>
  tunnel_Tunnel_Down.c x24 x25 x26 x27 x28 x29 x30 x31 167772163 53 (⟨#[97]⟩ : ByteArray) (fun x32 x33 h17 =>
  ldB h17 ((⟨b2, 0, none⟩ : Addr).add 0) fun x34 => ldI h17 .i64 ((⟨b2, 0, none⟩ : Addr).add 1) fun x35 => ldI h17 .u32 ((⟨b2, 0, none⟩ : Addr).add 2) fun x36 => ldI h17 .i64 ((⟨b2, 0, none⟩ : Addr).add 3) fun x37 => ldS h17 ((⟨b2, 0, none⟩ : Addr).add 4) fun x38 =>
  (if ((x34 == false) && ((x35 == 40000) && ((x36 == 167772162) && ((x37 == 53) && ((x38 == (⟨#[113]⟩ : ByteArray)) && true))))) = true then
  (if (x13 == 0) = true then
  (if (x22.toList == (⟨#[97]⟩ : ByteArray).toList) = true then
  (if (x23 == 0) = true then
  K (x33 == 15) h17
  else
  K false h17)
  else
  K false h17)
  else
  K false h17)
  else
  K false h17)) E h16) E h15) h9) E h8) h1) h0
structure vizardlaw22_works.c (K : Bool → Heap → Prop) (E : Value → Heap → Prop) (H : Heap) : Prop where
  h : vizardlaw22_works.vc  (fun r0_0 H => ∃ H', Heap.Le H' H ∧ K r0_0 H') E H
def vizardlaw22_works.F : FT := fun args K E H => match args with
  | [] => vizardlaw22_works.c  (fun r0_0 H => K (.bool r0_0) H) E H
  | _ => False
noncomputable def vizardlaw22_works.Γ : FuncId → Option FT := Γof [(17, tunnel_Tunnel_Up.F), (19, tunnel_Tunnel_Down.F)]
theorem vizardlaw22_works.hΓ : ∀ f F, vizardlaw22_works.Γ f = some F → CalleeOk Try.prog f F := Γof_ok (List.forall_mem_cons.2 ⟨tunnel_Tunnel_Up.ok, List.forall_mem_cons.2 ⟨tunnel_Tunnel_Down.ok, fun _ h => nomatch h⟩⟩)
noncomputable def vizardlaw22_works.plan : Plan := .go
theorem vizardlaw22_works.pok : PlanOk Try.prog vizardlaw22_works.plan vizardlaw22_works.body := by
  have e : PlanOk Try.prog vizardlaw22_works.plan vizardlaw22_works.body = (True) := by kernel_rfl
  exact e.mpr trivial
theorem vizardlaw22_works.eq (K : Value → Heap → Prop) (E : Value → Heap → Prop) (H : Heap) :
    fnT Try.prog Try.f23 (wC Try.prog vizardlaw22_works.Γ vizardlaw22_works.plan vizardlaw22_works.body) [] K E H = vizardlaw22_works.vc  (fun r0_0 H => K (.bool r0_0) H) E H := by
  kernel_rfl
theorem vizardlaw22_works.Fe {args : List Value} {K E : Value → Heap → Prop} {H : Heap} (h : vizardlaw22_works.F args K E H) : args = [] ∧ vizardlaw22_works.c  (fun r0_0 H => K (.bool r0_0) H) E H := by
  unfold vizardlaw22_works.F at h
  split at h
  · exact ⟨rfl, h⟩
  · exact h.elim
theorem vizardlaw22_works.ok : CalleeOk Try.prog 23 vizardlaw22_works.F :=
  callee_ok vizardlaw22_works.hΓ (fn := Try.f23) (c := vizardlaw22_works.body) (T := wC Try.prog vizardlaw22_works.Γ vizardlaw22_works.plan vizardlaw22_works.body) (by kernel_rfl) (by kernel_rfl) (by kernel_rfl) (wC_sound vizardlaw22_works.hΓ Try.hm vizardlaw22_works.plan _ vizardlaw22_works.pok) fun _ K E H h => by
    obtain ⟨e, h⟩ := vizardlaw22_works.Fe h
    subst e
    have h2 : vizardlaw22_works.vc (fun r0_0 H => ∃ H', Heap.Le H' H ∧ K (.bool r0_0) H') E H := h.h
    rw [vizardlaw22_works.eq (Fg K) E H]
    exact h2

/-! vizard/vizardlaw22.TunnelPolicy -/
noncomputable def vizardlaw22_TunnelPolicy.body : Code := Try.f8.body.getD .skip
def vizardlaw22_TunnelPolicy.vc (t0 : Bool) (t1 : Int) (t2 : Int) (t3 : Int) (t4 : Int) (t5 : Option Addr) (t6 : Nat) (t7 : Nat) (s0 : ByteArray) (K : Bool → Heap → Prop) (E : Value → Heap → Prop) (h0 : Heap) : Prop :=
  newB (.cells #[(.bool t0), (.int .u32 t1), (.int .i64 t2), (.int .u32 t3), (.int .i64 t4), (.slice t5 t6 t7)] 46) (fun b0 h1 =>
  vizardlaw22_works.c (fun x0 h2 =>
  (if (!x0) = true then
  K false h2
  else
  ldB h2 ((⟨b0, 0, none⟩ : Addr).add 0) fun x1 => ldI h2 .u32 ((⟨b0, 0, none⟩ : Addr).add 1) fun x2 => ldI h2 .i64 ((⟨b0, 0, none⟩ : Addr).add 2) fun x3 => ldI h2 .u32 ((⟨b0, 0, none⟩ : Addr).add 3) fun x4 => ldI h2 .i64 ((⟨b0, 0, none⟩ : Addr).add 4) fun x5 => ldSl h2 ((⟨b0, 0, none⟩ : Addr).add 5) fun x6 x7 x8 =>
  vizardlaw22_its.c x1 x2 x3 x4 x5 x6 x7 x8 (fun x9 x10 x11 x12 x13 x14 x15 x16 h3 =>
  tunnel_Tunnel_Up.c x9 x10 x11 x12 x13 x14 x15 x16 s0 (fun x17 x18 x19 x20 x21 x22 h4 =>
  newB (.cells #[(.bool false), (.int .i64 0), (.int .u32 0), (.int .i64 0), (.string (⟨#[]⟩ : ByteArray))] 50) (fun b1 h5 =>
  stc h5 ((⟨b1, 0, none⟩ : Addr).add 0) (.bool x17) fun h6 =>
  stc h6 ((⟨b1, 0, none⟩ : Addr).add 1) (.int .i64 x18) fun h7 =>
  stc h7 ((⟨b1, 0, none⟩ : Addr).add 2) (.int .u32 x19) fun h8 =>
  stc h8 ((⟨b1, 0, none⟩ : Addr).add 3) (.int .i64 x20) fun h9 =>
  stc h9 ((⟨b1, 0, none⟩ : Addr).add 4) (.string x21) fun h10 =>
  (if (x22 != 0) = true then
  ldB h10 ((⟨b1, 0, none⟩ : Addr).add 0) fun x23 => ldI h10 .i64 ((⟨b1, 0, none⟩ : Addr).add 1) fun x24 => ldI h10 .u32 ((⟨b1, 0, none⟩ : Addr).add 2) fun x25 => ldI h10 .i64 ((⟨b1, 0, none⟩ : Addr).add 3) fun x26 => ldS h10 ((⟨b1, 0, none⟩ : Addr).add 4) fun x27 =>
  K ((x23 == false) && ((x24 == 0) && ((x25 == 0) && ((x26 == 0) && ((x27 == (⟨#[]⟩ : ByteArray)) && true))))) h10
  else
  ldB h10 ((⟨b1, 0, none⟩ : Addr).add 0) fun x28 =>
  ldB h10 (((⟨b0, 0, none⟩ : Addr).add 0).add 0) fun x29 =>
  (if (!(x28 == x29)) = true then
  K false h10
  else
  ldB h10 ((⟨b1, 0, none⟩ : Addr).add 0) fun x30 =>
  (if (!x30) = true then
  ldSl h10 ((⟨b0, 0, none⟩ : Addr).add 5) fun x31 x32 x33 =>
  ldI h10 .u32 ((⟨b1, 0, none⟩ : Addr).add 2) fun x34 =>
  ldI h10 .i64 ((⟨b1, 0, none⟩ : Addr).add 3) fun x35 =>
  vizardref18_Allow.c x31 x32 x33 17 x34 x35 (fun x36 h11 =>
  (if x36 = true then
  ldS h11 ((⟨b1, 0, none⟩ : Addr).add 4) fun x37 =>
  (if (x37.toList == s0.toList) = true then
  ldI h11 .i64 ((⟨b1, 0, none⟩ : Addr).add 1) fun x38 =>
  ldI h11 .i64 ((⟨b0, 0, none⟩ : Addr).add 4) fun x39 =>
  K (x38 == x39) h11
  else
  K false h11)
  else
  K false h11)) E h10
  else
  ldS h10 ((⟨b1, 0, none⟩ : Addr).add 4) fun x40 =>
  vizardref02_Parse.c x40 (fun x41 x42 x43 x44 x45 x46 x47 x48 x49 h12 =>
  newB (.cells #[(.int .i64 0), (.int .i64 0), (.int .i64 0), (.int .i64 0), (.int .i64 0), (.int .u32 0), (.int .u32 0), (.string (⟨#[]⟩ : ByteArray))] 58) (fun b2 h13 =>
  stc h13 ((⟨b2, 0, none⟩ : Addr).add 0) (.int .i64 x41) fun h14 =>
  stc h14 ((⟨b2, 0, none⟩ : Addr).add 1) (.int .i64 x42) fun h15 =>
  stc h15 ((⟨b2, 0, none⟩ : Addr).add 2) (.int .i64 x43) fun h16 =>
  stc h16 ((⟨b2, 0, none⟩ : Addr).add 3) (.int .i64 x44) fun h17 =>
  stc h17 ((⟨b2, 0, none⟩ : Addr).add 4) (.int .i64 x45) fun h18 =>
  stc h18 ((⟨b2, 0, none⟩ : Addr).add 5) (.int .u32 x46) fun h19 =>
  stc h19 ((⟨b2, 0, none⟩ : Addr).add 6) (.int .u32 x47) fun h20 =>
  stc h20 ((⟨b2, 0, none⟩ : Addr).add 7) (.string x48) fun h21 =>
  vizardref02_Parse.c s0 (fun x50 x51 x52 x53 x54 x55 x56 x57 x58 h22 =>
  newB (.cells #[(.int .i64 0), (.int .i64 0), (.int .i64 0), (.int .i64 0), (.int .i64 0), (.int .u32 0), (.int .u32 0), (.string (⟨#[]⟩ : ByteArray))] 58) (fun b3 h23 =>
  stc h23 ((⟨b3, 0, none⟩ : Addr).add 0) (.int .i64 x50) fun h24 =>
  stc h24 ((⟨b3, 0, none⟩ : Addr).add 1) (.int .i64 x51) fun h25 =>
  stc h25 ((⟨b3, 0, none⟩ : Addr).add 2) (.int .i64 x52) fun h26 =>
  stc h26 ((⟨b3, 0, none⟩ : Addr).add 3) (.int .i64 x53) fun h27 =>
  stc h27 ((⟨b3, 0, none⟩ : Addr).add 4) (.int .i64 x54) fun h28 =>
  stc h28 ((⟨b3, 0, none⟩ : Addr).add 5) (.int .u32 x55) fun h29 =>
  stc h29 ((⟨b3, 0, none⟩ : Addr).add 6) (.int .u32 x56) fun h30 =>
  stc h30 ((⟨b3, 0, none⟩ : Addr).add 7) (.string x57) fun h31 =>
  ldI h31 .i64 ((⟨b3, 0, none⟩ : Addr).add 3) fun x59 =>
  stc h31 ((⟨b3, 0, none⟩ : Addr).add 3) (.int .i64 (IntKind.i64.wrap (x59 - 1))) fun h32 =>
  (if (x49 == 0) = true then
  (if (x58 == 0) = true then
  ldI h32 .i64 ((⟨b2, 0, none⟩ : Addr).add 0) fun x60 => ldI h32 .i64 ((⟨b2, 0, none⟩ : Addr).add 1) fun x61 => ldI h32 .i64 ((⟨b2, 0, none⟩ : Addr).add 2) fun x62 => ldI h32 .i64 ((⟨b2, 0, none⟩ : Addr).add 3) fun x63 => ldI h32 .i64 ((⟨b2, 0, none⟩ : Addr).add 4) fun x64 => ldI h32 .u32 ((⟨b2, 0, none⟩ : Addr).add 5) fun x65 => ldI h32 .u32 ((⟨b2, 0, none⟩ : Addr).add 6) fun x66 => ldS h32 ((⟨b2, 0, none⟩ : Addr).add 7) fun x67 =>
  ldI h32 .i64 ((⟨b3, 0, none⟩ : Addr).add 0) fun x68 => ldI h32 .i64 ((⟨b3, 0, none⟩ : Addr).add 1) fun x69 => ldI h32 .i64 ((⟨b3, 0, none⟩ : Addr).add 2) fun x70 => ldI h32 .i64 ((⟨b3, 0, none⟩ : Addr).add 3) fun x71 => ldI h32 .i64 ((⟨b3, 0, none⟩ : Addr).add 4) fun x72 => ldI h32 .u32 ((⟨b3, 0, none⟩ : Addr).add 5) fun x73 => ldI h32 .u32 ((⟨b3, 0, none⟩ : Addr).add 6) fun x74 => ldS h32 ((⟨b3, 0, none⟩ : Addr).add 7) fun x75 =>
  (if ((x60 == x68) && ((x61 == x69) && ((x62 == x70) && ((x63 == x71) && ((x64 == x72) && ((x65 == x73) && ((x66 == x74) && ((x67 == x75) && true)))))))) = true then
  ldI h32 .u32 ((⟨b2, 0, none⟩ : Addr).add 5) fun x76 =>
  ldI h32 .u32 ((⟨b0, 0, none⟩ : Addr).add 3) fun x77 =>
  (if (x76 == x77) = true then
  ldI h32 .u32 ((⟨b2, 0, none⟩ : Addr).add 6) fun x78 =>
  ldI h32 .u32 ((⟨b1, 0, none⟩ : Addr).add 2) fun x79 =>
  (if (x78 == x79) = true then
  ldSl h32 ((⟨b0, 0, none⟩ : Addr).add 5) fun x80 x81 x82 =>
  ldI h32 .i64 ((⟨b2, 0, none⟩ : Addr).add 4) fun x83 =>
  ldI h32 .u32 ((⟨b2, 0, none⟩ : Addr).add 6) fun x84 =>
  ldI h32 .i64 ((⟨b2, 0, none⟩ : Addr).add 0) fun x85 => ldI h32 .i64 ((⟨b2, 0, none⟩ : Addr).add 1) fun x86 => ldI h32 .i64 ((⟨b2, 0, none⟩ : Addr).add 2) fun x87 => ldI h32 .i64 ((⟨b2, 0, none⟩ : Addr).add 3) fun x88 => ldI h32 .i64 ((⟨b2, 0, none⟩ : Addr).add 4) fun x89 => ldI h32 .u32 ((⟨b2, 0, none⟩ : Addr).add 5) fun x90 => ldI h32 .u32 ((⟨b2, 0, none⟩ : Addr).add 6) fun x91 => ldS h32 ((⟨b2, 0, none⟩ : Addr).add 7) fun x92 =>
  vizardref22_Port.c x85 x86 x87 x88 x89 x90 x91 x92 (fun x93 h33 =>
  (ldI h33 .u32 ((⟨b2, 0, none⟩ : Addr).add 6) fun x94 =>
  eqv h33 h33 (some (.int .u32 x84)) (.int .u32 x94)) ∧
  (ldI h33 .i64 ((⟨b2, 0, none⟩ : Addr).add 4) fun x95 =>
  eqv h33 h33 (some (.int .i64 x83)) (.int .i64 x95)) ∧
  (ldSl h33 ((⟨b0, 0, none⟩ : Addr).add 5) fun x96 x97 x98 =>
  eqv h33 h33 (some (.slice x80 x81 x82)) (.slice x96 x97 x98)) ∧
  vizardref18_Allow.c x80 x81 x82 x83 x84 x93 K E h33) E h32
  else
  True ∧
  True ∧
  True ∧
  K false h32)
  else
  True ∧
  True ∧
  True ∧
  K false h32)
  else
  True ∧
  True ∧
  True ∧
  K false h32)
  else
  True ∧
  True ∧
  True ∧
  K false h32)
  else
  True ∧
  True ∧
  True ∧
  K false h32)) h22) E h21) h12) E h10)))) h4) E h3) E h2)) E h1) h0
structure vizardlaw22_TunnelPolicy.c (t0 : Bool) (t1 : Int) (t2 : Int) (t3 : Int) (t4 : Int) (t5 : Option Addr) (t6 : Nat) (t7 : Nat) (s0 : ByteArray) (K : Bool → Heap → Prop) (E : Value → Heap → Prop) (H : Heap) : Prop where
  h : vizardlaw22_TunnelPolicy.vc t0 t1 t2 t3 t4 t5 t6 t7 s0 (fun r0_0 H => ∃ H', Heap.Le H' H ∧ K r0_0 H') E H
def vizardlaw22_TunnelPolicy.F : FT := fun args K E H => match args with
  | [(.agg ⟨[(.bool t0), (.int .u32 t1), (.int .i64 t2), (.int .u32 t3), (.int .i64 t4), (.slice t5 t6 t7)]⟩), (.string s0)] => vizardlaw22_TunnelPolicy.c t0 t1 t2 t3 t4 t5 t6 t7 s0 (fun r0_0 H => K (.bool r0_0) H) E H
  | _ => False
noncomputable def vizardlaw22_TunnelPolicy.Γ : FuncId → Option FT := Γof [(16, vizardlaw22_its.F), (17, tunnel_Tunnel_Up.F), (23, vizardlaw22_works.F), (24, vizardref18_Allow.F), (25, vizardref02_Parse.F), (26, vizardref22_Port.F)]
theorem vizardlaw22_TunnelPolicy.hΓ : ∀ f F, vizardlaw22_TunnelPolicy.Γ f = some F → CalleeOk Try.prog f F := Γof_ok (List.forall_mem_cons.2 ⟨vizardlaw22_its.ok, List.forall_mem_cons.2 ⟨tunnel_Tunnel_Up.ok, List.forall_mem_cons.2 ⟨vizardlaw22_works.ok, List.forall_mem_cons.2 ⟨vizardref18_Allow.ok, List.forall_mem_cons.2 ⟨vizardref02_Parse.ok, List.forall_mem_cons.2 ⟨vizardref22_Port.ok, fun _ h => nomatch h⟩⟩⟩⟩⟩⟩)
noncomputable def vizardlaw22_TunnelPolicy.plan : Plan := .seq (.go) (.seq (.go) (.seq (.go) (.seq (.go) (.seq (.go) (.seq (.go) (.seq (.go) (.seq (.go) (.seq (.go) (.seq (.draw ⟨[0, 1, 2, 3, 4, 5, 6, 7, 8, 9, 10, 11, 12, 13, 14, 15, 16, 17, 18, 19, 20, 21, 22, 23, 24, 25, 26, 27, 28, 29, 30, 31, 32, 33, 34, 35], (dl [(0, []), (1, []), (2, []), (3, []), (4, []), (5, []), (6, []), (7, []), (8, []), (9, []), (10, []), (11, []), (12, []), (13, []), (14, []), (15, []), (16, []), (17, []), (18, []), (19, []), (20, []), (21, []), (22, []), (23, []), (24, []), (25, []), (26, []), (27, []), (28, []), (29, []), (30, []), (31, []), (32, []), (33, [32, 25, 24, 18, 23, 17, 11, 20, 22, 16, 10, 6, 19, 21, 13, 15, 9, 5, 2, 12, 14, 7, 8, 4, 1, 3, 0]), (34, [27, 29, 31, 33, 25, 26, 28, 30, 32, 24, 18, 23, 17, 11, 20, 22, 16, 10, 6, 19, 21, 13, 15, 9, 5, 2, 12, 14, 7, 8, 4, 1, 3, 0]), (35, [])] .fin), [36]⟩) (.go))))))))))
theorem vizardlaw22_TunnelPolicy.pok : PlanOk Try.prog vizardlaw22_TunnelPolicy.plan vizardlaw22_TunnelPolicy.body := by
  have e : PlanOk Try.prog vizardlaw22_TunnelPolicy.plan vizardlaw22_TunnelPolicy.body = ((True) ∧ ((True) ∧ ((True) ∧ ((True) ∧ ((True) ∧ ((True) ∧ ((True) ∧ ((True) ∧ ((True) ∧ ((True) ∧ (True))))))))))) := by kernel_rfl
  exact e.mpr ⟨trivial, ⟨trivial, ⟨trivial, ⟨trivial, ⟨trivial, ⟨trivial, ⟨trivial, ⟨trivial, ⟨trivial, ⟨trivial, trivial⟩⟩⟩⟩⟩⟩⟩⟩⟩⟩
theorem vizardlaw22_TunnelPolicy.eq (t0 : Bool) (t1 : Int) (t2 : Int) (t3 : Int) (t4 : Int) (t5 : Option Addr) (t6 : Nat) (t7 : Nat) (s0 : ByteArray) (K : Value → Heap → Prop) (E : Value → Heap → Prop) (H : Heap) :
    fnT Try.prog Try.f8 (wC Try.prog vizardlaw22_TunnelPolicy.Γ vizardlaw22_TunnelPolicy.plan vizardlaw22_TunnelPolicy.body) [(.agg #[(.bool t0), (.int .u32 t1), (.int .i64 t2), (.int .u32 t3), (.int .i64 t4), (.slice t5 t6 t7)]), (.string s0)] K E H = vizardlaw22_TunnelPolicy.vc t0 t1 t2 t3 t4 t5 t6 t7 s0 (fun r0_0 H => K (.bool r0_0) H) E H := by
  kernel_rfl
theorem vizardlaw22_TunnelPolicy.Fe {args : List Value} {K E : Value → Heap → Prop} {H : Heap} (h : vizardlaw22_TunnelPolicy.F args K E H) : ∃ t0 t1 t2 t3 t4 t5 t6 t7 s0, args = [(.agg #[(.bool t0), (.int .u32 t1), (.int .i64 t2), (.int .u32 t3), (.int .i64 t4), (.slice t5 t6 t7)]), (.string s0)] ∧ vizardlaw22_TunnelPolicy.c t0 t1 t2 t3 t4 t5 t6 t7 s0 (fun r0_0 H => K (.bool r0_0) H) E H := by
  unfold vizardlaw22_TunnelPolicy.F at h
  split at h
  · exact ⟨_, _, _, _, _, _, _, _, _, rfl, h⟩
  · exact h.elim
theorem vizardlaw22_TunnelPolicy.ok : CalleeOk Try.prog 8 vizardlaw22_TunnelPolicy.F :=
  callee_ok vizardlaw22_TunnelPolicy.hΓ (fn := Try.f8) (c := vizardlaw22_TunnelPolicy.body) (T := wC Try.prog vizardlaw22_TunnelPolicy.Γ vizardlaw22_TunnelPolicy.plan vizardlaw22_TunnelPolicy.body) (by kernel_rfl) (by kernel_rfl) (by kernel_rfl) (wC_sound vizardlaw22_TunnelPolicy.hΓ Try.hm vizardlaw22_TunnelPolicy.plan _ vizardlaw22_TunnelPolicy.pok) fun _ K E H h => by
    obtain ⟨z0, z1, z2, z3, z4, z5, z6, z7, z8, e, h⟩ := vizardlaw22_TunnelPolicy.Fe h
    subst e
    have h2 : vizardlaw22_TunnelPolicy.vc z0 z1 z2 z3 z4 z5 z6 z7 z8 (fun r0_0 H => ∃ H', Heap.Le H' H ∧ K (.bool r0_0) H') E H := h.h
    rw [vizardlaw22_TunnelPolicy.eq z0 z1 z2 z3 z4 z5 z6 z7 z8 (Fg K) E H]
    exact h2

/-! vizard/vizardlaw22.TunnelBack -/
noncomputable def vizardlaw22_TunnelBack.body : Code := Try.f9.body.getD .skip
def vizardlaw22_TunnelBack.J1.vc (s0 : ByteArray) (x0 : ByteArray) (e0 : Int) (ok0 : Bool) (Kr : Bool → Heap → Prop) (E : Value → Heap → Prop) (h0 : Heap) : Prop :=
  (if ok0 = true then
  (if (x0.toList == s0.toList) = true then
  (if (e0 == 0) = true then
  Kr true h0
  else
  (if (!ok0) = true then
  (if (x0.toList == (⟨#[]⟩ : ByteArray).toList) = true then
  Kr (e0 == 15) h0
  else
  Kr false h0)
  else
  Kr false h0))
  else
  (if (!ok0) = true then
  (if (x0.toList == (⟨#[]⟩ : ByteArray).toList) = true then
  Kr (e0 == 15) h0
  else
  Kr false h0)
  else
  Kr false h0))
  else
  (if (!ok0) = true then
  (if (x0.toList == (⟨#[]⟩ : ByteArray).toList) = true then
  Kr (e0 == 15) h0
  else
  Kr false h0)
  else
  Kr false h0))
structure vizardlaw22_TunnelBack.J1 (s0 : ByteArray) (x0 : ByteArray) (e0 : Int) (ok0 : Bool) (Kr : Bool → Heap → Prop) (E : Value → Heap → Prop) (H : Heap) : Prop where
  h : vizardlaw22_TunnelBack.J1.vc s0 x0 e0 ok0 Kr E H
def vizardlaw22_TunnelBack.J2.vc (x0 : ByteArray) (e0 : Int) (h0 : Addr) (x1 : Bool) (Kn : Heap → Prop) (Kr : Bool → Heap → Prop) (E : Value → Heap → Prop) (h1 : Heap) : Prop :=
  (if x1 = true then
  (if (e0 != 0) = true then
  Kr (x0.toList == (⟨#[]⟩ : ByteArray).toList) h1
  else
  Kr false h1)
  else
  Kn h1)
structure vizardlaw22_TunnelBack.J2 (x0 : ByteArray) (e0 : Int) (h0 : Addr) (x1 : Bool) (Kn : Heap → Prop) (Kr : Bool → Heap → Prop) (E : Value → Heap → Prop) (H : Heap) : Prop where
  h : vizardlaw22_TunnelBack.J2.vc x0 e0 h0 x1 Kn Kr E H
def vizardlaw22_TunnelBack.J3.vc (x0 : ByteArray) (e0 : Int) (h0 : Addr) (Kr : Bool → Heap → Prop) (E : Value → Heap → Prop) (h1 : Heap) : Prop :=
  vizardref02_Parse.c x0 (fun x1 x2 x3 x4 x5 x6 x7 x8 x9 h2 =>
  newB (.cells #[(.int .i64 0), (.int .i64 0), (.int .i64 0), (.int .i64 0), (.int .i64 0), (.int .u32 0), (.int .u32 0), (.string (⟨#[]⟩ : ByteArray))] 58) (fun b0 h3 =>
  stc h3 ((⟨b0, 0, none⟩ : Addr).add 0) (.int .i64 x1) fun h4 =>
  stc h4 ((⟨b0, 0, none⟩ : Addr).add 1) (.int .i64 x2) fun h5 =>
  stc h5 ((⟨b0, 0, none⟩ : Addr).add 2) (.int .i64 x3) fun h6 =>
  stc h6 ((⟨b0, 0, none⟩ : Addr).add 3) (.int .i64 x4) fun h7 =>
  stc h7 ((⟨b0, 0, none⟩ : Addr).add 4) (.int .i64 x5) fun h8 =>
  stc h8 ((⟨b0, 0, none⟩ : Addr).add 5) (.int .u32 x6) fun h9 =>
  stc h9 ((⟨b0, 0, none⟩ : Addr).add 6) (.int .u32 x7) fun h10 =>
  stc h10 ((⟨b0, 0, none⟩ : Addr).add 7) (.string x8) fun h11 =>
  ldI h11 .i64 (h0.add 3) fun x10 =>
  stc h11 (h0.add 3) (.int .i64 (IntKind.i64.wrap (x10 - 1))) fun h12 =>
  (if (e0 == 0) = true then
  (if (x9 == 0) = true then
  ldI h12 .i64 ((⟨b0, 0, none⟩ : Addr).add 0) fun x11 => ldI h12 .i64 ((⟨b0, 0, none⟩ : Addr).add 1) fun x12 => ldI h12 .i64 ((⟨b0, 0, none⟩ : Addr).add 2) fun x13 => ldI h12 .i64 ((⟨b0, 0, none⟩ : Addr).add 3) fun x14 => ldI h12 .i64 ((⟨b0, 0, none⟩ : Addr).add 4) fun x15 => ldI h12 .u32 ((⟨b0, 0, none⟩ : Addr).add 5) fun x16 => ldI h12 .u32 ((⟨b0, 0, none⟩ : Addr).add 6) fun x17 => ldS h12 ((⟨b0, 0, none⟩ : Addr).add 7) fun x18 =>
  ldI h12 .i64 (h0.add 0) fun x19 => ldI h12 .i64 (h0.add 1) fun x20 => ldI h12 .i64 (h0.add 2) fun x21 => ldI h12 .i64 (h0.add 3) fun x22 => ldI h12 .i64 (h0.add 4) fun x23 => ldI h12 .u32 (h0.add 5) fun x24 => ldI h12 .u32 (h0.add 6) fun x25 => ldS h12 (h0.add 7) fun x26 =>
  Kr ((x11 == x19) && ((x12 == x20) && ((x13 == x21) && ((x14 == x22) && ((x15 == x23) && ((x16 == x24) && ((x17 == x25) && ((x18 == x26) && true)))))))) h12
  else
  Kr false h12)
  else
  Kr false h12)) h2) E h1
structure vizardlaw22_TunnelBack.J3 (x0 : ByteArray) (e0 : Int) (h0 : Addr) (Kr : Bool → Heap → Prop) (E : Value → Heap → Prop) (H : Heap) : Prop where
  h : vizardlaw22_TunnelBack.J3.vc x0 e0 h0 Kr E H
def vizardlaw22_TunnelBack.vc (t0 : Bool) (t1 : Int) (t2 : Int) (t3 : Int) (t4 : Int) (t5 : Option Addr) (t6 : Nat) (t7 : Nat) (s0 : ByteArray) (src0 : Int) (from0 : Int) (K : Bool → Heap → Prop) (E : Value → Heap → Prop) (h0 : Heap) : Prop :=
  newB (.cells #[(.bool t0), (.int .u32 t1), (.int .i64 t2), (.int .u32 t3), (.int .i64 t4), (.slice t5 t6 t7)] 46) (fun b0 h1 =>
  vizardlaw22_works.c (fun x0 h2 =>
  (if (!x0) = true then
  K false h2
  else
  ldB h2 ((⟨b0, 0, none⟩ : Addr).add 0) fun x1 => ldI h2 .u32 ((⟨b0, 0, none⟩ : Addr).add 1) fun x2 => ldI h2 .i64 ((⟨b0, 0, none⟩ : Addr).add 2) fun x3 => ldI h2 .u32 ((⟨b0, 0, none⟩ : Addr).add 3) fun x4 => ldI h2 .i64 ((⟨b0, 0, none⟩ : Addr).add 4) fun x5 => ldSl h2 ((⟨b0, 0, none⟩ : Addr).add 5) fun x6 x7 x8 =>
  vizardlaw22_its.c x1 x2 x3 x4 x5 x6 x7 x8 (fun x9 x10 x11 x12 x13 x14 x15 x16 h3 =>
  tunnel_Tunnel_Down.c x9 x10 x11 x12 x13 x14 x15 x16 src0 from0 s0 (fun x17 x18 h4 =>
  (if (decide ((s0.size : Int) > 1000)) = true then
  (if (x18 == 8) = true then
  K (x17.toList == (⟨#[]⟩ : ByteArray).toList) h4
  else
  K false h4)
  else
  ldB h4 (((⟨b0, 0, none⟩ : Addr).add 0).add 0) fun x19 =>
  (if (!x19) = true then
  ldI h4 .u32 (((⟨b0, 0, none⟩ : Addr).add 0).add 1) fun x20 =>
  (if (src0 == x20) = true then
  ldI h4 .i64 (((⟨b0, 0, none⟩ : Addr).add 0).add 2) fun x21 =>
  vizardlaw22_TunnelBack.J1 s0 x17 x18 (from0 == x21) K E h4
  else
  vizardlaw22_TunnelBack.J1 s0 x17 x18 false K E h4)
  else
  vizardref02_Parse.c s0 (fun x24 x25 x26 x27 x28 x29 x30 x31 x32 h7 =>
  newB (.cells #[(.int .i64 0), (.int .i64 0), (.int .i64 0), (.int .i64 0), (.int .i64 0), (.int .u32 0), (.int .u32 0), (.string (⟨#[]⟩ : ByteArray))] 58) (fun b1 h8 =>
  stc h8 ((⟨b1, 0, none⟩ : Addr).add 0) (.int .i64 x24) fun h9 =>
  stc h9 ((⟨b1, 0, none⟩ : Addr).add 1) (.int .i64 x25) fun h10 =>
  stc h10 ((⟨b1, 0, none⟩ : Addr).add 2) (.int .i64 x26) fun h11 =>
  stc h11 ((⟨b1, 0, none⟩ : Addr).add 3) (.int .i64 x27) fun h12 =>
  stc h12 ((⟨b1, 0, none⟩ : Addr).add 4) (.int .i64 x28) fun h13 =>
  stc h13 ((⟨b1, 0, none⟩ : Addr).add 5) (.int .u32 x29) fun h14 =>
  stc h14 ((⟨b1, 0, none⟩ : Addr).add 6) (.int .u32 x30) fun h15 =>
  stc h15 ((⟨b1, 0, none⟩ : Addr).add 7) (.string x31) fun h16 =>
  (if (x32 != 0) = true then
  vizardlaw22_TunnelBack.J2 x17 x18 (⟨b1, 0, none⟩ : Addr) true (fun h17 =>
  vizardlaw22_TunnelBack.J3 x17 x18 (⟨b1, 0, none⟩ : Addr) K E h17) K E h16
  else
  ldI h16 .u32 ((⟨b1, 0, none⟩ : Addr).add 6) fun x35 =>
  ldI h16 .u32 ((⟨b0, 0, none⟩ : Addr).add 3) fun x36 =>
  (if (x35 != x36) = true then
  vizardlaw22_TunnelBack.J2 x17 x18 (⟨b1, 0, none⟩ : Addr) true (fun h20 =>
  vizardlaw22_TunnelBack.J3 x17 x18 (⟨b1, 0, none⟩ : Addr) K E h20) K E h16
  else
  ldI h16 .i64 ((⟨b1, 0, none⟩ : Addr).add 3) fun x39 =>
  vizardlaw22_TunnelBack.J2 x17 x18 (⟨b1, 0, none⟩ : Addr) (decide (x39 < 2)) (fun h23 =>
  vizardlaw22_TunnelBack.J3 x17 x18 (⟨b1, 0, none⟩ : Addr) K E h23) K E h16))) h7) E h4))) E h3) E h2)) E h1) h0
structure vizardlaw22_TunnelBack.c (t0 : Bool) (t1 : Int) (t2 : Int) (t3 : Int) (t4 : Int) (t5 : Option Addr) (t6 : Nat) (t7 : Nat) (s0 : ByteArray) (src0 : Int) (from0 : Int) (K : Bool → Heap → Prop) (E : Value → Heap → Prop) (H : Heap) : Prop where
  h : vizardlaw22_TunnelBack.vc t0 t1 t2 t3 t4 t5 t6 t7 s0 src0 from0 (fun r0_0 H => ∃ H', Heap.Le H' H ∧ K r0_0 H') E H
def vizardlaw22_TunnelBack.F : FT := fun args K E H => match args with
  | [(.agg ⟨[(.bool t0), (.int .u32 t1), (.int .i64 t2), (.int .u32 t3), (.int .i64 t4), (.slice t5 t6 t7)]⟩), (.string s0), (.int .u32 src0), (.int .i64 from0)] => vizardlaw22_TunnelBack.c t0 t1 t2 t3 t4 t5 t6 t7 s0 src0 from0 (fun r0_0 H => K (.bool r0_0) H) E H
  | _ => False
noncomputable def vizardlaw22_TunnelBack.Γ : FuncId → Option FT := Γof [(16, vizardlaw22_its.F), (19, tunnel_Tunnel_Down.F), (23, vizardlaw22_works.F), (25, vizardref02_Parse.F)]
theorem vizardlaw22_TunnelBack.hΓ : ∀ f F, vizardlaw22_TunnelBack.Γ f = some F → CalleeOk Try.prog f F := Γof_ok (List.forall_mem_cons.2 ⟨vizardlaw22_its.ok, List.forall_mem_cons.2 ⟨tunnel_Tunnel_Down.ok, List.forall_mem_cons.2 ⟨vizardlaw22_works.ok, List.forall_mem_cons.2 ⟨vizardref02_Parse.ok, fun _ h => nomatch h⟩⟩⟩⟩)
def vizardlaw22_TunnelBack.J1.t : CT := fun Q E fr H => lenIs 119 fr (slS fr 1 fun s0 => slS fr 9 fun x0 => slI fr 10 .i64 fun e0 => slB fr 11 fun ok0 => vizardlaw22_TunnelBack.J1 s0 x0 e0 ok0 (fun y8_0 H => Q .ret (mkF 119 [(8, (.bool y8_0))]) H) E H)
noncomputable def vizardlaw22_TunnelBack.J1.plan : Plan := .go
theorem vizardlaw22_TunnelBack.J1.pok : PlanOk Try.prog vizardlaw22_TunnelBack.J1.plan (sub [1, 1, 1, 1, 0, 1, 0, 1] vizardlaw22_TunnelBack.body) := by
  have e : PlanOk Try.prog vizardlaw22_TunnelBack.J1.plan (sub [1, 1, 1, 1, 0, 1, 0, 1] vizardlaw22_TunnelBack.body) = (True) := by kernel_rfl
  exact e.mpr trivial
theorem vizardlaw22_TunnelBack.J1.eq (s0 : ByteArray) (x0 : ByteArray) (e0 : Int) (ok0 : Bool) (Q : Ex → Fr → Heap → Prop) (E : Value → Heap → Prop) (H : Heap) :
    vizardlaw22_TunnelBack.J1.vc s0 x0 e0 ok0 (fun y8_0 H => Q .ret (mkF 119 [(8, (.bool y8_0))]) H) E H = keepT [] [8] (fun i => []) (wC Try.prog vizardlaw22_TunnelBack.Γ vizardlaw22_TunnelBack.J1.plan (sub [1, 1, 1, 1, 0, 1, 0, 1] vizardlaw22_TunnelBack.body)) Q E (mkF 119 [(1, (.string s0)), (9, (.string x0)), (10, (.int .i64 e0)), (11, (.bool ok0))]) H := by
  kernel_rfl
theorem vizardlaw22_TunnelBack.J1.ok : SoundCode Try.prog (sub [1, 1, 1, 1, 0, 1, 0, 1] vizardlaw22_TunnelBack.body) vizardlaw22_TunnelBack.J1.t := by
  refine piece_sound (keepT_sound [] [8] (fun i => []) (wC_sound vizardlaw22_TunnelBack.hΓ Try.hm vizardlaw22_TunnelBack.J1.plan _ vizardlaw22_TunnelBack.J1.pok)) ?_
  intro Q E fr H h
  unfold vizardlaw22_TunnelBack.J1.t at h
  obtain ⟨hl, h⟩ := lenIs_elim h
  obtain ⟨s0, q1, h⟩ := slS_elim h
  obtain ⟨x0, q9, h⟩ := slS_elim h
  obtain ⟨e0, q10, h⟩ := slI_elim h
  obtain ⟨ok0, q11, h⟩ := slB_elim h
  refine ⟨(mkF 119 [(1, (.string s0)), (9, (.string x0)), (10, (.int .i64 e0)), (11, (.bool ok0))]), fun a ha => ha.mk (Nat.le_of_eq hl.symm) (List.forall_mem_cons.2 ⟨q1, List.forall_mem_cons.2 ⟨q9, List.forall_mem_cons.2 ⟨q10, List.forall_mem_cons.2 ⟨q11, fun _ h => nomatch h⟩⟩⟩⟩), ?_⟩
  have e := vizardlaw22_TunnelBack.J1.eq s0 x0 e0 ok0 Q E H
  rw [← e]
  exact h.h
def vizardlaw22_TunnelBack.J2.t : CT := fun Q E fr H => lenIs 119 fr (slS fr 9 fun x0 => slI fr 10 .i64 fun e0 => slPA fr 12 fun h0 => slB fr 92 fun x1 => vizardlaw22_TunnelBack.J2 x0 e0 h0 x1 (fun  H => Q .normal (mkF 119 [(9, (.string x0)), (10, (.int .i64 e0)), (12, (.pointer (some h0)))]) H) (fun y8_0 H => Q .ret (mkF 119 [(8, (.bool y8_0))]) H) E H)
noncomputable def vizardlaw22_TunnelBack.J2.plan : Plan := .go
theorem vizardlaw22_TunnelBack.J2.pok : PlanOk Try.prog vizardlaw22_TunnelBack.J2.plan (sub [1, 1, 1, 1, 1, 1, 0, 1] vizardlaw22_TunnelBack.body) := by
  have e : PlanOk Try.prog vizardlaw22_TunnelBack.J2.plan (sub [1, 1, 1, 1, 1, 1, 0, 1] vizardlaw22_TunnelBack.body) = (True) := by kernel_rfl
  exact e.mpr trivial
theorem vizardlaw22_TunnelBack.J2.eq (x0 : ByteArray) (e0 : Int) (h0 : Addr) (x1 : Bool) (Q : Ex → Fr → Heap → Prop) (E : Value → Heap → Prop) (H : Heap) :
    vizardlaw22_TunnelBack.J2.vc x0 e0 h0 x1 (fun  H => Q .normal (mkF 119 [(9, (.string x0)), (10, (.int .i64 e0)), (12, (.pointer (some h0)))]) H) (fun y8_0 H => Q .ret (mkF 119 [(8, (.bool y8_0))]) H) E H = keepT [9, 10, 12] [8] (fun i => []) (wC Try.prog vizardlaw22_TunnelBack.Γ vizardlaw22_TunnelBack.J2.plan (sub [1, 1, 1, 1, 1, 1, 0, 1] vizardlaw22_TunnelBack.body)) Q E (mkF 119 [(9, (.string x0)), (10, (.int .i64 e0)), (12, (.pointer (some h0))), (92, (.bool x1))]) H := by
  kernel_rfl
theorem vizardlaw22_TunnelBack.J2.ok : SoundCode Try.prog (sub [1, 1, 1, 1, 1, 1, 0, 1] vizardlaw22_TunnelBack.body) vizardlaw22_TunnelBack.J2.t := by
  refine piece_sound (keepT_sound [9, 10, 12] [8] (fun i => []) (wC_sound vizardlaw22_TunnelBack.hΓ Try.hm vizardlaw22_TunnelBack.J2.plan _ vizardlaw22_TunnelBack.J2.pok)) ?_
  intro Q E fr H h
  unfold vizardlaw22_TunnelBack.J2.t at h
  obtain ⟨hl, h⟩ := lenIs_elim h
  obtain ⟨x0, q9, h⟩ := slS_elim h
  obtain ⟨e0, q10, h⟩ := slI_elim h
  obtain ⟨h0, q12, h⟩ := slPA_elim h
  obtain ⟨x1, q92, h⟩ := slB_elim h
  refine ⟨(mkF 119 [(9, (.string x0)), (10, (.int .i64 e0)), (12, (.pointer (some h0))), (92, (.bool x1))]), fun a ha => ha.mk (Nat.le_of_eq hl.symm) (List.forall_mem_cons.2 ⟨q9, List.forall_mem_cons.2 ⟨q10, List.forall_mem_cons.2 ⟨q12, List.forall_mem_cons.2 ⟨q92, fun _ h => nomatch h⟩⟩⟩⟩), ?_⟩
  have e := vizardlaw22_TunnelBack.J2.eq x0 e0 h0 x1 Q E H
  rw [← e]
  exact h.h
def vizardlaw22_TunnelBack.J3.t : CT := fun Q E fr H => lenIs 119 fr (slS fr 9 fun x0 => slI fr 10 .i64 fun e0 => slPA fr 12 fun h0 => vizardlaw22_TunnelBack.J3 x0 e0 h0 (fun y8_0 H => Q .ret (mkF 119 [(8, (.bool y8_0))]) H) E H)
noncomputable def vizardlaw22_TunnelBack.J3.plan : Plan := .go
theorem vizardlaw22_TunnelBack.J3.pok : PlanOk Try.prog vizardlaw22_TunnelBack.J3.plan (sub [1, 1, 1, 1, 1, 1, 1] vizardlaw22_TunnelBack.body) := by
  have e : PlanOk Try.prog vizardlaw22_TunnelBack.J3.plan (sub [1, 1, 1, 1, 1, 1, 1] vizardlaw22_TunnelBack.body) = (True) := by kernel_rfl
  exact e.mpr trivial
theorem vizardlaw22_TunnelBack.J3.eq (x0 : ByteArray) (e0 : Int) (h0 : Addr) (Q : Ex → Fr → Heap → Prop) (E : Value → Heap → Prop) (H : Heap) :
    vizardlaw22_TunnelBack.J3.vc x0 e0 h0 (fun y8_0 H => Q .ret (mkF 119 [(8, (.bool y8_0))]) H) E H = keepT [] [8] (fun i => []) (wC Try.prog vizardlaw22_TunnelBack.Γ vizardlaw22_TunnelBack.J3.plan (sub [1, 1, 1, 1, 1, 1, 1] vizardlaw22_TunnelBack.body)) Q E (mkF 119 [(9, (.string x0)), (10, (.int .i64 e0)), (12, (.pointer (some h0)))]) H := by
  kernel_rfl
theorem vizardlaw22_TunnelBack.J3.ok : SoundCode Try.prog (sub [1, 1, 1, 1, 1, 1, 1] vizardlaw22_TunnelBack.body) vizardlaw22_TunnelBack.J3.t := by
  refine piece_sound (keepT_sound [] [8] (fun i => []) (wC_sound vizardlaw22_TunnelBack.hΓ Try.hm vizardlaw22_TunnelBack.J3.plan _ vizardlaw22_TunnelBack.J3.pok)) ?_
  intro Q E fr H h
  unfold vizardlaw22_TunnelBack.J3.t at h
  obtain ⟨hl, h⟩ := lenIs_elim h
  obtain ⟨x0, q9, h⟩ := slS_elim h
  obtain ⟨e0, q10, h⟩ := slI_elim h
  obtain ⟨h0, q12, h⟩ := slPA_elim h
  refine ⟨(mkF 119 [(9, (.string x0)), (10, (.int .i64 e0)), (12, (.pointer (some h0)))]), fun a ha => ha.mk (Nat.le_of_eq hl.symm) (List.forall_mem_cons.2 ⟨q9, List.forall_mem_cons.2 ⟨q10, List.forall_mem_cons.2 ⟨q12, fun _ h => nomatch h⟩⟩⟩), ?_⟩
  have e := vizardlaw22_TunnelBack.J3.eq x0 e0 h0 Q E H
  rw [← e]
  exact h.h
noncomputable def vizardlaw22_TunnelBack.plan : Plan := .seq (.go) (.seq (.go) (.seq (.go) (.seq (.go) (.seq (.seq (.go) (.cond (.seq (.go) (.use vizardlaw22_TunnelBack.J1.t)) (.go))) (.seq (.go) (.seq (.seq (.go) (.use vizardlaw22_TunnelBack.J2.t)) (.use vizardlaw22_TunnelBack.J3.t)))))))
theorem vizardlaw22_TunnelBack.pok : PlanOk Try.prog vizardlaw22_TunnelBack.plan vizardlaw22_TunnelBack.body := by
  have e : PlanOk Try.prog vizardlaw22_TunnelBack.plan vizardlaw22_TunnelBack.body = ((True) ∧ ((True) ∧ ((True) ∧ ((True) ∧ (((True) ∧ (((True) ∧ (SoundCode Try.prog (sub [1, 1, 1, 1, 0, 1, 0, 1] vizardlaw22_TunnelBack.body) vizardlaw22_TunnelBack.J1.t)) ∧ (True))) ∧ ((True) ∧ (((True) ∧ (SoundCode Try.prog (sub [1, 1, 1, 1, 1, 1, 0, 1] vizardlaw22_TunnelBack.body) vizardlaw22_TunnelBack.J2.t)) ∧ (SoundCode Try.prog (sub [1, 1, 1, 1, 1, 1, 1] vizardlaw22_TunnelBack.body) vizardlaw22_TunnelBack.J3.t)))))))) := by kernel_rfl
  exact e.mpr ⟨trivial, ⟨trivial, ⟨trivial, ⟨trivial, ⟨⟨trivial, ⟨⟨trivial, vizardlaw22_TunnelBack.J1.ok⟩, trivial⟩⟩, ⟨trivial, ⟨⟨trivial, vizardlaw22_TunnelBack.J2.ok⟩, vizardlaw22_TunnelBack.J3.ok⟩⟩⟩⟩⟩⟩⟩
theorem vizardlaw22_TunnelBack.eq (t0 : Bool) (t1 : Int) (t2 : Int) (t3 : Int) (t4 : Int) (t5 : Option Addr) (t6 : Nat) (t7 : Nat) (s0 : ByteArray) (src0 : Int) (from0 : Int) (K : Value → Heap → Prop) (E : Value → Heap → Prop) (H : Heap) :
    fnT Try.prog Try.f9 (wC Try.prog vizardlaw22_TunnelBack.Γ vizardlaw22_TunnelBack.plan vizardlaw22_TunnelBack.body) [(.agg #[(.bool t0), (.int .u32 t1), (.int .i64 t2), (.int .u32 t3), (.int .i64 t4), (.slice t5 t6 t7)]), (.string s0), (.int .u32 src0), (.int .i64 from0)] K E H = vizardlaw22_TunnelBack.vc t0 t1 t2 t3 t4 t5 t6 t7 s0 src0 from0 (fun r0_0 H => K (.bool r0_0) H) E H := by
  kernel_rfl
theorem vizardlaw22_TunnelBack.Fe {args : List Value} {K E : Value → Heap → Prop} {H : Heap} (h : vizardlaw22_TunnelBack.F args K E H) : ∃ t0 t1 t2 t3 t4 t5 t6 t7 s0 src0 from0, args = [(.agg #[(.bool t0), (.int .u32 t1), (.int .i64 t2), (.int .u32 t3), (.int .i64 t4), (.slice t5 t6 t7)]), (.string s0), (.int .u32 src0), (.int .i64 from0)] ∧ vizardlaw22_TunnelBack.c t0 t1 t2 t3 t4 t5 t6 t7 s0 src0 from0 (fun r0_0 H => K (.bool r0_0) H) E H := by
  unfold vizardlaw22_TunnelBack.F at h
  split at h
  · exact ⟨_, _, _, _, _, _, _, _, _, _, _, rfl, h⟩
  · exact h.elim
theorem vizardlaw22_TunnelBack.ok : CalleeOk Try.prog 9 vizardlaw22_TunnelBack.F :=
  callee_ok vizardlaw22_TunnelBack.hΓ (fn := Try.f9) (c := vizardlaw22_TunnelBack.body) (T := wC Try.prog vizardlaw22_TunnelBack.Γ vizardlaw22_TunnelBack.plan vizardlaw22_TunnelBack.body) (by kernel_rfl) (by kernel_rfl) (by kernel_rfl) (wC_sound vizardlaw22_TunnelBack.hΓ Try.hm vizardlaw22_TunnelBack.plan _ vizardlaw22_TunnelBack.pok) fun _ K E H h => by
    obtain ⟨z0, z1, z2, z3, z4, z5, z6, z7, z8, z9, z10, e, h⟩ := vizardlaw22_TunnelBack.Fe h
    subst e
    have h2 : vizardlaw22_TunnelBack.vc z0 z1 z2 z3 z4 z5 z6 z7 z8 z9 z10 (fun r0_0 H => ∃ H', Heap.Le H' H ∧ K (.bool r0_0) H') E H := h.h
    rw [vizardlaw22_TunnelBack.eq z0 z1 z2 z3 z4 z5 z6 z7 z8 z9 z10 (Fg K) E H]
    exact h2
end Go.Sh
