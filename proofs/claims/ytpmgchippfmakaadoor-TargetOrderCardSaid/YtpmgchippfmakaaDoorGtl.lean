/- PRINTED by a program (sh.py): what the walk over each function asks, and that it asks just that. -/
import Derived.Test.YtpmgchippfmakaaDoorTgy
namespace Go.Sh
open Go.Proofs
set_option linter.unusedVariables false
set_option maxRecDepth 8000
/-! vizard/vizardlaw17.TargetParses -/
noncomputable def vizardlaw17_TargetParses.body : Code := Tryd.f4.body.getD .skip
def vizardlaw17_TargetParses.J1.vc (l0 : Option Addr) (l1 : Nat) (l2 : Nat) (own0 : Option Addr) (own1 : Nat) (own2 : Nat) (Kr : Bool → Heap → Prop) (E : Value → Heap → Prop) (h0 : Heap) : Prop :=
  target_Parse.c own0 own1 own2 (fun x0 x1 x2 x3 h1 =>
  newB (.cells #[(.bool false), (.int .u32 0), (.int .i64 0)] 24) (fun b0 h2 =>
  stc h2 ((⟨b0, 0, none⟩ : Addr).add 0) (.bool x0) fun h3 =>
  stc h3 ((⟨b0, 0, none⟩ : Addr).add 1) (.int .u32 x1) fun h4 =>
  stc h4 ((⟨b0, 0, none⟩ : Addr).add 2) (.int .i64 x2) fun h5 =>
  vizardref17_Parse.c l0 l1 l2 (fun x4 x5 x6 x7 h6 =>
  newB (.cells #[(.bool false), (.int .u32 0), (.int .i64 0)] 24) (fun b1 h7 =>
  stc h7 ((⟨b1, 0, none⟩ : Addr).add 0) (.bool x4) fun h8 =>
  stc h8 ((⟨b1, 0, none⟩ : Addr).add 1) (.int .u32 x5) fun h9 =>
  stc h9 ((⟨b1, 0, none⟩ : Addr).add 2) (.int .i64 x6) fun h10 =>
  ldB h10 ((⟨b0, 0, none⟩ : Addr).add 0) fun x8 => ldI h10 .u32 ((⟨b0, 0, none⟩ : Addr).add 1) fun x9 => ldI h10 .i64 ((⟨b0, 0, none⟩ : Addr).add 2) fun x10 =>
  ldB h10 ((⟨b1, 0, none⟩ : Addr).add 0) fun x11 => ldI h10 .u32 ((⟨b1, 0, none⟩ : Addr).add 1) fun x12 => ldI h10 .i64 ((⟨b1, 0, none⟩ : Addr).add 2) fun x13 =>
  (if ((x8 == x11) && ((x9 == x12) && ((x10 == x13) && true))) = true then
  (if (x3 == x7) = true then
  vizardref14_Same.c own0 own1 own2 l0 l1 l2 Kr E h10
  else
  Kr false h10)
  else
  Kr false h10)) h6) E h5) h1) E h0
structure vizardlaw17_TargetParses.J1 (l0 : Option Addr) (l1 : Nat) (l2 : Nat) (own0 : Option Addr) (own1 : Nat) (own2 : Nat) (Kr : Bool → Heap → Prop) (E : Value → Heap → Prop) (H : Heap) : Prop where
  h : vizardlaw17_TargetParses.J1.vc l0 l1 l2 own0 own1 own2 Kr E H
def vizardlaw17_TargetParses.vc (l0 : Option Addr) (l1 : Nat) (l2 : Nat) (K : Bool → Heap → Prop) (E : Value → Heap → Prop) (h0 : Heap) : Prop :=
  newB (.cells #[] 35) (fun b0 h1 =>
  rdRow h1 l0 (l1 * 2) fun cs0 =>
  appT 35 (.agg #[(.string (⟨#[]⟩ : ByteArray)), (.string (⟨#[]⟩ : ByteArray))]) (some (⟨b0, 0, none⟩ : Addr)) 0 l1 0 2 32 cs0 (fun p0 n0 c0 h2 =>
  vizardlaw17_TargetParses.J1 l0 l1 l2 p0 n0 c0 K E h2) h1) h0
structure vizardlaw17_TargetParses.c (l0 : Option Addr) (l1 : Nat) (l2 : Nat) (K : Bool → Heap → Prop) (E : Value → Heap → Prop) (H : Heap) : Prop where
  h : vizardlaw17_TargetParses.vc l0 l1 l2 (fun r0_0 H => ∃ H', Heap.Le H' H ∧ K r0_0 H') E H
def vizardlaw17_TargetParses.F : FT := fun args K E H => match args with
  | [(.slice l0 l1 l2)] => vizardlaw17_TargetParses.c l0 l1 l2 (fun r0_0 H => K (.bool r0_0) H) E H
  | _ => False
noncomputable def vizardlaw17_TargetParses.Γ : FuncId → Option FT := Γof [(10, vizardref14_Same.F), (13, target_Parse.F), (14, vizardref17_Parse.F)]
theorem vizardlaw17_TargetParses.hΓ : ∀ f F, vizardlaw17_TargetParses.Γ f = some F → CalleeOk Tryd.prog f F := Γof_ok (List.forall_mem_cons.2 ⟨vizardref14_Same.ok, List.forall_mem_cons.2 ⟨target_Parse.ok, List.forall_mem_cons.2 ⟨vizardref17_Parse.ok, fun _ h => nomatch h⟩⟩⟩)
def vizardlaw17_TargetParses.J1.t : CT := fun Q E fr H => lenIs 34 fr (slSl fr 0 fun l0 l1 l2 => slSl fr 3 fun own0 own1 own2 => vizardlaw17_TargetParses.J1 l0 l1 l2 own0 own1 own2 (fun y2_0 H => Q .ret (mkF 34 [(2, (.bool y2_0))]) H) E H)
noncomputable def vizardlaw17_TargetParses.J1.plan : Plan := .go
theorem vizardlaw17_TargetParses.J1.pok : PlanOk Tryd.prog vizardlaw17_TargetParses.J1.plan (sub [1, 1] vizardlaw17_TargetParses.body) := by
  have e : PlanOk Tryd.prog vizardlaw17_TargetParses.J1.plan (sub [1, 1] vizardlaw17_TargetParses.body) = (True) := by kernel_rfl
  exact e.mpr trivial
theorem vizardlaw17_TargetParses.J1.eq (l0 : Option Addr) (l1 : Nat) (l2 : Nat) (own0 : Option Addr) (own1 : Nat) (own2 : Nat) (Q : Ex → Fr → Heap → Prop) (E : Value → Heap → Prop) (H : Heap) :
    vizardlaw17_TargetParses.J1.vc l0 l1 l2 own0 own1 own2 (fun y2_0 H => Q .ret (mkF 34 [(2, (.bool y2_0))]) H) E H = keepT [] [2] (fun i => []) (wC Tryd.prog vizardlaw17_TargetParses.Γ vizardlaw17_TargetParses.J1.plan (sub [1, 1] vizardlaw17_TargetParses.body)) Q E (mkF 34 [(0, (.slice l0 l1 l2)), (3, (.slice own0 own1 own2))]) H := by
  kernel_rfl
theorem vizardlaw17_TargetParses.J1.ok : SoundCode Tryd.prog (sub [1, 1] vizardlaw17_TargetParses.body) vizardlaw17_TargetParses.J1.t := by
  refine piece_sound (keepT_sound [] [2] (fun i => []) (wC_sound vizardlaw17_TargetParses.hΓ Tryd.hm vizardlaw17_TargetParses.J1.plan _ vizardlaw17_TargetParses.J1.pok)) ?_
  intro Q E fr H h
  unfold vizardlaw17_TargetParses.J1.t at h
  obtain ⟨hl, h⟩ := lenIs_elim h
  obtain ⟨l0, l1, l2, q0, h⟩ := slSl_elim h
  obtain ⟨own0, own1, own2, q3, h⟩ := slSl_elim h
  refine ⟨(mkF 34 [(0, (.slice l0 l1 l2)), (3, (.slice own0 own1 own2))]), fun a ha => ha.mk (Nat.le_of_eq hl.symm) (List.forall_mem_cons.2 ⟨q0, List.forall_mem_cons.2 ⟨q3, fun _ h => nomatch h⟩⟩), ?_⟩
  have e := vizardlaw17_TargetParses.J1.eq l0 l1 l2 own0 own1 own2 Q E H
  rw [← e]
  exact h.h
noncomputable def vizardlaw17_TargetParses.plan : Plan := .seq (.go) (.seq (.go) (.use vizardlaw17_TargetParses.J1.t))
theorem vizardlaw17_TargetParses.pok : PlanOk Tryd.prog vizardlaw17_TargetParses.plan vizardlaw17_TargetParses.body := by
  have e : PlanOk Tryd.prog vizardlaw17_TargetParses.plan vizardlaw17_TargetParses.body = ((True) ∧ ((True) ∧ (SoundCode Tryd.prog (sub [1, 1] vizardlaw17_TargetParses.body) vizardlaw17_TargetParses.J1.t))) := by kernel_rfl
  exact e.mpr ⟨trivial, ⟨trivial, vizardlaw17_TargetParses.J1.ok⟩⟩
theorem vizardlaw17_TargetParses.eq (l0 : Option Addr) (l1 : Nat) (l2 : Nat) (K : Value → Heap → Prop) (E : Value → Heap → Prop) (H : Heap) :
    fnT Tryd.prog Tryd.f4 (wC Tryd.prog vizardlaw17_TargetParses.Γ vizardlaw17_TargetParses.plan vizardlaw17_TargetParses.body) [(.slice l0 l1 l2)] K E H = vizardlaw17_TargetParses.vc l0 l1 l2 (fun r0_0 H => K (.bool r0_0) H) E H := by
  kernel_rfl
theorem vizardlaw17_TargetParses.Fe {args : List Value} {K E : Value → Heap → Prop} {H : Heap} (h : vizardlaw17_TargetParses.F args K E H) : ∃ l0 l1 l2, args = [(.slice l0 l1 l2)] ∧ vizardlaw17_TargetParses.c l0 l1 l2 (fun r0_0 H => K (.bool r0_0) H) E H := by
  unfold vizardlaw17_TargetParses.F at h
  split at h
  · exact ⟨_, _, _, rfl, h⟩
  · exact h.elim
theorem vizardlaw17_TargetParses.ok : CalleeOk Tryd.prog 4 vizardlaw17_TargetParses.F :=
  callee_ok vizardlaw17_TargetParses.hΓ (fn := Tryd.f4) (c := vizardlaw17_TargetParses.body) (T := wC Tryd.prog vizardlaw17_TargetParses.Γ vizardlaw17_TargetParses.plan vizardlaw17_TargetParses.body) (by kernel_rfl) (by kernel_rfl) (by kernel_rfl) (wC_sound vizardlaw17_TargetParses.hΓ Tryd.hm vizardlaw17_TargetParses.plan _ vizardlaw17_TargetParses.pok) fun _ K E H h => by
    obtain ⟨z0, z1, z2, e, h⟩ := vizardlaw17_TargetParses.Fe h
    subst e
    have h2 : vizardlaw17_TargetParses.vc z0 z1 z2 (fun r0_0 H => ∃ H', Heap.Le H' H ∧ K (.bool r0_0) H') E H := h.h
    rw [vizardlaw17_TargetParses.eq z0 z1 z2 (Fg K) E H]
    exact h2

/-! vizard/vizardlaw17.works -/
noncomputable def vizardlaw17_works.body : Code := Tryd.f15.body.getD .skip
def vizardlaw17_works.vc (K : Bool → Heap → Prop) (E : Value → Heap → Prop) (h0 : Heap) : Prop :=
  target_Fields.c (⟨#[112, 114, 111, 120, 121]⟩ : ByteArray) false 3221225990 443 (fun x0 x1 x2 h1 =>
  target_Parse.c x0 x1 x2 (fun x3 x4 x5 x6 h2 =>
  newB (.cells #[(.bool false), (.int .u32 0), (.int .i64 0)] 24) (fun b0 h3 =>
  stc h3 ((⟨b0, 0, none⟩ : Addr).add 0) (.bool x3) fun h4 =>
  stc h4 ((⟨b0, 0, none⟩ : Addr).add 1) (.int .u32 x4) fun h5 =>
  stc h5 ((⟨b0, 0, none⟩ : Addr).add 2) (.int .i64 x5) fun h6 =>
  ldB h6 ((⟨b0, 0, none⟩ : Addr).add 0) fun x7 => ldI h6 .u32 ((⟨b0, 0, none⟩ : Addr).add 1) fun x8 => ldI h6 .i64 ((⟨b0, 0, none⟩ : Addr).add 2) fun x9 =>
  (if ((x7 == false) && ((x8 == 3221225990) && ((x9 == 443) && true))) = true then
  (if (x6 == 200) = true then
  ldB h6 ((⟨b0, 0, none⟩ : Addr).add 0) fun x10 => ldI h6 .u32 ((⟨b0, 0, none⟩ : Addr).add 1) fun x11 => ldI h6 .i64 ((⟨b0, 0, none⟩ : Addr).add 2) fun x12 =>
  target_Path.c x10 x11 x12 (fun x13 h7 =>
  K (x13.toList == (⟨#[47, 46, 119, 101, 108, 108, 45, 107, 110, 111, 119, 110, 47, 109, 97, 115, 113, 117, 101, 47, 117, 100, 112, 47, 49, 57, 50, 46, 48, 46, 50, 46, 54, 47, 52, 52, 51, 47]⟩ : ByteArray).toList) h7) E h6
  else
  K false h6)
  else
  K false h6)) h2) E h1) E h0
structure vizardlaw17_works.c (K : Bool → Heap → Prop) (E : Value → Heap → Prop) (H : Heap) : Prop where
  h : vizardlaw17_works.vc  (fun r0_0 H => ∃ H', Heap.Le H' H ∧ K r0_0 H') E H
def vizardlaw17_works.F : FT := fun args K E H => match args with
  | [] => vizardlaw17_works.c  (fun r0_0 H => K (.bool r0_0) H) E H
  | _ => False
noncomputable def vizardlaw17_works.Γ : FuncId → Option FT := Γof [(8, target_Path.F), (11, target_Fields.F), (13, target_Parse.F)]
theorem vizardlaw17_works.hΓ : ∀ f F, vizardlaw17_works.Γ f = some F → CalleeOk Tryd.prog f F := Γof_ok (List.forall_mem_cons.2 ⟨target_Path.ok, List.forall_mem_cons.2 ⟨target_Fields.ok, List.forall_mem_cons.2 ⟨target_Parse.ok, fun _ h => nomatch h⟩⟩⟩)
noncomputable def vizardlaw17_works.plan : Plan := .go
theorem vizardlaw17_works.pok : PlanOk Tryd.prog vizardlaw17_works.plan vizardlaw17_works.body := by
  have e : PlanOk Tryd.prog vizardlaw17_works.plan vizardlaw17_works.body = (True) := by kernel_rfl
  exact e.mpr trivial
theorem vizardlaw17_works.eq (K : Value → Heap → Prop) (E : Value → Heap → Prop) (H : Heap) :
    fnT Tryd.prog Tryd.f15 (wC Tryd.prog vizardlaw17_works.Γ vizardlaw17_works.plan vizardlaw17_works.body) [] K E H = vizardlaw17_works.vc  (fun r0_0 H => K (.bool r0_0) H) E H := by
  kernel_rfl
theorem vizardlaw17_works.Fe {args : List Value} {K E : Value → Heap → Prop} {H : Heap} (h : vizardlaw17_works.F args K E H) : args = [] ∧ vizardlaw17_works.c  (fun r0_0 H => K (.bool r0_0) H) E H := by
  unfold vizardlaw17_works.F at h
  split at h
  · exact ⟨rfl, h⟩
  · exact h.elim
theorem vizardlaw17_works.ok : CalleeOk Tryd.prog 15 vizardlaw17_works.F :=
  callee_ok vizardlaw17_works.hΓ (fn := Tryd.f15) (c := vizardlaw17_works.body) (T := wC Tryd.prog vizardlaw17_works.Γ vizardlaw17_works.plan vizardlaw17_works.body) (by kernel_rfl) (by kernel_rfl) (by kernel_rfl) (wC_sound vizardlaw17_works.hΓ Tryd.hm vizardlaw17_works.plan _ vizardlaw17_works.pok) fun _ K E H h => by
    obtain ⟨e, h⟩ := vizardlaw17_works.Fe h
    subst e
    have h2 : vizardlaw17_works.vc (fun r0_0 H => ∃ H', Heap.Le H' H ∧ K (.bool r0_0) H') E H := h.h
    rw [vizardlaw17_works.eq (Fg K) E H]
    exact h2

/-! vizard/vizardlaw17.TargetBack -/
noncomputable def vizardlaw17_TargetBack.body : Code := Tryd.f5.body.getD .skip
def vizardlaw17_TargetBack.J2.vc (authority0 : ByteArray) (more0 : Option Addr) (more1 : Nat) (more2 : Nat) (t0 : Addr) (l0 : Option Addr) (l1 : Nat) (l2 : Nat) (i0 : Int) (x0 : Bool) (Kn : Heap → Prop) (Kr : Bool → Heap → Prop) (E : Value → Heap → Prop) (h0 : Heap) : Prop :=
  (if x0 = true then
  Kr true h0
  else
  Kn h0)
structure vizardlaw17_TargetBack.J2 (authority0 : ByteArray) (more0 : Option Addr) (more1 : Nat) (more2 : Nat) (t0 : Addr) (l0 : Option Addr) (l1 : Nat) (l2 : Nat) (i0 : Int) (x0 : Bool) (Kn : Heap → Prop) (Kr : Bool → Heap → Prop) (E : Value → Heap → Prop) (H : Heap) : Prop where
  h : vizardlaw17_TargetBack.J2.vc authority0 more0 more1 more2 t0 l0 l1 l2 i0 x0 Kn Kr E H
def vizardlaw17_TargetBack.J3.vc (authority0 : ByteArray) (more0 : Option Addr) (more1 : Nat) (more2 : Nat) (t0 : Addr) (l0 : Option Addr) (l1 : Nat) (l2 : Nat) (i0 : Int) (Kn : Int → Heap → Prop) (E : Value → Heap → Prop) (h0 : Heap) : Prop :=
  Kn (IntKind.i64.wrap (i0 + 1)) h0
structure vizardlaw17_TargetBack.J3 (authority0 : ByteArray) (more0 : Option Addr) (more1 : Nat) (more2 : Nat) (t0 : Addr) (l0 : Option Addr) (l1 : Nat) (l2 : Nat) (i0 : Int) (Kn : Int → Heap → Prop) (E : Value → Heap → Prop) (H : Heap) : Prop where
  h : vizardlaw17_TargetBack.J3.vc authority0 more0 more1 more2 t0 l0 l1 l2 i0 Kn E H
def vizardlaw17_TargetBack.W1.vc (authority0 : ByteArray) (more0 : Option Addr) (more1 : Nat) (more2 : Nat) (t0 : Addr) (l0 : Option Addr) (l1 : Nat) (l2 : Nat) (i0 : Int) (Kx0 : Heap → Prop) (Kr : Bool → Heap → Prop) (RR : Int → Heap → Prop) (E : Value → Heap → Prop) (h0 : Heap) : Prop :=
  (if (decide (i0 < (more1 : Int))) = true then
  nilc more0 fun a0 => (0 : Int) ≤ i0 ∧ i0 < (more1 : Int) ∧
  ldS h0 ((a0.add (i0.toNat * 2)).add 0) fun x0 =>
  (if (x0.toList == (⟨#[]⟩ : ByteArray).toList) = true then
  vizardlaw17_TargetBack.J2 authority0 more0 more1 more2 t0 l0 l1 l2 i0 true (fun h1 =>
  vizardlaw17_TargetBack.J3 authority0 more0 more1 more2 t0 l0 l1 l2 i0 RR E h1) Kr E h0
  else
  nilc more0 fun a1 => (0 : Int) ≤ i0 ∧ i0 < (more1 : Int) ∧
  ldS h0 ((a1.add (i0.toNat * 2)).add 0) fun x2 =>
  (0 : Int) ≤ 0 ∧ 0 < (x2.size : Int) ∧
  (if ((bt x2 0) == 58) = true then
  vizardlaw17_TargetBack.J2 authority0 more0 more1 more2 t0 l0 l1 l2 i0 true (fun h4 =>
  vizardlaw17_TargetBack.J3 authority0 more0 more1 more2 t0 l0 l1 l2 i0 RR E h4) Kr E h0
  else
  nilc more0 fun a2 => (0 : Int) ≤ i0 ∧ i0 < (more1 : Int) ∧
  ldS h0 ((a2.add (i0.toNat * 2)).add 0) fun x4 =>
  vizardlaw17_TargetBack.J2 authority0 more0 more1 more2 t0 l0 l1 l2 i0 (x4.toList == (⟨#[99, 97, 112, 115, 117, 108, 101, 45, 112, 114, 111, 116, 111, 99, 111, 108]⟩ : ByteArray).toList) (fun h7 =>
  vizardlaw17_TargetBack.J3 authority0 more0 more1 more2 t0 l0 l1 l2 i0 RR E h7) Kr E h0))
  else
  Kx0 h0)
structure vizardlaw17_TargetBack.W1 (authority0 : ByteArray) (more0 : Option Addr) (more1 : Nat) (more2 : Nat) (t0 : Addr) (l0 : Option Addr) (l1 : Nat) (l2 : Nat) (i0 : Int) (Kx0 : Heap → Prop) (Kr : Bool → Heap → Prop) (E : Value → Heap → Prop) (H : Heap) : Prop where
  h : Loop (fun (RR : Int → Heap → Prop) (s : Int) (H : Heap) => vizardlaw17_TargetBack.W1.vc authority0 more0 more1 more2 t0 l0 l1 l2 s Kx0 Kr (fun i0 H => RR (i0) H) E H) (i0) H
def vizardlaw17_TargetBack.J5.vc (t0 : Addr) (x0 : Addr) (n0 : Int) (x1 : Bool) (Kn : Heap → Prop) (Kr : Bool → Heap → Prop) (E : Value → Heap → Prop) (h0 : Heap) : Prop :=
  (if x1 = true then
  (if (n0 == 400) = true then
  ldB h0 (x0.add 0) fun x2 => ldI h0 .u32 (x0.add 1) fun x3 => ldI h0 .i64 (x0.add 2) fun x4 =>
  Kr ((x2 == false) && ((x3 == 0) && ((x4 == 0) && true))) h0
  else
  Kr false h0)
  else
  Kn h0)
structure vizardlaw17_TargetBack.J5 (t0 : Addr) (x0 : Addr) (n0 : Int) (x1 : Bool) (Kn : Heap → Prop) (Kr : Bool → Heap → Prop) (E : Value → Heap → Prop) (H : Heap) : Prop where
  h : vizardlaw17_TargetBack.J5.vc t0 x0 n0 x1 Kn Kr E H
def vizardlaw17_TargetBack.J6.vc (t0 : Addr) (x0 : Addr) (n0 : Int) (Kr : Bool → Heap → Prop) (E : Value → Heap → Prop) (h0 : Heap) : Prop :=
  (if (n0 == 200) = true then
  ldB h0 (x0.add 0) fun x1 => ldI h0 .u32 (x0.add 1) fun x2 => ldI h0 .i64 (x0.add 2) fun x3 =>
  ldB h0 (t0.add 0) fun x4 => ldI h0 .u32 (t0.add 1) fun x5 => ldI h0 .i64 (t0.add 2) fun x6 =>
  Kr ((x1 == x4) && ((x2 == x5) && ((x3 == x6) && true))) h0
  else
  Kr false h0)
structure vizardlaw17_TargetBack.J6 (t0 : Addr) (x0 : Addr) (n0 : Int) (Kr : Bool → Heap → Prop) (E : Value → Heap → Prop) (H : Heap) : Prop where
  h : vizardlaw17_TargetBack.J6.vc t0 x0 n0 Kr E H
def vizardlaw17_TargetBack.J4.vc (authority0 : ByteArray) (t0 : Addr) (all0 : Option Addr) (all1 : Nat) (all2 : Nat) (Kr : Bool → Heap → Prop) (E : Value → Heap → Prop) (h0 : Heap) : Prop :=
  target_Parse.c all0 all1 all2 (fun x0 x1 x2 x3 h1 =>
  newB (.cells #[(.bool false), (.int .u32 0), (.int .i64 0)] 24) (fun b0 h2 =>
  stc h2 ((⟨b0, 0, none⟩ : Addr).add 0) (.bool x0) fun h3 =>
  stc h3 ((⟨b0, 0, none⟩ : Addr).add 1) (.int .u32 x1) fun h4 =>
  stc h4 ((⟨b0, 0, none⟩ : Addr).add 2) (.int .i64 x2) fun h5 =>
  vizardref14_Check.c all0 all1 all2 (fun x4 h6 =>
  (if (x4 != 0) = true then
  vizardlaw17_TargetBack.J5 t0 (⟨b0, 0, none⟩ : Addr) x3 true (fun h7 =>
  vizardlaw17_TargetBack.J6 t0 (⟨b0, 0, none⟩ : Addr) x3 Kr E h7) Kr E h6
  else
  vizardlaw17_TargetBack.J5 t0 (⟨b0, 0, none⟩ : Addr) x3 (authority0.toList == (⟨#[]⟩ : ByteArray).toList) (fun h10 =>
  vizardlaw17_TargetBack.J6 t0 (⟨b0, 0, none⟩ : Addr) x3 Kr E h10) Kr E h6)) E h5) h1) E h0
structure vizardlaw17_TargetBack.J4 (authority0 : ByteArray) (t0 : Addr) (all0 : Option Addr) (all1 : Nat) (all2 : Nat) (Kr : Bool → Heap → Prop) (E : Value → Heap → Prop) (H : Heap) : Prop where
  h : vizardlaw17_TargetBack.J4.vc authority0 t0 all0 all1 all2 Kr E H
def vizardlaw17_TargetBack.vc (authority0 : ByteArray) (t0 : Bool) (t1 : Int) (t2 : Int) (more0 : Option Addr) (more1 : Nat) (more2 : Nat) (K : Bool → Heap → Prop) (E : Value → Heap → Prop) (h0 : Heap) : Prop :=
  newB (.cells #[(.bool t0), (.int .u32 t1), (.int .i64 t2)] 24) (fun b0 h1 =>
  vizardlaw17_works.c (fun x0 h2 =>
  (if (!x0) = true then
  K false h2
  else
  ldB h2 ((⟨b0, 0, none⟩ : Addr).add 0) fun x1 => ldI h2 .u32 ((⟨b0, 0, none⟩ : Addr).add 1) fun x2 => ldI h2 .i64 ((⟨b0, 0, none⟩ : Addr).add 2) fun x3 =>
  target_Fields.c authority0 x1 x2 x3 (fun x4 x5 x6 h3 =>
  (if ((x5 : Int) == 0) = true then
  ldB h3 ((⟨b0, 0, none⟩ : Addr).add 0) fun x7 =>
  (if x7 = true then
  ldI h3 .u32 ((⟨b0, 0, none⟩ : Addr).add 1) fun x8 =>
  (if (x8 != 0) = true then
  K true h3
  else
  ldI h3 .i64 ((⟨b0, 0, none⟩ : Addr).add 2) fun x9 =>
  (if (x9 != 0) = true then
  K true h3
  else
  ldB h3 ((⟨b0, 0, none⟩ : Addr).add 0) fun x10 =>
  (if (!x10) = true then
  ldI h3 .i64 ((⟨b0, 0, none⟩ : Addr).add 2) fun x11 =>
  (if (decide (x11 < 1)) = true then
  K true h3
  else
  ldI h3 .i64 ((⟨b0, 0, none⟩ : Addr).add 2) fun x12 =>
  K (decide (x12 > 65535)) h3)
  else
  K false h3)))
  else
  ldB h3 ((⟨b0, 0, none⟩ : Addr).add 0) fun x13 =>
  (if (!x13) = true then
  ldI h3 .i64 ((⟨b0, 0, none⟩ : Addr).add 2) fun x14 =>
  (if (decide (x14 < 1)) = true then
  K true h3
  else
  ldI h3 .i64 ((⟨b0, 0, none⟩ : Addr).add 2) fun x15 =>
  K (decide (x15 > 65535)) h3)
  else
  K false h3))
  else
  vizardlaw17_TargetBack.W1 authority0 more0 more1 more2 (⟨b0, 0, none⟩ : Addr) x4 x5 x6 0 (fun h4 =>
  newB (.cells #[] 35) (fun b1 h5 =>
  rdRow h5 x4 (x5 * 2) fun cs0 =>
  appT 35 (.agg #[(.string (⟨#[]⟩ : ByteArray)), (.string (⟨#[]⟩ : ByteArray))]) (some (⟨b1, 0, none⟩ : Addr)) 0 x5 0 2 32 cs0 (fun p0 n0 c0 h6 =>
  rdRow h6 more0 (more1 * 2) fun cs1 =>
  appT 35 (.agg #[(.string (⟨#[]⟩ : ByteArray)), (.string (⟨#[]⟩ : ByteArray))]) p0 n0 more1 c0 2 32 cs1 (fun p1 n1 c1 h7 =>
  vizardlaw17_TargetBack.J4 authority0 (⟨b0, 0, none⟩ : Addr) p1 n1 c1 K E h7) h6) h5) h4) K E h3)) E h2)) E h1) h0
structure vizardlaw17_TargetBack.c (authority0 : ByteArray) (t0 : Bool) (t1 : Int) (t2 : Int) (more0 : Option Addr) (more1 : Nat) (more2 : Nat) (K : Bool → Heap → Prop) (E : Value → Heap → Prop) (H : Heap) : Prop where
  h : vizardlaw17_TargetBack.vc authority0 t0 t1 t2 more0 more1 more2 (fun r0_0 H => ∃ H', Heap.Le H' H ∧ K r0_0 H') E H
def vizardlaw17_TargetBack.F : FT := fun args K E H => match args with
  | [(.string authority0), (.agg ⟨[(.bool t0), (.int .u32 t1), (.int .i64 t2)]⟩), (.slice more0 more1 more2)] => vizardlaw17_TargetBack.c authority0 t0 t1 t2 more0 more1 more2 (fun r0_0 H => K (.bool r0_0) H) E H
  | _ => False
noncomputable def vizardlaw17_TargetBack.Γ : FuncId → Option FT := Γof [(11, target_Fields.F), (13, target_Parse.F), (15, vizardlaw17_works.F), (16, vizardref14_Check.F)]
theorem vizardlaw17_TargetBack.hΓ : ∀ f F, vizardlaw17_TargetBack.Γ f = some F → CalleeOk Tryd.prog f F := Γof_ok (List.forall_mem_cons.2 ⟨target_Fields.ok, List.forall_mem_cons.2 ⟨target_Parse.ok, List.forall_mem_cons.2 ⟨vizardlaw17_works.ok, List.forall_mem_cons.2 ⟨vizardref14_Check.ok, fun _ h => nomatch h⟩⟩⟩⟩)
def vizardlaw17_TargetBack.J2.t : CT := fun Q E fr H => lenIs 107 fr (slS fr 0 fun authority0 => slSl fr 2 fun more0 more1 more2 => slPA fr 4 fun t0 => slSl fr 7 fun l0 l1 l2 => slI fr 8 .i64 fun i0 => slB fr 75 fun x0 => vizardlaw17_TargetBack.J2 authority0 more0 more1 more2 t0 l0 l1 l2 i0 x0 (fun  H => Q .normal (mkF 107 [(0, (.string authority0)), (2, (.slice more0 more1 more2)), (4, (.pointer (some t0))), (7, (.slice l0 l1 l2)), (8, (.int .i64 i0))]) H) (fun y6_0 H => Q .ret (mkF 107 [(6, (.bool y6_0))]) H) E H)
noncomputable def vizardlaw17_TargetBack.J2.plan : Plan := .go
theorem vizardlaw17_TargetBack.J2.pok : PlanOk Tryd.prog vizardlaw17_TargetBack.J2.plan (sub [1, 1, 1, 1, 0, 1, 0, 0, 1, 0, 0, 1] vizardlaw17_TargetBack.body) := by
  have e : PlanOk Tryd.prog vizardlaw17_TargetBack.J2.plan (sub [1, 1, 1, 1, 0, 1, 0, 0, 1, 0, 0, 1] vizardlaw17_TargetBack.body) = (True) := by kernel_rfl
  exact e.mpr trivial
theorem vizardlaw17_TargetBack.J2.eq (authority0 : ByteArray) (more0 : Option Addr) (more1 : Nat) (more2 : Nat) (t0 : Addr) (l0 : Option Addr) (l1 : Nat) (l2 : Nat) (i0 : Int) (x0 : Bool) (Q : Ex → Fr → Heap → Prop) (E : Value → Heap → Prop) (H : Heap) :
    vizardlaw17_TargetBack.J2.vc authority0 more0 more1 more2 t0 l0 l1 l2 i0 x0 (fun  H => Q .normal (mkF 107 [(0, (.string authority0)), (2, (.slice more0 more1 more2)), (4, (.pointer (some t0))), (7, (.slice l0 l1 l2)), (8, (.int .i64 i0))]) H) (fun y6_0 H => Q .ret (mkF 107 [(6, (.bool y6_0))]) H) E H = keepT [0, 2, 4, 7, 8] [6] (fun i => []) (wC Tryd.prog vizardlaw17_TargetBack.Γ vizardlaw17_TargetBack.J2.plan (sub [1, 1, 1, 1, 0, 1, 0, 0, 1, 0, 0, 1] vizardlaw17_TargetBack.body)) Q E (mkF 107 [(0, (.string authority0)), (2, (.slice more0 more1 more2)), (4, (.pointer (some t0))), (7, (.slice l0 l1 l2)), (8, (.int .i64 i0)), (75, (.bool x0))]) H := by
  kernel_rfl
theorem vizardlaw17_TargetBack.J2.ok : SoundCode Tryd.prog (sub [1, 1, 1, 1, 0, 1, 0, 0, 1, 0, 0, 1] vizardlaw17_TargetBack.body) vizardlaw17_TargetBack.J2.t := by
  refine piece_sound (keepT_sound [0, 2, 4, 7, 8] [6] (fun i => []) (wC_sound vizardlaw17_TargetBack.hΓ Tryd.hm vizardlaw17_TargetBack.J2.plan _ vizardlaw17_TargetBack.J2.pok)) ?_
  intro Q E fr H h
  unfold vizardlaw17_TargetBack.J2.t at h
  obtain ⟨hl, h⟩ := lenIs_elim h
  obtain ⟨authority0, q0, h⟩ := slS_elim h
  obtain ⟨more0, more1, more2, q2, h⟩ := slSl_elim h
  obtain ⟨t0, q4, h⟩ := slPA_elim h
  obtain ⟨l0, l1, l2, q7, h⟩ := slSl_elim h
  obtain ⟨i0, q8, h⟩ := slI_elim h
  obtain ⟨x0, q75, h⟩ := slB_elim h
  refine ⟨(mkF 107 [(0, (.string authority0)), (2, (.slice more0 more1 more2)), (4, (.pointer (some t0))), (7, (.slice l0 l1 l2)), (8, (.int .i64 i0)), (75, (.bool x0))]), fun a ha => ha.mk (Nat.le_of_eq hl.symm) (List.forall_mem_cons.2 ⟨q0, List.forall_mem_cons.2 ⟨q2, List.forall_mem_cons.2 ⟨q4, List.forall_mem_cons.2 ⟨q7, List.forall_mem_cons.2 ⟨q8, List.forall_mem_cons.2 ⟨q75, fun _ h => nomatch h⟩⟩⟩⟩⟩⟩), ?_⟩
  have e := vizardlaw17_TargetBack.J2.eq authority0 more0 more1 more2 t0 l0 l1 l2 i0 x0 Q E H
  rw [← e]
  exact h.h
def vizardlaw17_TargetBack.J3.t : CT := fun Q E fr H => lenIs 107 fr (slS fr 0 fun authority0 => slSl fr 2 fun more0 more1 more2 => slPA fr 4 fun t0 => slSl fr 7 fun l0 l1 l2 => slI fr 8 .i64 fun i0 => vizardlaw17_TargetBack.J3 authority0 more0 more1 more2 t0 l0 l1 l2 i0 (fun y8_0 H => Q .normal (mkF 107 [(0, (.string authority0)), (2, (.slice more0 more1 more2)), (4, (.pointer (some t0))), (7, (.slice l0 l1 l2)), (8, (.int .i64 y8_0))]) H) E H)
noncomputable def vizardlaw17_TargetBack.J3.plan : Plan := .go
theorem vizardlaw17_TargetBack.J3.pok : PlanOk Tryd.prog vizardlaw17_TargetBack.J3.plan (sub [1, 1, 1, 1, 0, 1, 0, 0, 1, 1] vizardlaw17_TargetBack.body) := by
  have e : PlanOk Tryd.prog vizardlaw17_TargetBack.J3.plan (sub [1, 1, 1, 1, 0, 1, 0, 0, 1, 1] vizardlaw17_TargetBack.body) = (True) := by kernel_rfl
  exact e.mpr trivial
theorem vizardlaw17_TargetBack.J3.eq (authority0 : ByteArray) (more0 : Option Addr) (more1 : Nat) (more2 : Nat) (t0 : Addr) (l0 : Option Addr) (l1 : Nat) (l2 : Nat) (i0 : Int) (Q : Ex → Fr → Heap → Prop) (E : Value → Heap → Prop) (H : Heap) :
    vizardlaw17_TargetBack.J3.vc authority0 more0 more1 more2 t0 l0 l1 l2 i0 (fun y8_0 H => Q .normal (mkF 107 [(0, (.string authority0)), (2, (.slice more0 more1 more2)), (4, (.pointer (some t0))), (7, (.slice l0 l1 l2)), (8, (.int .i64 y8_0))]) H) E H = keepT [0, 2, 4, 7, 8] [] (fun i => []) (wC Tryd.prog vizardlaw17_TargetBack.Γ vizardlaw17_TargetBack.J3.plan (sub [1, 1, 1, 1, 0, 1, 0, 0, 1, 1] vizardlaw17_TargetBack.body)) Q E (mkF 107 [(0, (.string authority0)), (2, (.slice more0 more1 more2)), (4, (.pointer (some t0))), (7, (.slice l0 l1 l2)), (8, (.int .i64 i0))]) H := by
  kernel_rfl
theorem vizardlaw17_TargetBack.J3.ok : SoundCode Tryd.prog (sub [1, 1, 1, 1, 0, 1, 0, 0, 1, 1] vizardlaw17_TargetBack.body) vizardlaw17_TargetBack.J3.t := by
  refine piece_sound (keepT_sound [0, 2, 4, 7, 8] [] (fun i => []) (wC_sound vizardlaw17_TargetBack.hΓ Tryd.hm vizardlaw17_TargetBack.J3.plan _ vizardlaw17_TargetBack.J3.pok)) ?_
  intro Q E fr H h
  unfold vizardlaw17_TargetBack.J3.t at h
  obtain ⟨hl, h⟩ := lenIs_elim h
  obtain ⟨authority0, q0, h⟩ := slS_elim h
  obtain ⟨more0, more1, more2, q2, h⟩ := slSl_elim h
  obtain ⟨t0, q4, h⟩ := slPA_elim h
  obtain ⟨l0, l1, l2, q7, h⟩ := slSl_elim h
  obtain ⟨i0, q8, h⟩ := slI_elim h
  refine ⟨(mkF 107 [(0, (.string authority0)), (2, (.slice more0 more1 more2)), (4, (.pointer (some t0))), (7, (.slice l0 l1 l2)), (8, (.int .i64 i0))]), fun a ha => ha.mk (Nat.le_of_eq hl.symm) (List.forall_mem_cons.2 ⟨q0, List.forall_mem_cons.2 ⟨q2, List.forall_mem_cons.2 ⟨q4, List.forall_mem_cons.2 ⟨q7, List.forall_mem_cons.2 ⟨q8, fun _ h => nomatch h⟩⟩⟩⟩⟩), ?_⟩
  have e := vizardlaw17_TargetBack.J3.eq authority0 more0 more1 more2 t0 l0 l1 l2 i0 Q E H
  rw [← e]
  exact h.h
def vizardlaw17_TargetBack.W1.t : CT := fun Q E fr H => lenIs 107 fr (slS fr 0 fun authority0 => slSl fr 2 fun more0 more1 more2 => slPA fr 4 fun t0 => slSl fr 7 fun l0 l1 l2 => slI fr 8 .i64 fun i0 => vizardlaw17_TargetBack.W1 authority0 more0 more1 more2 t0 l0 l1 l2 i0 (fun  H => Q (.exit 0) (mkF 107 [(0, (.string authority0)), (2, (.slice more0 more1 more2)), (4, (.pointer (some t0))), (7, (.slice l0 l1 l2))]) H) (fun y6_0 H => Q .ret (mkF 107 [(6, (.bool y6_0))]) H) E H)
noncomputable def vizardlaw17_TargetBack.W1.plan : Plan := .seq (.go) (.seq (.block (.seq (.go) (.use vizardlaw17_TargetBack.J2.t))) (.use vizardlaw17_TargetBack.J3.t))
theorem vizardlaw17_TargetBack.W1.pok : PlanOk Tryd.prog vizardlaw17_TargetBack.W1.plan (sub [1, 1, 1, 1, 0, 1, 0, 0] vizardlaw17_TargetBack.body) := by
  have e : PlanOk Tryd.prog vizardlaw17_TargetBack.W1.plan (sub [1, 1, 1, 1, 0, 1, 0, 0] vizardlaw17_TargetBack.body) = ((True) ∧ (((True) ∧ (SoundCode Tryd.prog (sub [1, 1, 1, 1, 0, 1, 0, 0, 1, 0, 0, 1] vizardlaw17_TargetBack.body) vizardlaw17_TargetBack.J2.t)) ∧ (SoundCode Tryd.prog (sub [1, 1, 1, 1, 0, 1, 0, 0, 1, 1] vizardlaw17_TargetBack.body) vizardlaw17_TargetBack.J3.t))) := by kernel_rfl
  exact e.mpr ⟨trivial, ⟨⟨trivial, vizardlaw17_TargetBack.J2.ok⟩, vizardlaw17_TargetBack.J3.ok⟩⟩
theorem vizardlaw17_TargetBack.W1.eq (authority0 : ByteArray) (more0 : Option Addr) (more1 : Nat) (more2 : Nat) (t0 : Addr) (l0 : Option Addr) (l1 : Nat) (l2 : Nat) (Q : Ex → Fr → Heap → Prop) (E : Value → Heap → Prop) (RR : Fr → Heap → Prop) (s : Int) (H : Heap) :
    (fun (RR : Int → Heap → Prop) (s : Int) (H : Heap) => vizardlaw17_TargetBack.W1.vc authority0 more0 more1 more2 t0 l0 l1 l2 s (fun  H => Q (.exit 0) (mkF 107 [(0, (.string authority0)), (2, (.slice more0 more1 more2)), (4, (.pointer (some t0))), (7, (.slice l0 l1 l2))]) H) (fun y6_0 H => Q .ret (mkF 107 [(6, (.bool y6_0))]) H) (fun i0 H => RR (i0) H) E H) (fun s' H' => RR ((fun (s : Int) => (mkF 107 [(0, (.string authority0)), (2, (.slice more0 more1 more2)), (4, (.pointer (some t0))), (7, (.slice l0 l1 l2)), (8, (.int .i64 s))])) s') H') s H = keepT [0, 2, 4, 7, 8] [6] (fun i => if i = 0 then [0, 2, 4, 7] else []) (wC Tryd.prog vizardlaw17_TargetBack.Γ vizardlaw17_TargetBack.W1.plan (sub [1, 1, 1, 1, 0, 1, 0, 0] vizardlaw17_TargetBack.body)) (fun e fr' H' => match e with | .normal => RR fr' H' | .exit id => Q (.exit id) fr' H' | .ret => Q .ret fr' H') E ((fun (s : Int) => (mkF 107 [(0, (.string authority0)), (2, (.slice more0 more1 more2)), (4, (.pointer (some t0))), (7, (.slice l0 l1 l2)), (8, (.int .i64 s))])) s) H := by
  kernel_rfl
theorem vizardlaw17_TargetBack.W1.ok : SoundCode Tryd.prog (sub [1, 1, 1, 1, 0, 1, 0] vizardlaw17_TargetBack.body) vizardlaw17_TargetBack.W1.t := by
  have e : (sub [1, 1, 1, 1, 0, 1, 0] vizardlaw17_TargetBack.body) = .loop (sub [1, 1, 1, 1, 0, 1, 0, 0] vizardlaw17_TargetBack.body) := by kernel_rfl
  rw [e]
  refine piece_sound (loopN_sound (keepT_sound [0, 2, 4, 7, 8] [6] (fun i => if i = 0 then [0, 2, 4, 7] else []) (wC_sound vizardlaw17_TargetBack.hΓ Tryd.hm vizardlaw17_TargetBack.W1.plan _ vizardlaw17_TargetBack.W1.pok))) ?_
  intro Q E fr H h
  unfold vizardlaw17_TargetBack.W1.t at h
  obtain ⟨hl, h⟩ := lenIs_elim h
  obtain ⟨authority0, q0, h⟩ := slS_elim h
  obtain ⟨more0, more1, more2, q2, h⟩ := slSl_elim h
  obtain ⟨t0, q4, h⟩ := slPA_elim h
  obtain ⟨l0, l1, l2, q7, h⟩ := slSl_elim h
  obtain ⟨i0, q8, h⟩ := slI_elim h
  obtain ⟨m, h⟩ := h.h
  refine ⟨(mkF 107 [(0, (.string authority0)), (2, (.slice more0 more1 more2)), (4, (.pointer (some t0))), (7, (.slice l0 l1 l2)), (8, (.int .i64 i0))]), fun a ha => ha.mk (Nat.le_of_eq hl.symm) (List.forall_mem_cons.2 ⟨q0, List.forall_mem_cons.2 ⟨q2, List.forall_mem_cons.2 ⟨q4, List.forall_mem_cons.2 ⟨q7, List.forall_mem_cons.2 ⟨q8, fun _ h => nomatch h⟩⟩⟩⟩⟩), m, ?_⟩
  have e := loopS_eq (B := (fun (RR : Int → Heap → Prop) (s : Int) (H : Heap) => vizardlaw17_TargetBack.W1.vc authority0 more0 more1 more2 t0 l0 l1 l2 s (fun  H => Q (.exit 0) (mkF 107 [(0, (.string authority0)), (2, (.slice more0 more1 more2)), (4, (.pointer (some t0))), (7, (.slice l0 l1 l2))]) H) (fun y6_0 H => Q .ret (mkF 107 [(6, (.bool y6_0))]) H) (fun i0 H => RR (i0) H) E H)) (A := keepT [0, 2, 4, 7, 8] [6] (fun i => if i = 0 then [0, 2, 4, 7] else []) (wC Tryd.prog vizardlaw17_TargetBack.Γ vizardlaw17_TargetBack.W1.plan (sub [1, 1, 1, 1, 0, 1, 0, 0] vizardlaw17_TargetBack.body))) (m := (fun (s : Int) => (mkF 107 [(0, (.string authority0)), (2, (.slice more0 more1 more2)), (4, (.pointer (some t0))), (7, (.slice l0 l1 l2)), (8, (.int .i64 s))]))) (Q := Q) (E := E) (fun RR s H => vizardlaw17_TargetBack.W1.eq authority0 more0 more1 more2 t0 l0 l1 l2 Q E RR s H) m (i0) H
  exact cast e h
def vizardlaw17_TargetBack.J5.t : CT := fun Q E fr H => lenIs 107 fr (slPA fr 4 fun t0 => slPA fr 10 fun x0 => slI fr 11 .i64 fun n0 => slB fr 92 fun x1 => vizardlaw17_TargetBack.J5 t0 x0 n0 x1 (fun  H => Q .normal (mkF 107 [(4, (.pointer (some t0))), (10, (.pointer (some x0))), (11, (.int .i64 n0))]) H) (fun y6_0 H => Q .ret (mkF 107 [(6, (.bool y6_0))]) H) E H)
noncomputable def vizardlaw17_TargetBack.J5.plan : Plan := .go
theorem vizardlaw17_TargetBack.J5.pok : PlanOk Tryd.prog vizardlaw17_TargetBack.J5.plan (sub [1, 1, 1, 1, 1, 1, 1, 0, 1] vizardlaw17_TargetBack.body) := by
  have e : PlanOk Tryd.prog vizardlaw17_TargetBack.J5.plan (sub [1, 1, 1, 1, 1, 1, 1, 0, 1] vizardlaw17_TargetBack.body) = (True) := by kernel_rfl
  exact e.mpr trivial
theorem vizardlaw17_TargetBack.J5.eq (t0 : Addr) (x0 : Addr) (n0 : Int) (x1 : Bool) (Q : Ex → Fr → Heap → Prop) (E : Value → Heap → Prop) (H : Heap) :
    vizardlaw17_TargetBack.J5.vc t0 x0 n0 x1 (fun  H => Q .normal (mkF 107 [(4, (.pointer (some t0))), (10, (.pointer (some x0))), (11, (.int .i64 n0))]) H) (fun y6_0 H => Q .ret (mkF 107 [(6, (.bool y6_0))]) H) E H = keepT [4, 10, 11] [6] (fun i => []) (wC Tryd.prog vizardlaw17_TargetBack.Γ vizardlaw17_TargetBack.J5.plan (sub [1, 1, 1, 1, 1, 1, 1, 0, 1] vizardlaw17_TargetBack.body)) Q E (mkF 107 [(4, (.pointer (some t0))), (10, (.pointer (some x0))), (11, (.int .i64 n0)), (92, (.bool x1))]) H := by
  kernel_rfl
theorem vizardlaw17_TargetBack.J5.ok : SoundCode Tryd.prog (sub [1, 1, 1, 1, 1, 1, 1, 0, 1] vizardlaw17_TargetBack.body) vizardlaw17_TargetBack.J5.t := by
  refine piece_sound (keepT_sound [4, 10, 11] [6] (fun i => []) (wC_sound vizardlaw17_TargetBack.hΓ Tryd.hm vizardlaw17_TargetBack.J5.plan _ vizardlaw17_TargetBack.J5.pok)) ?_
  intro Q E fr H h
  unfold vizardlaw17_TargetBack.J5.t at h
  obtain ⟨hl, h⟩ := lenIs_elim h
  obtain ⟨t0, q4, h⟩ := slPA_elim h
  obtain ⟨x0, q10, h⟩ := slPA_elim h
  obtain ⟨n0, q11, h⟩ := slI_elim h
  obtain ⟨x1, q92, h⟩ := slB_elim h
  refine ⟨(mkF 107 [(4, (.pointer (some t0))), (10, (.pointer (some x0))), (11, (.int .i64 n0)), (92, (.bool x1))]), fun a ha => ha.mk (Nat.le_of_eq hl.symm) (List.forall_mem_cons.2 ⟨q4, List.forall_mem_cons.2 ⟨q10, List.forall_mem_cons.2 ⟨q11, List.forall_mem_cons.2 ⟨q92, fun _ h => nomatch h⟩⟩⟩⟩), ?_⟩
  have e := vizardlaw17_TargetBack.J5.eq t0 x0 n0 x1 Q E H
  rw [← e]
  exact h.h
def vizardlaw17_TargetBack.J6.t : CT := fun Q E fr H => lenIs 107 fr (slPA fr 4 fun t0 => slPA fr 10 fun x0 => slI fr 11 .i64 fun n0 => vizardlaw17_TargetBack.J6 t0 x0 n0 (fun y6_0 H => Q .ret (mkF 107 [(6, (.bool y6_0))]) H) E H)
noncomputable def vizardlaw17_TargetBack.J6.plan : Plan := .go
theorem vizardlaw17_TargetBack.J6.pok : PlanOk Tryd.prog vizardlaw17_TargetBack.J6.plan (sub [1, 1, 1, 1, 1, 1, 1, 1] vizardlaw17_TargetBack.body) := by
  have e : PlanOk Tryd.prog vizardlaw17_TargetBack.J6.plan (sub [1, 1, 1, 1, 1, 1, 1, 1] vizardlaw17_TargetBack.body) = (True) := by kernel_rfl
  exact e.mpr trivial
theorem vizardlaw17_TargetBack.J6.eq (t0 : Addr) (x0 : Addr) (n0 : Int) (Q : Ex → Fr → Heap → Prop) (E : Value → Heap → Prop) (H : Heap) :
    vizardlaw17_TargetBack.J6.vc t0 x0 n0 (fun y6_0 H => Q .ret (mkF 107 [(6, (.bool y6_0))]) H) E H = keepT [] [6] (fun i => []) (wC Tryd.prog vizardlaw17_TargetBack.Γ vizardlaw17_TargetBack.J6.plan (sub [1, 1, 1, 1, 1, 1, 1, 1] vizardlaw17_TargetBack.body)) Q E (mkF 107 [(4, (.pointer (some t0))), (10, (.pointer (some x0))), (11, (.int .i64 n0))]) H := by
  kernel_rfl
theorem vizardlaw17_TargetBack.J6.ok : SoundCode Tryd.prog (sub [1, 1, 1, 1, 1, 1, 1, 1] vizardlaw17_TargetBack.body) vizardlaw17_TargetBack.J6.t := by
  refine piece_sound (keepT_sound [] [6] (fun i => []) (wC_sound vizardlaw17_TargetBack.hΓ Tryd.hm vizardlaw17_TargetBack.J6.plan _ vizardlaw17_TargetBack.J6.pok)) ?_
  intro Q E fr H h
  unfold vizardlaw17_TargetBack.J6.t at h
  obtain ⟨hl, h⟩ := lenIs_elim h
  obtain ⟨t0, q4, h⟩ := slPA_elim h
  obtain ⟨x0, q10, h⟩ := slPA_elim h
  obtain ⟨n0, q11, h⟩ := slI_elim h
  refine ⟨(mkF 107 [(4, (.pointer (some t0))), (10, (.pointer (some x0))), (11, (.int .i64 n0))]), fun a ha => ha.mk (Nat.le_of_eq hl.symm) (List.forall_mem_cons.2 ⟨q4, List.forall_mem_cons.2 ⟨q10, List.forall_mem_cons.2 ⟨q11, fun _ h => nomatch h⟩⟩⟩), ?_⟩
  have e := vizardlaw17_TargetBack.J6.eq t0 x0 n0 Q E H
  rw [← e]
  exact h.h
def vizardlaw17_TargetBack.J4.t : CT := fun Q E fr H => lenIs 107 fr (slS fr 0 fun authority0 => slPA fr 4 fun t0 => slSl fr 9 fun all0 all1 all2 => vizardlaw17_TargetBack.J4 authority0 t0 all0 all1 all2 (fun y6_0 H => Q .ret (mkF 107 [(6, (.bool y6_0))]) H) E H)
noncomputable def vizardlaw17_TargetBack.J4.plan : Plan := .seq (.go) (.seq (.seq (.go) (.use vizardlaw17_TargetBack.J5.t)) (.use vizardlaw17_TargetBack.J6.t))
theorem vizardlaw17_TargetBack.J4.pok : PlanOk Tryd.prog vizardlaw17_TargetBack.J4.plan (sub [1, 1, 1, 1, 1, 1] vizardlaw17_TargetBack.body) := by
  have e : PlanOk Tryd.prog vizardlaw17_TargetBack.J4.plan (sub [1, 1, 1, 1, 1, 1] vizardlaw17_TargetBack.body) = ((True) ∧ (((True) ∧ (SoundCode Tryd.prog (sub [1, 1, 1, 1, 1, 1, 1, 0, 1] vizardlaw17_TargetBack.body) vizardlaw17_TargetBack.J5.t)) ∧ (SoundCode Tryd.prog (sub [1, 1, 1, 1, 1, 1, 1, 1] vizardlaw17_TargetBack.body) vizardlaw17_TargetBack.J6.t))) := by kernel_rfl
  exact e.mpr ⟨trivial, ⟨⟨trivial, vizardlaw17_TargetBack.J5.ok⟩, vizardlaw17_TargetBack.J6.ok⟩⟩
theorem vizardlaw17_TargetBack.J4.eq (authority0 : ByteArray) (t0 : Addr) (all0 : Option Addr) (all1 : Nat) (all2 : Nat) (Q : Ex → Fr → Heap → Prop) (E : Value → Heap → Prop) (H : Heap) :
    vizardlaw17_TargetBack.J4.vc authority0 t0 all0 all1 all2 (fun y6_0 H => Q .ret (mkF 107 [(6, (.bool y6_0))]) H) E H = keepT [] [6] (fun i => []) (wC Tryd.prog vizardlaw17_TargetBack.Γ vizardlaw17_TargetBack.J4.plan (sub [1, 1, 1, 1, 1, 1] vizardlaw17_TargetBack.body)) Q E (mkF 107 [(0, (.string authority0)), (4, (.pointer (some t0))), (9, (.slice all0 all1 all2))]) H := by
  kernel_rfl
theorem vizardlaw17_TargetBack.J4.ok : SoundCode Tryd.prog (sub [1, 1, 1, 1, 1, 1] vizardlaw17_TargetBack.body) vizardlaw17_TargetBack.J4.t := by
  refine piece_sound (keepT_sound [] [6] (fun i => []) (wC_sound vizardlaw17_TargetBack.hΓ Tryd.hm vizardlaw17_TargetBack.J4.plan _ vizardlaw17_TargetBack.J4.pok)) ?_
  intro Q E fr H h
  unfold vizardlaw17_TargetBack.J4.t at h
  obtain ⟨hl, h⟩ := lenIs_elim h
  obtain ⟨authority0, q0, h⟩ := slS_elim h
  obtain ⟨t0, q4, h⟩ := slPA_elim h
  obtain ⟨all0, all1, all2, q9, h⟩ := slSl_elim h
  refine ⟨(mkF 107 [(0, (.string authority0)), (4, (.pointer (some t0))), (9, (.slice all0 all1 all2))]), fun a ha => ha.mk (Nat.le_of_eq hl.symm) (List.forall_mem_cons.2 ⟨q0, List.forall_mem_cons.2 ⟨q4, List.forall_mem_cons.2 ⟨q9, fun _ h => nomatch h⟩⟩⟩), ?_⟩
  have e := vizardlaw17_TargetBack.J4.eq authority0 t0 all0 all1 all2 Q E H
  rw [← e]
  exact h.h
noncomputable def vizardlaw17_TargetBack.plan : Plan := .seq (.go) (.seq (.go) (.seq (.go) (.seq (.go) (.seq (.seq (.go) (.block (.use vizardlaw17_TargetBack.W1.t))) (.seq (.go) (.use vizardlaw17_TargetBack.J4.t))))))
theorem vizardlaw17_TargetBack.pok : PlanOk Tryd.prog vizardlaw17_TargetBack.plan vizardlaw17_TargetBack.body := by
  have e : PlanOk Tryd.prog vizardlaw17_TargetBack.plan vizardlaw17_TargetBack.body = ((True) ∧ ((True) ∧ ((True) ∧ ((True) ∧ (((True) ∧ (SoundCode Tryd.prog (sub [1, 1, 1, 1, 0, 1, 0] vizardlaw17_TargetBack.body) vizardlaw17_TargetBack.W1.t)) ∧ ((True) ∧ (SoundCode Tryd.prog (sub [1, 1, 1, 1, 1, 1] vizardlaw17_TargetBack.body) vizardlaw17_TargetBack.J4.t))))))) := by kernel_rfl
  exact e.mpr ⟨trivial, ⟨trivial, ⟨trivial, ⟨trivial, ⟨⟨trivial, vizardlaw17_TargetBack.W1.ok⟩, ⟨trivial, vizardlaw17_TargetBack.J4.ok⟩⟩⟩⟩⟩⟩
theorem vizardlaw17_TargetBack.eq (authority0 : ByteArray) (t0 : Bool) (t1 : Int) (t2 : Int) (more0 : Option Addr) (more1 : Nat) (more2 : Nat) (K : Value → Heap → Prop) (E : Value → Heap → Prop) (H : Heap) :
    fnT Tryd.prog Tryd.f5 (wC Tryd.prog vizardlaw17_TargetBack.Γ vizardlaw17_TargetBack.plan vizardlaw17_TargetBack.body) [(.string authority0), (.agg #[(.bool t0), (.int .u32 t1), (.int .i64 t2)]), (.slice more0 more1 more2)] K E H = vizardlaw17_TargetBack.vc authority0 t0 t1 t2 more0 more1 more2 (fun r0_0 H => K (.bool r0_0) H) E H := by
  kernel_rfl
theorem vizardlaw17_TargetBack.Fe {args : List Value} {K E : Value → Heap → Prop} {H : Heap} (h : vizardlaw17_TargetBack.F args K E H) : ∃ authority0 t0 t1 t2 more0 more1 more2, args = [(.string authority0), (.agg #[(.bool t0), (.int .u32 t1), (.int .i64 t2)]), (.slice more0 more1 more2)] ∧ vizardlaw17_TargetBack.c authority0 t0 t1 t2 more0 more1 more2 (fun r0_0 H => K (.bool r0_0) H) E H := by
  unfold vizardlaw17_TargetBack.F at h
  split at h
  · exact ⟨_, _, _, _, _, _, _, rfl, h⟩
  · exact h.elim
theorem vizardlaw17_TargetBack.ok : CalleeOk Tryd.prog 5 vizardlaw17_TargetBack.F :=
  callee_ok vizardlaw17_TargetBack.hΓ (fn := Tryd.f5) (c := vizardlaw17_TargetBack.body) (T := wC Tryd.prog vizardlaw17_TargetBack.Γ vizardlaw17_TargetBack.plan vizardlaw17_TargetBack.body) (by kernel_rfl) (by kernel_rfl) (by kernel_rfl) (wC_sound vizardlaw17_TargetBack.hΓ Tryd.hm vizardlaw17_TargetBack.plan _ vizardlaw17_TargetBack.pok) fun _ K E H h => by
    obtain ⟨z0, z1, z2, z3, z4, z5, z6, e, h⟩ := vizardlaw17_TargetBack.Fe h
    subst e
    have h2 : vizardlaw17_TargetBack.vc z0 z1 z2 z3 z4 z5 z6 (fun r0_0 H => ∃ H', Heap.Le H' H ∧ K (.bool r0_0) H') E H := h.h
    rw [vizardlaw17_TargetBack.eq z0 z1 z2 z3 z4 z5 z6 (Fg K) E H]
    exact h2

/-! vizard/vizardlaw17.TargetStatus -/
noncomputable def vizardlaw17_TargetStatus.body : Code := Tryd.f6.body.getD .skip
def vizardlaw17_TargetStatus.J2.vc (wants0 : Option Addr) (wants1 : Nat) (wants2 : Nat) (k0 : Int) (x0 : Addr) (n0 : Int) (o0 : Option Addr) (o1 : Nat) (o2 : Nat) (Kr : Bool → Heap → Prop) (E : Value → Heap → Prop) (h0 : Heap) : Prop :=
  target_Parse.c o0 o1 o2 (fun x1 x2 x3 x4 h1 =>
  newB (.cells #[(.bool false), (.int .u32 0), (.int .i64 0)] 24) (fun b0 h2 =>
  stc h2 ((⟨b0, 0, none⟩ : Addr).add 0) (.bool x1) fun h3 =>
  stc h3 ((⟨b0, 0, none⟩ : Addr).add 1) (.int .u32 x2) fun h4 =>
  stc h4 ((⟨b0, 0, none⟩ : Addr).add 2) (.int .i64 x3) fun h5 =>
  nilc wants0 fun a0 => (0 : Int) ≤ k0 ∧ k0 < (wants1 : Int) ∧
  ldI h5 .i64 (a0.add (k0.toNat * 1)) fun x5 =>
  (if (n0 == x5) = true then
  ldB h5 (x0.add 0) fun x6 => ldI h5 .u32 (x0.add 1) fun x7 => ldI h5 .i64 (x0.add 2) fun x8 =>
  (if ((x6 == false) && ((x7 == 0) && ((x8 == 0) && true))) = true then
  Kr (x4 == 400) h5
  else
  Kr false h5)
  else
  Kr false h5)) h1) E h0
structure vizardlaw17_TargetStatus.J2 (wants0 : Option Addr) (wants1 : Nat) (wants2 : Nat) (k0 : Int) (x0 : Addr) (n0 : Int) (o0 : Option Addr) (o1 : Nat) (o2 : Nat) (Kr : Bool → Heap → Prop) (E : Value → Heap → Prop) (H : Heap) : Prop where
  h : vizardlaw17_TargetStatus.J2.vc wants0 wants1 wants2 k0 x0 n0 o0 o1 o2 Kr E H
def vizardlaw17_TargetStatus.J1.vc (l0 : Option Addr) (l1 : Nat) (l2 : Nat) (changes0 : Option Addr) (changes1 : Nat) (changes2 : Nat) (wants0 : Option Addr) (wants1 : Nat) (wants2 : Nat) (k0 : Int) (m0 : Option Addr) (m1 : Nat) (m2 : Nat) (Kr : Bool → Heap → Prop) (E : Value → Heap → Prop) (h0 : Heap) : Prop :=
  nilc changes0 fun a0 => (0 : Int) ≤ k0 ∧ k0 < (changes1 : Int) ∧
  ldS h0 (a0.add (k0.toNat * 1)) fun x0 =>
  nilc m0 fun a1 => (0 : Int) ≤ k0 ∧ k0 < (m1 : Int) ∧
  stc h0 ((a1.add (k0.toNat * 2)).add 1) (.string x0) fun h1 =>
  target_Parse.c m0 m1 m2 (fun x1 x2 x3 x4 h2 =>
  newB (.cells #[(.bool false), (.int .u32 0), (.int .i64 0)] 24) (fun b0 h3 =>
  stc h3 ((⟨b0, 0, none⟩ : Addr).add 0) (.bool x1) fun h4 =>
  stc h4 ((⟨b0, 0, none⟩ : Addr).add 1) (.int .u32 x2) fun h5 =>
  stc h5 ((⟨b0, 0, none⟩ : Addr).add 2) (.int .i64 x3) fun h6 =>
  (0 : Int) ≤ k0 ∧ k0 ≤ (l2 : Int) ∧
  (0 : Int) ≤ (IntKind.i64.wrap (k0 + 1)) ∧ (IntKind.i64.wrap (k0 + 1)) ≤ (l1 : Int) ∧ l1 ≤ l2 ∧
  newB (.cells #[] 35) (fun b1 h7 =>
  rdRow h7 (slA l0 l2 0 2) (k0.toNat * 2) fun cs0 =>
  appT 35 (.agg #[(.string (⟨#[]⟩ : ByteArray)), (.string (⟨#[]⟩ : ByteArray))]) (some (⟨b1, 0, none⟩ : Addr)) 0 k0.toNat 0 2 32 cs0 (fun p0 n0 c0 h8 =>
  rdRow h8 (slA l0 l2 (IntKind.i64.wrap (k0 + 1)).toNat 2) ((l1 - (IntKind.i64.wrap (k0 + 1)).toNat) * 2) fun cs1 =>
  appT 35 (.agg #[(.string (⟨#[]⟩ : ByteArray)), (.string (⟨#[]⟩ : ByteArray))]) p0 n0 (l1 - (IntKind.i64.wrap (k0 + 1)).toNat) c0 2 32 cs1 (fun p1 n1 c1 h9 =>
  vizardlaw17_TargetStatus.J2 wants0 wants1 wants2 k0 (⟨b0, 0, none⟩ : Addr) x4 p1 n1 c1 Kr E h9) h8) h7) h6) h2) E h1
structure vizardlaw17_TargetStatus.J1 (l0 : Option Addr) (l1 : Nat) (l2 : Nat) (changes0 : Option Addr) (changes1 : Nat) (changes2 : Nat) (wants0 : Option Addr) (wants1 : Nat) (wants2 : Nat) (k0 : Int) (m0 : Option Addr) (m1 : Nat) (m2 : Nat) (Kr : Bool → Heap → Prop) (E : Value → Heap → Prop) (H : Heap) : Prop where
  h : vizardlaw17_TargetStatus.J1.vc l0 l1 l2 changes0 changes1 changes2 wants0 wants1 wants2 k0 m0 m1 m2 Kr E H
def vizardlaw17_TargetStatus.vc (t0 : Bool) (t1 : Int) (t2 : Int) (which0 : Int) (K : Bool → Heap → Prop) (E : Value → Heap → Prop) (h0 : Heap) : Prop :=
  newB (.cells #[(.bool t0), (.int .u32 t1), (.int .i64 t2)] 24) (fun b0 h1 =>
  vizardlaw17_works.c (fun x0 h2 =>
  (if (!x0) = true then
  K false h2
  else
  ldB h2 ((⟨b0, 0, none⟩ : Addr).add 0) fun x1 => ldI h2 .u32 ((⟨b0, 0, none⟩ : Addr).add 1) fun x2 => ldI h2 .i64 ((⟨b0, 0, none⟩ : Addr).add 2) fun x3 =>
  target_Fields.c (⟨#[112, 114, 111, 120, 121]⟩ : ByteArray) x1 x2 x3 (fun x4 x5 x6 h3 =>
  (if ((x5 : Int) != 6) = true then
  K ((x5 : Int) == 0) h3
  else
  newB (.cells #[(.string (⟨#[71, 69, 84]⟩ : ByteArray)), (.string (⟨#[99, 111, 110, 110, 101, 99, 116, 45, 116, 99, 112]⟩ : ByteArray)), (.string (⟨#[104, 116, 116, 112]⟩ : ByteArray)), (.string (⟨#[]⟩ : ByteArray)), (.string (⟨#[47]⟩ : ByteArray)), (.string (⟨#[63, 48]⟩ : ByteArray))] 9) (fun b1 h4 =>
  newB (.cells #[(.int .i64 405), (.int .i64 501), (.int .i64 400), (.int .i64 400), (.int .i64 404), (.int .i64 400)] 3) (fun b2 h5 =>
  6 ≠ (0 : Int) ∧
  newB (.cells #[] 35) (fun b3 h6 =>
  rdRow h6 x4 (x5 * 2) fun cs0 =>
  appT 35 (.agg #[(.string (⟨#[]⟩ : ByteArray)), (.string (⟨#[]⟩ : ByteArray))]) (some (⟨b3, 0, none⟩ : Addr)) 0 x5 0 2 32 cs0 (fun p0 n0 c0 h7 =>
  vizardlaw17_TargetStatus.J1 x4 x5 x6 (some (⟨b1, 0, none⟩ : Addr)) 6 6 (some (⟨b2, 0, none⟩ : Addr)) 6 6 (IntKind.i64.wrap (Int.tmod (IntKind.u64.wrap which0) 6)) p0 n0 c0 K E h7) h6) h5) h4) h3)) E h2)) E h1) h0
structure vizardlaw17_TargetStatus.c (t0 : Bool) (t1 : Int) (t2 : Int) (which0 : Int) (K : Bool → Heap → Prop) (E : Value → Heap → Prop) (H : Heap) : Prop where
  h : vizardlaw17_TargetStatus.vc t0 t1 t2 which0 (fun r0_0 H => ∃ H', Heap.Le H' H ∧ K r0_0 H') E H
def vizardlaw17_TargetStatus.F : FT := fun args K E H => match args with
  | [(.agg ⟨[(.bool t0), (.int .u32 t1), (.int .i64 t2)]⟩), (.int .i64 which0)] => vizardlaw17_TargetStatus.c t0 t1 t2 which0 (fun r0_0 H => K (.bool r0_0) H) E H
  | _ => False
noncomputable def vizardlaw17_TargetStatus.Γ : FuncId → Option FT := Γof [(11, target_Fields.F), (13, target_Parse.F), (15, vizardlaw17_works.F)]
theorem vizardlaw17_TargetStatus.hΓ : ∀ f F, vizardlaw17_TargetStatus.Γ f = some F → CalleeOk Tryd.prog f F := Γof_ok (List.forall_mem_cons.2 ⟨target_Fields.ok, List.forall_mem_cons.2 ⟨target_Parse.ok, List.forall_mem_cons.2 ⟨vizardlaw17_works.ok, fun _ h => nomatch h⟩⟩⟩)
def vizardlaw17_TargetStatus.J2.t : CT := fun Q E fr H => lenIs 77 fr (slSl fr 7 fun wants0 wants1 wants2 => slI fr 8 .i64 fun k0 => slPA fr 10 fun x0 => slI fr 11 .i64 fun n0 => slSl fr 12 fun o0 o1 o2 => vizardlaw17_TargetStatus.J2 wants0 wants1 wants2 k0 x0 n0 o0 o1 o2 (fun y4_0 H => Q .ret (mkF 77 [(4, (.bool y4_0))]) H) E H)
noncomputable def vizardlaw17_TargetStatus.J2.plan : Plan := .go
theorem vizardlaw17_TargetStatus.J2.pok : PlanOk Tryd.prog vizardlaw17_TargetStatus.J2.plan (sub [1, 1, 1, 1, 1, 1, 1, 1, 1, 1, 1] vizardlaw17_TargetStatus.body) := by
  have e : PlanOk Tryd.prog vizardlaw17_TargetStatus.J2.plan (sub [1, 1, 1, 1, 1, 1, 1, 1, 1, 1, 1] vizardlaw17_TargetStatus.body) = (True) := by kernel_rfl
  exact e.mpr trivial
theorem vizardlaw17_TargetStatus.J2.eq (wants0 : Option Addr) (wants1 : Nat) (wants2 : Nat) (k0 : Int) (x0 : Addr) (n0 : Int) (o0 : Option Addr) (o1 : Nat) (o2 : Nat) (Q : Ex → Fr → Heap → Prop) (E : Value → Heap → Prop) (H : Heap) :
    vizardlaw17_TargetStatus.J2.vc wants0 wants1 wants2 k0 x0 n0 o0 o1 o2 (fun y4_0 H => Q .ret (mkF 77 [(4, (.bool y4_0))]) H) E H = keepT [] [4] (fun i => []) (wC Tryd.prog vizardlaw17_TargetStatus.Γ vizardlaw17_TargetStatus.J2.plan (sub [1, 1, 1, 1, 1, 1, 1, 1, 1, 1, 1] vizardlaw17_TargetStatus.body)) Q E (mkF 77 [(7, (.slice wants0 wants1 wants2)), (8, (.int .i64 k0)), (10, (.pointer (some x0))), (11, (.int .i64 n0)), (12, (.slice o0 o1 o2))]) H := by
  kernel_rfl
theorem vizardlaw17_TargetStatus.J2.ok : SoundCode Tryd.prog (sub [1, 1, 1, 1, 1, 1, 1, 1, 1, 1, 1] vizardlaw17_TargetStatus.body) vizardlaw17_TargetStatus.J2.t := by
  refine piece_sound (keepT_sound [] [4] (fun i => []) (wC_sound vizardlaw17_TargetStatus.hΓ Tryd.hm vizardlaw17_TargetStatus.J2.plan _ vizardlaw17_TargetStatus.J2.pok)) ?_
  intro Q E fr H h
  unfold vizardlaw17_TargetStatus.J2.t at h
  obtain ⟨hl, h⟩ := lenIs_elim h
  obtain ⟨wants0, wants1, wants2, q7, h⟩ := slSl_elim h
  obtain ⟨k0, q8, h⟩ := slI_elim h
  obtain ⟨x0, q10, h⟩ := slPA_elim h
  obtain ⟨n0, q11, h⟩ := slI_elim h
  obtain ⟨o0, o1, o2, q12, h⟩ := slSl_elim h
  refine ⟨(mkF 77 [(7, (.slice wants0 wants1 wants2)), (8, (.int .i64 k0)), (10, (.pointer (some x0))), (11, (.int .i64 n0)), (12, (.slice o0 o1 o2))]), fun a ha => ha.mk (Nat.le_of_eq hl.symm) (List.forall_mem_cons.2 ⟨q7, List.forall_mem_cons.2 ⟨q8, List.forall_mem_cons.2 ⟨q10, List.forall_mem_cons.2 ⟨q11, List.forall_mem_cons.2 ⟨q12, fun _ h => nomatch h⟩⟩⟩⟩⟩), ?_⟩
  have e := vizardlaw17_TargetStatus.J2.eq wants0 wants1 wants2 k0 x0 n0 o0 o1 o2 Q E H
  rw [← e]
  exact h.h
def vizardlaw17_TargetStatus.J1.t : CT := fun Q E fr H => lenIs 77 fr (slSl fr 5 fun l0 l1 l2 => slSl fr 6 fun changes0 changes1 changes2 => slSl fr 7 fun wants0 wants1 wants2 => slI fr 8 .i64 fun k0 => slSl fr 9 fun m0 m1 m2 => vizardlaw17_TargetStatus.J1 l0 l1 l2 changes0 changes1 changes2 wants0 wants1 wants2 k0 m0 m1 m2 (fun y4_0 H => Q .ret (mkF 77 [(4, (.bool y4_0))]) H) E H)
noncomputable def vizardlaw17_TargetStatus.J1.plan : Plan := .seq (.go) (.seq (.go) (.seq (.draw ⟨[0, 1, 2, 3, 4, 5, 6, 7, 8, 9], (dl [(1, []), (2, []), (3, []), (5, []), (6, []), (7, []), (8, []), (0, []), (4, [0, 3, 1, 2]), (9, [4, 8, 0, 3, 5, 7, 1, 2, 6])] .fin), [10]⟩) (.use vizardlaw17_TargetStatus.J2.t)))
theorem vizardlaw17_TargetStatus.J1.pok : PlanOk Tryd.prog vizardlaw17_TargetStatus.J1.plan (sub [1, 1, 1, 1, 1, 1, 1, 1] vizardlaw17_TargetStatus.body) := by
  have e : PlanOk Tryd.prog vizardlaw17_TargetStatus.J1.plan (sub [1, 1, 1, 1, 1, 1, 1, 1] vizardlaw17_TargetStatus.body) = ((True) ∧ ((True) ∧ ((True) ∧ (SoundCode Tryd.prog (sub [1, 1, 1, 1, 1, 1, 1, 1, 1, 1, 1] vizardlaw17_TargetStatus.body) vizardlaw17_TargetStatus.J2.t)))) := by kernel_rfl
  exact e.mpr ⟨trivial, ⟨trivial, ⟨trivial, vizardlaw17_TargetStatus.J2.ok⟩⟩⟩
theorem vizardlaw17_TargetStatus.J1.eq (l0 : Option Addr) (l1 : Nat) (l2 : Nat) (changes0 : Option Addr) (changes1 : Nat) (changes2 : Nat) (wants0 : Option Addr) (wants1 : Nat) (wants2 : Nat) (k0 : Int) (m0 : Option Addr) (m1 : Nat) (m2 : Nat) (Q : Ex → Fr → Heap → Prop) (E : Value → Heap → Prop) (H : Heap) :
    vizardlaw17_TargetStatus.J1.vc l0 l1 l2 changes0 changes1 changes2 wants0 wants1 wants2 k0 m0 m1 m2 (fun y4_0 H => Q .ret (mkF 77 [(4, (.bool y4_0))]) H) E H = keepT [] [4] (fun i => []) (wC Tryd.prog vizardlaw17_TargetStatus.Γ vizardlaw17_TargetStatus.J1.plan (sub [1, 1, 1, 1, 1, 1, 1, 1] vizardlaw17_TargetStatus.body)) Q E (mkF 77 [(5, (.slice l0 l1 l2)), (6, (.slice changes0 changes1 changes2)), (7, (.slice wants0 wants1 wants2)), (8, (.int .i64 k0)), (9, (.slice m0 m1 m2))]) H := by
  kernel_rfl
theorem vizardlaw17_TargetStatus.J1.ok : SoundCode Tryd.prog (sub [1, 1, 1, 1, 1, 1, 1, 1] vizardlaw17_TargetStatus.body) vizardlaw17_TargetStatus.J1.t := by
  refine piece_sound (keepT_sound [] [4] (fun i => []) (wC_sound vizardlaw17_TargetStatus.hΓ Tryd.hm vizardlaw17_TargetStatus.J1.plan _ vizardlaw17_TargetStatus.J1.pok)) ?_
  intro Q E fr H h
  unfold vizardlaw17_TargetStatus.J1.t at h
  obtain ⟨hl, h⟩ := lenIs_elim h
  obtain ⟨l0, l1, l2, q5, h⟩ := slSl_elim h
  obtain ⟨changes0, changes1, changes2, q6, h⟩ := slSl_elim h
  obtain ⟨wants0, wants1, wants2, q7, h⟩ := slSl_elim h
  obtain ⟨k0, q8, h⟩ := slI_elim h
  obtain ⟨m0, m1, m2, q9, h⟩ := slSl_elim h
  refine ⟨(mkF 77 [(5, (.slice l0 l1 l2)), (6, (.slice changes0 changes1 changes2)), (7, (.slice wants0 wants1 wants2)), (8, (.int .i64 k0)), (9, (.slice m0 m1 m2))]), fun a ha => ha.mk (Nat.le_of_eq hl.symm) (List.forall_mem_cons.2 ⟨q5, List.forall_mem_cons.2 ⟨q6, List.forall_mem_cons.2 ⟨q7, List.forall_mem_cons.2 ⟨q8, List.forall_mem_cons.2 ⟨q9, fun _ h => nomatch h⟩⟩⟩⟩⟩), ?_⟩
  have e := vizardlaw17_TargetStatus.J1.eq l0 l1 l2 changes0 changes1 changes2 wants0 wants1 wants2 k0 m0 m1 m2 Q E H
  rw [← e]
  exact h.h
noncomputable def vizardlaw17_TargetStatus.plan : Plan := .seq (.go) (.seq (.go) (.seq (.go) (.seq (.go) (.seq (.go) (.seq (.go) (.seq (.go) (.seq (.go) (.use vizardlaw17_TargetStatus.J1.t))))))))
theorem vizardlaw17_TargetStatus.pok : PlanOk Tryd.prog vizardlaw17_TargetStatus.plan vizardlaw17_TargetStatus.body := by
  have e : PlanOk Tryd.prog vizardlaw17_TargetStatus.plan vizardlaw17_TargetStatus.body = ((True) ∧ ((True) ∧ ((True) ∧ ((True) ∧ ((True) ∧ ((True) ∧ ((True) ∧ ((True) ∧ (SoundCode Tryd.prog (sub [1, 1, 1, 1, 1, 1, 1, 1] vizardlaw17_TargetStatus.body) vizardlaw17_TargetStatus.J1.t))))))))) := by kernel_rfl
  exact e.mpr ⟨trivial, ⟨trivial, ⟨trivial, ⟨trivial, ⟨trivial, ⟨trivial, ⟨trivial, ⟨trivial, vizardlaw17_TargetStatus.J1.ok⟩⟩⟩⟩⟩⟩⟩⟩
theorem vizardlaw17_TargetStatus.eq (t0 : Bool) (t1 : Int) (t2 : Int) (which0 : Int) (K : Value → Heap → Prop) (E : Value → Heap → Prop) (H : Heap) :
    fnT Tryd.prog Tryd.f6 (wC Tryd.prog vizardlaw17_TargetStatus.Γ vizardlaw17_TargetStatus.plan vizardlaw17_TargetStatus.body) [(.agg #[(.bool t0), (.int .u32 t1), (.int .i64 t2)]), (.int .i64 which0)] K E H = vizardlaw17_TargetStatus.vc t0 t1 t2 which0 (fun r0_0 H => K (.bool r0_0) H) E H := by
  kernel_rfl
theorem vizardlaw17_TargetStatus.Fe {args : List Value} {K E : Value → Heap → Prop} {H : Heap} (h : vizardlaw17_TargetStatus.F args K E H) : ∃ t0 t1 t2 which0, args = [(.agg #[(.bool t0), (.int .u32 t1), (.int .i64 t2)]), (.int .i64 which0)] ∧ vizardlaw17_TargetStatus.c t0 t1 t2 which0 (fun r0_0 H => K (.bool r0_0) H) E H := by
  unfold vizardlaw17_TargetStatus.F at h
  split at h
  · exact ⟨_, _, _, _, rfl, h⟩
  · exact h.elim
theorem vizardlaw17_TargetStatus.ok : CalleeOk Tryd.prog 6 vizardlaw17_TargetStatus.F :=
  callee_ok vizardlaw17_TargetStatus.hΓ (fn := Tryd.f6) (c := vizardlaw17_TargetStatus.body) (T := wC Tryd.prog vizardlaw17_TargetStatus.Γ vizardlaw17_TargetStatus.plan vizardlaw17_TargetStatus.body) (by kernel_rfl) (by kernel_rfl) (by kernel_rfl) (wC_sound vizardlaw17_TargetStatus.hΓ Tryd.hm vizardlaw17_TargetStatus.plan _ vizardlaw17_TargetStatus.pok) fun _ K E H h => by
    obtain ⟨z0, z1, z2, z3, e, h⟩ := vizardlaw17_TargetStatus.Fe h
    subst e
    have h2 : vizardlaw17_TargetStatus.vc z0 z1 z2 z3 (fun r0_0 H => ∃ H', Heap.Le H' H ∧ K (.bool r0_0) H') E H := h.h
    rw [vizardlaw17_TargetStatus.eq z0 z1 z2 z3 (Fg K) E H]
    exact h2

/-! vizard/vizardlaw17.TargetOrder -/
noncomputable def vizardlaw17_TargetOrder.body : Code := Tryd.f7.body.getD .skip
def vizardlaw17_TargetOrder.vc (t0 : Bool) (t1 : Int) (t2 : Int) (a0 : Int) (b0 : Int) (K : Bool → Heap → Prop) (E : Value → Heap → Prop) (h0 : Heap) : Prop :=
  newB (.cells #[(.bool t0), (.int .u32 t1), (.int .i64 t2)] 24) (fun b1 h1 =>
  vizardlaw17_works.c (fun x0 h2 =>
  (if (!x0) = true then
  K false h2
  else
  ldB h2 ((⟨b1, 0, none⟩ : Addr).add 0) fun x1 => ldI h2 .u32 ((⟨b1, 0, none⟩ : Addr).add 1) fun x2 => ldI h2 .i64 ((⟨b1, 0, none⟩ : Addr).add 2) fun x3 =>
  target_Fields.c (⟨#[112, 114, 111, 120, 121]⟩ : ByteArray) x1 x2 x3 (fun x4 x5 x6 h3 =>
  (if ((x5 : Int) != 6) = true then
  K ((x5 : Int) == 0) h3
  else
  6 ≠ (0 : Int) ∧
  6 ≠ (0 : Int) ∧
  nilc x4 fun a1 => (0 : Int) ≤ (IntKind.i64.wrap (Int.tmod (IntKind.u64.wrap b0) 6)) ∧ (IntKind.i64.wrap (Int.tmod (IntKind.u64.wrap b0) 6)) < (x5 : Int) ∧
  ldS h3 ((a1.add ((IntKind.i64.wrap (Int.tmod (IntKind.u64.wrap b0) 6)).toNat * 2)).add 0) fun x7 => ldS h3 ((a1.add ((IntKind.i64.wrap (Int.tmod (IntKind.u64.wrap b0) 6)).toNat * 2)).add 1) fun x8 =>
  nilc x4 fun a2 => (0 : Int) ≤ (IntKind.i64.wrap (Int.tmod (IntKind.u64.wrap a0) 6)) ∧ (IntKind.i64.wrap (Int.tmod (IntKind.u64.wrap a0) 6)) < (x5 : Int) ∧
  ldS h3 ((a2.add ((IntKind.i64.wrap (Int.tmod (IntKind.u64.wrap a0) 6)).toNat * 2)).add 0) fun x9 => ldS h3 ((a2.add ((IntKind.i64.wrap (Int.tmod (IntKind.u64.wrap a0) 6)).toNat * 2)).add 1) fun x10 =>
  nilc x4 fun a3 => (0 : Int) ≤ (IntKind.i64.wrap (Int.tmod (IntKind.u64.wrap a0) 6)) ∧ (IntKind.i64.wrap (Int.tmod (IntKind.u64.wrap a0) 6)) < (x5 : Int) ∧
  stc h3 ((a3.add ((IntKind.i64.wrap (Int.tmod (IntKind.u64.wrap a0) 6)).toNat * 2)).add 0) (.string x7) fun h4 =>
  stc h4 ((a3.add ((IntKind.i64.wrap (Int.tmod (IntKind.u64.wrap a0) 6)).toNat * 2)).add 1) (.string x8) fun h5 =>
  nilc x4 fun a4 => (0 : Int) ≤ (IntKind.i64.wrap (Int.tmod (IntKind.u64.wrap b0) 6)) ∧ (IntKind.i64.wrap (Int.tmod (IntKind.u64.wrap b0) 6)) < (x5 : Int) ∧
  stc h5 ((a4.add ((IntKind.i64.wrap (Int.tmod (IntKind.u64.wrap b0) 6)).toNat * 2)).add 0) (.string x9) fun h6 =>
  stc h6 ((a4.add ((IntKind.i64.wrap (Int.tmod (IntKind.u64.wrap b0) 6)).toNat * 2)).add 1) (.string x10) fun h7 =>
  target_Parse.c x4 x5 x6 (fun x11 x12 x13 x14 h8 =>
  newB (.cells #[(.bool false), (.int .u32 0), (.int .i64 0)] 24) (fun b2 h9 =>
  stc h9 ((⟨b2, 0, none⟩ : Addr).add 0) (.bool x11) fun h10 =>
  stc h10 ((⟨b2, 0, none⟩ : Addr).add 1) (.int .u32 x12) fun h11 =>
  stc h11 ((⟨b2, 0, none⟩ : Addr).add 2) (.int .i64 x13) fun h12 =>
  (if (!(((IntKind.i64.wrap (Int.tmod (IntKind.u64.wrap a0) 6)) == 5) == ((IntKind.i64.wrap (Int.tmod (IntKind.u64.wrap b0) 6)) == 5))) = true then
  K (x14 == 400) h12
  else
  (if (x14 == 200) = true then
  ldB h12 ((⟨b2, 0, none⟩ : Addr).add 0) fun x15 => ldI h12 .u32 ((⟨b2, 0, none⟩ : Addr).add 1) fun x16 => ldI h12 .i64 ((⟨b2, 0, none⟩ : Addr).add 2) fun x17 =>
  ldB h12 ((⟨b1, 0, none⟩ : Addr).add 0) fun x18 => ldI h12 .u32 ((⟨b1, 0, none⟩ : Addr).add 1) fun x19 => ldI h12 .i64 ((⟨b1, 0, none⟩ : Addr).add 2) fun x20 =>
  K ((x15 == x18) && ((x16 == x19) && ((x17 == x20) && true))) h12
  else
  K false h12))) h8) E h7)) E h2)) E h1) h0
structure vizardlaw17_TargetOrder.c (t0 : Bool) (t1 : Int) (t2 : Int) (a0 : Int) (b0 : Int) (K : Bool → Heap → Prop) (E : Value → Heap → Prop) (H : Heap) : Prop where
  h : vizardlaw17_TargetOrder.vc t0 t1 t2 a0 b0 (fun r0_0 H => ∃ H', Heap.Le H' H ∧ K r0_0 H') E H
def vizardlaw17_TargetOrder.F : FT := fun args K E H => match args with
  | [(.agg ⟨[(.bool t0), (.int .u32 t1), (.int .i64 t2)]⟩), (.int .i64 a0), (.int .i64 b0)] => vizardlaw17_TargetOrder.c t0 t1 t2 a0 b0 (fun r0_0 H => K (.bool r0_0) H) E H
  | _ => False
noncomputable def vizardlaw17_TargetOrder.Γ : FuncId → Option FT := Γof [(11, target_Fields.F), (13, target_Parse.F), (15, vizardlaw17_works.F)]
theorem vizardlaw17_TargetOrder.hΓ : ∀ f F, vizardlaw17_TargetOrder.Γ f = some F → CalleeOk Tryd.prog f F := Γof_ok (List.forall_mem_cons.2 ⟨target_Fields.ok, List.forall_mem_cons.2 ⟨target_Parse.ok, List.forall_mem_cons.2 ⟨vizardlaw17_works.ok, fun _ h => nomatch h⟩⟩⟩)
noncomputable def vizardlaw17_TargetOrder.plan : Plan := .seq (.go) (.seq (.go) (.seq (.go) (.seq (.go) (.seq (.go) (.seq (.draw ⟨[0, 1, 2, 3, 4, 5, 6, 7, 8, 9, 10, 11, 12, 13, 14, 15], (dl [(0, []), (1, []), (2, []), (3, []), (4, []), (5, []), (6, []), (7, []), (8, []), (9, []), (10, []), (11, []), (12, []), (13, [12, 7, 0, 1, 4, 5, 6, 11, 10, 8, 9]), (14, []), (15, [14, 11, 13, 0, 1, 2, 3, 4, 5, 6, 7, 8, 9, 10, 12])] .fin), []⟩) (.go))))))
theorem vizardlaw17_TargetOrder.pok : PlanOk Tryd.prog vizardlaw17_TargetOrder.plan vizardlaw17_TargetOrder.body := by
  have e : PlanOk Tryd.prog vizardlaw17_TargetOrder.plan vizardlaw17_TargetOrder.body = ((True) ∧ ((True) ∧ ((True) ∧ ((True) ∧ ((True) ∧ ((True) ∧ (True))))))) := by kernel_rfl
  exact e.mpr ⟨trivial, ⟨trivial, ⟨trivial, ⟨trivial, ⟨trivial, ⟨trivial, trivial⟩⟩⟩⟩⟩⟩
theorem vizardlaw17_TargetOrder.eq (t0 : Bool) (t1 : Int) (t2 : Int) (a0 : Int) (b0 : Int) (K : Value → Heap → Prop) (E : Value → Heap → Prop) (H : Heap) :
    fnT Tryd.prog Tryd.f7 (wC Tryd.prog vizardlaw17_TargetOrder.Γ vizardlaw17_TargetOrder.plan vizardlaw17_TargetOrder.body) [(.agg #[(.bool t0), (.int .u32 t1), (.int .i64 t2)]), (.int .i64 a0), (.int .i64 b0)] K E H = vizardlaw17_TargetOrder.vc t0 t1 t2 a0 b0 (fun r0_0 H => K (.bool r0_0) H) E H := by
  kernel_rfl
theorem vizardlaw17_TargetOrder.Fe {args : List Value} {K E : Value → Heap → Prop} {H : Heap} (h : vizardlaw17_TargetOrder.F args K E H) : ∃ t0 t1 t2 a0 b0, args = [(.agg #[(.bool t0), (.int .u32 t1), (.int .i64 t2)]), (.int .i64 a0), (.int .i64 b0)] ∧ vizardlaw17_TargetOrder.c t0 t1 t2 a0 b0 (fun r0_0 H => K (.bool r0_0) H) E H := by
  unfold vizardlaw17_TargetOrder.F at h
  split at h
  · exact ⟨_, _, _, _, _, rfl, h⟩
  · exact h.elim
theorem vizardlaw17_TargetOrder.ok : CalleeOk Tryd.prog 7 vizardlaw17_TargetOrder.F :=
  callee_ok vizardlaw17_TargetOrder.hΓ (fn := Tryd.f7) (c := vizardlaw17_TargetOrder.body) (T := wC Tryd.prog vizardlaw17_TargetOrder.Γ vizardlaw17_TargetOrder.plan vizardlaw17_TargetOrder.body) (by kernel_rfl) (by kernel_rfl) (by kernel_rfl) (wC_sound vizardlaw17_TargetOrder.hΓ Tryd.hm vizardlaw17_TargetOrder.plan _ vizardlaw17_TargetOrder.pok) fun _ K E H h => by
    obtain ⟨z0, z1, z2, z3, z4, e, h⟩ := vizardlaw17_TargetOrder.Fe h
    subst e
    have h2 : vizardlaw17_TargetOrder.vc z0 z1 z2 z3 z4 (fun r0_0 H => ∃ H', Heap.Le H' H ∧ K (.bool r0_0) H') E H := h.h
    rw [vizardlaw17_TargetOrder.eq z0 z1 z2 z3 z4 (Fg K) E H]
    exact h2
end Go.Sh
