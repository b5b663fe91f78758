/- PRINTED by a program (sh.py): what the walk over each function asks, and that it asks just that. -/
import Derived.Test.YtpmgchippfmakaaDoorNumD
namespace Go.Sh
open Go.Proofs
set_option linter.unusedVariables false
set_option maxRecDepth 8000
/-! strings.splitSeq -/
noncomputable def strings_splitSeq.body : Code := Tryd.f63.body.getD .skip
def strings_splitSeq.vc (s0 : ByteArray) (sep0 : ByteArray) (sepSave0 : Int) (K : Value → Heap → Prop) (E : Value → Heap → Prop) (h0 : Heap) : Prop :=
  newB (.cells #[(.string s0)] 9) (fun b0 h1 =>
  newB (.cells #[(.string sep0)] 9) (fun b1 h2 =>
  newB (.cells #[(.int .i64 sepSave0)] 3) (fun b2 h3 =>
  K (.func (.func 80) #[] #[(.pointer (some (⟨b1, 0, none⟩ : Addr))), (.pointer (some (⟨b0, 0, none⟩ : Addr))), (.pointer (some (⟨b2, 0, none⟩ : Addr)))]) h3) h2) h1) h0
structure strings_splitSeq.c (s0 : ByteArray) (sep0 : ByteArray) (sepSave0 : Int) (K : Value → Heap → Prop) (E : Value → Heap → Prop) (H : Heap) : Prop where
  h : strings_splitSeq.vc s0 sep0 sepSave0 (fun r0_0 H => ∃ H', Heap.Le H' H ∧ K r0_0 H') E H
def strings_splitSeq.F : FT := fun args K E H => match args with
  | [(.string s0), (.string sep0), (.int .i64 sepSave0)] => strings_splitSeq.c s0 sep0 sepSave0 (fun r0_0 H => K r0_0 H) E H
  | _ => False
noncomputable def strings_splitSeq.Γ : FuncId → Option FT := Γof []
theorem strings_splitSeq.hΓ : ∀ f F, strings_splitSeq.Γ f = some F → CalleeOk Tryd.prog f F := Γof_ok (fun _ h => nomatch h)
noncomputable def strings_splitSeq.plan : Plan := .go
theorem strings_splitSeq.pok : PlanOk Tryd.prog strings_splitSeq.plan strings_splitSeq.body := by
  have e : PlanOk Tryd.prog strings_splitSeq.plan strings_splitSeq.body = (True) := by kernel_rfl
  exact e.mpr trivial
theorem strings_splitSeq.eq (s0 : ByteArray) (sep0 : ByteArray) (sepSave0 : Int) (K : Value → Heap → Prop) (E : Value → Heap → Prop) (H : Heap) :
    fnT Tryd.prog Tryd.f63 (wC Tryd.prog strings_splitSeq.Γ strings_splitSeq.plan strings_splitSeq.body) [(.string s0), (.string sep0), (.int .i64 sepSave0)] K E H = strings_splitSeq.vc s0 sep0 sepSave0 (fun r0_0 H => K r0_0 H) E H := by
  kernel_rfl
theorem strings_splitSeq.Fe {args : List Value} {K E : Value → Heap → Prop} {H : Heap} (h : strings_splitSeq.F args K E H) : ∃ s0 sep0 sepSave0, args = [(.string s0), (.string sep0), (.int .i64 sepSave0)] ∧ strings_splitSeq.c s0 sep0 sepSave0 (fun r0_0 H => K r0_0 H) E H := by
  unfold strings_splitSeq.F at h
  split at h
  · exact ⟨_, _, _, rfl, h⟩
  · exact h.elim
theorem strings_splitSeq.ok : CalleeOk Tryd.prog 63 strings_splitSeq.F :=
  callee_ok strings_splitSeq.hΓ (fn := Tryd.f63) (c := strings_splitSeq.body) (T := wC Tryd.prog strings_splitSeq.Γ strings_splitSeq.plan strings_splitSeq.body) (by kernel_rfl) (by kernel_rfl) (by kernel_rfl) (wC_sound strings_splitSeq.hΓ Tryd.hm strings_splitSeq.plan _ strings_splitSeq.pok) fun _ K E H h => by
    obtain ⟨z0, z1, z2, e, h⟩ := strings_splitSeq.Fe h
    subst e
    have h2 : strings_splitSeq.vc z0 z1 z2 (fun r0_0 H => ∃ H', Heap.Le H' H ∧ K r0_0 H') E H := h.h
    rw [strings_splitSeq.eq z0 z1 z2 (Fg K) E H]
    exact h2

/-! strings.SplitSeq -/
noncomputable def strings_SplitSeq.body : Code := Tryd.f51.body.getD .skip
def strings_SplitSeq.vc (s0 : ByteArray) (sep0 : ByteArray) (K : Value → Heap → Prop) (E : Value → Heap → Prop) (h0 : Heap) : Prop :=
  strings_splitSeq.c s0 sep0 0 K E h0
structure strings_SplitSeq.c (s0 : ByteArray) (sep0 : ByteArray) (K : Value → Heap → Prop) (E : Value → Heap → Prop) (H : Heap) : Prop where
  h : strings_SplitSeq.vc s0 sep0 (fun r0_0 H => ∃ H', Heap.Le H' H ∧ K r0_0 H') E H
def strings_SplitSeq.F : FT := fun args K E H => match args with
  | [(.string s0), (.string sep0)] => strings_SplitSeq.c s0 sep0 (fun r0_0 H => K r0_0 H) E H
  | _ => False
noncomputable def strings_SplitSeq.Γ : FuncId → Option FT := Γof [(63, strings_splitSeq.F)]
theorem strings_SplitSeq.hΓ : ∀ f F, strings_SplitSeq.Γ f = some F → CalleeOk Tryd.prog f F := Γof_ok (List.forall_mem_cons.2 ⟨strings_splitSeq.ok, fun _ h => nomatch h⟩)
noncomputable def strings_SplitSeq.plan : Plan := .go
theorem strings_SplitSeq.pok : PlanOk Tryd.prog strings_SplitSeq.plan strings_SplitSeq.body := by
  have e : PlanOk Tryd.prog strings_SplitSeq.plan strings_SplitSeq.body = (True) := by kernel_rfl
  exact e.mpr trivial
theorem strings_SplitSeq.eq (s0 : ByteArray) (sep0 : ByteArray) (K : Value → Heap → Prop) (E : Value → Heap → Prop) (H : Heap) :
    fnT Tryd.prog Tryd.f51 (wC Tryd.prog strings_SplitSeq.Γ strings_SplitSeq.plan strings_SplitSeq.body) [(.string s0), (.string sep0)] K E H = strings_SplitSeq.vc s0 sep0 (fun r0_0 H => K r0_0 H) E H := by
  kernel_rfl
theorem strings_SplitSeq.Fe {args : List Value} {K E : Value → Heap → Prop} {H : Heap} (h : strings_SplitSeq.F args K E H) : ∃ s0 sep0, args = [(.string s0), (.string sep0)] ∧ strings_SplitSeq.c s0 sep0 (fun r0_0 H => K r0_0 H) E H := by
  unfold strings_SplitSeq.F at h
  split at h
  · exact ⟨_, _, rfl, h⟩
  · exact h.elim
theorem strings_SplitSeq.ok : CalleeOk Tryd.prog 51 strings_SplitSeq.F :=
  callee_ok strings_SplitSeq.hΓ (fn := Tryd.f51) (c := strings_SplitSeq.body) (T := wC Tryd.prog strings_SplitSeq.Γ strings_SplitSeq.plan strings_SplitSeq.body) (by kernel_rfl) (by kernel_rfl) (by kernel_rfl) (wC_sound strings_SplitSeq.hΓ Tryd.hm strings_SplitSeq.plan _ strings_SplitSeq.pok) fun _ K E H h => by
    obtain ⟨z0, z1, e, h⟩ := strings_SplitSeq.Fe h
    subst e
    have h2 : strings_SplitSeq.vc z0 z1 (fun r0_0 H => ∃ H', Heap.Le H' H ∧ K r0_0 H') E H := h.h
    rw [strings_SplitSeq.eq z0 z1 (Fg K) E H]
    exact h2
end Go.Sh
