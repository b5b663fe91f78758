/- OutboxEnd: an end that is written alone is sent alone, once, unless it is lost, and behind it nothing is written; for every input. No condition. -/
import Derived.Test.YtjbfpeeigjjbdaaOutD
import Derived.Test.YtjbfpeeigjjbdaaRows
import Derived.ProofKit
namespace Go.Proofs.Ytjbfpeeigjjbdaa
open Go.ChangeShapes Go.WideShapes Go.ChangeAt Go.RowKit Go.Sh
namespace OutboxEndRow
theorem own : ownKnob Try.prog.godebug = none := by kernel_rfl
theorem laidOut : laidOutB Try.prog = true := by kernel_rfl
set_option maxRecDepth 100000 in
theorem lifted (os : Os) (started : os.Started) (H : Type) (enc : TypeId × Value → H) :
    ReturnsInHanded {} Try.checked os 10 .any (Rows.outboxEndSpec.pre6 enc Try.prog Try.f10 Rows.outboxEndRow.domain false) (Rows.outboxEndSpec.post enc Try.prog Try.f10 false true false false) := by
  refine law_sized (C := Try.checked) (fn := Try.f10) (t := 4) own started (by kernel_rfl) (by kernel_rfl)
    (ChangeSpec.witness6 (enc := enc) (C := Try.checked) false ⟨#[], #[(.string (⟨#[]⟩ : ByteArray)), (.bool false)], []⟩ 8 (by kernel_rfl) (by kernel_rfl) (by kernel_rfl) (by kernel_rfl))
    vizardlaw12_OutboxEnd.ok (by kernel_rfl) (by kernel_rfl) laidOut rfl ?_ ?_ (by kernel_rfl) (by kernel_rfl) ?_
  · intro t ht
    have e : Try.f10.params.toList = [9, 4] := by kernel_rfl
    rw [e] at ht
    have k : ([9, 4] : List TypeId).all (fun t => Try.prog.readableRec t && decide (t < Try.prog.types.size)) = true := by kernel_rfl
    have := List.all_eq_true.1 k t ht
    simp only [Bool.and_eq_true, decide_eq_true_eq] at this
    exact this
  · intro ds hl
    have e : Try.f10.params.toList.length = 2 := by kernel_rfl
    rw [e] at hl
    match ds, hl with
    | [d0, d1], _ => rfl
  · intro W base args hl harg
    have e : Try.f10.params.toList.length = 2 := by kernel_rfl
    rw [e] at hl
    match args, hl with
    | [v0, v1], _ =>
      obtain ⟨z, rfl, _⟩ := cell_string (by kernel_rfl) (ok_cell (d := .string) (by kernel_rfl) rfl (harg 0 9 v0 (by kernel_rfl) rfl).1)
      have h0 : TrodOk enc Try.prog W 9 [(.string z)] := (harg 0 9 _ (by kernel_rfl) rfl).2
      obtain ⟨a0, e, k0_0⟩ := (h0).string (by kernel_rfl)
      cases e
      obtain ⟨z, rfl⟩ := cell_bool (by kernel_rfl) (ok_cell (d := .bool) (by kernel_rfl) rfl (harg 1 4 v1 (by kernel_rfl) rfl).1)
      have h1 : TrodOk enc Try.prog W 4 [(.bool z)] := (harg 1 4 _ (by kernel_rfl) rfl).2
      obtain ⟨a1, e⟩ := (h1).bool (by kernel_rfl)
      cases e
      exact vizardlaw12_OutboxEnd.run k0_0 ⟨rfl, Heap.Le.refl _⟩
end OutboxEndRow
theorem outboxEnd_holds : Rows.OutboxEndSaid :=
  OpenClaim.holds_of_wide 10 Try.f10 rfl rfl rfl rfl rfl rfl rfl ⟨rfl, rfl, rfl, rfl, rfl⟩ rfl rfl rfl rfl rfl (by kernel_rfl) (by kernel_rfl) (by kernel_rfl)
    (of_decide_eq_true (by kernel_rfl)) (by unfold Func.isWrapper; first | (rw [if_pos (by decide +kernel)]; kernel_rfl) | (rw [if_neg (by decide +kernel)]; exact ⟨rfl, rfl⟩))
    (fun os started H enc _ => OutboxEndRow.lifted os started H enc)
end Go.Proofs.Ytjbfpeeigjjbdaa
