/- InboxFirst: of bytes that come twice the first ones stay; for every input. No condition. -/
import Derived.Test.YtjbfpeeigjjbdaaInboxD
import Derived.Test.YtjbfpeeigjjbdaaRows
import Derived.ProofKit
namespace Go.Proofs.Ytjbfpeeigjjbdaa
open Go.ChangeShapes Go.WideShapes Go.ChangeAt Go.RowKit Go.Sh
namespace InboxFirstRow
theorem own : ownKnob Try.prog.godebug = none := by kernel_rfl
theorem laidOut : laidOutB Try.prog = true := by kernel_rfl
set_option maxRecDepth 100000 in
theorem lifted (os : Os) (started : os.Started) (H : Type) (enc : TypeId × Value → H) :
    ReturnsInHanded {} Try.checked os 6 .any (Rows.inboxFirstSpec.pre6 enc Try.prog Try.f6 Rows.inboxFirstRow.domain false) (Rows.inboxFirstSpec.post enc Try.prog Try.f6 false true false false) := by
  refine law_sized (C := Try.checked) (fn := Try.f6) (t := 4) own started (by kernel_rfl) (by kernel_rfl)
    (ChangeSpec.witness6 (enc := enc) (C := Try.checked) false ⟨#[], #[(.string (⟨#[]⟩ : ByteArray)), (.string (⟨#[]⟩ : ByteArray)), (.int .i64 0)], []⟩ 8 (by kernel_rfl) (by kernel_rfl) (by kernel_rfl) (by kernel_rfl))
    vizardlaw11_InboxFirst.ok (by kernel_rfl) (by kernel_rfl) laidOut rfl ?_ ?_ (by kernel_rfl) (by kernel_rfl) ?_
  · intro t ht
    have e : Try.f6.params.toList = [9, 9, 3] := by kernel_rfl
    rw [e] at ht
    have k : ([9, 9, 3] : List TypeId).all (fun t => Try.prog.readableRec t && decide (t < Try.prog.types.size)) = true := by kernel_rfl
    have := List.all_eq_true.1 k t ht
    simp only [Bool.and_eq_true, decide_eq_true_eq] at this
    exact this
  · intro ds hl
    have e : Try.f6.params.toList.length = 3 := by kernel_rfl
    rw [e] at hl
    match ds, hl with
    | [d0, d1, d2], _ => rfl
  · intro W base args hl harg
    have e : Try.f6.params.toList.length = 3 := by kernel_rfl
    rw [e] at hl
    match args, hl with
    | [v0, v1, v2], _ =>
      obtain ⟨z, rfl, _⟩ := cell_string (by kernel_rfl) (ok_cell (d := .string) (by kernel_rfl) rfl (harg 0 9 v0 (by kernel_rfl) rfl).1)
      have h0 : TrodOk enc Try.prog W 9 [(.string z)] := (harg 0 9 _ (by kernel_rfl) rfl).2
      obtain ⟨a0, e, k0_0⟩ := (h0).string (by kernel_rfl)
      cases e
      obtain ⟨z, rfl, _⟩ := cell_string (by kernel_rfl) (ok_cell (d := .string) (by kernel_rfl) rfl (harg 1 9 v1 (by kernel_rfl) rfl).1)
      have h1 : TrodOk enc Try.prog W 9 [(.string z)] := (harg 1 9 _ (by kernel_rfl) rfl).2
      obtain ⟨a1, e, k1_0⟩ := (h1).string (by kernel_rfl)
      cases e
      obtain ⟨z, rfl, _⟩ := cell_int (k := .i64) (by kernel_rfl) (ok_cell (d := (.int .i64)) (by kernel_rfl) rfl (harg 2 3 v2 (by kernel_rfl) rfl).1)
      have h2 : TrodOk enc Try.prog W 3 [(.int .i64 z)] := (harg 2 3 _ (by kernel_rfl) rfl).2
      obtain ⟨a2, e, k2_0⟩ := (h2).int (k := .i64) (by kernel_rfl)
      cases e
      exact vizardlaw11_InboxFirst.run k0_0 k1_0 k2_0 ⟨rfl, Heap.Le.refl _⟩
end InboxFirstRow
theorem inboxFirst_holds : Rows.InboxFirstSaid :=
  OpenClaim.holds_of_wide 6 Try.f6 rfl rfl rfl rfl rfl rfl rfl ⟨rfl, rfl, rfl, rfl, rfl⟩ rfl rfl rfl rfl rfl (by kernel_rfl) (by kernel_rfl) (by kernel_rfl)
    (of_decide_eq_true (by kernel_rfl)) (by unfold Func.isWrapper; first | (rw [if_pos (by decide +kernel)]; kernel_rfl) | (rw [if_neg (by decide +kernel)]; exact ⟨rfl, rfl⟩))
    (fun os started H enc _ => InboxFirstRow.lifted os started H enc)
end Go.Proofs.Ytjbfpeeigjjbdaa
