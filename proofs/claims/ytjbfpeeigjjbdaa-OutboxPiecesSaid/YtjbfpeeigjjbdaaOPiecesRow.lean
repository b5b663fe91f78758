/- OutboxPieces: as long as nothing is lost, pieces follow one another, each of as many bytes as may be, and are together what was written, up to the limit; for every input. No condition. -/
import Derived.Test.YtjbfpeeigjjbdaaOutE
import Derived.Test.YtjbfpeeigjjbdaaRows
import Derived.ProofKit
namespace Go.Proofs.Ytjbfpeeigjjbdaa
open Go.ChangeShapes Go.WideShapes Go.ChangeAt Go.RowKit Go.Sh
namespace OutboxPiecesRow
theorem own : ownKnob Try.prog.godebug = none := by kernel_rfl
theorem laidOut : laidOutB Try.prog = true := by kernel_rfl
set_option maxRecDepth 100000 in
theorem lifted (os : Os) (started : os.Started) (H : Type) (enc : TypeId × Value → H) :
    ReturnsInHanded {} Try.checked os 11 .any (Rows.outboxPiecesSpec.pre6 enc Try.prog Try.f11 Rows.outboxPiecesRow.domain false) (Rows.outboxPiecesSpec.post enc Try.prog Try.f11 false true false false) := by
  refine law_sized (C := Try.checked) (fn := Try.f11) (t := 4) own started (by kernel_rfl) (by kernel_rfl)
    (ChangeSpec.witness6 (enc := enc) (C := Try.checked) false ⟨#[], #[(.string (⟨#[]⟩ : ByteArray)), (.int .i64 0), (.int .i64 0)], []⟩ 8 (by kernel_rfl) (by kernel_rfl) (by kernel_rfl) (by kernel_rfl))
    vizardlaw12_OutboxPieces.ok (by kernel_rfl) (by kernel_rfl) laidOut rfl ?_ ?_ (by kernel_rfl) (by kernel_rfl) ?_
  · intro t ht
    have e : Try.f11.params.toList = [9, 3, 2] := by kernel_rfl
    rw [e] at ht
    have k : ([9, 3, 2] : List TypeId).all (fun t => Try.prog.readableRec t && decide (t < Try.prog.types.size)) = true := by kernel_rfl
    have := List.all_eq_true.1 k t ht
    simp only [Bool.and_eq_true, decide_eq_true_eq] at this
    exact this
  · intro ds hl
    have e : Try.f11.params.toList.length = 3 := by kernel_rfl
    rw [e] at hl
    match ds, hl with
    | [d0, d1, d2], _ => rfl
  · intro W base args hl harg
    have e : Try.f11.params.toList.length = 3 := by kernel_rfl
    rw [e] at hl
    match args, hl with
    | [v0, v1, v2], _ =>
      obtain ⟨z, rfl, _⟩ := cell_string (by kernel_rfl) (ok_cell (d := .string) (by kernel_rfl) rfl (harg 0 9 v0 (by kernel_rfl) rfl).1)
      have h0 : TrodOk enc Try.prog W 9 [(.string z)] := (harg 0 9 _ (by kernel_rfl) rfl).2
      obtain ⟨a0, e, k0_0⟩ := (h0).string (by kernel_rfl)
      cases e
      obtain ⟨z, rfl, _⟩ := cell_int (k := .i64) (by kernel_rfl) (ok_cell (d := (.int .i64)) (by kernel_rfl) rfl (harg 1 3 v1 (by kernel_rfl) rfl).1)
      have h1 : TrodOk enc Try.prog W 3 [(.int .i64 z)] := (harg 1 3 _ (by kernel_rfl) rfl).2
      obtain ⟨a1, e, k1_0⟩ := (h1).int (k := .i64) (by kernel_rfl)
      cases e
      obtain ⟨z, rfl, _⟩ := cell_int (k := .i64) (by kernel_rfl) (ok_cell (d := (.int .i64)) (by kernel_rfl) rfl (harg 2 2 v2 (by kernel_rfl) rfl).1)
      have h2 : TrodOk enc Try.prog W 2 [(.int .i64 z)] := (harg 2 2 _ (by kernel_rfl) rfl).2
      obtain ⟨a2, e, k2_0⟩ := (h2).int (k := .i64) (by kernel_rfl)
      cases e
      exact vizardlaw12_OutboxPieces.run k0_0 k1_0 k2_0 ⟨rfl, Heap.Le.refl _⟩
end OutboxPiecesRow
theorem outboxPieces_holds : Rows.OutboxPiecesSaid :=
  OpenClaim.holds_of_wide 11 Try.f11 rfl rfl rfl rfl rfl rfl rfl ⟨rfl, rfl, rfl, rfl, rfl⟩ rfl rfl rfl rfl rfl (by kernel_rfl) (by kernel_rfl) (by kernel_rfl)
    (of_decide_eq_true (by kernel_rfl)) (by unfold Func.isWrapper; first | (rw [if_pos (by decide +kernel)]; kernel_rfl) | (rw [if_neg (by decide +kernel)]; exact ⟨rfl, rfl⟩))
    (fun os started H enc _ => OutboxPiecesRow.lifted os started H enc)
end Go.Proofs.Ytjbfpeeigjjbdaa
