/- InboxFlow: what was read lets as much more come: bytes up to the limit are taken, one beyond it is not; for every input. No condition. -/
import Derived.Test.YtjbfpeeigjjbdaaInboxE
import Derived.Test.YtjbfpeeigjjbdaaRows
import Derived.ProofKit
namespace Go.Proofs.Ytjbfpeeigjjbdaa
open Go.ChangeShapes Go.WideShapes Go.ChangeAt Go.RowKit Go.Sh
namespace InboxFlowRow
theorem own : ownKnob Try.prog.godebug = none := by kernel_rfl
theorem laidOut : laidOutB Try.prog = true := by kernel_rfl
theorem open_48 {H : Type} {enc : TypeId × Value → H} {W : World} {cs : List Value} (h : TrodOk enc Try.prog W 48 cs) : ∃ p n c, cs = [.slice p n c] ∧ n ≤ c ∧ c * 8 ≤ reachBytes ∧ ∃ rows, RowsAt (heapOf W) p n 1 rows ∧ ∀ es ∈ rows, ∃ y, es = [(.int .i64 y)] ∧ IntKind.i64.has y := by
  obtain ⟨p, n, c, rfl, h1, h2, rows, h3, hr⟩ := h.rows (e := 3) (sz := 1) (by_ := 8) (by kernel_rfl) (by kernel_rfl) (by kernel_rfl)
  exact ⟨p, n, c, rfl, h1, h2, rows, h3, fun es he => (hr es he).int (k := .i64) (by kernel_rfl)⟩
set_option maxRecDepth 100000 in
theorem lifted (os : Os) (started : os.Started) (H : Type) (enc : TypeId × Value → H) :
    ReturnsInHanded {} Try.checked os 8 .any (Rows.inboxFlowSpec.pre6 enc Try.prog Try.f8 Rows.inboxFlowRow.domain false) (Rows.inboxFlowSpec.post enc Try.prog Try.f8 false true false false) := by
  refine law_sized (C := Try.checked) (fn := Try.f8) (t := 4) own started (by kernel_rfl) (by kernel_rfl)
    (ChangeSpec.witness6 (enc := enc) (C := Try.checked) false ⟨#[], #[(.slice none 0 0)], []⟩ 8 (by kernel_rfl) (by kernel_rfl) (by kernel_rfl) (by kernel_rfl))
    vizardlaw11_InboxFlow.ok (by kernel_rfl) (by kernel_rfl) laidOut rfl ?_ ?_ (by kernel_rfl) (by kernel_rfl) ?_
  · intro t ht
    have e : Try.f8.params.toList = [48] := by kernel_rfl
    rw [e] at ht
    have k : ([48] : List TypeId).all (fun t => Try.prog.readableRec t && decide (t < Try.prog.types.size)) = true := by kernel_rfl
    have := List.all_eq_true.1 k t ht
    simp only [Bool.and_eq_true, decide_eq_true_eq] at this
    exact this
  · intro ds hl
    have e : Try.f8.params.toList.length = 1 := by kernel_rfl
    rw [e] at hl
    match ds, hl with
    | [d0], _ => rfl
  · intro W base args hl harg
    have e : Try.f8.params.toList.length = 1 := by kernel_rfl
    rw [e] at hl
    match args, hl with
    | [v0], _ =>
      obtain ⟨zp, zn, zc, rfl⟩ := cell_slice (e := 3) (by kernel_rfl) (ok_cell (d := (.slice 3)) (by kernel_rfl) rfl (harg 0 48 v0 (by kernel_rfl) rfl).1)
      have h0 : TrodOk enc Try.prog W 48 [(.slice zp zn zc)] := (harg 0 48 _ (by kernel_rfl) rfl).2
      obtain ⟨a0p, a0n, a0c, e, k0_0, k0_1, k0_2⟩ := open_48 (h0)
      cases e
      exact vizardlaw11_InboxFlow.run k0_0 k0_1 k0_2 ⟨rfl, Heap.Le.refl _⟩
end InboxFlowRow
theorem inboxFlow_holds : Rows.InboxFlowSaid :=
  OpenClaim.holds_of_wide 8 Try.f8 rfl rfl rfl rfl rfl rfl rfl ⟨rfl, rfl, rfl, rfl, rfl⟩ rfl rfl rfl rfl rfl (by kernel_rfl) (by kernel_rfl) (by kernel_rfl)
    (of_decide_eq_true (by kernel_rfl)) (by unfold Func.isWrapper; first | (rw [if_pos (by decide +kernel)]; kernel_rfl) | (rw [if_neg (by decide +kernel)]; exact ⟨rfl, rfl⟩))
    (fun os started H enc _ => InboxFlowRow.lifted os started H enc)
end Go.Proofs.Ytjbfpeeigjjbdaa
