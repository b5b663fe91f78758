/- OutboxThere: a text that is written comes whole into an inbox, and its end, whatever is lost of the first pieces; for every input. No condition. -/
import Derived.Test.YtjbfpeeigjjbdaaOutG
import Derived.Test.YtjbfpeeigjjbdaaRows
import Derived.ProofKit
namespace Go.Proofs.Ytjbfpeeigjjbdaa
open Go.ChangeShapes Go.WideShapes Go.ChangeAt Go.RowKit Go.Sh
namespace OutboxThereRow
theorem own : ownKnob Try.prog.godebug = none := by kernel_rfl
theorem laidOut : laidOutB Try.prog = true := by kernel_rfl
theorem open_48 {H : Type} {enc : TypeId × Value → H} {W : World} {cs : List Value} (h : TrodOk enc Try.prog W 48 cs) : ∃ p n c, cs = [.slice p n c] ∧ n ≤ c ∧ c * 8 ≤ reachBytes ∧ ∃ rows, RowsAt (heapOf W) p n 1 rows ∧ ∀ es ∈ rows, ∃ y, es = [(.int .i64 y)] ∧ IntKind.i64.has y := by
  obtain ⟨p, n, c, rfl, h1, h2, rows, h3, hr⟩ := h.rows (e := 3) (sz := 1) (by_ := 8) (by kernel_rfl) (by kernel_rfl) (by kernel_rfl)
  exact ⟨p, n, c, rfl, h1, h2, rows, h3, fun es he => (hr es he).int (k := .i64) (by kernel_rfl)⟩
theorem open_81 {H : Type} {enc : TypeId × Value → H} {W : World} {cs : List Value} (h : TrodOk enc Try.prog W 81 cs) : ∃ p n c, cs = [.slice p n c] ∧ n ≤ c ∧ c * 1 ≤ reachBytes ∧ ∃ rows, RowsAt (heapOf W) p n 1 rows ∧ ∀ es ∈ rows, ∃ y, es = [(.bool y)] := by
  obtain ⟨p, n, c, rfl, h1, h2, rows, h3, hr⟩ := h.rows (e := 4) (sz := 1) (by_ := 1) (by kernel_rfl) (by kernel_rfl) (by kernel_rfl)
  exact ⟨p, n, c, rfl, h1, h2, rows, h3, fun es he => (hr es he).bool (by kernel_rfl)⟩
set_option maxRecDepth 100000 in
theorem lifted (os : Os) (started : os.Started) (H : Type) (enc : TypeId × Value → H) :
    ReturnsInHanded {} Try.checked os 12 .any (Rows.outboxThereSpec.pre6 enc Try.prog Try.f12 Rows.outboxThereRow.domain false) (Rows.outboxThereSpec.post enc Try.prog Try.f12 false true false false) := by
  refine law_sized (C := Try.checked) (fn := Try.f12) (t := 4) own started (by kernel_rfl) (by kernel_rfl)
    (ChangeSpec.witness6 (enc := enc) (C := Try.checked) false ⟨#[], #[(.string (⟨#[]⟩ : ByteArray)), (.slice none 0 0), (.slice none 0 0), (.slice none 0 0)], []⟩ 8 (by kernel_rfl) (by kernel_rfl) (by kernel_rfl) (by kernel_rfl))
    vizardlaw12_OutboxThere.ok (by kernel_rfl) (by kernel_rfl) laidOut rfl ?_ ?_ (by kernel_rfl) (by kernel_rfl) ?_
  · intro t ht
    have e : Try.f12.params.toList = [9, 48, 81, 81] := by kernel_rfl
    rw [e] at ht
    have k : ([9, 48, 81, 81] : List TypeId).all (fun t => Try.prog.readableRec t && decide (t < Try.prog.types.size)) = true := by kernel_rfl
    have := List.all_eq_true.1 k t ht
    simp only [Bool.and_eq_true, decide_eq_true_eq] at this
    exact this
  · intro ds hl
    have e : Try.f12.params.toList.length = 4 := by kernel_rfl
    rw [e] at hl
    match ds, hl with
    | [d0, d1, d2, d3], _ => rfl
  · intro W base args hl harg
    have e : Try.f12.params.toList.length = 4 := by kernel_rfl
    rw [e] at hl
    match args, hl with
    | [v0, v1, v2, v3], _ =>
      obtain ⟨z, rfl, _⟩ := cell_string (by kernel_rfl) (ok_cell (d := .string) (by kernel_rfl) rfl (harg 0 9 v0 (by kernel_rfl) rfl).1)
      have h0 : TrodOk enc Try.prog W 9 [(.string z)] := (harg 0 9 _ (by kernel_rfl) rfl).2
      obtain ⟨a0, e, k0_0⟩ := (h0).string (by kernel_rfl)
      cases e
      obtain ⟨zp, zn, zc, rfl⟩ := cell_slice (e := 3) (by kernel_rfl) (ok_cell (d := (.slice 3)) (by kernel_rfl) rfl (harg 1 48 v1 (by kernel_rfl) rfl).1)
      have h1 : TrodOk enc Try.prog W 48 [(.slice zp zn zc)] := (harg 1 48 _ (by kernel_rfl) rfl).2
      obtain ⟨a1p, a1n, a1c, e, k1_0, k1_1, k1_2⟩ := open_48 (h1)
      cases e
      obtain ⟨zp, zn, zc, rfl⟩ := cell_slice (e := 4) (by kernel_rfl) (ok_cell (d := (.slice 4)) (by kernel_rfl) rfl (harg 2 81 v2 (by kernel_rfl) rfl).1)
      have h2 : TrodOk enc Try.prog W 81 [(.slice zp zn zc)] := (harg 2 81 _ (by kernel_rfl) rfl).2
      obtain ⟨a2p, a2n, a2c, e, k2_0, k2_1, k2_2⟩ := open_81 (h2)
      cases e
      obtain ⟨zp, zn, zc, rfl⟩ := cell_slice (e := 4) (by kernel_rfl) (ok_cell (d := (.slice 4)) (by kernel_rfl) rfl (harg 3 81 v3 (by kernel_rfl) rfl).1)
      have h3 : TrodOk enc Try.prog W 81 [(.slice zp zn zc)] := (harg 3 81 _ (by kernel_rfl) rfl).2
      obtain ⟨a3p, a3n, a3c, e, k3_0, k3_1, k3_2⟩ := open_81 (h3)
      cases e
      exact vizardlaw12_OutboxThere.run k0_0 k1_0 k1_1 k1_2 k2_0 k2_1 k2_2 k3_0 k3_1 k3_2 ⟨rfl, Heap.Le.refl _⟩
end OutboxThereRow
theorem outboxThere_holds : Rows.OutboxThereSaid :=
  OpenClaim.holds_of_wide 12 Try.f12 rfl rfl rfl rfl rfl rfl rfl ⟨rfl, rfl, rfl, rfl, rfl⟩ rfl rfl rfl rfl rfl (by kernel_rfl) (by kernel_rfl) (by kernel_rfl)
    (of_decide_eq_true (by kernel_rfl)) (by unfold Func.isWrapper; first | (rw [if_pos (by decide +kernel)]; kernel_rfl) | (rw [if_neg (by decide +kernel)]; exact ⟨rfl, rfl⟩))
    (fun os started H enc _ => OutboxThereRow.lifted os started H enc)
end Go.Proofs.Ytjbfpeeigjjbdaa
