/- InboxDoes: any pieces, resets and reads, in any order, answer what the chapter says; for every input. No condition. -/
import Derived.Test.YtjbfpeeigjjbdaaInboxG
import Derived.Test.YtjbfpeeigjjbdaaRows
import Derived.ProofKit
namespace Go.Proofs.Ytjbfpeeigjjbdaa
open Go.ChangeShapes Go.WideShapes Go.ChangeAt Go.RowKit Go.Sh
namespace InboxDoesRow
theorem own : ownKnob Try.prog.godebug = none := by kernel_rfl
theorem laidOut : laidOutB Try.prog = true := by kernel_rfl
theorem open_60 {H : Type} {enc : TypeId × Value → H} {W : World} {cs : List Value} (h : TrodOk enc Try.prog W 60 cs) : ∃ x0 x1 x2 x3 x4, cs = [(.int .i64 x0), (.int .i64 x1), (.string x2), (.bool x3), (.int .i64 x4)] ∧ IntKind.i64.has x0 ∧ IntKind.i64.has x1 ∧ x2.size ≤ reachBytes ∧ IntKind.i64.has x4 := by
  have hl := h.len (n := 5) (by kernel_rfl) (by kernel_rfl)
  match cs, hl with
  | [c0, c1, c2, c3, c4], _ =>
    obtain ⟨x0, e0, k0_0⟩ := (h.field (i := 0) (ft := 3) (off := 0) (n := 1) (by kernel_rfl) (by kernel_rfl)).int (k := .i64) (by kernel_rfl)
    have e0 : [c0] = [(.int .i64 x0)] := e0
    cases e0
    obtain ⟨x1, e1, k1_0⟩ := (h.field (i := 1) (ft := 2) (off := 1) (n := 1) (by kernel_rfl) (by kernel_rfl)).int (k := .i64) (by kernel_rfl)
    have e1 : [c1] = [(.int .i64 x1)] := e1
    cases e1
    obtain ⟨x2, e2, k2_0⟩ := (h.field (i := 2) (ft := 9) (off := 2) (n := 1) (by kernel_rfl) (by kernel_rfl)).string (by kernel_rfl)
    have e2 : [c2] = [(.string x2)] := e2
    cases e2
    obtain ⟨x3, e3⟩ := (h.field (i := 3) (ft := 4) (off := 3) (n := 1) (by kernel_rfl) (by kernel_rfl)).bool (by kernel_rfl)
    have e3 : [c3] = [(.bool x3)] := e3
    cases e3
    obtain ⟨x4, e4, k4_0⟩ := (h.field (i := 4) (ft := 3) (off := 4) (n := 1) (by kernel_rfl) (by kernel_rfl)).int (k := .i64) (by kernel_rfl)
    have e4 : [c4] = [(.int .i64 x4)] := e4
    cases e4
    exact ⟨x0, x1, x2, x3, x4, rfl, k0_0, k1_0, k2_0, k4_0⟩
theorem open_56 {H : Type} {enc : TypeId × Value → H} {W : World} {cs : List Value} (h : TrodOk enc Try.prog W 56 cs) : ∃ p n c, cs = [.slice p n c] ∧ n ≤ c ∧ c * 48 ≤ reachBytes ∧ ∃ rows, RowsAt (heapOf W) p n 5 rows ∧ ∀ es ∈ rows, ∃ y0 y1 y2 y3 y4, es = [(.int .i64 y0), (.int .i64 y1), (.string y2), (.bool y3), (.int .i64 y4)] ∧ IntKind.i64.has y0 ∧ IntKind.i64.has y1 ∧ y2.size ≤ reachBytes ∧ IntKind.i64.has y4 := by
  obtain ⟨p, n, c, rfl, h1, h2, rows, h3, hr⟩ := h.rows (e := 60) (sz := 5) (by_ := 48) (by kernel_rfl) (by kernel_rfl) (by kernel_rfl)
  exact ⟨p, n, c, rfl, h1, h2, rows, h3, fun es he => open_60 (hr es he)⟩
set_option maxRecDepth 100000 in
theorem lifted (os : Os) (started : os.Started) (H : Type) (enc : TypeId × Value → H) :
    ReturnsInHanded {} Try.checked os 9 .any (Rows.inboxDoesSpec.pre6 enc Try.prog Try.f9 Rows.inboxDoesRow.domain false) (Rows.inboxDoesSpec.post enc Try.prog Try.f9 false true false false) := by
  refine law_sized (C := Try.checked) (fn := Try.f9) (t := 4) own started (by kernel_rfl) (by kernel_rfl)
    (ChangeSpec.witness6 (enc := enc) (C := Try.checked) false ⟨#[], #[(.slice none 0 0)], []⟩ 8 (by kernel_rfl) (by kernel_rfl) (by kernel_rfl) (by kernel_rfl))
    vizardlaw11_InboxDoes.ok (by kernel_rfl) (by kernel_rfl) laidOut rfl ?_ ?_ (by kernel_rfl) (by kernel_rfl) ?_
  · intro t ht
    have e : Try.f9.params.toList = [56] := by kernel_rfl
    rw [e] at ht
    have k : ([56] : List TypeId).all (fun t => Try.prog.readableRec t && decide (t < Try.prog.types.size)) = true := by kernel_rfl
    have := List.all_eq_true.1 k t ht
    simp only [Bool.and_eq_true, decide_eq_true_eq] at this
    exact this
  · intro ds hl
    have e : Try.f9.params.toList.length = 1 := by kernel_rfl
    rw [e] at hl
    match ds, hl with
    | [d0], _ => rfl
  · intro W base args hl harg
    have e : Try.f9.params.toList.length = 1 := by kernel_rfl
    rw [e] at hl
    match args, hl with
    | [v0], _ =>
      obtain ⟨zp, zn, zc, rfl⟩ := cell_slice (e := 60) (by kernel_rfl) (ok_cell (d := (.slice 60)) (by kernel_rfl) rfl (harg 0 56 v0 (by kernel_rfl) rfl).1)
      have h0 : TrodOk enc Try.prog W 56 [(.slice zp zn zc)] := (harg 0 56 _ (by kernel_rfl) rfl).2
      obtain ⟨a0p, a0n, a0c, e, k0_0, k0_1, k0_2⟩ := open_56 (h0)
      cases e
      exact vizardlaw11_InboxDoes.run k0_0 k0_1 k0_2 ⟨rfl, Heap.Le.refl _⟩
end InboxDoesRow
theorem inboxDoes_holds : Rows.InboxDoesSaid :=
  OpenClaim.holds_of_wide 9 Try.f9 rfl rfl rfl rfl rfl rfl rfl ⟨rfl, rfl, rfl, rfl, rfl⟩ rfl rfl rfl rfl rfl (by kernel_rfl) (by kernel_rfl) (by kernel_rfl)
    (of_decide_eq_true (by kernel_rfl)) (by unfold Func.isWrapper; first | (rw [if_pos (by decide +kernel)]; kernel_rfl) | (rw [if_neg (by decide +kernel)]; exact ⟨rfl, rfl⟩))
    (fun os started H enc _ => InboxDoesRow.lifted os started H enc)
end Go.Proofs.Ytjbfpeeigjjbdaa
