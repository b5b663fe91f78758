/- InboxWhole: pieces of a text, in any order, however often, with reads between, give a beginning of it, and in the end all of it; for every input. No condition. -/
import Derived.Test.YtjbfpeeigjjbdaaInboxH
import Derived.Test.YtjbfpeeigjjbdaaRows
import Derived.ProofKit
namespace Go.Proofs.Ytjbfpeeigjjbdaa
open Go.ChangeShapes Go.WideShapes Go.ChangeAt Go.RowKit Go.Sh
namespace InboxWholeRow
theorem own : ownKnob Try.prog.godebug = none := by kernel_rfl
theorem laidOut : laidOutB Try.prog = true := by kernel_rfl
theorem open_50 {H : Type} {enc : TypeId × Value → H} {W : World} {cs : List Value} (h : TrodOk enc Try.prog W 50 cs) : ∃ x0 x1, cs = [(.int .i64 x0), (.int .i64 x1)] ∧ IntKind.i64.has x0 ∧ IntKind.i64.has x1 := by
  have hl := h.len (n := 2) (by kernel_rfl) (by kernel_rfl)
  match cs, hl with
  | [c0, c1], _ =>
    obtain ⟨x0, e0, k0_0⟩ := (h.field (i := 0) (ft := 3) (off := 0) (n := 1) (by kernel_rfl) (by kernel_rfl)).int (k := .i64) (by kernel_rfl)
    have e0 : [c0] = [(.int .i64 x0)] := e0
    cases e0
    obtain ⟨x1, e1, k1_0⟩ := (h.field (i := 1) (ft := 3) (off := 1) (n := 1) (by kernel_rfl) (by kernel_rfl)).int (k := .i64) (by kernel_rfl)
    have e1 : [c1] = [(.int .i64 x1)] := e1
    cases e1
    exact ⟨x0, x1, rfl, k0_0, k1_0⟩
theorem open_47 {H : Type} {enc : TypeId × Value → H} {W : World} {cs : List Value} (h : TrodOk enc Try.prog W 47 cs) : ∃ p n c, cs = [.slice p n c] ∧ n ≤ c ∧ c * 16 ≤ reachBytes ∧ ∃ rows, RowsAt (heapOf W) p n 2 rows ∧ ∀ es ∈ rows, ∃ y0 y1, es = [(.int .i64 y0), (.int .i64 y1)] ∧ IntKind.i64.has y0 ∧ IntKind.i64.has y1 := by
  obtain ⟨p, n, c, rfl, h1, h2, rows, h3, hr⟩ := h.rows (e := 50) (sz := 2) (by_ := 16) (by kernel_rfl) (by kernel_rfl) (by kernel_rfl)
  exact ⟨p, n, c, rfl, h1, h2, rows, h3, fun es he => open_50 (hr es he)⟩
theorem open_48 {H : Type} {enc : TypeId × Value → H} {W : World} {cs : List Value} (h : TrodOk enc Try.prog W 48 cs) : ∃ p n c, cs = [.slice p n c] ∧ n ≤ c ∧ c * 8 ≤ reachBytes ∧ ∃ rows, RowsAt (heapOf W) p n 1 rows ∧ ∀ es ∈ rows, ∃ y, es = [(.int .i64 y)] ∧ IntKind.i64.has y := by
  obtain ⟨p, n, c, rfl, h1, h2, rows, h3, hr⟩ := h.rows (e := 3) (sz := 1) (by_ := 8) (by kernel_rfl) (by kernel_rfl) (by kernel_rfl)
  exact ⟨p, n, c, rfl, h1, h2, rows, h3, fun es he => (hr es he).int (k := .i64) (by kernel_rfl)⟩
set_option maxRecDepth 100000 in
theorem lifted (os : Os) (started : os.Started) (H : Type) (enc : TypeId × Value → H) :
    ReturnsInHanded {} Try.checked os 7 .any (Rows.inboxWholeSpec.pre6 enc Try.prog Try.f7 Rows.inboxWholeRow.domain false) (Rows.inboxWholeSpec.post enc Try.prog Try.f7 false true false false) := by
  refine law_sized (C := Try.checked) (fn := Try.f7) (t := 4) own started (by kernel_rfl) (by kernel_rfl)
    (ChangeSpec.witness6 (enc := enc) (C := Try.checked) false ⟨#[], #[(.string (⟨#[]⟩ : ByteArray)), (.slice none 0 0), (.slice none 0 0)], []⟩ 8 (by kernel_rfl) (by kernel_rfl) (by kernel_rfl) (by kernel_rfl))
    vizardlaw11_InboxWhole.ok (by kernel_rfl) (by kernel_rfl) laidOut rfl ?_ ?_ (by kernel_rfl) (by kernel_rfl) ?_
  · intro t ht
    have e : Try.f7.params.toList = [9, 47, 48] := by kernel_rfl
    rw [e] at ht
    have k : ([9, 47, 48] : List TypeId).all (fun t => Try.prog.readableRec t && decide (t < Try.prog.types.size)) = true := by kernel_rfl
    have := List.all_eq_true.1 k t ht
    simp only [Bool.and_eq_true, decide_eq_true_eq] at this
    exact this
  · intro ds hl
    have e : Try.f7.params.toList.length = 3 := by kernel_rfl
    rw [e] at hl
    match ds, hl with
    | [d0, d1, d2], _ => rfl
  · intro W base args hl harg
    have e : Try.f7.params.toList.length = 3 := by kernel_rfl
    rw [e] at hl
    match args, hl with
    | [v0, v1, v2], _ =>
      obtain ⟨z, rfl, _⟩ := cell_string (by kernel_rfl) (ok_cell (d := .string) (by kernel_rfl) rfl (harg 0 9 v0 (by kernel_rfl) rfl).1)
      have h0 : TrodOk enc Try.prog W 9 [(.string z)] := (harg 0 9 _ (by kernel_rfl) rfl).2
      obtain ⟨a0, e, k0_0⟩ := (h0).string (by kernel_rfl)
      cases e
      obtain ⟨zp, zn, zc, rfl⟩ := cell_slice (e := 50) (by kernel_rfl) (ok_cell (d := (.slice 50)) (by kernel_rfl) rfl (harg 1 47 v1 (by kernel_rfl) rfl).1)
      have h1 : TrodOk enc Try.prog W 47 [(.slice zp zn zc)] := (harg 1 47 _ (by kernel_rfl) rfl).2
      obtain ⟨a1p, a1n, a1c, e, k1_0, k1_1, k1_2⟩ := open_47 (h1)
      cases e
      obtain ⟨zp, zn, zc, rfl⟩ := cell_slice (e := 3) (by kernel_rfl) (ok_cell (d := (.slice 3)) (by kernel_rfl) rfl (harg 2 48 v2 (by kernel_rfl) rfl).1)
      have h2 : TrodOk enc Try.prog W 48 [(.slice zp zn zc)] := (harg 2 48 _ (by kernel_rfl) rfl).2
      obtain ⟨a2p, a2n, a2c, e, k2_0, k2_1, k2_2⟩ := open_48 (h2)
      cases e
      exact vizardlaw11_InboxWhole.run k0_0 k1_0 k1_1 k1_2 k2_0 k2_1 k2_2 ⟨rfl, Heap.Le.refl _⟩
end InboxWholeRow
theorem inboxWhole_holds : Rows.InboxWholeSaid :=
  OpenClaim.holds_of_wide 7 Try.f7 rfl rfl rfl rfl rfl rfl rfl ⟨rfl, rfl, rfl, rfl, rfl⟩ rfl rfl rfl rfl rfl (by kernel_rfl) (by kernel_rfl) (by kernel_rfl)
    (of_decide_eq_true (by kernel_rfl)) (by unfold Func.isWrapper; first | (rw [if_pos (by decide +kernel)]; kernel_rfl) | (rw [if_neg (by decide +kernel)]; exact ⟨rfl, rfl⟩))
    (fun os started H enc _ => InboxWholeRow.lifted os started H enc)
end Go.Proofs.Ytjbfpeeigjjbdaa
