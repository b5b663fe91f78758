/- TunnelPacks: any emission is packed, any bytes are unpacked, or refused, as the reference says; each undoes the other; for every input. No condition. -/
import Derived.Test.YtjbfpeeigjjbdaaPacks
import Derived.Test.YtjbfpeeigjjbdaaRows
import Derived.ProofKit
namespace Go.Proofs.Ytjbfpeeigjjbdaa
open Go.ChangeShapes Go.WideShapes Go.ChangeAt Go.RowKit Go.Sh
namespace TunnelPacksRow
theorem own : ownKnob Try.prog.godebug = none := by kernel_rfl
theorem laidOut : laidOutB Try.prog = true := by kernel_rfl
theorem open_30 {H : Type} {enc : TypeId × Value → H} {W : World} {cs : List Value} (h : TrodOk enc Try.prog W 30 cs) : ∃ x0 x1 x2 x3 x4, cs = [(.bool x0), (.int .i64 x1), (.int .u32 x2), (.int .i64 x3), (.string x4)] ∧ IntKind.i64.has x1 ∧ IntKind.u32.has x2 ∧ IntKind.i64.has x3 ∧ x4.size ≤ reachBytes := by
  have hl := h.len (n := 5) (by kernel_rfl) (by kernel_rfl)
  match cs, hl with
  | [c0, c1, c2, c3, c4], _ =>
    obtain ⟨x0, e0⟩ := (h.field (i := 0) (ft := 4) (off := 0) (n := 1) (by kernel_rfl) (by kernel_rfl)).bool (by kernel_rfl)
    have e0 : [c0] = [(.bool x0)] := e0
    cases e0
    obtain ⟨x1, e1, k1_0⟩ := (h.field (i := 1) (ft := 3) (off := 1) (n := 1) (by kernel_rfl) (by kernel_rfl)).int (k := .i64) (by kernel_rfl)
    have e1 : [c1] = [(.int .i64 x1)] := e1
    cases e1
    obtain ⟨x2, e2, k2_0⟩ := (h.field (i := 2) (ft := 22) (off := 2) (n := 1) (by kernel_rfl) (by kernel_rfl)).int (k := .u32) (by kernel_rfl)
    have e2 : [c2] = [(.int .u32 x2)] := e2
    cases e2
    obtain ⟨x3, e3, k3_0⟩ := (h.field (i := 3) (ft := 3) (off := 3) (n := 1) (by kernel_rfl) (by kernel_rfl)).int (k := .i64) (by kernel_rfl)
    have e3 : [c3] = [(.int .i64 x3)] := e3
    cases e3
    obtain ⟨x4, e4, k4_0⟩ := (h.field (i := 4) (ft := 9) (off := 4) (n := 1) (by kernel_rfl) (by kernel_rfl)).string (by kernel_rfl)
    have e4 : [c4] = [(.string x4)] := e4
    cases e4
    exact ⟨x0, x1, x2, x3, x4, rfl, k1_0, k2_0, k3_0, k4_0⟩
set_option maxRecDepth 100000 in
theorem lifted (os : Os) (started : os.Started) (H : Type) (enc : TypeId × Value → H) :
    ReturnsInHanded {} Try.checked os 4 .any (Rows.tunnelPacksSpec.pre6 enc Try.prog Try.f4 Rows.tunnelPacksRow.domain false) (Rows.tunnelPacksSpec.post enc Try.prog Try.f4 false true false false) := by
  refine law_sized (C := Try.checked) (fn := Try.f4) (t := 4) own started (by kernel_rfl) (by kernel_rfl)
    (ChangeSpec.witness6 (enc := enc) (C := Try.checked) false ⟨#[], #[(.agg #[(.bool false), (.int .i64 0), (.int .u32 0), (.int .i64 0), (.string (⟨#[]⟩ : ByteArray))]), (.string (⟨#[]⟩ : ByteArray))], []⟩ 8 (by kernel_rfl) (by kernel_rfl) (by kernel_rfl) (by kernel_rfl))
    vizardlaw22_TunnelPacks.ok (by kernel_rfl) (by kernel_rfl) laidOut rfl ?_ ?_ (by kernel_rfl) (by kernel_rfl) ?_
  · intro t ht
    have e : Try.f4.params.toList = [30, 9] := by kernel_rfl
    rw [e] at ht
    have k : ([30, 9] : List TypeId).all (fun t => Try.prog.readableRec t && decide (t < Try.prog.types.size)) = true := by kernel_rfl
    have := List.all_eq_true.1 k t ht
    simp only [Bool.and_eq_true, decide_eq_true_eq] at this
    exact this
  · intro ds hl
    have e : Try.f4.params.toList.length = 2 := by kernel_rfl
    rw [e] at hl
    match ds, hl with
    | [d0, d1], _ => rfl
  · intro W base args hl harg
    have e : Try.f4.params.toList.length = 2 := by kernel_rfl
    rw [e] at hl
    match args, hl with
    | [v0, v1], _ =>
      obtain ⟨cs, rfl, _⟩ := ok_struct (n := 5) (ts := [4, 3, 22, 3, 9]) (by kernel_rfl) (by kernel_rfl) (by kernel_rfl) (harg 0 30 v0 (by kernel_rfl) rfl).1
      have h0 : TrodOk enc Try.prog W 30 cs := (harg 0 30 _ (by kernel_rfl) rfl).2
      obtain ⟨a0_0, a0_1, a0_2, a0_3, a0_4, rfl, k0_0, k0_1, k0_2, k0_3⟩ := open_30 (h0)
      obtain ⟨z, rfl, _⟩ := cell_string (by kernel_rfl) (ok_cell (d := .string) (by kernel_rfl) rfl (harg 1 9 v1 (by kernel_rfl) rfl).1)
      have h1 : TrodOk enc Try.prog W 9 [(.string z)] := (harg 1 9 _ (by kernel_rfl) rfl).2
      obtain ⟨a1, e, k1_0⟩ := (h1).string (by kernel_rfl)
      cases e
      exact vizardlaw22_TunnelPacks.run k0_0 k0_1 k0_2 k0_3 k1_0 ⟨rfl, Heap.Le.refl _⟩
end TunnelPacksRow
theorem tunnelPacks_holds : Rows.TunnelPacksSaid :=
  OpenClaim.holds_of_wide 4 Try.f4 rfl rfl rfl rfl rfl rfl rfl ⟨rfl, rfl, rfl, rfl, rfl⟩ rfl rfl rfl rfl rfl (by kernel_rfl) (by kernel_rfl) (by kernel_rfl)
    (of_decide_eq_true (by kernel_rfl)) (by unfold Func.isWrapper; first | (rw [if_pos (by decide +kernel)]; kernel_rfl) | (rw [if_neg (by decide +kernel)]; exact ⟨rfl, rfl⟩))
    (fun os started H enc _ => TunnelPacksRow.lifted os started H enc)
end Go.Proofs.Ytjbfpeeigjjbdaa
