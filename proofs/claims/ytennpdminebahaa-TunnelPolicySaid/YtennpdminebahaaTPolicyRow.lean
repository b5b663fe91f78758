/- whatever goes up, the rules say yes to it -/
import Derived.Test.YtennpdminebahaaTuF
import Derived.Test.YtennpdminebahaaRows
import Derived.ProofKit
namespace Go.Proofs.Ytennpdminebahaa
open Go.ChangeShapes Go.WideShapes Go.ChangeAt Go.RowKit Go.Sh
namespace TunnelPolicyRow
theorem own : ownKnob Try.prog.godebug = none := by kernel_rfl
theorem laidOut : laidOutB Try.prog = true := by kernel_rfl
theorem open_38 {H : Type} {enc : TypeId × Value → H} {W : World} {cs : List Value} (h : TrodOk enc Try.prog W 38 cs) : ∃ x0 x1, cs = [(.int .u32 x0), (.int .i64 x1)] ∧ IntKind.u32.has x0 ∧ IntKind.i64.has x1 := by
  have hl := h.len (n := 2) (by kernel_rfl) (by kernel_rfl)
  match cs, hl with
  | [c0, c1], _ =>
    obtain ⟨x0, e0, k0_0⟩ := (h.field (i := 0) (ft := 28) (off := 0) (n := 1) (by kernel_rfl) (by kernel_rfl)).int (k := .u32) (by kernel_rfl)
    have e0 : [c0] = [(.int .u32 x0)] := e0
    cases e0
    obtain ⟨x1, e1, k1_0⟩ := (h.field (i := 1) (ft := 3) (off := 1) (n := 1) (by kernel_rfl) (by kernel_rfl)).int (k := .i64) (by kernel_rfl)
    have e1 : [c1] = [(.int .i64 x1)] := e1
    cases e1
    exact ⟨x0, x1, rfl, k0_0, k1_0⟩
theorem open_40 {H : Type} {enc : TypeId × Value → H} {W : World} {cs : List Value} (h : TrodOk enc Try.prog W 40 cs) : ∃ x0 x1 x2_0 x2_1 x3 x4, cs = [(.bool x0), (.int .i64 x1), (.int .u32 x2_0), (.int .i64 x2_1), (.int .i64 x3), (.int .i64 x4)] ∧ IntKind.i64.has x1 ∧ IntKind.u32.has x2_0 ∧ IntKind.i64.has x2_1 ∧ IntKind.i64.has x3 ∧ IntKind.i64.has x4 := by
  have hl := h.len (n := 6) (by kernel_rfl) (by kernel_rfl)
  match cs, hl with
  | [c0, c1, c2, c3, c4, c5], _ =>
    obtain ⟨x0, e0⟩ := (h.field (i := 0) (ft := 4) (off := 0) (n := 1) (by kernel_rfl) (by kernel_rfl)).bool (by kernel_rfl)
    have e0 : [c0] = [(.bool x0)] := e0
    cases e0
    obtain ⟨x1, e1, k1_0⟩ := (h.field (i := 1) (ft := 3) (off := 1) (n := 1) (by kernel_rfl) (by kernel_rfl)).int (k := .i64) (by kernel_rfl)
    have e1 : [c1] = [(.int .i64 x1)] := e1
    cases e1
    obtain ⟨x2_0, x2_1, e2, k2_0, k2_1⟩ := open_38 (h.field (i := 2) (ft := 38) (off := 2) (n := 2) (by kernel_rfl) (by kernel_rfl))
    have e2 : [c2, c3] = [(.int .u32 x2_0), (.int .i64 x2_1)] := e2
    cases e2
    obtain ⟨x3, e3, k3_0⟩ := (h.field (i := 3) (ft := 3) (off := 4) (n := 1) (by kernel_rfl) (by kernel_rfl)).int (k := .i64) (by kernel_rfl)
    have e3 : [c4] = [(.int .i64 x3)] := e3
    cases e3
    obtain ⟨x4, e4, k4_0⟩ := (h.field (i := 4) (ft := 3) (off := 5) (n := 1) (by kernel_rfl) (by kernel_rfl)).int (k := .i64) (by kernel_rfl)
    have e4 : [c5] = [(.int .i64 x4)] := e4
    cases e4
    exact ⟨x0, x1, x2_0, x2_1, x3, x4, rfl, k1_0, k2_0, k2_1, k3_0, k4_0⟩
theorem open_22 {H : Type} {enc : TypeId × Value → H} {W : World} {cs : List Value} (h : TrodOk enc Try.prog W 22 cs) : ∃ p n c, cs = [.slice p n c] ∧ n ≤ c ∧ c * 48 ≤ reachBytes ∧ ∃ rows, RowsAt (heapOf W) p n 6 rows ∧ ∀ es ∈ rows, ∃ y0 y1 y2_0 y2_1 y3 y4, es = [(.bool y0), (.int .i64 y1), (.int .u32 y2_0), (.int .i64 y2_1), (.int .i64 y3), (.int .i64 y4)] ∧ IntKind.i64.has y1 ∧ IntKind.u32.has y2_0 ∧ IntKind.i64.has y2_1 ∧ IntKind.i64.has y3 ∧ IntKind.i64.has y4 := by
  obtain ⟨p, n, c, rfl, h1, h2, rows, h3, hr⟩ := h.rows (e := 40) (sz := 6) (by_ := 48) (by kernel_rfl) (by kernel_rfl) (by kernel_rfl)
  exact ⟨p, n, c, rfl, h1, h2, rows, h3, fun es he => open_40 (hr es he)⟩
theorem open_44 {H : Type} {enc : TypeId × Value → H} {W : World} {cs : List Value} (h : TrodOk enc Try.prog W 44 cs) : ∃ x0 x1 x2, cs = [(.bool x0), (.int .u32 x1), (.int .i64 x2)] ∧ IntKind.u32.has x1 ∧ IntKind.i64.has x2 := by
  have hl := h.len (n := 3) (by kernel_rfl) (by kernel_rfl)
  match cs, hl with
  | [c0, c1, c2], _ =>
    obtain ⟨x0, e0⟩ := (h.field (i := 0) (ft := 4) (off := 0) (n := 1) (by kernel_rfl) (by kernel_rfl)).bool (by kernel_rfl)
    have e0 : [c0] = [(.bool x0)] := e0
    cases e0
    obtain ⟨x1, e1, k1_0⟩ := (h.field (i := 1) (ft := 28) (off := 1) (n := 1) (by kernel_rfl) (by kernel_rfl)).int (k := .u32) (by kernel_rfl)
    have e1 : [c1] = [(.int .u32 x1)] := e1
    cases e1
    obtain ⟨x2, e2, k2_0⟩ := (h.field (i := 2) (ft := 3) (off := 2) (n := 1) (by kernel_rfl) (by kernel_rfl)).int (k := .i64) (by kernel_rfl)
    have e2 : [c2] = [(.int .i64 x2)] := e2
    cases e2
    exact ⟨x0, x1, x2, rfl, k1_0, k2_0⟩
theorem open_46 {H : Type} {enc : TypeId × Value → H} {W : World} {cs : List Value} (h : TrodOk enc Try.prog W 46 cs) : ∃ x0_0 x0_1 x0_2 x1 x2 x3p x3n x3c, cs = [(.bool x0_0), (.int .u32 x0_1), (.int .i64 x0_2), (.int .u32 x1), (.int .i64 x2), (.slice x3p x3n x3c)] ∧ IntKind.u32.has x0_1 ∧ IntKind.i64.has x0_2 ∧ IntKind.u32.has x1 ∧ IntKind.i64.has x2 ∧ x3n ≤ x3c ∧ x3c * 48 ≤ reachBytes ∧ ∃ rows, RowsAt (heapOf W) x3p x3n 6 rows ∧ ∀ es ∈ rows, ∃ y0 y1 y2_0 y2_1 y3 y4, es = [(.bool y0), (.int .i64 y1), (.int .u32 y2_0), (.int .i64 y2_1), (.int .i64 y3), (.int .i64 y4)] ∧ IntKind.i64.has y1 ∧ IntKind.u32.has y2_0 ∧ IntKind.i64.has y2_1 ∧ IntKind.i64.has y3 ∧ IntKind.i64.has y4 := by
  have hl := h.len (n := 6) (by kernel_rfl) (by kernel_rfl)
  match cs, hl with
  | [c0, c1, c2, c3, c4, c5], _ =>
    obtain ⟨x0_0, x0_1, x0_2, e0, k0_0, k0_1⟩ := open_44 (h.field (i := 0) (ft := 44) (off := 0) (n := 3) (by kernel_rfl) (by kernel_rfl))
    have e0 : [c0, c1, c2] = [(.bool x0_0), (.int .u32 x0_1), (.int .i64 x0_2)] := e0
    cases e0
    obtain ⟨x1, e1, k1_0⟩ := (h.field (i := 1) (ft := 28) (off := 3) (n := 1) (by kernel_rfl) (by kernel_rfl)).int (k := .u32) (by kernel_rfl)
    have e1 : [c3] = [(.int .u32 x1)] := e1
    cases e1
    obtain ⟨x2, e2, k2_0⟩ := (h.field (i := 2) (ft := 3) (off := 4) (n := 1) (by kernel_rfl) (by kernel_rfl)).int (k := .i64) (by kernel_rfl)
    have e2 : [c4] = [(.int .i64 x2)] := e2
    cases e2
    obtain ⟨x3p, x3n, x3c, e3, k3_0, k3_1, k3_2⟩ := open_22 (h.field (i := 3) (ft := 22) (off := 5) (n := 1) (by kernel_rfl) (by kernel_rfl))
    have e3 : [c5] = [(.slice x3p x3n x3c)] := e3
    cases e3
    exact ⟨x0_0, x0_1, x0_2, x1, x2, x3p, x3n, x3c, rfl, k0_0, k0_1, k1_0, k2_0, k3_0, k3_1, k3_2⟩
set_option maxRecDepth 100000 in
theorem lifted (os : Os) (started : os.Started) (H : Type) (enc : TypeId × Value → H) :
    ReturnsInHanded {} Try.checked os 8 .any (Rows.tunnelPolicySpec.pre6 enc Try.prog Try.f8 Rows.tunnelPolicyRow.domain false) (Rows.tunnelPolicySpec.post enc Try.prog Try.f8 false true false false) := by
  refine law_sized (C := Try.checked) (fn := Try.f8) (t := 4) own started (by kernel_rfl) (by kernel_rfl)
    (ChangeSpec.witness6 (enc := enc) (C := Try.checked) false ⟨#[], #[(.agg #[(.bool false), (.int .u32 0), (.int .i64 0), (.int .u32 0), (.int .i64 0), (.slice none 0 0)]), (.string (⟨#[]⟩ : ByteArray))], []⟩ 8 (by kernel_rfl) (by kernel_rfl) (by kernel_rfl) (by kernel_rfl))
    vizardlaw22_TunnelPolicy.ok (by kernel_rfl) (by kernel_rfl) laidOut rfl ?_ ?_ (by kernel_rfl) (by kernel_rfl) ?_
  · intro t ht
    have e : Try.f8.params.toList = [46, 9] := by kernel_rfl
    rw [e] at ht
    have k : ([46, 9] : List TypeId).all (fun t => Try.prog.readableRec t && decide (t < Try.prog.types.size)) = true := by kernel_rfl
    have := List.all_eq_true.1 k t ht
    simp only [Bool.and_eq_true, decide_eq_true_eq] at this
    exact this
  · intro ds hl
    have e : Try.f8.params.toList.length = 2 := by kernel_rfl
    rw [e] at hl
    match ds, hl with
    | [d0, d1], _ => rfl
  · intro W base args hl harg
    have e : Try.f8.params.toList.length = 2 := by kernel_rfl
    rw [e] at hl
    match args, hl with
    | [v0, v1], _ =>
      obtain ⟨cs, rfl, _⟩ := ok_struct (n := 6) (ts := [4, 28, 3, 28, 3, 22]) (by kernel_rfl) (by kernel_rfl) (by kernel_rfl) (harg 0 46 v0 (by kernel_rfl) rfl).1
      have h0 : TrodOk enc Try.prog W 46 cs := (harg 0 46 _ (by kernel_rfl) rfl).2
      obtain ⟨a0_0_0, a0_0_1, a0_0_2, a0_1, a0_2, a0_3p, a0_3n, a0_3c, rfl, k0_0, k0_1, k0_2, k0_3, k0_4, k0_5, k0_6⟩ := open_46 (h0)
      obtain ⟨z, rfl, _⟩ := cell_string (by kernel_rfl) (ok_cell (d := .string) (by kernel_rfl) rfl (harg 1 9 v1 (by kernel_rfl) rfl).1)
      have h1 : TrodOk enc Try.prog W 9 [(.string z)] := (harg 1 9 _ (by kernel_rfl) rfl).2
      obtain ⟨a1, e, k1_0⟩ := (h1).string (by kernel_rfl)
      cases e
      exact vizardlaw22_TunnelPolicy.run k0_0 k0_1 k0_2 k0_3 k0_4 k0_5 k0_6 k1_0 ⟨rfl, Heap.Le.refl _⟩
end TunnelPolicyRow
theorem tunnelPolicy_holds : Rows.TunnelPolicySaid :=
  OpenClaim.holds_of_wide 8 Try.f8 rfl rfl rfl rfl rfl rfl rfl ⟨rfl, rfl, rfl, rfl, rfl⟩ rfl rfl rfl rfl rfl (by kernel_rfl) (by kernel_rfl) (by kernel_rfl)
    (of_decide_eq_true (by kernel_rfl)) (by unfold Func.isWrapper; first | (rw [if_pos (by decide +kernel)]; kernel_rfl) | (rw [if_neg (by decide +kernel)]; exact ⟨rfl, rfl⟩))
    (fun os started H enc _ => TunnelPolicyRow.lifted os started H enc)
end Go.Proofs.Ytennpdminebahaa
