/- PrefixHas: of any prefix it is told whether it is right, which addresses are in it, and its ends, as the reference says; for every input. No condition. -/
import Derived.Test.YtjbfpeeigjjbdaaPHas
import Derived.Test.YtjbfpeeigjjbdaaRows
import Derived.ProofKit
namespace Go.Proofs.Ytjbfpeeigjjbdaa
open Go.ChangeShapes Go.WideShapes Go.ChangeAt Go.RowKit Go.Sh
theorem Try.own : ownKnob Try.prog.godebug = none := by kernel_rfl
theorem Try.laidOut : laidOutB Try.prog = true := by kernel_rfl
theorem open_prefix {W : World} {r : Reach} {b0 : Nat} {v : Value} (h : Value.okWide Try.prog W r b0 24 v) : ∃ a b, v = .agg #[.int .u32 a, .int .i64 b] ∧ IntKind.u32.has a ∧ IntKind.i64.has b := by
  obtain ⟨cs, rfl, hl, hc⟩ := ok_struct (n := 2) (ts := [22, 3]) (by kernel_rfl) (by kernel_rfl) (by kernel_rfl) h
  match cs, hl with
  | [c0, c1], _ =>
    obtain ⟨u, hu, h0⟩ := hc 0 c0 rfl
    cases hu
    obtain ⟨a, rfl, ha⟩ := cell_int (k := .u32) (by kernel_rfl) h0
    obtain ⟨u, hu, h1⟩ := hc 1 c1 rfl
    cases hu
    obtain ⟨b, rfl, hb⟩ := cell_int (k := .i64) (by kernel_rfl) h1
    exact ⟨a, b, rfl, ha, hb⟩
set_option maxRecDepth 100000 in
theorem prefixHas_lifted (os : Os) (started : os.Started) (H : Type) (enc : TypeId × Value → H) :
    ReturnsInHanded {} Try.checked os 3 .any (Rows.prefixHasSpec.pre6 enc Try.prog Try.f3 Rows.prefixHasRow.domain false) (Rows.prefixHasSpec.post enc Try.prog Try.f3 false true false false) := by
  refine law_lifted (C := Try.checked) (fn := Try.f3) (t := 4) Try.own started (by kernel_rfl) (by kernel_rfl)
    (ChangeSpec.witness6 (enc := enc) (C := Try.checked) false ⟨#[], #[.agg #[.int .u32 0, .int .i64 0], .int .u32 0], []⟩ 8 (by kernel_rfl) (by kernel_rfl) (by kernel_rfl) (by kernel_rfl))
    vizardlaw04_PrefixHas.ok (by kernel_rfl) (by kernel_rfl) Try.laidOut rfl ?_ ?_ (by kernel_rfl) (by kernel_rfl) ?_
  · intro t ht
    have e : Try.f3.params.toList = [24, 22] := by kernel_rfl
    rw [e] at ht
    have k : ([24, 22] : List TypeId).all (fun t => Try.prog.readableRec t && decide (t < Try.prog.types.size)) = true := by kernel_rfl
    have := List.all_eq_true.1 k t ht
    simp only [Bool.and_eq_true, decide_eq_true_eq] at this
    exact this
  · intro ds hl
    have e : Try.f3.params.toList.length = 2 := by kernel_rfl
    rw [e] at hl
    match ds, hl with
    | [d0, d1], _ => rfl
  · intro W base args ds ps hval hA _
    have hl := trodAll_vlen hA
    have e : Try.f3.params.toList.length = 2 := by kernel_rfl
    rw [e] at hl
    obtain ⟨args⟩ := args
    match args, hl with
    | [v0, v1], _ =>
      obtain ⟨a, b, rfl, ha, hb⟩ := open_prefix (hval 0 24 v0 (by kernel_rfl) rfl)
      obtain ⟨c, rfl, hc⟩ := cell_int (k := .u32) (by kernel_rfl) (ok_cell (d := .int .u32) (by kernel_rfl) rfl (hval 1 22 v1 (by kernel_rfl) rfl))
      have ha := has_u32 ha
      have hc := has_u32 hc
      exact vizardlaw04_PrefixHas.run (p := a) (b := b) (a := c) ha.1 (by omega) hc.1 (by omega) ⟨rfl, Heap.Le.refl _⟩
theorem prefixHas_holds : Rows.PrefixHasSaid :=
  OpenClaim.holds_of_wide 3 Try.f3 rfl rfl rfl rfl rfl rfl rfl ⟨rfl, rfl, rfl, rfl, rfl⟩ rfl rfl rfl rfl rfl (by kernel_rfl) (by kernel_rfl) (by kernel_rfl)
    (of_decide_eq_true (by kernel_rfl)) (by unfold Func.isWrapper; first | (rw [if_pos (by decide +kernel)]; kernel_rfl) | (rw [if_neg (by decide +kernel)]; exact ⟨rfl, rfl⟩))
    (fun os started H enc _ => prefixHas_lifted os started H enc)
end Go.Proofs.Ytjbfpeeigjjbdaa
