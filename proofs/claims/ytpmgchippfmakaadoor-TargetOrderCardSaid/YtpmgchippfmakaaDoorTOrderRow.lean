/- fields may stand in any order -/
import Derived.Test.YtpmgchippfmakaaDoorTgd
import Derived.Test.YtpmgchippfmakaaDoorRows
import Derived.Test.YtpmgchippfmakaaDoorCards
import Derived.Test.YtpmgchippfmakaaDoorTie
import Derived.ProofKit
import Derived.SevenTiedAt
import Derived.LaidMore
import Derived.Lay
import Derived.OpenShut
import Derived.Stop.Joined
namespace Go.Proofs.YtpmgchippfmakaaDoor
open Go.ChangeShapes Go.WideShapes Go.ChangeAt Go.RowKit Go.Sh
namespace TargetOrderRow
theorem own : ownKnob Tryd.prog.godebug = none := by kernel_rfl
theorem laidOut : laidOutB Tryd.prog = true := by kernel_rfl
theorem open_24 {H : Type} {enc : TypeId × Value → H} {W : World} {cs : List Value} (h : TrodOk enc Tryd.prog W 24 cs) : ∃ x0 x1 x2, cs = [(.bool x0), (.int .u32 x1), (.int .i64 x2)] ∧ IntKind.u32.has x1 ∧ IntKind.i64.has x2 := by
  have hl := h.len (n := 3) (by kernel_rfl) (by kernel_rfl)
  match cs, hl with
  | [c0, c1, c2], _ =>
    obtain ⟨x0, e0⟩ := (h.field (i := 0) (ft := 4) (off := 0) (n := 1) (by kernel_rfl) (by kernel_rfl)).bool (by kernel_rfl)
    have e0 : [c0] = [(.bool x0)] := e0
    cases e0
    obtain ⟨x1, e1, k1_0⟩ := (h.field (i := 1) (ft := 22) (off := 1) (n := 1) (by kernel_rfl) (by kernel_rfl)).int (k := .u32) (by kernel_rfl)
    have e1 : [c1] = [(.int .u32 x1)] := e1
    cases e1
    obtain ⟨x2, e2, k2_0⟩ := (h.field (i := 2) (ft := 3) (off := 2) (n := 1) (by kernel_rfl) (by kernel_rfl)).int (k := .i64) (by kernel_rfl)
    have e2 : [c2] = [(.int .i64 x2)] := e2
    cases e2
    exact ⟨x0, x1, x2, rfl, k1_0, k2_0⟩
def laid : List (String × DataW Unit) := [("math/bits.deBruijn32tab", Rows.laid_math_bits_deBruijn32tab), ("math/bits.deBruijn64tab", Rows.laid_math_bits_deBruijn64tab), ("internal/strconv.uint64pow10", Rows.laid_internal_strconv_uint64pow10), ("unicode/utf8.acceptRanges", Rows.laid_unicode_utf8_acceptRanges), ("strconv.ErrRange", Rows.laid_strconv_ErrRange), ("strconv.ErrSyntax", Rows.laid_strconv_ErrSyntax), ("unicode/utf8.first", Rows.laid_unicode_utf8_first)]
theorem met_plain {P : Program} {l : List (String × DataW Unit)} {w : World} (hp : (l.filter fun x => x.2.handleName?.isSome) = []) (h : laidMet P l w) : laidMetH P l w := by
  unfold laidMetH
  rw [hp]
  exact h
set_option maxRecDepth 100000 in
theorem door_met (os : Os) (args : Array Value) : laidMetH Tryd.prog laid ((World.laidAll Tryd.prog os laid).forCall (fun _ _ => 0) ⟨#[], args, []⟩).memory :=
  met_plain (by kernel_rfl) (laidMet_laidAll _ (by kernel_rfl) (by kernel_rfl))
set_option maxRecDepth 100000 in
theorem lifted (os : Os) (started : os.Started) (H : Type) (enc : TypeId × Value → H) :
    ReturnsInHanded {} Tryd.checked os 7 .any (fun w args => (Rows.targetOrderSpec.pre enc Tryd.prog Tryd.f7 Rows.targetOrderRow.domain false w args ∧ laidMetH Tryd.prog laid w) ∧ sizedMet enc Tryd.prog Tryd.f7 (OpenSpec.ofChange Rows.targetOrderSpec) false w args) (Rows.targetOrderSpec.post enc Tryd.prog Tryd.f7 false true false false) := by
  refine law_laid (laid := laid) (C := Tryd.checked) (fn := Tryd.f7) (t := 4) own started (by kernel_rfl) (by kernel_rfl)
    (ChangeSpec.witness_shaped (enc := enc) (C := Tryd.checked) (os := os) (X := fun w _ => laidMetH Tryd.prog laid w) false (World.laidAll Tryd.prog os laid) #[(.agg #[(.bool false), (.int .u32 0), (.int .i64 0)]), (.int .i64 0), (.int .i64 0)] 8 (World.laidAll_os _ _ _) (World.shaped_of_ZipB (by kernel_rfl) (by kernel_rfl)) (by kernel_rfl) (by kernel_rfl) (by kernel_rfl) (door_met os _))
    vizardlaw17_TargetOrder.ok (by kernel_rfl) (by kernel_rfl) laidOut rfl ?_ ?_ (by kernel_rfl) (by kernel_rfl) ?_
  · intro t ht
    have e : Tryd.f7.params.toList = [24, 3, 3] := by kernel_rfl
    rw [e] at ht
    have k : ([24, 3, 3] : List TypeId).all (fun t => Tryd.prog.readableRec t && decide (t < Tryd.prog.types.size)) = true := by kernel_rfl
    have := List.all_eq_true.1 k t ht
    simp only [Bool.and_eq_true, decide_eq_true_eq] at this
    exact this
  · intro ds hl
    have e : Tryd.f7.params.toList.length = 3 := by kernel_rfl
    rw [e] at hl
    match ds, hl with
    | [d0, d1, d2], _ => rfl
  · intro W base args hlaid hl harg
    have e : Tryd.f7.params.toList.length = 3 := by kernel_rfl
    rw [e] at hl
    match args, hl with
    | [v0, v1, v2], _ =>
      obtain ⟨cs, rfl, _⟩ := ok_struct (n := 3) (ts := [4, 22, 3]) (by kernel_rfl) (by kernel_rfl) (by kernel_rfl) (harg 0 24 v0 (by kernel_rfl) rfl).1
      have h0 : TrodOk enc Tryd.prog W 24 cs := (harg 0 24 _ (by kernel_rfl) rfl).2
      obtain ⟨a0_0, a0_1, a0_2, rfl, k0_0, k0_1⟩ := open_24 (h0)
      obtain ⟨z, rfl, _⟩ := cell_int (k := .i64) (by kernel_rfl) (ok_cell (d := (.int .i64)) (by kernel_rfl) rfl (harg 1 3 v1 (by kernel_rfl) rfl).1)
      have h1 : TrodOk enc Tryd.prog W 3 [(.int .i64 z)] := (harg 1 3 _ (by kernel_rfl) rfl).2
      obtain ⟨a1, e, k1_0⟩ := (h1).int (k := .i64) (by kernel_rfl)
      cases e
      obtain ⟨z, rfl, _⟩ := cell_int (k := .i64) (by kernel_rfl) (ok_cell (d := (.int .i64)) (by kernel_rfl) rfl (harg 2 3 v2 (by kernel_rfl) rfl).1)
      have h2 : TrodOk enc Tryd.prog W 3 [(.int .i64 z)] := (harg 2 3 _ (by kernel_rfl) rfl).2
      obtain ⟨a2, e, k2_0⟩ := (h2).int (k := .i64) (by kernel_rfl)
      cases e
      exact vizardlaw17_TargetOrder.run (vizardlaw17_TargetOrder.laid hlaid) k0_0 k0_1 k1_0 k2_0 ⟨rfl, Heap.Le.refl _⟩
end TargetOrderRow
theorem targetOrder_holds : Rows.TargetOrderSaid :=
  OpenClaim.holds_of_wide 7 Tryd.f7 rfl rfl rfl rfl rfl rfl rfl ⟨rfl, rfl, rfl, rfl, rfl⟩ rfl rfl rfl rfl rfl (by kernel_rfl) (by kernel_rfl) (by kernel_rfl)
    (of_decide_eq_true (by kernel_rfl)) (by unfold Func.isWrapper; first | (rw [if_pos (by decide +kernel)]; kernel_rfl) | (rw [if_neg (by decide +kernel)]; exact ⟨rfl, rfl⟩))
    (fun os started H enc _ => TargetOrderRow.lifted os started H enc)
theorem targetOrderCard_holds : Rows.TargetOrderCardSaid :=
  Claim7.holds_tied_plain_at .later [] [.data, .data, .data, .data, .sentinel, .sentinel, .pinned] true (true, "a68edfe205576e17ced6331a05e252b1f68488cc1f2ad69c2af1ac63b606be4e") true
    targetOrder_holds (fun _ h => by cases h) (by kernel_rfl) (fun _ h => by cases h) targetOrder_row_tie rfl ⟨rfl, rfl⟩ (by kernel_rfl) rfl
    (fun f fn hf hfn => by
      obtain rfl : f = 7 := Option.some.inj ((show Tryd.prog.funcNamed "vizard/vizardlaw17.TargetOrder" = some 7 by kernel_rfl).symm.trans hf) |>.symm
      have hfn : Tryd.prog.funcs[7]? = some fn := hfn
      have hf2 : Tryd.prog.funcs[7]? = some Tryd.f7 := by kernel_rfl
      obtain rfl : fn = Tryd.f7 := (Option.some.inj (hf2.symm.trans hfn)).symm
      exact ⟨by kernel_rfl, fun j t ht => by
        have ep : Tryd.f7.params.toList = [24, 3, 3] := by kernel_rfl
        have hm : t ∈ ([24, 3, 3] : List TypeId) := by
          rw [← ep]
          simpa using Array.mem_of_getElem? ht
        have hall : (([24, 3, 3] : List TypeId).all fun u => !Tryd.prog.wantsStandIn u) = true := by kernel_rfl
        exact (show Tryd.prog.wantsStandIn t = false by simpa using List.all_eq_true.1 hall t hm)⟩)
    (by kernel_rfl)
end Go.Proofs.YtpmgchippfmakaaDoor
