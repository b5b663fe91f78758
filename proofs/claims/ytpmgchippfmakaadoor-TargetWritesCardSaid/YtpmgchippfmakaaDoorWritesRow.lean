/- paths and fields of any target are written as the chapter says -/
import Derived.Test.YtpmgchippfmakaaDoorTgA
import Derived.Test.YtpmgchippfmakaaDoorRows
import Derived.Test.YtpmgchippfmakaaDoorCards
import Derived.Test.YtpmgchippfmakaaDoorTie
import Derived.ProofKit
import Derived.SevenTiedAt
import Derived.LaidMore
import Derived.OpenShut
import Derived.Stop.Joined
namespace Go.Proofs.YtpmgchippfmakaaDoor
open Go.ChangeShapes Go.WideShapes Go.ChangeAt Go.RowKit Go.Sh
namespace TargetWritesRow
theorem own : ownKnob Tryd.prog.godebug = none := by kernel_rfl
theorem laidOut : laidOutB Tryd.prog = true := by kernel_rfl
theorem open_24 {H : Type} {enc : TypeId × Value → H} {W : World} {cs : List Value} (h : TrodOk enc Tryd.prog W 24 cs) : ∃ x0 x1 x2, cs = [(.bool x0), (.int .u32 x1), (.int .i64 x2)] ∧ IntKind.u32.has x1 ∧ IntKind.i64.has x2 := by
  have hl := h.len (n := 3) (by kernel_rfl) (by kernel_rfl)
  match cs, hl with
  | [c0, c1, c2], _ =>
    obtain ⟨x0, e0⟩ := (h.field (i := 0) (ft := 4) (off := 0) (n := 1) (by kernel_rfl) (by kernel_rfl)).bool (by kernel_rfl)
    have e0 : [c0] = [(.bool x0)] := e0
    cases e0
    obtain ⟨x1, e1, k1_0⟩ := (h.field (i := 1) (ft := 22) (off := 1) (n := 1) (by kernel_rfl) (by kernel_rfl)).int (k := .u32) (by kernel_rfl)
    have e1 : [c1] = [(.int .u32 x1)] := e1
    cases e1
    obtain ⟨x2, e2, k2_0⟩ := (h.field (i := 2) (ft := 3) (off := 2) (n := 1) (by kernel_rfl) (by kernel_rfl)).int (k := .i64) (by kernel_rfl)
    have e2 : [c2] = [(.int .i64 x2)] := e2
    cases e2
    exact ⟨x0, x1, x2, rfl, k1_0, k2_0⟩
def laid : List (String × DataW Unit) := [("math/bits.deBruijn32tab", Rows.laid_math_bits_deBruijn32tab), ("math/bits.deBruijn64tab", Rows.laid_math_bits_deBruijn64tab), ("internal/strconv.uint64pow10", Rows.laid_internal_strconv_uint64pow10)]
set_option maxRecDepth 100000 in
theorem door_met (os : Os) (args : Array Value) : laidMetH Tryd.prog laid ((World.doorLaid Tryd.prog 4000 os).forCall (fun _ _ => 0) ⟨#[], args, []⟩).memory :=
  laidMetH_of_parts3 (fuel := 8) (laidMet_of_run' 8 (by kernel_rfl) (by kernel_rfl)) (by kernel_rfl) (by kernel_rfl)
set_option maxRecDepth 100000 in
theorem lifted (os : Os) (started : os.Started) (H : Type) (enc : TypeId × Value → H) :
    ReturnsInHanded {} Tryd.checked os 3 .any (fun w args => (Rows.targetWritesSpec.pre enc Tryd.prog Tryd.f3 Rows.targetWritesRow.domain false w args ∧ laidMetH Tryd.prog laid w) ∧ sizedMet enc Tryd.prog Tryd.f3 (OpenSpec.ofChange Rows.targetWritesSpec) false w args) (Rows.targetWritesSpec.post enc Tryd.prog Tryd.f3 false true false false) := by
  refine law_laid (laid := laid) (C := Tryd.checked) (fn := Tryd.f3) (t := 4) own started (by kernel_rfl) (by kernel_rfl)
    (ChangeSpec.witness_shaped (enc := enc) (C := Tryd.checked) (os := os) (X := fun w _ => laidMetH Tryd.prog laid w) false (World.doorLaid Tryd.prog 4000 os) #[(.string (⟨#[]⟩ : ByteArray)), (.agg #[(.bool false), (.int .u32 0), (.int .i64 0)])] 8 rfl (World.shaped_of_RefB (by kernel_rfl) (by kernel_rfl)) (by kernel_rfl) (by kernel_rfl) (by kernel_rfl) (door_met os _))
    vizardlaw17_TargetWrites.ok (by kernel_rfl) (by kernel_rfl) laidOut rfl ?_ ?_ (by kernel_rfl) (by kernel_rfl) ?_
  · intro t ht
    have e : Tryd.f3.params.toList = [9, 24] := by kernel_rfl
    rw [e] at ht
    have k : ([9, 24] : List TypeId).all (fun t => Tryd.prog.readableRec t && decide (t < Tryd.prog.types.size)) = true := by kernel_rfl
    have := List.all_eq_true.1 k t ht
    simp only [Bool.and_eq_true, decide_eq_true_eq] at this
    exact this
  · intro ds hl
    have e : Tryd.f3.params.toList.length = 2 := by kernel_rfl
    rw [e] at hl
    match ds, hl with
    | [d0, d1], _ => rfl
  · intro W base args hlaid hl harg
    have e : Tryd.f3.params.toList.length = 2 := by kernel_rfl
    rw [e] at hl
    match args, hl with
    | [v0, v1], _ =>
      obtain ⟨z, rfl, _⟩ := cell_string (by kernel_rfl) (ok_cell (d := .string) (by kernel_rfl) rfl (harg 0 9 v0 (by kernel_rfl) rfl).1)
      have h0 : TrodOk enc Tryd.prog W 9 [(.string z)] := (harg 0 9 _ (by kernel_rfl) rfl).2
      obtain ⟨a0, e, k0_0⟩ := (h0).string (by kernel_rfl)
      cases e
      obtain ⟨cs, rfl, _⟩ := ok_struct (n := 3) (ts := [4, 22, 3]) (by kernel_rfl) (by kernel_rfl) (by kernel_rfl) (harg 1 24 v1 (by kernel_rfl) rfl).1
      have h1 : TrodOk enc Tryd.prog W 24 cs := (harg 1 24 _ (by kernel_rfl) rfl).2
      obtain ⟨a1_0, a1_1, a1_2, rfl, k1_0, k1_1⟩ := open_24 (h1)
      exact vizardlaw17_TargetWrites.run (vizardlaw17_TargetWrites.laid hlaid) k0_0 k1_0 k1_1 ⟨rfl, Heap.Le.refl _⟩
end TargetWritesRow
theorem targetWrites_holds : Rows.TargetWritesSaid :=
  OpenClaim.holds_of_wide 3 Tryd.f3 rfl rfl rfl rfl rfl rfl rfl ⟨rfl, rfl, rfl, rfl, rfl⟩ rfl rfl rfl rfl rfl (by kernel_rfl) (by kernel_rfl) (by kernel_rfl)
    (of_decide_eq_true (by kernel_rfl)) (by unfold Func.isWrapper; first | (rw [if_pos (by decide +kernel)]; kernel_rfl) | (rw [if_neg (by decide +kernel)]; exact ⟨rfl, rfl⟩))
    (fun os started H enc _ => TargetWritesRow.lifted os started H enc)
theorem targetWritesCard_holds : Rows.TargetWritesCardSaid :=
  Claim7.holds_tied_plain_at .later [] [.data, .data, .data] true (true, "a68edfe205576e17ced6331a05e252b1f68488cc1f2ad69c2af1ac63b606be4e") true
    targetWrites_holds (fun _ h => by cases h) (by kernel_rfl) (fun _ h => by cases h) targetWrites_row_tie rfl ⟨rfl, rfl⟩ (by kernel_rfl) rfl
    (fun f fn hf hfn => by
      obtain rfl : f = 3 := Option.some.inj ((show Tryd.prog.funcNamed "vizard/vizardlaw17.TargetWrites" = some 3 by kernel_rfl).symm.trans hf) |>.symm
      have hfn : Tryd.prog.funcs[3]? = some fn := hfn
      have hf2 : Tryd.prog.funcs[3]? = some Tryd.f3 := by kernel_rfl
      obtain rfl : fn = Tryd.f3 := (Option.some.inj (hf2.symm.trans hfn)).symm
      exact ⟨by kernel_rfl, fun j t ht => by
        have ep : Tryd.f3.params.toList = [9, 24] := by kernel_rfl
        have hm : t ∈ ([9, 24] : List TypeId) := by
          rw [← ep]
          simpa using Array.mem_of_getElem? ht
        have hall : (([9, 24] : List TypeId).all fun u => !Tryd.prog.wantsStandIn u) = true := by kernel_rfl
        exact (show Tryd.prog.wantsStandIn t = false by simpa using List.all_eq_true.1 hall t hm)⟩)
    (by kernel_rfl)
end Go.Proofs.YtpmgchippfmakaaDoor
