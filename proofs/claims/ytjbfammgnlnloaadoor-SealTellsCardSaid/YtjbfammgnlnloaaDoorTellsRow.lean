/- sealed bytes that are changed are refused -/
import Derived.Test.YtjbfammgnlnloaaDoorSeaH
import Derived.Test.YtjbfammgnlnloaaDoorRows
import Derived.Test.YtjbfammgnlnloaaDoorCards
import Derived.Test.YtjbfammgnlnloaaDoorTie
import Derived.ProofKit
import Derived.SevenTiedAt
import Derived.LaidMore
import Derived.OpenShut
import Derived.Stop.Joined
namespace Go.Proofs.YtjbfammgnlnloaaDoor
open Go.ChangeShapes Go.WideShapes Go.ChangeAt Go.RowKit Go.Sh
namespace SealTellsRow
theorem own : ownKnob Tryd.prog.godebug = none := by kernel_rfl
theorem laidOut : laidOutB Tryd.prog = true := by kernel_rfl
def laid : List (String × DataW Unit) := [("vizard/varint.sizes", Rows.laid_vizard_varint_sizes), ("vizard/sha.constants", Rows.laid_vizard_sha_constants)]
set_option maxRecDepth 100000 in
theorem door_met (os : Os) (args : Array Value) : laidMetH Tryd.prog laid ((World.doorLaid Tryd.prog 4000 os).forCall (fun _ _ => 0) ⟨#[], args, []⟩).memory :=
  laidMetH_of_parts3 (fuel := 8) (laidMet_of_run' 8 (by kernel_rfl) (by kernel_rfl)) (by kernel_rfl) (by kernel_rfl)
set_option maxRecDepth 100000 in
theorem lifted (os : Os) (started : os.Started) (H : Type) (enc : TypeId × Value → H) :
    ReturnsInHanded {} Tryd.checked os 7 .any (fun w args => (Rows.sealTellsSpec.pre enc Tryd.prog Tryd.f7 Rows.sealTellsRow.domain false w args ∧ laidMetH Tryd.prog laid w) ∧ sizedMet enc Tryd.prog Tryd.f7 (OpenSpec.ofChange Rows.sealTellsSpec) false w args) (Rows.sealTellsSpec.post enc Tryd.prog Tryd.f7 false true false false) := by
  refine law_laid (laid := laid) (C := Tryd.checked) (fn := Tryd.f7) (t := 4) own started (by kernel_rfl) (by kernel_rfl)
    (ChangeSpec.witness_shaped (enc := enc) (C := Tryd.checked) (os := os) (X := fun w _ => laidMetH Tryd.prog laid w) false (World.doorLaid Tryd.prog 4000 os) #[(.string (⟨#[]⟩ : ByteArray)), (.int .i64 0), (.string (⟨#[]⟩ : ByteArray)), (.string (⟨#[]⟩ : ByteArray)), (.int .i64 0), (.int .u8 0)] 8 rfl (World.shaped_of_RefB (by kernel_rfl) (by kernel_rfl)) (by kernel_rfl) (by kernel_rfl) (by kernel_rfl) (door_met os _))
    vizardlaw06_SealTells.ok (by kernel_rfl) (by kernel_rfl) laidOut rfl ?_ ?_ (by kernel_rfl) (by kernel_rfl) ?_
  · intro t ht
    have e : Tryd.f7.params.toList = [9, 2, 9, 9, 3, 5] := by kernel_rfl
    rw [e] at ht
    have k : ([9, 2, 9, 9, 3, 5] : List TypeId).all (fun t => Tryd.prog.readableRec t && decide (t < Tryd.prog.types.size)) = true := by kernel_rfl
    have := List.all_eq_true.1 k t ht
    simp only [Bool.and_eq_true, decide_eq_true_eq] at this
    exact this
  · intro ds hl
    have e : Tryd.f7.params.toList.length = 6 := by kernel_rfl
    rw [e] at hl
    match ds, hl with
    | [d0, d1, d2, d3, d4, d5], _ => rfl
  · intro W base args hlaid hl harg
    have e : Tryd.f7.params.toList.length = 6 := by kernel_rfl
    rw [e] at hl
    match args, hl with
    | [v0, v1, v2, v3, v4, v5], _ =>
      obtain ⟨z, rfl, _⟩ := cell_string (by kernel_rfl) (ok_cell (d := .string) (by kernel_rfl) rfl (harg 0 9 v0 (by kernel_rfl) rfl).1)
      have h0 : TrodOk enc Tryd.prog W 9 [(.string z)] := (harg 0 9 _ (by kernel_rfl) rfl).2
      obtain ⟨a0, e, k0_0⟩ := (h0).string (by kernel_rfl)
      cases e
      obtain ⟨z, rfl, _⟩ := cell_int (k := .i64) (by kernel_rfl) (ok_cell (d := (.int .i64)) (by kernel_rfl) rfl (harg 1 2 v1 (by kernel_rfl) rfl).1)
      have h1 : TrodOk enc Tryd.prog W 2 [(.int .i64 z)] := (harg 1 2 _ (by kernel_rfl) rfl).2
      obtain ⟨a1, e, k1_0⟩ := (h1).int (k := .i64) (by kernel_rfl)
      cases e
      obtain ⟨z, rfl, _⟩ := cell_string (by kernel_rfl) (ok_cell (d := .string) (by kernel_rfl) rfl (harg 2 9 v2 (by kernel_rfl) rfl).1)
      have h2 : TrodOk enc Tryd.prog W 9 [(.string z)] := (harg 2 9 _ (by kernel_rfl) rfl).2
      obtain ⟨a2, e, k2_0⟩ := (h2).string (by kernel_rfl)
      cases e
      obtain ⟨z, rfl, _⟩ := cell_string (by kernel_rfl) (ok_cell (d := .string) (by kernel_rfl) rfl (harg 3 9 v3 (by kernel_rfl) rfl).1)
      have h3 : TrodOk enc Tryd.prog W 9 [(.string z)] := (harg 3 9 _ (by kernel_rfl) rfl).2
      obtain ⟨a3, e, k3_0⟩ := (h3).string (by kernel_rfl)
      cases e
      obtain ⟨z, rfl, _⟩ := cell_int (k := .i64) (by kernel_rfl) (ok_cell (d := (.int .i64)) (by kernel_rfl) rfl (harg 4 3 v4 (by kernel_rfl) rfl).1)
      have h4 : TrodOk enc Tryd.prog W 3 [(.int .i64 z)] := (harg 4 3 _ (by kernel_rfl) rfl).2
      obtain ⟨a4, e, k4_0⟩ := (h4).int (k := .i64) (by kernel_rfl)
      cases e
      obtain ⟨z, rfl, _⟩ := cell_int (k := .u8) (by kernel_rfl) (ok_cell (d := (.int .u8)) (by kernel_rfl) rfl (harg 5 5 v5 (by kernel_rfl) rfl).1)
      have h5 : TrodOk enc Tryd.prog W 5 [(.int .u8 z)] := (harg 5 5 _ (by kernel_rfl) rfl).2
      obtain ⟨a5, e, k5_0⟩ := (h5).int (k := .u8) (by kernel_rfl)
      cases e
      exact vizardlaw06_SealTells.run (vizardlaw06_SealTells.laid hlaid) k0_0 k1_0 k2_0 k3_0 k4_0 k5_0 ⟨rfl, Heap.Le.refl _⟩
end SealTellsRow
theorem sealTells_holds : Rows.SealTellsSaid :=
  OpenClaim.holds_of_wide 7 Tryd.f7 rfl rfl rfl rfl rfl rfl rfl ⟨rfl, rfl, rfl, rfl, rfl⟩ rfl rfl rfl rfl rfl (by kernel_rfl) (by kernel_rfl) (by kernel_rfl)
    (of_decide_eq_true (by kernel_rfl)) (by unfold Func.isWrapper; first | (rw [if_pos (by decide +kernel)]; kernel_rfl) | (rw [if_neg (by decide +kernel)]; exact ⟨rfl, rfl⟩))
    (fun os started H enc _ => SealTellsRow.lifted os started H enc)
theorem sealTellsCard_holds : Rows.SealTellsCardSaid :=
  Claim7.holds_tied_plain_at .later [] [.data, .data] true (true, "4c7bab5d9c851a2d4348debadce011039f81f138805cb321ffd100df1fecff1c") false
    sealTells_holds (fun _ h => by cases h) (by kernel_rfl) (fun _ h => by cases h) sealTells_row_tie rfl ⟨rfl, rfl⟩ (by kernel_rfl) rfl
    (fun f fn hf hfn => by
      obtain rfl : f = 7 := Option.some.inj ((show Tryd.prog.funcNamed "vizard/vizardlaw06.SealTells" = some 7 by kernel_rfl).symm.trans hf) |>.symm
      have hfn : Tryd.prog.funcs[7]? = some fn := hfn
      have hf2 : Tryd.prog.funcs[7]? = some Tryd.f7 := by kernel_rfl
      obtain rfl : fn = Tryd.f7 := (Option.some.inj (hf2.symm.trans hfn)).symm
      exact ⟨by kernel_rfl, fun j t ht => by
        have ep : Tryd.f7.params.toList = [9, 2, 9, 9, 3, 5] := by kernel_rfl
        have hm : t ∈ ([9, 2, 9, 9, 3, 5] : List TypeId) := by
          rw [← ep]
          simpa using Array.mem_of_getElem? ht
        have hall : (([9, 2, 9, 9, 3, 5] : List TypeId).all fun u => !Tryd.prog.wantsStandIn u) = true := by kernel_rfl
        exact (show Tryd.prog.wantsStandIn t = false by simpa using List.all_eq_true.1 hall t hm)⟩)
    (by kernel_rfl)
end Go.Proofs.YtjbfammgnlnloaaDoor
