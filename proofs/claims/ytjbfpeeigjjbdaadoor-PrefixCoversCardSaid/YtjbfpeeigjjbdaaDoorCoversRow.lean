/- PrefixCovers: any addresses from one to another are covered by the fewest prefixes, as the reference says; for every input. No condition but what the card ties: the table of math/bits as the program's text lays it. -/
import Derived.Test.YtjbfpeeigjjbdaaDoorPCov
import Derived.Test.YtjbfpeeigjjbdaaDoorRows
import Derived.Test.YtjbfpeeigjjbdaaDoorCards
import Derived.Test.YtjbfpeeigjjbdaaDoorTie
import Derived.ProofKit
import Derived.SevenTiedAt
import Derived.LaidMore
import Derived.OpenShut
import Derived.Stop.Joined
namespace Go.Proofs.YtjbfpeeigjjbdaaDoor
open Go.ChangeShapes Go.WideShapes Go.ChangeAt Go.RowKit Go.Sh
namespace PrefixCoversRow
theorem own : ownKnob Tryd.prog.godebug = none := by kernel_rfl
theorem laidOut : laidOutB Tryd.prog = true := by kernel_rfl
def laid : List (String × DataW Unit) := [("math/bits.deBruijn32tab", Rows.laid_math_bits_deBruijn32tab)]
set_option maxRecDepth 100000 in
theorem door_met (os : Os) (args : Array Value) : laidMetH Tryd.prog laid ((World.doorLaid Tryd.prog 4000 os).forCall (fun _ _ => 0) ⟨#[], args, []⟩).memory :=
  laidMetH_of_parts3 (fuel := 8) (laidMet_of_run' 8 (by kernel_rfl) (by kernel_rfl)) (by kernel_rfl) (by kernel_rfl)
set_option maxRecDepth 100000 in
theorem lifted (os : Os) (started : os.Started) (H : Type) (enc : TypeId × Value → H) :
    ReturnsInHanded {} Tryd.checked os 3 .any (fun w args => (Rows.prefixCoversSpec.pre enc Tryd.prog Tryd.f3 Rows.prefixCoversRow.domain false w args ∧ laidMetH Tryd.prog laid w) ∧ sizedMet enc Tryd.prog Tryd.f3 (OpenSpec.ofChange Rows.prefixCoversSpec) false w args) (Rows.prefixCoversSpec.post enc Tryd.prog Tryd.f3 false true false false) := by
  refine law_laid (laid := laid) (C := Tryd.checked) (fn := Tryd.f3) (t := 4) own started (by kernel_rfl) (by kernel_rfl)
    (ChangeSpec.witness_shaped (enc := enc) (C := Tryd.checked) (os := os) (X := fun w _ => laidMetH Tryd.prog laid w) false (World.doorLaid Tryd.prog 4000 os) #[(.int .u32 0), (.int .u32 0)] 8 rfl (World.shaped_of_RefB (by kernel_rfl) (by kernel_rfl)) (by kernel_rfl) (by kernel_rfl) (by kernel_rfl) (door_met os _))
    vizardlaw04_PrefixCovers.ok (by kernel_rfl) (by kernel_rfl) laidOut rfl ?_ ?_ (by kernel_rfl) (by kernel_rfl) ?_
  · intro t ht
    have e : Tryd.f3.params.toList = [22, 22] := by kernel_rfl
    rw [e] at ht
    have k : ([22, 22] : List TypeId).all (fun t => Tryd.prog.readableRec t && decide (t < Tryd.prog.types.size)) = true := by kernel_rfl
    have := List.all_eq_true.1 k t ht
    simp only [Bool.and_eq_true, decide_eq_true_eq] at this
    exact this
  · intro ds hl
    have e : Tryd.f3.params.toList.length = 2 := by kernel_rfl
    rw [e] at hl
    match ds, hl with
    | [d0, d1], _ => rfl
  · intro W base args hlaid hl harg
    have e : Tryd.f3.params.toList.length = 2 := by kernel_rfl
    rw [e] at hl
    match args, hl with
    | [v0, v1], _ =>
      obtain ⟨z, rfl, _⟩ := cell_int (k := .u32) (by kernel_rfl) (ok_cell (d := (.int .u32)) (by kernel_rfl) rfl (harg 0 22 v0 (by kernel_rfl) rfl).1)
      have h0 : TrodOk enc Tryd.prog W 22 [(.int .u32 z)] := (harg 0 22 _ (by kernel_rfl) rfl).2
      obtain ⟨a0, e, k0_0⟩ := (h0).int (k := .u32) (by kernel_rfl)
      cases e
      obtain ⟨z, rfl, _⟩ := cell_int (k := .u32) (by kernel_rfl) (ok_cell (d := (.int .u32)) (by kernel_rfl) rfl (harg 1 22 v1 (by kernel_rfl) rfl).1)
      have h1 : TrodOk enc Tryd.prog W 22 [(.int .u32 z)] := (harg 1 22 _ (by kernel_rfl) rfl).2
      obtain ⟨a1, e, k1_0⟩ := (h1).int (k := .u32) (by kernel_rfl)
      cases e
      exact vizardlaw04_PrefixCovers.run (vizardlaw04_PrefixCovers.laid hlaid) k0_0 k1_0 ⟨rfl, Heap.Le.refl _⟩
end PrefixCoversRow
theorem prefixCovers_holds : Rows.PrefixCoversSaid :=
  OpenClaim.holds_of_wide 3 Tryd.f3 rfl rfl rfl rfl rfl rfl rfl ⟨rfl, rfl, rfl, rfl, rfl⟩ rfl rfl rfl rfl rfl (by kernel_rfl) (by kernel_rfl) (by kernel_rfl)
    (of_decide_eq_true (by kernel_rfl)) (by unfold Func.isWrapper; first | (rw [if_pos (by decide +kernel)]; kernel_rfl) | (rw [if_neg (by decide +kernel)]; exact ⟨rfl, rfl⟩))
    (fun os started H enc _ => PrefixCoversRow.lifted os started H enc)
theorem prefixCoversCard_holds : Rows.PrefixCoversCardSaid :=
  Claim7.holds_tied_plain_at .later [] [.data] true (true, "eb4cf6a1515deef29e470a6aba48b51ec2c3c950c867edd6e73243791d9d4f5b") false
    prefixCovers_holds (fun _ h => by cases h) (by kernel_rfl) (fun _ h => by cases h) prefixCovers_row_tie rfl ⟨rfl, rfl⟩ (by kernel_rfl) rfl
    (fun f fn hf hfn => by
      obtain rfl : f = 3 := Option.some.inj ((show Tryd.prog.funcNamed "vizard/vizardlaw04.PrefixCovers" = some 3 by kernel_rfl).symm.trans hf) |>.symm
      have hfn : Tryd.prog.funcs[3]? = some fn := hfn
      have hf2 : Tryd.prog.funcs[3]? = some Tryd.f3 := by kernel_rfl
      obtain rfl : fn = Tryd.f3 := (Option.some.inj (hf2.symm.trans hfn)).symm
      exact ⟨by kernel_rfl, fun j t ht => by
        have ep : Tryd.f3.params.toList = [22, 22] := by kernel_rfl
        have hm : t ∈ ([22, 22] : List TypeId) := by
          rw [← ep]
          simpa using Array.mem_of_getElem? ht
        have hall : (([22, 22] : List TypeId).all fun u => !Tryd.prog.wantsStandIn u) = true := by kernel_rfl
        exact (show Tryd.prog.wantsStandIn t = false by simpa using List.all_eq_true.1 hall t hm)⟩)
    (by kernel_rfl)
end Go.Proofs.YtjbfpeeigjjbdaaDoor
