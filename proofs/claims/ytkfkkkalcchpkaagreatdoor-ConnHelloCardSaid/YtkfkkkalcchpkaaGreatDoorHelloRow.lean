/- connections are dialled and accepted by hellos -/
import Derived.Test.YtkfkkkalcchpkaaGreatDoorCoC
import Derived.Test.YtkfkkkalcchpkaaGreatDoorRows
import Derived.Test.YtkfkkkalcchpkaaGreatDoorCards
import Derived.Test.YtkfkkkalcchpkaaGreatDoorTie
import Derived.ProofKit
import Derived.SevenTiedAt
import Derived.LaidMore
import Derived.Lay
import Derived.OpenShut
import Derived.Stop.Joined
namespace Go.Proofs.YtkfkkkalcchpkaaGreatDoor
open Go.ChangeShapes Go.WideShapes Go.ChangeAt Go.RowKit Go.Sh
namespace ConnHelloRow
theorem own : ownKnob Tryz.prog.godebug = none := by kernel_rfl
theorem laidOut : laidOutB Tryz.prog = true := by kernel_rfl
def laid : List (String × DataW Unit) := [("vizard/varint.sizes", Rows.laid_vizard_varint_sizes), ("vizard/sha.constants", Rows.laid_vizard_sha_constants)]
theorem met_plain {P : Program} {l : List (String × DataW Unit)} {w : World} (hp : (l.filter fun x => x.2.handleName?.isSome) = []) (h : laidMet P l w) : laidMetH P l w := by
  unfold laidMetH
  rw [hp]
  exact h
set_option maxRecDepth 100000 in
theorem door_met (os : Os) (args : Array Value) : laidMetH Tryz.prog laid ((World.laidAll Tryz.prog os laid).forCall (fun _ _ => 0) ⟨#[], args, []⟩).memory :=
  met_plain (by kernel_rfl) (laidMet_laidAll _ (by kernel_rfl) (by kernel_rfl))
set_option maxRecDepth 100000 in
theorem lifted (os : Os) (started : os.Started) (H : Type) (enc : TypeId × Value → H) :
    ReturnsInHanded {} Tryz.checked os 3 .any (fun w args => (Rows.connHelloSpec.pre enc Tryz.prog Tryz.f3 Rows.connHelloRow.domain false w args ∧ laidMetH Tryz.prog laid w) ∧ sizedMet enc Tryz.prog Tryz.f3 (OpenSpec.ofChange Rows.connHelloSpec) false w args) (Rows.connHelloSpec.post enc Tryz.prog Tryz.f3 false true false false) := by
  refine law_laid (laid := laid) (C := Tryz.checked) (fn := Tryz.f3) (t := 4) own started (by kernel_rfl) (by kernel_rfl)
    (ChangeSpec.witness_shaped (enc := enc) (C := Tryz.checked) (os := os) (X := fun w _ => laidMetH Tryz.prog laid w) false (World.laidAll Tryz.prog os laid) #[(.string (⟨#[]⟩ : ByteArray)), (.string (⟨#[]⟩ : ByteArray)), (.string (⟨#[]⟩ : ByteArray)), (.string (⟨#[]⟩ : ByteArray)), (.string (⟨#[]⟩ : ByteArray))] 8 (World.laidAll_os _ _ _) (World.shaped_of_ZipB (by kernel_rfl) (by kernel_rfl)) (by kernel_rfl) (by kernel_rfl) (by kernel_rfl) (door_met os _))
    vizardlaw13_ConnHello.ok (by kernel_rfl) (by kernel_rfl) laidOut rfl ?_ ?_ (by kernel_rfl) (by kernel_rfl) ?_
  · intro t ht
    have e : Tryz.f3.params.toList = [9, 9, 9, 9, 9] := by kernel_rfl
    rw [e] at ht
    have k : ([9, 9, 9, 9, 9] : List TypeId).all (fun t => Tryz.prog.readableRec t && decide (t < Tryz.prog.types.size)) = true := by kernel_rfl
    have := List.all_eq_true.1 k t ht
    simp only [Bool.and_eq_true, decide_eq_true_eq] at this
    exact this
  · intro ds hl
    have e : Tryz.f3.params.toList.length = 5 := by kernel_rfl
    rw [e] at hl
    match ds, hl with
    | [d0, d1, d2, d3, d4], _ => rfl
  · intro W base args hlaid hl harg
    have e : Tryz.f3.params.toList.length = 5 := by kernel_rfl
    rw [e] at hl
    match args, hl with
    | [v0, v1, v2, v3, v4], _ =>
      obtain ⟨z, rfl, _⟩ := cell_string (by kernel_rfl) (ok_cell (d := .string) (by kernel_rfl) rfl (harg 0 9 v0 (by kernel_rfl) rfl).1)
      have h0 : TrodOk enc Tryz.prog W 9 [(.string z)] := (harg 0 9 _ (by kernel_rfl) rfl).2
      obtain ⟨a0, e, k0_0⟩ := (h0).string (by kernel_rfl)
      cases e
      obtain ⟨z, rfl, _⟩ := cell_string (by kernel_rfl) (ok_cell (d := .string) (by kernel_rfl) rfl (harg 1 9 v1 (by kernel_rfl) rfl).1)
      have h1 : TrodOk enc Tryz.prog W 9 [(.string z)] := (harg 1 9 _ (by kernel_rfl) rfl).2
      obtain ⟨a1, e, k1_0⟩ := (h1).string (by kernel_rfl)
      cases e
      obtain ⟨z, rfl, _⟩ := cell_string (by kernel_rfl) (ok_cell (d := .string) (by kernel_rfl) rfl (harg 2 9 v2 (by kernel_rfl) rfl).1)
      have h2 : TrodOk enc Tryz.prog W 9 [(.string z)] := (harg 2 9 _ (by kernel_rfl) rfl).2
      obtain ⟨a2, e, k2_0⟩ := (h2).string (by kernel_rfl)
      cases e
      obtain ⟨z, rfl, _⟩ := cell_string (by kernel_rfl) (ok_cell (d := .string) (by kernel_rfl) rfl (harg 3 9 v3 (by kernel_rfl) rfl).1)
      have h3 : TrodOk enc Tryz.prog W 9 [(.string z)] := (harg 3 9 _ (by kernel_rfl) rfl).2
      obtain ⟨a3, e, k3_0⟩ := (h3).string (by kernel_rfl)
      cases e
      obtain ⟨z, rfl, _⟩ := cell_string (by kernel_rfl) (ok_cell (d := .string) (by kernel_rfl) rfl (harg 4 9 v4 (by kernel_rfl) rfl).1)
      have h4 : TrodOk enc Tryz.prog W 9 [(.string z)] := (harg 4 9 _ (by kernel_rfl) rfl).2
      obtain ⟨a4, e, k4_0⟩ := (h4).string (by kernel_rfl)
      cases e
      exact vizardlaw13_ConnHello.run (vizardlaw13_ConnHello.laid hlaid) k0_0 k1_0 k2_0 k3_0 k4_0 ⟨rfl, Heap.Le.refl _⟩
end ConnHelloRow
theorem connHello_holds : Rows.ConnHelloSaid :=
  OpenClaim.holds_of_wide 3 Tryz.f3 rfl rfl rfl rfl rfl rfl rfl ⟨rfl, rfl, rfl, rfl, rfl⟩ rfl rfl rfl rfl rfl (by kernel_rfl) (by kernel_rfl) (by kernel_rfl)
    (of_decide_eq_true (by kernel_rfl)) (by unfold Func.isWrapper; first | (rw [if_pos (by decide +kernel)]; kernel_rfl) | (rw [if_neg (by decide +kernel)]; exact ⟨rfl, rfl⟩))
    (fun os started H enc _ => ConnHelloRow.lifted os started H enc)
theorem connHelloCard_holds : Rows.ConnHelloCardSaid :=
  Claim7.holds_tied_plain_at .later [] [.data, .data] true (true, "e30389e81ed1150d2dd9307bcfef00374caae176206965edc50f8e8c55c5fbaa") true
    connHello_holds (fun _ h => by cases h) (by kernel_rfl) (fun _ h => by cases h) connHello_row_tie rfl ⟨rfl, rfl⟩ (by kernel_rfl) rfl
    (fun f fn hf hfn => by
      obtain rfl : f = 3 := Option.some.inj ((show Tryz.prog.funcNamed "vizard/vizardlaw13.ConnHello" = some 3 by kernel_rfl).symm.trans hf) |>.symm
      have hfn : Tryz.prog.funcs[3]? = some fn := hfn
      have hf2 : Tryz.prog.funcs[3]? = some Tryz.f3 := by kernel_rfl
      obtain rfl : fn = Tryz.f3 := (Option.some.inj (hf2.symm.trans hfn)).symm
      exact ⟨by kernel_rfl, fun j t ht => by
        have ep : Tryz.f3.params.toList = [9, 9, 9, 9, 9] := by kernel_rfl
        have hm : t ∈ ([9, 9, 9, 9, 9] : List TypeId) := by
          rw [← ep]
          simpa using Array.mem_of_getElem? ht
        have hall : (([9, 9, 9, 9, 9] : List TypeId).all fun u => !Tryz.prog.wantsStandIn u) = true := by kernel_rfl
        exact (show Tryz.prog.wantsStandIn t = false by simpa using List.all_eq_true.1 hall t hm)⟩)
    (by kernel_rfl)
end Go.Proofs.YtkfkkkalcchpkaaGreatDoor
