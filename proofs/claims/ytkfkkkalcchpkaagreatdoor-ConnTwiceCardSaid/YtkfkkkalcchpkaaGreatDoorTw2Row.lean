/- a packet that comes once more changes nothing -/
import Derived.Test.YtkfkkkalcchpkaaGreatDoorTw2zc
import Derived.Test.YtkfkkkalcchpkaaGreatDoorRows
import Derived.Test.YtkfkkkalcchpkaaGreatDoorCards
import Derived.Test.YtkfkkkalcchpkaaGreatDoorTie
import Derived.ProofKit
import Derived.SevenTiedAt
import Derived.LaidMore
import Derived.Lay
import Derived.OpenShut
import Derived.Stop.Joined
namespace Go.Proofs.YtkfkkkalcchpkaaGreatDoor
open Go.ChangeShapes Go.WideShapes Go.ChangeAt Go.RowKit Go.Sh
namespace ConnTwiceRow
theorem own : ownKnob Tryz.prog.godebug = none := by kernel_rfl
theorem laidOut : laidOutB Tryz.prog = true := by kernel_rfl
def laid : List (String × DataW Unit) := [("vizard/varint.sizes", Rows.laid_vizard_varint_sizes), ("vizard/sha.constants", Rows.laid_vizard_sha_constants)]
theorem met_plain {P : Program} {l : List (String × DataW Unit)} {w : World} (hp : (l.filter fun x => x.2.handleName?.isSome) = []) (h : laidMet P l w) : laidMetH P l w := by
  unfold laidMetH
  rw [hp]
  exact h
set_option maxRecDepth 100000 in
theorem door_met (os : Os) (args : Array Value) : laidMetH Tryz.prog laid ((World.laidAll Tryz.prog os laid).forCall (fun _ _ => 0) ⟨#[], args, []⟩).memory :=
  met_plain (by kernel_rfl) (laidMet_laidAll _ (by kernel_rfl) (by kernel_rfl))
set_option maxRecDepth 100000 in
theorem lifted (os : Os) (started : os.Started) (H : Type) (enc : TypeId × Value → H) :
    ReturnsInHanded {} Tryz.checked os 6 .any (fun w args => (Rows.connTwiceSpec.pre enc Tryz.prog Tryz.f6 Rows.connTwiceRow.domain false w args ∧ laidMetH Tryz.prog laid w) ∧ sizedMet enc Tryz.prog Tryz.f6 (OpenSpec.ofChange Rows.connTwiceSpec) false w args) (Rows.connTwiceSpec.post enc Tryz.prog Tryz.f6 false true false false) := by
  refine law_laid (laid := laid) (C := Tryz.checked) (fn := Tryz.f6) (t := 4) own started (by kernel_rfl) (by kernel_rfl)
    (ChangeSpec.witness_shaped (enc := enc) (C := Tryz.checked) (os := os) (X := fun w _ => laidMetH Tryz.prog laid w) false (World.laidAll Tryz.prog os laid) #[(.string (⟨#[]⟩ : ByteArray)), (.int .i64 0)] 8 (World.laidAll_os _ _ _) (World.shaped_of_ZipB (by kernel_rfl) (by kernel_rfl)) (by kernel_rfl) (by kernel_rfl) (by kernel_rfl) (door_met os _))
    vizardlaw13_ConnTwice.ok (by kernel_rfl) (by kernel_rfl) laidOut rfl ?_ ?_ (by kernel_rfl) (by kernel_rfl) ?_
  · intro t ht
    have e : Tryz.f6.params.toList = [9, 3] := by kernel_rfl
    rw [e] at ht
    have k : ([9, 3] : List TypeId).all (fun t => Tryz.prog.readableRec t && decide (t < Tryz.prog.types.size)) = true := by kernel_rfl
    have := List.all_eq_true.1 k t ht
    simp only [Bool.and_eq_true, decide_eq_true_eq] at this
    exact this
  · intro ds hl
    have e : Tryz.f6.params.toList.length = 2 := by kernel_rfl
    rw [e] at hl
    match ds, hl with
    | [d0, d1], _ => rfl
  · intro W base args hlaid hl harg
    have e : Tryz.f6.params.toList.length = 2 := by kernel_rfl
    rw [e] at hl
    match args, hl with
    | [v0, v1], _ =>
      obtain ⟨z, rfl, _⟩ := cell_string (by kernel_rfl) (ok_cell (d := .string) (by kernel_rfl) rfl (harg 0 9 v0 (by kernel_rfl) rfl).1)
      have h0 : TrodOk enc Tryz.prog W 9 [(.string z)] := (harg 0 9 _ (by kernel_rfl) rfl).2
      obtain ⟨a0, e, k0_0⟩ := (h0).string (by kernel_rfl)
      cases e
      obtain ⟨z, rfl, _⟩ := cell_int (k := .i64) (by kernel_rfl) (ok_cell (d := (.int .i64)) (by kernel_rfl) rfl (harg 1 3 v1 (by kernel_rfl) rfl).1)
      have h1 : TrodOk enc Tryz.prog W 3 [(.int .i64 z)] := (harg 1 3 _ (by kernel_rfl) rfl).2
      obtain ⟨a1, e, k1_0⟩ := (h1).int (k := .i64) (by kernel_rfl)
      cases e
      exact vizardlaw13_ConnTwice.run (vizardlaw13_ConnTwice.laid hlaid) k0_0 k1_0 ⟨rfl, Heap.Le.refl _⟩
end ConnTwiceRow
theorem connTwice_holds : Rows.ConnTwiceSaid :=
  OpenClaim.holds_of_wide 6 Tryz.f6 rfl rfl rfl rfl rfl rfl rfl ⟨rfl, rfl, rfl, rfl, rfl⟩ rfl rfl rfl rfl rfl (by kernel_rfl) (by kernel_rfl) (by kernel_rfl)
    (of_decide_eq_true (by kernel_rfl)) (by unfold Func.isWrapper; first | (rw [if_pos (by decide +kernel)]; kernel_rfl) | (rw [if_neg (by decide +kernel)]; exact ⟨rfl, rfl⟩))
    (fun os started H enc _ => ConnTwiceRow.lifted os started H enc)
theorem connTwiceCard_holds : Rows.ConnTwiceCardSaid :=
  Claim7.holds_tied_plain_at .later [] [.data, .data] true (true, "e30389e81ed1150d2dd9307bcfef00374caae176206965edc50f8e8c55c5fbaa") true
    connTwice_holds (fun _ h => by cases h) (by kernel_rfl) (fun _ h => by cases h) connTwice_row_tie rfl ⟨rfl, rfl⟩ (by kernel_rfl) rfl
    (fun f fn hf hfn => by
      obtain rfl : f = 6 := Option.some.inj ((show Tryz.prog.funcNamed "vizard/vizardlaw13.ConnTwice" = some 6 by kernel_rfl).symm.trans hf) |>.symm
      have hfn : Tryz.prog.funcs[6]? = some fn := hfn
      have hf2 : Tryz.prog.funcs[6]? = some Tryz.f6 := by kernel_rfl
      obtain rfl : fn = Tryz.f6 := (Option.some.inj (hf2.symm.trans hfn)).symm
      exact ⟨by kernel_rfl, fun j t ht => by
        have ep : Tryz.f6.params.toList = [9, 3] := by kernel_rfl
        have hm : t ∈ ([9, 3] : List TypeId) := by
          rw [← ep]
          simpa using Array.mem_of_getElem? ht
        have hall : (([9, 3] : List TypeId).all fun u => !Tryz.prog.wantsStandIn u) = true := by kernel_rfl
        exact (show Tryz.prog.wantsStandIn t = false by simpa using List.all_eq_true.1 hall t hm)⟩)
    (by kernel_rfl)
end Go.Proofs.YtkfkkkalcchpkaaGreatDoor
