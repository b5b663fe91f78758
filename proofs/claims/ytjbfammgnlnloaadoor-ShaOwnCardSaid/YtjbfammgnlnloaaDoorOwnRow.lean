/- ShaOwn: two digests in the making do not touch one another; for every input. No condition but what the card ties: the table of constants as the program's text lays it. -/
import Derived.Test.YtjbfammgnlnloaaDoorShaD
import Derived.Test.YtjbfammgnlnloaaDoorRows
import Derived.Test.YtjbfammgnlnloaaDoorCards
import Derived.Test.YtjbfammgnlnloaaDoorTie
import Derived.ProofKit
import Derived.SevenTiedAt
import Derived.LaidMore
import Derived.OpenShut
import Derived.Stop.Joined
namespace Go.Proofs.YtjbfammgnlnloaaDoor
open Go.ChangeShapes Go.WideShapes Go.ChangeAt Go.RowKit Go.Sh
namespace ShaOwnRow
theorem own : ownKnob Tryd.prog.godebug = none := by kernel_rfl
theorem laidOut : laidOutB Tryd.prog = true := by kernel_rfl
theorem open_22 {H : Type} {enc : TypeId × Value → H} {W : World} {cs : List Value} (h : TrodOk enc Tryd.prog W 22 cs) : ∃ p n c, cs = [.slice p n c] ∧ n ≤ c ∧ c * 16 ≤ reachBytes ∧ ∃ rows, RowsAt (heapOf W) p n 1 rows ∧ ∀ es ∈ rows, ∃ y, es = [(.string y)] ∧ y.size ≤ reachBytes := by
  obtain ⟨p, n, c, rfl, h1, h2, rows, h3, hr⟩ := h.rows (e := 9) (sz := 1) (by_ := 16) (by kernel_rfl) (by kernel_rfl) (by kernel_rfl)
  exact ⟨p, n, c, rfl, h1, h2, rows, h3, fun es he => (hr es he).string (by kernel_rfl)⟩
def laid : List (String × DataW Unit) := [("vizard/sha.constants", Rows.laid_vizard_sha_constants)]
set_option maxRecDepth 100000 in
theorem door_met (os : Os) (args : Array Value) : laidMetH Tryd.prog laid ((World.doorLaid Tryd.prog 4000 os).forCall (fun _ _ => 0) ⟨#[], args, []⟩).memory :=
  laidMetH_of_parts3 (fuel := 8) (laidMet_of_run' 8 (by kernel_rfl) (by kernel_rfl)) (by kernel_rfl) (by kernel_rfl)
set_option maxRecDepth 100000 in
theorem lifted (os : Os) (started : os.Started) (H : Type) (enc : TypeId × Value → H) :
    ReturnsInHanded {} Tryd.checked os 4 .any (fun w args => (Rows.shaOwnSpec.pre enc Tryd.prog Tryd.f4 Rows.shaOwnRow.domain false w args ∧ laidMetH Tryd.prog laid w) ∧ sizedMet enc Tryd.prog Tryd.f4 (OpenSpec.ofChange Rows.shaOwnSpec) false w args) (Rows.shaOwnSpec.post enc Tryd.prog Tryd.f4 false true false false) := by
  refine law_laid (laid := laid) (C := Tryd.checked) (fn := Tryd.f4) (t := 4) own started (by kernel_rfl) (by kernel_rfl)
    (ChangeSpec.witness_shaped (enc := enc) (C := Tryd.checked) (os := os) (X := fun w _ => laidMetH Tryd.prog laid w) false (World.doorLaid Tryd.prog 4000 os) #[(.slice none 0 0), (.slice none 0 0)] 8 rfl (World.shaped_of_RefB (by kernel_rfl) (by kernel_rfl)) (by kernel_rfl) (by kernel_rfl) (by kernel_rfl) (door_met os _))
    vizardlaw05_ShaOwn.ok (by kernel_rfl) (by kernel_rfl) laidOut rfl ?_ ?_ (by kernel_rfl) (by kernel_rfl) ?_
  · intro t ht
    have e : Tryd.f4.params.toList = [22, 22] := by kernel_rfl
    rw [e] at ht
    have k : ([22, 22] : List TypeId).all (fun t => Tryd.prog.readableRec t && decide (t < Tryd.prog.types.size)) = true := by kernel_rfl
    have := List.all_eq_true.1 k t ht
    simp only [Bool.and_eq_true, decide_eq_true_eq] at this
    exact this
  · intro ds hl
    have e : Tryd.f4.params.toList.length = 2 := by kernel_rfl
    rw [e] at hl
    match ds, hl with
    | [d0, d1], _ => rfl
  · intro W base args hlaid hl harg
    have e : Tryd.f4.params.toList.length = 2 := by kernel_rfl
    rw [e] at hl
    match args, hl with
    | [v0, v1], _ =>
      obtain ⟨zp, zn, zc, rfl⟩ := cell_slice (e := 9) (by kernel_rfl) (ok_cell (d := (.slice 9)) (by kernel_rfl) rfl (harg 0 22 v0 (by kernel_rfl) rfl).1)
      have h0 : TrodOk enc Tryd.prog W 22 [(.slice zp zn zc)] := (harg 0 22 _ (by kernel_rfl) rfl).2
      obtain ⟨a0p, a0n, a0c, e, k0_0, k0_1, k0_2⟩ := open_22 (h0)
      cases e
      obtain ⟨zp, zn, zc, rfl⟩ := cell_slice (e := 9) (by kernel_rfl) (ok_cell (d := (.slice 9)) (by kernel_rfl) rfl (harg 1 22 v1 (by kernel_rfl) rfl).1)
      have h1 : TrodOk enc Tryd.prog W 22 [(.slice zp zn zc)] := (harg 1 22 _ (by kernel_rfl) rfl).2
      obtain ⟨a1p, a1n, a1c, e, k1_0, k1_1, k1_2⟩ := open_22 (h1)
      cases e
      exact vizardlaw05_ShaOwn.run (vizardlaw05_ShaOwn.laid hlaid) k0_0 k0_1 k0_2 k1_0 k1_1 k1_2 ⟨rfl, Heap.Le.refl _⟩
end ShaOwnRow
theorem shaOwn_holds : Rows.ShaOwnSaid :=
  OpenClaim.holds_of_wide 4 Tryd.f4 rfl rfl rfl rfl rfl rfl rfl ⟨rfl, rfl, rfl, rfl, rfl⟩ rfl rfl rfl rfl rfl (by kernel_rfl) (by kernel_rfl) (by kernel_rfl)
    (of_decide_eq_true (by kernel_rfl)) (by unfold Func.isWrapper; first | (rw [if_pos (by decide +kernel)]; kernel_rfl) | (rw [if_neg (by decide +kernel)]; exact ⟨rfl, rfl⟩))
    (fun os started H enc _ => ShaOwnRow.lifted os started H enc)
theorem shaOwnCard_holds : Rows.ShaOwnCardSaid :=
  Claim7.holds_tied_plain_at .later [] [.data] true (true, "4c7bab5d9c851a2d4348debadce011039f81f138805cb321ffd100df1fecff1c") false
    shaOwn_holds (fun _ h => by cases h) (by kernel_rfl) (fun _ h => by cases h) shaOwn_row_tie rfl ⟨rfl, rfl⟩ (by kernel_rfl) rfl
    (fun f fn hf hfn => by
      obtain rfl : f = 4 := Option.some.inj ((show Tryd.prog.funcNamed "vizard/vizardlaw05.ShaOwn" = some 4 by kernel_rfl).symm.trans hf) |>.symm
      have hfn : Tryd.prog.funcs[4]? = some fn := hfn
      have hf2 : Tryd.prog.funcs[4]? = some Tryd.f4 := by kernel_rfl
      obtain rfl : fn = Tryd.f4 := (Option.some.inj (hf2.symm.trans hfn)).symm
      exact ⟨by kernel_rfl, fun j t ht => by
        have ep : Tryd.f4.params.toList = [22, 22] := by kernel_rfl
        have hm : t ∈ ([22, 22] : List TypeId) := by
          rw [← ep]
          simpa using Array.mem_of_getElem? ht
        have hall : (([22, 22] : List TypeId).all fun u => !Tryd.prog.wantsStandIn u) = true := by kernel_rfl
        exact (show Tryd.prog.wantsStandIn t = false by simpa using List.all_eq_true.1 hall t hm)⟩)
    (by kernel_rfl)
end Go.Proofs.YtjbfammgnlnloaaDoor
