/- each address is in just one prefix -/
import Derived.Test.YtennpdminebahaaDoorPfG
import Derived.Test.YtennpdminebahaaDoorRows
import Derived.Test.YtennpdminebahaaDoorCards
import Derived.Test.YtennpdminebahaaDoorTie
import Derived.ProofKit
import Derived.SevenTiedAt
import Derived.LaidMore
import Derived.Lay
import Derived.OpenShut
import Derived.Stop.Joined
namespace Go.Proofs.YtennpdminebahaaDoor
open Go.ChangeShapes Go.WideShapes Go.ChangeAt Go.RowKit Go.Sh
namespace PrefixOnceRow
theorem own : ownKnob Tryd.prog.godebug = none := by kernel_rfl
theorem laidOut : laidOutB Tryd.prog = true := by kernel_rfl
def laid : List (String × DataW Unit) := [("math/bits.deBruijn32tab", Rows.laid_math_bits_deBruijn32tab), ("math/bits.deBruijn64tab", Rows.laid_math_bits_deBruijn64tab), ("internal/strconv.uint64pow10", Rows.laid_internal_strconv_uint64pow10), ("unicode/utf8.acceptRanges", Rows.laid_unicode_utf8_acceptRanges), ("strconv.ErrRange", Rows.laid_strconv_ErrRange), ("strconv.ErrSyntax", Rows.laid_strconv_ErrSyntax), ("unicode/utf8.first", Rows.laid_unicode_utf8_first)]
theorem met_plain {P : Program} {l : List (String × DataW Unit)} {w : World} (hp : (l.filter fun x => x.2.handleName?.isSome) = []) (h : laidMet P l w) : laidMetH P l w := by
  unfold laidMetH
  rw [hp]
  exact h
set_option maxRecDepth 100000 in
theorem door_met (os : Os) (args : Array Value) : laidMetH Tryd.prog laid ((World.laidAll Tryd.prog os laid).forCall (fun _ _ => 0) ⟨#[], args, []⟩).memory :=
  met_plain (by kernel_rfl) (laidMet_laidAll _ (by kernel_rfl) (by kernel_rfl))
set_option maxRecDepth 100000 in
theorem lifted (os : Os) (started : os.Started) (H : Type) (enc : TypeId × Value → H) :
    ReturnsInHanded {} Tryd.checked os 4 .any (fun w args => (Rows.prefixOnceSpec.pre enc Tryd.prog Tryd.f4 Rows.prefixOnceRow.domain false w args ∧ laidMetH Tryd.prog laid w) ∧ sizedMet enc Tryd.prog Tryd.f4 (OpenSpec.ofChange Rows.prefixOnceSpec) false w args) (Rows.prefixOnceSpec.post enc Tryd.prog Tryd.f4 false true false false) := by
  refine law_laid (laid := laid) (C := Tryd.checked) (fn := Tryd.f4) (t := 4) own started (by kernel_rfl) (by kernel_rfl)
    (ChangeSpec.witness_shaped (enc := enc) (C := Tryd.checked) (os := os) (X := fun w _ => laidMetH Tryd.prog laid w) false (World.laidAll Tryd.prog os laid) #[(.int .u32 0), (.int .u32 0), (.int .u32 0)] 8 (World.laidAll_os _ _ _) (World.shaped_of_ZipB (by kernel_rfl) (by kernel_rfl)) (by kernel_rfl) (by kernel_rfl) (by kernel_rfl) (door_met os _))
    vizardlaw04_PrefixOnce.ok (by kernel_rfl) (by kernel_rfl) laidOut rfl ?_ ?_ (by kernel_rfl) (by kernel_rfl) ?_
  · intro t ht
    have e : Tryd.f4.params.toList = [22, 22, 22] := by kernel_rfl
    rw [e] at ht
    have k : ([22, 22, 22] : List TypeId).all (fun t => Tryd.prog.readableRec t && decide (t < Tryd.prog.types.size)) = true := by kernel_rfl
    have := List.all_eq_true.1 k t ht
    simp only [Bool.and_eq_true, decide_eq_true_eq] at this
    exact this
  · intro ds hl
    have e : Tryd.f4.params.toList.length = 3 := by kernel_rfl
    rw [e] at hl
    match ds, hl with
    | [d0, d1, d2], _ => rfl
  · intro W base args hlaid hl harg
    have e : Tryd.f4.params.toList.length = 3 := by kernel_rfl
    rw [e] at hl
    match args, hl with
    | [v0, v1, v2], _ =>
      obtain ⟨z, rfl, _⟩ := cell_int (k := .u32) (by kernel_rfl) (ok_cell (d := (.int .u32)) (by kernel_rfl) rfl (harg 0 22 v0 (by kernel_rfl) rfl).1)
      have h0 : TrodOk enc Tryd.prog W 22 [(.int .u32 z)] := (harg 0 22 _ (by kernel_rfl) rfl).2
      obtain ⟨a0, e, k0_0⟩ := (h0).int (k := .u32) (by kernel_rfl)
      cases e
      obtain ⟨z, rfl, _⟩ := cell_int (k := .u32) (by kernel_rfl) (ok_cell (d := (.int .u32)) (by kernel_rfl) rfl (harg 1 22 v1 (by kernel_rfl) rfl).1)
      have h1 : TrodOk enc Tryd.prog W 22 [(.int .u32 z)] := (harg 1 22 _ (by kernel_rfl) rfl).2
      obtain ⟨a1, e, k1_0⟩ := (h1).int (k := .u32) (by kernel_rfl)
      cases e
      obtain ⟨z, rfl, _⟩ := cell_int (k := .u32) (by kernel_rfl) (ok_cell (d := (.int .u32)) (by kernel_rfl) rfl (harg 2 22 v2 (by kernel_rfl) rfl).1)
      have h2 : TrodOk enc Tryd.prog W 22 [(.int .u32 z)] := (harg 2 22 _ (by kernel_rfl) rfl).2
      obtain ⟨a2, e, k2_0⟩ := (h2).int (k := .u32) (by kernel_rfl)
      cases e
      exact vizardlaw04_PrefixOnce.run (prefix_laid hlaid) k0_0 k1_0 k2_0 ⟨rfl, Heap.Le.refl _⟩
end PrefixOnceRow
theorem prefixOnce_holds : Rows.PrefixOnceSaid :=
  OpenClaim.holds_of_wide 4 Tryd.f4 rfl rfl rfl rfl rfl rfl rfl ⟨rfl, rfl, rfl, rfl, rfl⟩ rfl rfl rfl rfl rfl (by kernel_rfl) (by kernel_rfl) (by kernel_rfl)
    (of_decide_eq_true (by kernel_rfl)) (by unfold Func.isWrapper; first | (rw [if_pos (by decide +kernel)]; kernel_rfl) | (rw [if_neg (by decide +kernel)]; exact ⟨rfl, rfl⟩))
    (fun os started H enc _ => PrefixOnceRow.lifted os started H enc)
theorem prefixOnceCard_holds : Rows.PrefixOnceCardSaid :=
  Claim7.holds_tied_plain_at .later [] [.data, .data, .data, .data, .sentinel, .sentinel, .pinned] true (true, "a612a95992bd4bd681c2070a3dceba332be053e4245b84840b465548d937d557") true
    prefixOnce_holds (fun _ h => by cases h) (by kernel_rfl) (fun _ h => by cases h) prefixOnce_row_tie rfl ⟨rfl, rfl⟩ (by kernel_rfl) rfl
    (fun f fn hf hfn => by
      obtain rfl : f = 4 := Option.some.inj ((show Tryd.prog.funcNamed "vizard/vizardlaw04.PrefixOnce" = some 4 by kernel_rfl).symm.trans hf) |>.symm
      have hfn : Tryd.prog.funcs[4]? = some fn := hfn
      have hf2 : Tryd.prog.funcs[4]? = some Tryd.f4 := by kernel_rfl
      obtain rfl : fn = Tryd.f4 := (Option.some.inj (hf2.symm.trans hfn)).symm
      exact ⟨by kernel_rfl, fun j t ht => by
        have ep : Tryd.f4.params.toList = [22, 22, 22] := by kernel_rfl
        have hm : t ∈ ([22, 22, 22] : List TypeId) := by
          rw [← ep]
          simpa using Array.mem_of_getElem? ht
        have hall : (([22, 22, 22] : List TypeId).all fun u => !Tryd.prog.wantsStandIn u) = true := by kernel_rfl
        exact (show Tryd.prog.wantsStandIn t = false by simpa using List.all_eq_true.1 hall t hm)⟩)
    (by kernel_rfl)
end Go.Proofs.YtennpdminebahaaDoor
