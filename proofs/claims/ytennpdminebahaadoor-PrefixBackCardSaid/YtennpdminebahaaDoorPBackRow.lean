/- what is written is read as it was -/
import Derived.Test.YtennpdminebahaaDoorPfF
import Derived.Test.YtennpdminebahaaDoorRows
import Derived.Test.YtennpdminebahaaDoorCards
import Derived.Test.YtennpdminebahaaDoorTie
import Derived.ProofKit
import Derived.SevenTiedAt
import Derived.LaidMore
import Derived.Lay
import Derived.OpenShut
import Derived.Stop.Joined
namespace Go.Proofs.YtennpdminebahaaDoor
open Go.ChangeShapes Go.WideShapes Go.ChangeAt Go.RowKit Go.Sh
namespace PrefixBackRow
theorem own : ownKnob Tryd.prog.godebug = none := by kernel_rfl
theorem laidOut : laidOutB Tryd.prog = true := by kernel_rfl
theorem open_24 {H : Type} {enc : TypeId × Value → H} {W : World} {cs : List Value} (h : TrodOk enc Tryd.prog W 24 cs) : ∃ x0 x1, cs = [(.int .u32 x0), (.int .i64 x1)] ∧ IntKind.u32.has x0 ∧ IntKind.i64.has x1 := by
  have hl := h.len (n := 2) (by kernel_rfl) (by kernel_rfl)
  match cs, hl with
  | [c0, c1], _ =>
    obtain ⟨x0, e0, k0_0⟩ := (h.field (i := 0) (ft := 22) (off := 0) (n := 1) (by kernel_rfl) (by kernel_rfl)).int (k := .u32) (by kernel_rfl)
    have e0 : [c0] = [(.int .u32 x0)] := e0
    cases e0
    obtain ⟨x1, e1, k1_0⟩ := (h.field (i := 1) (ft := 3) (off := 1) (n := 1) (by kernel_rfl) (by kernel_rfl)).int (k := .i64) (by kernel_rfl)
    have e1 : [c1] = [(.int .i64 x1)] := e1
    cases e1
    exact ⟨x0, x1, rfl, k0_0, k1_0⟩
def laid : List (String × DataW Unit) := [("math/bits.deBruijn32tab", Rows.laid_math_bits_deBruijn32tab), ("math/bits.deBruijn64tab", Rows.laid_math_bits_deBruijn64tab), ("internal/strconv.uint64pow10", Rows.laid_internal_strconv_uint64pow10), ("unicode/utf8.acceptRanges", Rows.laid_unicode_utf8_acceptRanges), ("strconv.ErrRange", Rows.laid_strconv_ErrRange), ("strconv.ErrSyntax", Rows.laid_strconv_ErrSyntax), ("unicode/utf8.first", Rows.laid_unicode_utf8_first)]
theorem met_plain {P : Program} {l : List (String × DataW Unit)} {w : World} (hp : (l.filter fun x => x.2.handleName?.isSome) = []) (h : laidMet P l w) : laidMetH P l w := by
  unfold laidMetH
  rw [hp]
  exact h
set_option maxRecDepth 100000 in
theorem door_met (os : Os) (args : Array Value) : laidMetH Tryd.prog laid ((World.laidAll Tryd.prog os laid).forCall (fun _ _ => 0) ⟨#[], args, []⟩).memory :=
  met_plain (by kernel_rfl) (laidMet_laidAll _ (by kernel_rfl) (by kernel_rfl))
set_option maxRecDepth 100000 in
theorem lifted (os : Os) (started : os.Started) (H : Type) (enc : TypeId × Value → H) :
    ReturnsInHanded {} Tryd.checked os 7 .any (fun w args => (Rows.prefixBackSpec.pre enc Tryd.prog Tryd.f7 Rows.prefixBackRow.domain false w args ∧ laidMetH Tryd.prog laid w) ∧ sizedMet enc Tryd.prog Tryd.f7 (OpenSpec.ofChange Rows.prefixBackSpec) false w args) (Rows.prefixBackSpec.post enc Tryd.prog Tryd.f7 false true false false) := by
  refine law_laid (laid := laid) (C := Tryd.checked) (fn := Tryd.f7) (t := 4) own started (by kernel_rfl) (by kernel_rfl)
    (ChangeSpec.witness_shaped (enc := enc) (C := Tryd.checked) (os := os) (X := fun w _ => laidMetH Tryd.prog laid w) false (World.laidAll Tryd.prog os laid) #[(.int .u32 0), (.agg #[(.int .u32 0), (.int .i64 0)])] 8 (World.laidAll_os _ _ _) (World.shaped_of_ZipB (by kernel_rfl) (by kernel_rfl)) (by kernel_rfl) (by kernel_rfl) (by kernel_rfl) (door_met os _))
    vizardlaw04_PrefixBack.ok (by kernel_rfl) (by kernel_rfl) laidOut rfl ?_ ?_ (by kernel_rfl) (by kernel_rfl) ?_
  · intro t ht
    have e : Tryd.f7.params.toList = [22, 24] := by kernel_rfl
    rw [e] at ht
    have k : ([22, 24] : List TypeId).all (fun t => Tryd.prog.readableRec t && decide (t < Tryd.prog.types.size)) = true := by kernel_rfl
    have := List.all_eq_true.1 k t ht
    simp only [Bool.and_eq_true, decide_eq_true_eq] at this
    exact this
  · intro ds hl
    have e : Tryd.f7.params.toList.length = 2 := by kernel_rfl
    rw [e] at hl
    match ds, hl with
    | [d0, d1], _ => rfl
  · intro W base args hlaid hl harg
    have e : Tryd.f7.params.toList.length = 2 := by kernel_rfl
    rw [e] at hl
    match args, hl with
    | [v0, v1], _ =>
      obtain ⟨z, rfl, _⟩ := cell_int (k := .u32) (by kernel_rfl) (ok_cell (d := (.int .u32)) (by kernel_rfl) rfl (harg 0 22 v0 (by kernel_rfl) rfl).1)
      have h0 : TrodOk enc Tryd.prog W 22 [(.int .u32 z)] := (harg 0 22 _ (by kernel_rfl) rfl).2
      obtain ⟨a0, e, k0_0⟩ := (h0).int (k := .u32) (by kernel_rfl)
      cases e
      obtain ⟨cs, rfl, _⟩ := ok_struct (n := 2) (ts := [22, 3]) (by kernel_rfl) (by kernel_rfl) (by kernel_rfl) (harg 1 24 v1 (by kernel_rfl) rfl).1
      have h1 : TrodOk enc Tryd.prog W 24 cs := (harg 1 24 _ (by kernel_rfl) rfl).2
      obtain ⟨a1_0, a1_1, rfl, k1_0, k1_1⟩ := open_24 (h1)
      exact vizardlaw04_PrefixBack.run (prefix_laid hlaid) k0_0 k1_0 k1_1 ⟨rfl, Heap.Le.refl _⟩
end PrefixBackRow
theorem prefixBack_holds : Rows.PrefixBackSaid :=
  OpenClaim.holds_of_wide 7 Tryd.f7 rfl rfl rfl rfl rfl rfl rfl ⟨rfl, rfl, rfl, rfl, rfl⟩ rfl rfl rfl rfl rfl (by kernel_rfl) (by kernel_rfl) (by kernel_rfl)
    (of_decide_eq_true (by kernel_rfl)) (by unfold Func.isWrapper; first | (rw [if_pos (by decide +kernel)]; kernel_rfl) | (rw [if_neg (by decide +kernel)]; exact ⟨rfl, rfl⟩))
    (fun os started H enc _ => PrefixBackRow.lifted os started H enc)
theorem prefixBackCard_holds : Rows.PrefixBackCardSaid :=
  Claim7.holds_tied_plain_at .later [] [.data, .data, .data, .data, .sentinel, .sentinel, .pinned] true (true, "a612a95992bd4bd681c2070a3dceba332be053e4245b84840b465548d937d557") true
    prefixBack_holds (fun _ h => by cases h) (by kernel_rfl) (fun _ h => by cases h) prefixBack_row_tie rfl ⟨rfl, rfl⟩ (by kernel_rfl) rfl
    (fun f fn hf hfn => by
      obtain rfl : f = 7 := Option.some.inj ((show Tryd.prog.funcNamed "vizard/vizardlaw04.PrefixBack" = some 7 by kernel_rfl).symm.trans hf) |>.symm
      have hfn : Tryd.prog.funcs[7]? = some fn := hfn
      have hf2 : Tryd.prog.funcs[7]? = some Tryd.f7 := by kernel_rfl
      obtain rfl : fn = Tryd.f7 := (Option.some.inj (hf2.symm.trans hfn)).symm
      exact ⟨by kernel_rfl, fun j t ht => by
        have ep : Tryd.f7.params.toList = [22, 24] := by kernel_rfl
        have hm : t ∈ ([22, 24] : List TypeId) := by
          rw [← ep]
          simpa using Array.mem_of_getElem? ht
        have hall : (([22, 24] : List TypeId).all fun u => !Tryd.prog.wantsStandIn u) = true := by kernel_rfl
        exact (show Tryd.prog.wantsStandIn t = false by simpa using List.all_eq_true.1 hall t hm)⟩)
    (by kernel_rfl)
end Go.Proofs.YtennpdminebahaaDoor
