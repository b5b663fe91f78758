/- a request for a target is one for it -/
import Derived.Test.YtpmgchippfmakaaDoorTgc
import Derived.Test.YtpmgchippfmakaaDoorRows
import Derived.Test.YtpmgchippfmakaaDoorCards
import Derived.Test.YtpmgchippfmakaaDoorTie
import Derived.ProofKit
import Derived.SevenTiedAt
import Derived.LaidMore
import Derived.Lay
import Derived.OpenShut
import Derived.Stop.Joined
namespace Go.Proofs.YtpmgchippfmakaaDoor
open Go.ChangeShapes Go.WideShapes Go.ChangeAt Go.RowKit Go.Sh
namespace TargetBackRow
theorem own : ownKnob Tryd.prog.godebug = none := by kernel_rfl
theorem laidOut : laidOutB Tryd.prog = true := by kernel_rfl
theorem open_24 {H : Type} {enc : TypeId × Value → H} {W : World} {cs : List Value} (h : TrodOk enc Tryd.prog W 24 cs) : ∃ x0 x1 x2, cs = [(.bool x0), (.int .u32 x1), (.int .i64 x2)] ∧ IntKind.u32.has x1 ∧ IntKind.i64.has x2 := by
  have hl := h.len (n := 3) (by kernel_rfl) (by kernel_rfl)
  match cs, hl with
  | [c0, c1, c2], _ =>
    obtain ⟨x0, e0⟩ := (h.field (i := 0) (ft := 4) (off := 0) (n := 1) (by kernel_rfl) (by kernel_rfl)).bool (by kernel_rfl)
    have e0 : [c0] = [(.bool x0)] := e0
    cases e0
    obtain ⟨x1, e1, k1_0⟩ := (h.field (i := 1) (ft := 22) (off := 1) (n := 1) (by kernel_rfl) (by kernel_rfl)).int (k := .u32) (by kernel_rfl)
    have e1 : [c1] = [(.int .u32 x1)] := e1
    cases e1
    obtain ⟨x2, e2, k2_0⟩ := (h.field (i := 2) (ft := 3) (off := 2) (n := 1) (by kernel_rfl) (by kernel_rfl)).int (k := .i64) (by kernel_rfl)
    have e2 : [c2] = [(.int .i64 x2)] := e2
    cases e2
    exact ⟨x0, x1, x2, rfl, k1_0, k2_0⟩
theorem open_35 {H : Type} {enc : TypeId × Value → H} {W : World} {cs : List Value} (h : TrodOk enc Tryd.prog W 35 cs) : ∃ x0 x1, cs = [(.string x0), (.string x1)] ∧ x0.size ≤ reachBytes ∧ x1.size ≤ reachBytes := by
  have hl := h.len (n := 2) (by kernel_rfl) (by kernel_rfl)
  match cs, hl with
  | [c0, c1], _ =>
    obtain ⟨x0, e0, k0_0⟩ := (h.field (i := 0) (ft := 9) (off := 0) (n := 1) (by kernel_rfl) (by kernel_rfl)).string (by kernel_rfl)
    have e0 : [c0] = [(.string x0)] := e0
    cases e0
    obtain ⟨x1, e1, k1_0⟩ := (h.field (i := 1) (ft := 9) (off := 1) (n := 1) (by kernel_rfl) (by kernel_rfl)).string (by kernel_rfl)
    have e1 : [c1] = [(.string x1)] := e1
    cases e1
    exact ⟨x0, x1, rfl, k0_0, k1_0⟩
theorem open_27 {H : Type} {enc : TypeId × Value → H} {W : World} {cs : List Value} (h : TrodOk enc Tryd.prog W 27 cs) : ∃ p n c, cs = [.slice p n c] ∧ n ≤ c ∧ c * 32 ≤ reachBytes ∧ ∃ rows, RowsAt (heapOf W) p n 2 rows ∧ ∀ es ∈ rows, ∃ y0 y1, es = [(.string y0), (.string y1)] ∧ y0.size ≤ reachBytes ∧ y1.size ≤ reachBytes := by
  obtain ⟨p, n, c, rfl, h1, h2, rows, h3, hr⟩ := h.rows (e := 35) (sz := 2) (by_ := 32) (by kernel_rfl) (by kernel_rfl) (by kernel_rfl)
  exact ⟨p, n, c, rfl, h1, h2, rows, h3, fun es he => open_35 (hr es he)⟩
def laid : List (String × DataW Unit) := [("math/bits.deBruijn32tab", Rows.laid_math_bits_deBruijn32tab), ("math/bits.deBruijn64tab", Rows.laid_math_bits_deBruijn64tab), ("internal/strconv.uint64pow10", Rows.laid_internal_strconv_uint64pow10), ("unicode/utf8.acceptRanges", Rows.laid_unicode_utf8_acceptRanges), ("strconv.ErrRange", Rows.laid_strconv_ErrRange), ("strconv.ErrSyntax", Rows.laid_strconv_ErrSyntax), ("unicode/utf8.first", Rows.laid_unicode_utf8_first)]
theorem met_plain {P : Program} {l : List (String × DataW Unit)} {w : World} (hp : (l.filter fun x => x.2.handleName?.isSome) = []) (h : laidMet P l w) : laidMetH P l w := by
  unfold laidMetH
  rw [hp]
  exact h
set_option maxRecDepth 100000 in
theorem door_met (os : Os) (args : Array Value) : laidMetH Tryd.prog laid ((World.laidAll Tryd.prog os laid).forCall (fun _ _ => 0) ⟨#[], args, []⟩).memory :=
  met_plain (by kernel_rfl) (laidMet_laidAll _ (by kernel_rfl) (by kernel_rfl))
set_option maxRecDepth 100000 in
theorem lifted (os : Os) (started : os.Started) (H : Type) (enc : TypeId × Value → H) :
    ReturnsInHanded {} Tryd.checked os 5 .any (fun w args => (Rows.targetBackSpec.pre enc Tryd.prog Tryd.f5 Rows.targetBackRow.domain false w args ∧ laidMetH Tryd.prog laid w) ∧ sizedMet enc Tryd.prog Tryd.f5 (OpenSpec.ofChange Rows.targetBackSpec) false w args) (Rows.targetBackSpec.post enc Tryd.prog Tryd.f5 false true false false) := by
  refine law_laid (laid := laid) (C := Tryd.checked) (fn := Tryd.f5) (t := 4) own started (by kernel_rfl) (by kernel_rfl)
    (ChangeSpec.witness_shaped (enc := enc) (C := Tryd.checked) (os := os) (X := fun w _ => laidMetH Tryd.prog laid w) false (World.laidAll Tryd.prog os laid) #[(.string (⟨#[]⟩ : ByteArray)), (.agg #[(.bool false), (.int .u32 0), (.int .i64 0)]), (.slice none 0 0)] 8 (World.laidAll_os _ _ _) (World.shaped_of_ZipB (by kernel_rfl) (by kernel_rfl)) (by kernel_rfl) (by kernel_rfl) (by kernel_rfl) (door_met os _))
    vizardlaw17_TargetBack.ok (by kernel_rfl) (by kernel_rfl) laidOut rfl ?_ ?_ (by kernel_rfl) (by kernel_rfl) ?_
  · intro t ht
    have e : Tryd.f5.params.toList = [9, 24, 27] := by kernel_rfl
    rw [e] at ht
    have k : ([9, 24, 27] : List TypeId).all (fun t => Tryd.prog.readableRec t && decide (t < Tryd.prog.types.size)) = true := by kernel_rfl
    have := List.all_eq_true.1 k t ht
    simp only [Bool.and_eq_true, decide_eq_true_eq] at this
    exact this
  · intro ds hl
    have e : Tryd.f5.params.toList.length = 3 := by kernel_rfl
    rw [e] at hl
    match ds, hl with
    | [d0, d1, d2], _ => rfl
  · intro W base args hlaid hl harg
    have e : Tryd.f5.params.toList.length = 3 := by kernel_rfl
    rw [e] at hl
    match args, hl with
    | [v0, v1, v2], _ =>
      obtain ⟨z, rfl, _⟩ := cell_string (by kernel_rfl) (ok_cell (d := .string) (by kernel_rfl) rfl (harg 0 9 v0 (by kernel_rfl) rfl).1)
      have h0 : TrodOk enc Tryd.prog W 9 [(.string z)] := (harg 0 9 _ (by kernel_rfl) rfl).2
      obtain ⟨a0, e, k0_0⟩ := (h0).string (by kernel_rfl)
      cases e
      obtain ⟨cs, rfl, _⟩ := ok_struct (n := 3) (ts := [4, 22, 3]) (by kernel_rfl) (by kernel_rfl) (by kernel_rfl) (harg 1 24 v1 (by kernel_rfl) rfl).1
      have h1 : TrodOk enc Tryd.prog W 24 cs := (harg 1 24 _ (by kernel_rfl) rfl).2
      obtain ⟨a1_0, a1_1, a1_2, rfl, k1_0, k1_1⟩ := open_24 (h1)
      obtain ⟨zp, zn, zc, rfl⟩ := cell_slice (e := 35) (by kernel_rfl) (ok_cell (d := (.slice 35)) (by kernel_rfl) rfl (harg 2 27 v2 (by kernel_rfl) rfl).1)
      have h2 : TrodOk enc Tryd.prog W 27 [(.slice zp zn zc)] := (harg 2 27 _ (by kernel_rfl) rfl).2
      obtain ⟨a2p, a2n, a2c, e, k2_0, k2_1, k2_2⟩ := open_27 (h2)
      cases e
      exact vizardlaw17_TargetBack.run (vizardlaw17_TargetBack.laid hlaid) k0_0 k1_0 k1_1 k2_0 k2_1 k2_2 ⟨rfl, Heap.Le.refl _⟩
end TargetBackRow
theorem targetBack_holds : Rows.TargetBackSaid :=
  OpenClaim.holds_of_wide 5 Tryd.f5 rfl rfl rfl rfl rfl rfl rfl ⟨rfl, rfl, rfl, rfl, rfl⟩ rfl rfl rfl rfl rfl (by kernel_rfl) (by kernel_rfl) (by kernel_rfl)
    (of_decide_eq_true (by kernel_rfl)) (by unfold Func.isWrapper; first | (rw [if_pos (by decide +kernel)]; kernel_rfl) | (rw [if_neg (by decide +kernel)]; exact ⟨rfl, rfl⟩))
    (fun os started H enc _ => TargetBackRow.lifted os started H enc)
theorem targetBackCard_holds : Rows.TargetBackCardSaid :=
  Claim7.holds_tied_plain_at .later [] [.data, .data, .data, .data, .sentinel, .sentinel, .pinned] true (true, "a68edfe205576e17ced6331a05e252b1f68488cc1f2ad69c2af1ac63b606be4e") true
    targetBack_holds (fun _ h => by cases h) (by kernel_rfl) (fun _ h => by cases h) targetBack_row_tie rfl ⟨rfl, rfl⟩ (by kernel_rfl) rfl
    (fun f fn hf hfn => by
      obtain rfl : f = 5 := Option.some.inj ((show Tryd.prog.funcNamed "vizard/vizardlaw17.TargetBack" = some 5 by kernel_rfl).symm.trans hf) |>.symm
      have hfn : Tryd.prog.funcs[5]? = some fn := hfn
      have hf2 : Tryd.prog.funcs[5]? = some Tryd.f5 := by kernel_rfl
      obtain rfl : fn = Tryd.f5 := (Option.some.inj (hf2.symm.trans hfn)).symm
      exact ⟨by kernel_rfl, fun j t ht => by
        have ep : Tryd.f5.params.toList = [9, 24, 27] := by kernel_rfl
        have hm : t ∈ ([9, 24, 27] : List TypeId) := by
          rw [← ep]
          simpa using Array.mem_of_getElem? ht
        have hall : (([9, 24, 27] : List TypeId).all fun u => !Tryd.prog.wantsStandIn u) = true := by kernel_rfl
        exact (show Tryd.prog.wantsStandIn t = false by simpa using List.all_eq_true.1 hall t hm)⟩)
    (by kernel_rfl)
end Go.Proofs.YtpmgchippfmakaaDoor
