/- HasPrefix, CutPrefix, Split at a separator of one byte: the library's contracts as callees. -/
import Derived.Test.YtpmgchippfmakaaDoorNumD
namespace Go.Sh
open Go.Proofs Go.RowKit Go.ChangeShapes Go.WideShapes
set_option maxRecDepth 8000
structure strings_HasPrefix.c (s p : ByteArray) (K : Bool → Heap → Prop) (E : Value → Heap → Prop) (H : Heap) : Prop where
  h : K (Lib.hasPrefix s.data.toList p.data.toList) H
def strings_HasPrefix.F : FT := fun args K E H => match args with
  | [.string s, .string p] => strings_HasPrefix.c s p (fun v H => K (.bool v) H) E H
  | _ => False
theorem strings_HasPrefix.ok : CalleeOk Tryd.prog 36 strings_HasPrefix.F := by
  refine callee_any (fn := Tryd.f36) (c := Tryd.f36.body.getD .skip) (by kernel_rfl) (by kernel_rfl) (by kernel_rfl) ?_
  intro args K E H w hS h
  unfold strings_HasPrefix.F at h
  split at h
  · rename_i s p
    refine (Tryd.strings_HasPrefix s p w).mono ?_
    rintro e w' ⟨rfl, rfl⟩
    exact ⟨_, rfl, Below.refl _ _, h.h⟩
  · exact h.elim
structure strings_CutPrefix.c (s p : ByteArray) (K : ByteArray → Bool → Heap → Prop) (E : Value → Heap → Prop) (H : Heap) : Prop where
  h : K ⟨(Lib.trimPrefix s.data.toList p.data.toList).toArray⟩ (Lib.hasPrefix s.data.toList p.data.toList) H
def strings_CutPrefix.F : FT := fun args K E H => match args with
  | [.string s, .string p] => strings_CutPrefix.c s p (fun v b H => K (.tuple #[.string v, .bool b]) H) E H
  | _ => False
theorem strings_CutPrefix.ok : CalleeOk Tryd.prog 37 strings_CutPrefix.F := by
  refine callee_any (fn := Tryd.f37) (c := Tryd.f37.body.getD .skip) (by kernel_rfl) (by kernel_rfl) (by kernel_rfl) ?_
  intro args K E H w hS h
  unfold strings_CutPrefix.F at h
  split at h
  · rename_i s p
    refine (Tryd.strings_CutPrefix s p w).mono ?_
    rintro e w' ⟨rfl, rfl⟩
    exact ⟨_, rfl, Below.refl _ _, h.h⟩
  · exact h.elim
/-- The parts of a text between bytes of one kind. -/
def splitP (b : UInt8) (s : ByteArray) : List ByteArray := Lib.splitB ⟨#[b]⟩ 0 (Lib.countB s ⟨#[b]⟩) s
structure strings_Split.c (s sep : ByteArray) (K : Option Addr → Nat → Nat → Heap → Prop) (E : Value → Heap → Prop) (H : Heap) : Prop where
  h : ∃ b : UInt8, sep = ⟨#[b]⟩ ∧ s.size < 4294967281 ∧ ∀ q H', H q = none → Heap.Le H H' → H' q = some (.cells ((splitP b s).map Value.string).toArray 9) → K (some ⟨q, 0, none⟩) (Lib.countB s sep + 1) (Lib.countB s sep + 1) H'
def strings_Split.F : FT := fun args K E H => match args with
  | [.string s, .string sep] => strings_Split.c s sep (fun p n c H => K (.slice p n c) H) E H
  | _ => False
theorem strings_Split.ok : CalleeOk Tryd.prog 38 strings_Split.F := by
  intro args K E H w hS hF
  unfold strings_Split.F at hF
  split at hF
  rotate_left
  · exact hF.elim
  rename_i s sep
  obtain ⟨b, rfl, hs, hk⟩ := hF.h
  have hr : (callFunc 38 [Value.string s, Value.string ⟨#[b]⟩].toArray).run Tryd.prog w = .ok (.enter 38 [Value.string s, Value.string ⟨#[b]⟩].toArray) w := enters_of Tryd.func38 (by kernel_rfl) rfl _ _
  rw [hr]
  refine (Tryd.strings_Split1 s b w hs).mono ?_
  rintro e w' ⟨rfl, rfl⟩
  have hn : H w.heap.size = none := by
    cases hh : H w.heap.size with
    | none => rfl
    | some o => have := hS.lt hh; omega
  exact ⟨H.set w.heap.size (.cells ((splitP b s).map Value.string).toArray 9), hS.alloc _, Ext.alloc hS _, hk _ _ hn (Le_set hn _) (set_self _ _ _)⟩
end Go.Sh
