/- sync.Once.Do as a callee: what is known of the once's cells, and what the function that is handed to it does. -/
import Derived.Test.YtkfkkkalcchpkaaGreatDoorGsea
import Derived.Test.YtkfkkkalcchpkaaGreatDoorOnce
namespace Go.Sh
open Go.Proofs Go.RowKit Go.ChangeShapes Go.WideShapes
set_option maxRecDepth 8000
theorem setCell_sub {H : Heap} {w : World} (hS : Sub H w) {b o : Nat} {arr : Array Value} {e : TypeId} (hb : H b = some (.cells arr e)) (v : Value) : Sub (H.set b (.cells (arr.setIfInBounds o v) e)) (w.setCell ⟨b, o, none⟩ v) ∧ Ext H w (H.set b (.cells (arr.setIfInBounds o v) e)) (w.setCell ⟨b, o, none⟩ v) := by
  have hw := hS _ _ hb
  rw [setCell_eq]
  refine ⟨fun k ob hk => ?_, rfl, rfl, rfl, by simp, fun k hk hn => ?_⟩
  · show (w.heap.modify b (Heap.setObj ⟨b, o, none⟩ v))[k]? = _
    rw [Array.getElem?_modify]
    by_cases hkb : b = k
    · subst hkb
      rw [set_self] at hk
      cases hk
      rw [if_pos rfl, hw]
      rfl
    · rw [if_neg hkb]
      rw [set_ne _ _ (fun e => hkb e.symm)] at hk
      exact hS k ob hk
  · have hkb : ¬ b = k := fun e => by subst e; rw [hb] at hn; cases hn
    refine ⟨?_, ?_⟩
    · show (w.heap.modify b (Heap.setObj ⟨b, o, none⟩ v))[k]? = _
      rw [Array.getElem?_modify, if_neg hkb]
    · rw [set_ne _ _ (fun e => hkb e.symm)]
      exact hn
theorem world_cell {w : World} {b o : Nat} {arr : Array Value} {e : TypeId} (h : w.heap[b]? = some (.cells arr e)) : w.cell? ⟨b, o, none⟩ = arr[o]? := by
  unfold World.cell?
  show (match w.heap[b]? with | some (.cells c _ _) => if Option.isSome none then none else c[o]? | _ => none) = _
  rw [h]
  rfl
theorem world_frozen {w : World} {b o : Nat} {arr : Array Value} {e : TypeId} (h : w.heap[b]? = some (.cells arr e)) : w.frozen? ⟨b, o, none⟩ = false := by
  unfold World.frozen?
  rw [h]
  simp
structure sync_Once_Do.c (a : Option Addr) (fv : Value) (K : Heap → Prop) (E : Value → Heap → Prop) (H : Heap) : Prop where
  h : ∃ b off arr e, a = some ⟨b, off, none⟩ ∧ H b = some (.cells arr e) ∧
    ((∃ d, ¬ d = 0 ∧ arr[off]? = some (.int .u32 d) ∧ K H) ∨
      (arr[off]? = some (.int .u32 0) ∧ arr[off + 1]? = some (.int .i32 0) ∧ ∃ pl, fv = .func (.func 216) #[] #[.pointer (some pl)] ∧
        seal_Key_parts_1.F [.pointer (some pl)] (fun v H2 => v = .tuple #[] ∧ ∃ arr2, H2 b = some (.cells arr2 e) ∧ (∃ x, arr2[off]? = some x) ∧ arr2[off + 1]? = some (.int .i32 1) ∧
          K (H2.set b (.cells ((arr2.setIfInBounds off (.int .u32 1)).setIfInBounds (off + 1) (.int .i32 0)) e))) (fun _ _ => False) (H.set b (.cells (arr.setIfInBounds (off + 1) (.int .i32 1)) e))))
def sync_Once_Do.F : FT := fun args K E H => match args with
  | [.pointer a, fv] => sync_Once_Do.c a fv (fun H => K (.tuple #[]) H) E H
  | _ => False
theorem enters {P : Program} {f : FuncId} {fn : Func} {c : Code} (hf : P.funcs[f]? = some fn) (hb : fn.body = some c) (hn : (fn.name == "runtime.NumGoroutine") = false) (args : Array Value) (w : World) : (callFunc f args).run P w = .ok (.enter f args) w := by
  have hbody : fn.body.isNone = false := by rw [hb]; rfl
  show (match P.funcs[f]? with | none => stuck "call: no such function" | some fn => _ : Sem Next).run P w = _
  rw [hf]
  simp only [hn, hbody, Bool.false_eq_true, if_false]
  rfl
theorem sync_Once_Do.ok : CalleeOk Tryz.prog 215 sync_Once_Do.F := by
  intro args K E H w hS hF
  rw [enters (fn := Tryz.f215) (c := Tryz.f215.body.getD .skip) (by kernel_rfl) (by kernel_rfl) (by kernel_rfl) args.toArray w]
  unfold sync_Once_Do.F at hF
  split at hF
  · rename_i a fv
    obtain ⟨b, off, arr, e, rfl, hb, hG⟩ := hF.h
    have hw := hS _ _ hb
    rcases hG with ⟨d, hd, h0, hK⟩ | ⟨h0, h1, pl, rfl, hG⟩
    · refine (OnceTryz.do_done ⟨b, off, none⟩ d hd fv w (by rw [world_cell hw]; exact h0)).mono ?_
      rintro ex w' ⟨rfl, rfl⟩
      exact ⟨H, hS, Ext.refl _ _, hK⟩
    · obtain ⟨hS1, hE1⟩ := setCell_sub hS (o := off + 1) hb (.int .i32 1)
      have hcl := seal_Key_parts_1.ok _ _ _ _ (w.setCell ⟨b, off + 1, none⟩ (.int .i32 1)) hS1 hG
      rw [enters (fn := Tryz.f216) (c := Tryz.f216.body.getD .skip) (by kernel_rfl) (by kernel_rfl) (by kernel_rfl)] at hcl
      refine (OnceTryz.do_first b off pl w (fun w2 => ∃ H2 arr2, Sub H2 w2 ∧ Ext (H.set b (.cells (arr.setIfInBounds (off + 1) (.int .i32 1)) e)) (w.setCell ⟨b, off + 1, none⟩ (.int .i32 1)) H2 w2 ∧ H2 b = some (.cells arr2 e) ∧
          K (.tuple #[]) (H2.set b (.cells ((arr2.setIfInBounds off (.int .u32 1)).setIfInBounds (off + 1) (.int .i32 0)) e))) (by rw [world_cell hw]; exact h0) (by rw [world_cell hw]; exact h1) (world_frozen hw) ?_).mono ?_
      · refine Calls.mono hcl ?_
        intro ex w2 hex
        cases ex with
        | returned v =>
          obtain ⟨H2, hS2, hE2, rfl, arr2, hb2, ⟨x, hx⟩, h12, hK⟩ := hex
          have hw2 := hS2 _ _ hb2
          exact ⟨rfl, ⟨⟨x, by rw [world_cell hw2]; exact hx⟩, world_frozen hw2, by rw [world_cell hw2]; exact h12, world_frozen hw2⟩, H2, arr2, hS2, hE2, hb2, hK⟩
        | panicked chain =>
          obtain ⟨v, H2, _, _, _, hf⟩ := hex
          exact hf.elim
        | outgrown => exact hex.elim
      · rintro ex w' ⟨rfl, w2, ⟨H2, arr2, hS2, hE2, hb2, hK⟩, rfl⟩
        obtain ⟨hS3, hE3⟩ := setCell_sub hS2 (o := off) hb2 (.int .u32 1)
        obtain ⟨hS4, hE4⟩ := setCell_sub hS3 (o := off + 1) (set_self _ _ _) (.int .i32 0)
        have e2 : ((H2.set b (.cells (arr2.setIfInBounds off (.int .u32 1)) e)).set b (.cells ((arr2.setIfInBounds off (.int .u32 1)).setIfInBounds (off + 1) (.int .i32 0)) e)) = H2.set b (.cells ((arr2.setIfInBounds off (.int .u32 1)).setIfInBounds (off + 1) (.int .i32 0)) e) := by
          funext k
          by_cases hk : k = b <;> simp [Heap.set, hk]
        rw [e2] at hS4 hE4
        refine ⟨_, ?_, ?_, hK⟩
        · exact hS4
        · have := ((hE1.trans hE2).trans hE3).trans hE4
          exact ⟨this.os, this.tape, this.output, this.size, this.old⟩
  · exact hF.elim
/-! ### Atomic numbers -/
structure sync_atomic_AddInt64.c (a : Option Addr) (d : Int) (K : Int → Heap → Prop) (E : Value → Heap → Prop) (H : Heap) : Prop where
  h : ∃ b o arr e x, a = some ⟨b, o, none⟩ ∧ H b = some (.cells arr e) ∧ arr[o]? = some (.int .i64 x) ∧ K (IntKind.i64.wrap (x + d)) (H.set b (.cells (arr.setIfInBounds o (.int .i64 (IntKind.i64.wrap (x + d)))) e))
def sync_atomic_AddInt64.F : FT := fun args K E H => match args with
  | [.pointer a, .int .i64 d] => sync_atomic_AddInt64.c a d (fun x H => K (.int .i64 x) H) E H
  | _ => False
theorem sync_atomic_AddInt64.ok : CalleeOk Tryz.prog 197 sync_atomic_AddInt64.F := by
  intro args K E H w hS hF
  unfold sync_atomic_AddInt64.F at hF
  split at hF
  · rename_i a d
    obtain ⟨b, o, arr, e, x, rfl, hb, hx, hK⟩ := hF.h
    have hw := hS _ _ hb
    obtain ⟨hS1, hE1⟩ := setCell_sub hS (o := o) hb (.int .i64 (IntKind.i64.wrap (x + d)))
    have hr := run_call_add (P := Tryz.prog) Tryz.func197 (by kernel_rfl) (by kernel_rfl) (by kernel_rfl) .i64 (by kernel_rfl) (y := d) (s := IntKind.i64.wrap (x + d)) (w := w) (a := ⟨b, o, none⟩) (x := x) (by rw [world_cell hw]; exact hx) (world_frozen hw) rfl
    show (match (callFunc 197 #[.pointer (some ⟨b, o, none⟩), .int .i64 d]).run Tryz.prog w with | .ok (.value v) w' => _ | .ok (.enter f' as') w' => _ | _ => False)
    rw [hr]
    exact ⟨_, hS1, hE1, hK⟩
  · exact hF.elim
end Go.Sh
