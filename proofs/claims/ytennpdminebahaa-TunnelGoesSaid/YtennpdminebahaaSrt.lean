/- slices.Sort and slices.Compact, by the library's contracts: a row of whole numbers in a block of one's own. -/
import Derived.Test.YtennpdminebahaaShX
import Derived.Test.YtennpdminebahaaShP
import Derived.Test.YtennpdminebahaaSrt0
namespace Go.Sh
open Go.Proofs Go.RowKit Go.ChangeShapes Go.WideShapes
set_option maxRecDepth 8000
theorem callee_set {P : Program} {f : FuncId} {fn : Func} {c : Code} {F : FT} (hf : P.funcs[f]? = some fn) (hb : fn.body = some c) (hn : (fn.name == "runtime.NumGoroutine") = false)
    (h : ∀ args K E H w, Sub H w → F args K E H → ∃ v b o, (H b).isSome = true ∧ K v (H.set b o) ∧ Calls P f args.toArray w fun e w' => e = .returned v ∧ w'.os = w.os ∧ w'.tape = w.tape ∧ w'.output = w.output ∧ w.heap.size ≤ w'.heap.size ∧ w'.heap[b]? = some o ∧ ∀ i, i < w.heap.size → i ≠ b → w'.heap[i]? = w.heap[i]?) : CalleeOk P f F := by
  intro args K E H w hS hF
  obtain ⟨v, b, o, hbs, hk, hc⟩ := h args K E H w hS hF
  have hr : (callFunc f args.toArray).run P w = .ok (.enter f args.toArray) w := by
    have hbody : fn.body.isNone = false := by rw [hb]; rfl
    show (match P.funcs[f]? with | none => stuck "call: no such function" | some fn => _ : Sem Next).run P w = _
    rw [hf]
    simp only [hn, hbody, Bool.false_eq_true, if_false]
    rfl
  rw [hr]
  refine hc.mono fun e w' ⟨he, h1, h2, h3, h4, h5, h6⟩ => ?_
  subst he
  refine ⟨H.set b o, fun k x hx => ?_, ⟨h1, h2, h3, h4, fun k hk hn => ?_⟩, hk⟩
  · by_cases e : k = b
    · subst e
      rw [set_self] at hx
      cases hx; exact h5
    · rw [set_ne _ _ e] at hx
      have := hS k x hx
      rw [h6 k (Array.getElem?_eq_some_iff.1 this).1 e]
      exact this
  · have e : k ≠ b := fun e => by subst e; rw [hn] at hbs; cases hbs
    exact ⟨h6 k hk e, by rw [set_ne _ _ e]; exact hn⟩
def irow (l : List Int) : List (List Value) := l.map fun x => [.int .i64 x]
theorem irow_flat (l : List Int) : (irow l).flatten = l.map (Value.int .i64) := by
  induction l with
  | nil => rfl
  | cons x l ih => simp [irow] at ih ⊢; exact ih
theorem irow_len (l : List Int) : ∀ es ∈ irow l, es.length = 1 := by
  intro es he
  obtain ⟨x, _, rfl⟩ := List.mem_map.1 he
  rfl
theorem putCells_size {α : Type} [Inhabited α] (enc : α → Value) (off : Nat) (d : Array α) (c : Array Value) : (Go.Sort.putCells enc off d c).size = c.size := by
  unfold Go.Sort.putCells; simp
theorem putCells_take {d : List Int} {c : Array Value} (h : d.length ≤ c.size) : (Go.Sort.putCells (Value.int .i64) 0 d.toArray c).toList.take d.length = d.map (Value.int .i64) := by
  apply List.ext_getElem?
  intro i
  by_cases hi : i < d.length
  · rw [List.getElem?_take_of_lt hi, List.getElem?_map]
    rw [Array.getElem?_toList]
    unfold Go.Sort.putCells
    rw [Array.getElem?_mapIdx, Array.getElem?_eq_getElem (by omega), List.getElem?_eq_getElem hi]
    simp [hi]
  · rw [List.getElem?_eq_none (by rw [List.length_take]; omega), List.getElem?_eq_none (by rw [List.length_map]; omega)]
theorem holds_own {H : Heap} {w : World} (hS : Sub H w) {b : Nat} {arr : Array Value} {e : TypeId} {l : List Int} (hb : H b = some (.cells arr e)) (ht : arr.toList.take l.length = l.map (Value.int .i64)) : Go.Sort.Holds (Value.int .i64) w b 0 l.toArray := by
  intro j hj
  have hj2 : j < l.length := by simpa using hj
  have hw := hS b _ hb
  have hc : arr[j]? = some (.int .i64 l[j]) := by
    have := congrArg (fun l => l[j]?) ht
    simp only [List.getElem?_take_of_lt hj2, List.getElem?_map, List.getElem?_eq_getElem hj2, Option.map_some] at this
    rw [← Array.getElem?_toList]; exact this
  refine ⟨?_, ?_⟩
  · unfold World.cell?
    rw [show (⟨b, 0 + j, none⟩ : Addr).block = b from rfl, hw]
    show (if _ then none else arr[0 + j]?) = _
    simp [hc, hj2]
  · unfold World.frozen?
    rw [show (⟨b, 0 + j, none⟩ : Addr).block = b from rfl, hw]
    show (decide (0 ≤ 0 + j) && decide (0 + j < 0)) = false
    simp
theorem putRow_heap {w : World} {b n : Nat} {os : Array Obj} {arr : Array Value} {e : TypeId} {d : Array Int} (hb : w.heap[b]? = some (.cells arr e)) :
    (Go.Sort.grow (Go.Sort.putRow (Value.int .i64) (Go.Sort.ahead w n) b 0 d) os).heap[b]? = some (.cells (Go.Sort.putCells (Value.int .i64) 0 d arr) e) ∧
    (∀ i, i < w.heap.size → i ≠ b → (Go.Sort.grow (Go.Sort.putRow (Value.int .i64) (Go.Sort.ahead w n) b 0 d) os).heap[i]? = w.heap[i]?) ∧ w.heap.size ≤ (Go.Sort.grow (Go.Sort.putRow (Value.int .i64) (Go.Sort.ahead w n) b 0 d) os).heap.size := by
  have hlt := (Array.getElem?_eq_some_iff.1 hb).1
  refine ⟨?_, fun i hi hne => ?_, ?_⟩
  · show ((w.heap.modify b (Go.Sort.onCells _)) ++ os)[b]? = _
    rw [Array.getElem?_append_left (by simpa using hlt), Array.getElem?_modify, if_pos rfl, hb]
    rfl
  · show ((w.heap.modify b (Go.Sort.onCells _)) ++ os)[i]? = _
    rw [Array.getElem?_append_left (by simpa using hi), Array.getElem?_modify, if_neg (fun e => hne e.symm)]
  · show _ ≤ ((w.heap.modify b (Go.Sort.onCells _)) ++ os).size
    simp
/-- Sorted. -/
structure slices_Sort___int64_int64_.c (p : Option Addr) (n cp : Nat) (K : Heap → Prop) (E : Value → Heap → Prop) (H : Heap) : Prop where
  h : ∃ b arr e l, p = some ⟨b, 0, none⟩ ∧ List.length l = n ∧ n < 4611686018427387904 ∧ n ≤ arr.size ∧ H b = some (.cells arr e) ∧ arr.toList.take n = l.map (Value.int .i64) ∧
    (∀ arr' : Array Value, arr'.size = arr.size → arr'.toList.take n = (l.mergeSort fun x y => decide (x ≤ y)).map (Value.int .i64) → K (H.set b (.cells arr' e)))
def slices_Sort___int64_int64_.F : FT := fun args K E H => match args with
  | [.slice p n c] => slices_Sort___int64_int64_.c p n c (fun H => K (.tuple #[]) H) E H
  | _ => False
theorem slices_Sort___int64_int64_.ok : CalleeOk Try.prog 28 slices_Sort___int64_int64_.F := by
  refine callee_set (fn := Try.f28) (c := Try.f28.body.getD .skip) (by kernel_rfl) (by kernel_rfl) (by kernel_rfl) ?_
  intro args K E H w hS h
  unfold slices_Sort___int64_int64_.F at h
  split at h
  · rename_i p n c
    obtain ⟨b, arr, e, l, rfl, rfl, hn, hsz, hb, ht, hk⟩ := h.h
    have hlen : (l.mergeSort fun x y => decide (x ≤ y)).length = l.length := List.length_mergeSort _
    have hpt := putCells_take (d := l.mergeSort fun x y => decide (x ≤ y)) (c := arr) (by rw [hlen]; exact hsz)
    rw [hlen] at hpt
    have hK := hk (Go.Sort.putCells (Value.int .i64) 0 (l.mergeSort fun x y => decide (x ≤ y)).toArray arr) (putCells_size _ _ _ _) hpt
    refine ⟨.tuple #[], b, _, by rw [hb]; rfl, hK, (Try.slices_Sort_int b 0 c l w (holds_own hS hb ht) (hS.lt hb) hn).mono ?_⟩
    rintro ex w' ⟨rfl, q, os, rfl⟩
    obtain ⟨h1, h2, h3⟩ := putRow_heap (n := q) (os := os) (d := (l.mergeSort fun x y => decide (x ≤ y)).toArray) (hS b _ hb)
    exact ⟨rfl, rfl, rfl, rfl, h3, h1, h2⟩
  · exact h.elim
/-- Runs of equal elements become one. -/
structure slices_Compact___int64_int64_.c (p : Option Addr) (n cp : Nat) (K : Option Addr → Nat → Nat → Heap → Prop) (E : Value → Heap → Prop) (H : Heap) : Prop where
  h : ∃ b arr e l, p = some ⟨b, 0, none⟩ ∧ List.length l = n ∧ n < 4611686018427387904 ∧ n ≤ arr.size ∧ n ≤ cp ∧ H b = some (.cells arr e) ∧ arr.toList.take n = l.map (Value.int .i64) ∧
    (∀ arr' : Array Value, arr'.size = arr.size → arr'.toList.take (Lib.compact l).length = (Lib.compact l).map (Value.int .i64) → K p (Lib.compact l).length cp (H.set b (.cells arr' e)))
def slices_Compact___int64_int64_.F : FT := fun args K E H => match args with
  | [.slice p n c] => slices_Compact___int64_int64_.c p n c (fun p n c H => K (.slice p n c) H) E H
  | _ => False
theorem compactUpTo_len {α : Type} [Inhabited α] [DecidableEq α] (d : Array α) : ∀ m, (Lib.compactUpTo d m).length ≤ m
  | 0 => Nat.le_refl _
  | m + 1 => by
    rw [Lib.compactUpTo_succ, List.length_append]
    have := compactUpTo_len d m
    split <;> simp <;> omega
theorem slices_Compact___int64_int64_.ok : CalleeOk Try.prog 29 slices_Compact___int64_int64_.F := by
  refine callee_set (fn := Try.f29) (c := Try.f29.body.getD .skip) (by kernel_rfl) (by kernel_rfl) (by kernel_rfl) ?_
  intro args K E H w hS h
  unfold slices_Compact___int64_int64_.F at h
  split at h
  · rename_i p n c
    obtain ⟨b, arr, e, l, rfl, rfl, hn, hsz, hcap, hb, ht, hk⟩ := h.h
    have hlen : (Lib.compact l).length ≤ l.length := compactUpTo_len _ _
    have hl2 : (Lib.compact l ++ List.replicate (l.length - (Lib.compact l).length) 0).length = l.length := by simp; omega
    have hpt := putCells_take (d := Lib.compact l ++ List.replicate (l.length - (Lib.compact l).length) 0) (c := arr) (by rw [hl2]; exact hsz)
    rw [hl2, List.map_append] at hpt
    have hpt2 := congrArg (List.take (Lib.compact l).length) hpt
    rw [List.take_take, Nat.min_eq_left hlen, List.take_left' (by simp)] at hpt2
    have hK := hk (Go.Sort.putCells (Value.int .i64) 0 (Lib.compact l ++ List.replicate (l.length - (Lib.compact l).length) 0).toArray arr) (putCells_size _ _ _ _) hpt2
    refine ⟨_, b, _, by rw [hb]; rfl, hK, (Try.slices_Compact_int b 0 c l w (holds_own hS hb ht) (by omega) hcap).mono ?_⟩
    rintro ex w' ⟨rfl, q, rfl⟩
    obtain ⟨h1, h2, h3⟩ := putRow_heap (n := q) (os := #[]) (d := (Lib.compact l ++ List.replicate (l.length - (Lib.compact l).length) 0).toArray) (hS b _ hb)
    rw [Go.Sort.grow_empty] at h1 h2 h3
    exact ⟨rfl, rfl, rfl, rfl, h3, h1, h2⟩
  · exact h.elim
end Go.Sh
