/- A range over strings.SplitSeq: the loop's rounds, over what is known of memory. -/
import Derived.Test.YtpmgchippfmakaaDoorSpl
import Derived.Test.YtpmgchippfmakaaDoorNumD
namespace Go.Sh
open Go.Proofs Go.RowKit
/-- As 'Ext', but for one block that the iterator writes. -/
structure Ext1 (B : Nat) (H : Heap) (w : World) (H' : Heap) (w' : World) : Prop where
  os : w'.os = w.os
  tape : w'.tape = w.tape
  output : w'.output = w.output
  size : w.heap.size ≤ w'.heap.size
  old : ∀ b, b < w.heap.size → H b = none → b ≠ B → w'.heap[b]? = w.heap[b]? ∧ H' b = none
def markD (D : Nat) : Deferred := { target := .collected D, args := #[] }
theorem putObj_sub {H : Heap} {w : World} (h : Sub H w) {l : Nat} (o : Obj) (hl : H l = none) : Sub H (w.putObj l o) := fun b x hb => by
  rw [World.putObj_heap_other (fun e => by subst e; rw [hl] at hb; cases hb)]
  exact h b x hb
theorem setCell_sub {H : Heap} {w : World} (h : Sub H w) {B : Nat} (v : Value) (hl : H B = none) : Sub H (w.setCell ⟨B, 0, none⟩ v) := fun b x hb => by
  rw [setCell_ne _ _ (fun e => by subst e; rw [hl] at hb; cases hb)]
  exact h b x hb
theorem range_split {g : Operand} {p : Tmp} {assign body : Code} {Q : Exit → Act → World → Prop} {a : Act} {w : World} {H : Heap} {fr : Fr} {fr1 : ByteArray → Fr} {s : ByteArray} {B0 B1 B2 : Nat} {e0 e1 e2 : TypeId}
    (hg : a.eval g = .func (.func 80) #[] #[.pointer (some ⟨B0, 0, none⟩), .pointer (some ⟨B1, 0, none⟩), .pointer (some ⟨B2, 0, none⟩)]) (hR : R (Fx.of []) fr a)
    (b0 : w.heap[B0]? = some (.cells #[.string ⟨#[46]⟩] e0)) (b1 : w.heap[B1]? = some (.cells #[.string s] e1)) (b2 : w.heap[B2]? = some (.cells #[.int .i64 0] e2)) (h01 : B0 ≠ B1) (h21 : B2 ≠ B1) (hsz : s.size ≤ 9223372036854775807)
    (hS : Sub H w) (hn0 : H B0 = none) (hn1 : H B1 = none) (hn2 : H B2 = none) (I : List ByteArray → Heap → Prop) (X : Heap → Prop)
    (dom : ∀ pre Hc, I pre Hc → ∀ b, Hc b = none ↔ H b = none) (domX : ∀ Hc, X Hc → ∀ b, Hc b = none ↔ H b = none) (h0 : I [] H)
    (hassign : ∀ (l : Nat) (x : ByteArray) (a0 : Act) (W : World) (K : Act → World → Prop), R (Fx.of []) (fr.set p (some (.string x))) a0 → (∀ a1, R (Fx.of []) (fr1 x) a1 → K a1 W) → assign.wpIn (wideR (some l)) 8 Tryd.prog (Exit.then K (fun _ _ _ => False)) a0 W)
    (hbody : ∀ (l : Nat) (pre : List ByteArray) (x : ByteArray) (Hc : Heap) (a1 : Act) (W : World) (QB : Exit → Act → World → Prop), pre ++ [x] <+: partsB s.data.toList → R (Fx.of []) (fr1 x) a1 → I pre Hc → Sub Hc W →
      (∀ a' Hc' W', I (pre ++ [x]) Hc' → Sub Hc' W' → Ext Hc W Hc' W' → QB .normal a' W') → (∀ a' Hc' W', X Hc' → Sub Hc' W' → Ext Hc W Hc' W' → QB .ret a' W') → body.wpIn (wideR (some l)) 8 Tryd.prog QB a1 W)
    (hdone : ∀ D Hc W, w.heap.size ≤ D → I (partsB s.data.toList) Hc → Sub Hc W → Ext1 B1 H w Hc W → W.heap[D]? = some (.deferred (some [])) → Q .normal { a with defers := [markD D] } W)
    (hret : ∀ D Hc W, w.heap.size ≤ D → X Hc → Sub Hc W → Ext1 B1 H w Hc W → W.heap[D]? = some (.deferred (some [])) → Q .ret { a with defers := [markD D] } W) :
    (Code.rangeFunc g #[p] assign body).wpIn Fence.wide 10 Tryd.prog Q a w := by
  refine wpIn_rangeFunc ?_
  intro fn hfn
  obtain ⟨rec, hrec⟩ : ∃ rec : LoopState → Option Code → Go.Loop, rec = fun st pe => { state := st, pending := pe, fn, tmps := a.tmps, params := #[p], assign, body, defers := w.heap.size } := ⟨_, rfl⟩
  obtain ⟨W1, hW1⟩ : ∃ W1, (w.alloc (.deferred (some []))).alloc (.loop (rec .ready none)) = W1 := ⟨_, rfl⟩
  have hL1 : W1.heap[w.heap.size + 1]? = some (.loop (rec .ready none)) := by
    rw [← hW1]; have := World.alloc_heap_new (w.alloc (.deferred (some []))) (.loop (rec .ready none)); rwa [World.size_alloc] at this
  have hold : ∀ b, b < w.heap.size → W1.heap[b]? = w.heap[b]? := fun b hb => by
    rw [← hW1]
    exact (Below.heap_alloc _ _ _ (by simp; omega)).trans (Below.heap_alloc _ _ _ hb)
  have hK1 : W1.heap[w.heap.size]? = some (.deferred (some [])) := by
    rw [← hW1]; exact (Below.heap_alloc _ _ _ (by simp)).trans (World.alloc_heap_new w _)
  have hsz1 : W1.heap.size = w.heap.size + 2 := by rw [← hW1]; simp
  have hfr : ∀ b, w.heap.size ≤ b → H b = none := fun b hb => by
    cases hh : H b with
    | none => rfl
    | some o => have := hS.lt hh; omega
  have hlt : ∀ {B : Nat} {o : Obj}, w.heap[B]? = some o → B < w.heap.size := fun h => (Array.getElem?_eq_some_iff.1 h).1
  have hS1 : Sub H W1 := fun b o hb => (hold b (hS.lt hb)).trans (hS b o hb)
  have hE1 : Ext1 B1 H w H W1 := ⟨by rw [← hW1]; rfl, by rw [← hW1]; rfl, by rw [← hW1]; rfl, by omega, fun b hb hn _ => ⟨hold b hb, hn⟩⟩
  refine ⟨w.heap.size + 1, [markD w.heap.size], W1, { target := .fn (.func 80) #[.pointer (some ⟨B0, 0, none⟩), .pointer (some ⟨B1, 0, none⟩), .pointer (some ⟨B2, 0, none⟩)], args := #[.func (.yield (w.heap.size + 1)) #[] #[]] }, W1, 80,
    #[.func (.yield (w.heap.size + 1)) #[] #[], .pointer (some ⟨B0, 0, none⟩), .pointer (some ⟨B1, 0, none⟩), .pointer (some ⟨B2, 0, none⟩)], W1, ?_, ?_, fun _ _ => trivial, ?_, (fun h => by cases h), ?_⟩
  · rw [← hW1, hrec]; exact run_enterLoop_outer _ _ _ _ _
  · simp only [resolve, hg]
    simp [go_sem]
  · have eg : ∀ args w, (callFunc 80 args).run Tryd.prog w = .ok (.enter 80 args) w := enters_of Tryd.func80 (by kernel_rfl) rfl
    simp [invoke, go_sem, eg]
  have dl : ∀ {Hc : Heap}, (∀ b, Hc b = none ↔ H b = none) → Hc (w.heap.size + 1) = none ∧ Hc w.heap.size = none := fun h => ⟨(h _).2 (hfr _ (by omega)), (h _).2 (hfr _ (Nat.le_refl _))⟩
  refine (Tryd.split_in 8 s (w.heap.size + 1) B0 B1 B2
    (fun pre W => ∃ Hc, I pre Hc ∧ Sub Hc W ∧ Ext1 B1 H w Hc W ∧ w.heap.size + 2 ≤ W.heap.size ∧ W.heap[w.heap.size + 1]? = some (.loop (rec .ready none)) ∧ W.heap[w.heap.size]? = some (.deferred (some [])))
    (fun _ W => ∃ Hc, X Hc ∧ Sub Hc W ∧ Ext1 B1 H w Hc W ∧ W.heap[w.heap.size + 1]? = some (.loop (rec .done (some .ret))) ∧ W.heap[w.heap.size]? = some (.deferred (some [])))
    (fun pre W v ⟨Hc, i1, i2, i3, i4, i5, i6⟩ => ?_) h01 h21
    (fun W W' => W'.heap[B0]? = W.heap[B0]? ∧ W'.heap[B1]? = W.heap[B1]? ∧ W'.heap[B2]? = W.heap[B2]?) (fun _ _ h => h) ?_ W1 hsz e0 e1 e2 ?_ ?_ ?_ ⟨H, h0, hS1, hE1, by omega, hL1, hK1⟩).mono ?_
  · have hB := hlt b1
    refine ⟨Hc, i1, setCell_sub i2 v ((dom _ _ i1 _).2 hn1), ⟨i3.os, i3.tape, i3.output, Nat.le_trans i3.size (by rw [Go.Sort.setCell_eq]; simp [Go.Sort.mapBlock]), fun b hb hn hne => ⟨?_, (i3.old b hb hn hne).2⟩⟩, by rw [Go.Sort.setCell_eq]; simpa [Go.Sort.mapBlock] using i4, ?_, ?_⟩
    · rw [setCell_ne _ _ hne]; exact (i3.old b hb hn hne).1
    · rw [setCell_ne _ _ (by omega)]; exact i5
    · rw [setCell_ne _ _ (by omega)]; exact i6
  · -- one round
    rintro pre x W ⟨Hc, i1, i2, i3, i4, i5, i6⟩ hpre
    have hy := run_yield (P := Tryd.prog) (args := #[.string x]) i5 (by rw [hrec]; rfl)
    rw [hrec] at hy
    have hdm := dom _ _ i1
    obtain ⟨dl1, dl2⟩ := dl hdm
    refine ⟨fn, _, assign, body, hy, roundIn_of_wpIn hfn (hassign _ x _ W _ ⟨⟨rfl, fun _ _ e => by cases e⟩, ?_, ?_⟩ fun a1 hR1 => ⟨_, run_beginRound i5 (by rw [hrec]), ?_⟩)⟩
    · simpa using hR.2.1
    · intro t v hv
      have := (hR.put (some p) (.string x) (fun _ _ => rfl)).2.2 t v hv
      simpa [Act.put] using this
    · have hlW : w.heap.size + 1 < W.heap.size := by omega
      have hl2 : (W.putObj (w.heap.size + 1) (.loop { rec .ready none with state := .busy })).heap[w.heap.size + 1]? = some (.loop { rec .ready none with state := .busy }) := World.putObj_heap_same hlW
      have hk2 : (W.putObj (w.heap.size + 1) (.loop { rec .ready none with state := .busy })).heap[w.heap.size]? = some (.deferred (some [])) := (World.putObj_heap_other (by omega)).trans i6
      have hsz2 : (W.putObj (w.heap.size + 1) (.loop { rec .ready none with state := .busy })).heap.size = W.heap.size := by simp [World.putObj]
      -- what the end of a round leaves
      have fin : ∀ (jump : Option Code) (Hc' : Heap) (W3 : World), (∀ b, Hc' b = none ↔ H b = none) → Sub Hc' W3 → Ext Hc (W.putObj (w.heap.size + 1) (.loop { rec .ready none with state := .busy })) Hc' W3 →
          (Instr.endRound (w.heap.size + 1) jump).run Tryd.prog W3 = .ok (.bool jump.isNone) (W3.putObj (w.heap.size + 1) (.loop (rec (if jump.isNone then .ready else .done) jump))) ∧
          Sub Hc' (W3.putObj (w.heap.size + 1) (.loop (rec (if jump.isNone then .ready else .done) jump))) ∧ Ext1 B1 H w Hc' (W3.putObj (w.heap.size + 1) (.loop (rec (if jump.isNone then .ready else .done) jump))) ∧
          w.heap.size + 2 ≤ (W3.putObj (w.heap.size + 1) (.loop (rec (if jump.isNone then .ready else .done) jump))).heap.size ∧
          (W3.putObj (w.heap.size + 1) (.loop (rec (if jump.isNone then .ready else .done) jump))).heap[w.heap.size + 1]? = some (.loop (rec (if jump.isNone then .ready else .done) jump)) ∧
          (W3.putObj (w.heap.size + 1) (.loop (rec (if jump.isNone then .ready else .done) jump))).heap[w.heap.size]? = some (.deferred (some [])) ∧
          (∀ b, b < w.heap.size → H b = none → (W3.putObj (w.heap.size + 1) (.loop (rec (if jump.isNone then .ready else .done) jump))).heap[b]? = W.heap[b]?) := fun jump Hc' W3 hd' hs' he' => by
        obtain ⟨dl1', dl2'⟩ := dl hd'
        have hl3 : W3.heap[w.heap.size + 1]? = some (.loop { rec .ready none with state := .busy }) := ((he'.old _ (by omega) dl1).1).trans hl2
        have hk3 : W3.heap[w.heap.size]? = some (.deferred (some [])) := ((he'.old _ (by omega) dl2).1).trans hk2
        have hs3 := he'.size
        have hb3 : ∀ b, b < w.heap.size → H b = none → W3.heap[b]? = W.heap[b]? := fun b hb hn => ((he'.old b (by omega) ((hdm b).2 hn)).1).trans (World.putObj_heap_other (by omega))
        have hr := run_endRound (P := Tryd.prog) jump hl3
        refine ⟨by rw [hrec] at hr ⊢; exact hr, putObj_sub hs' _ dl1', ⟨he'.os.trans i3.os, he'.tape.trans i3.tape, he'.output.trans i3.output, ?_, fun b hb hn hne => ⟨?_, (hd' b).2 hn⟩⟩, ?_, World.putObj_heap_same (by omega), (World.putObj_heap_other (by omega)).trans hk3, fun b hb hn => (World.putObj_heap_other (by omega)).trans (hb3 b hb hn)⟩
        · have := i3.size; simp [World.putObj]; omega
        · exact ((World.putObj_heap_other (by omega)).trans (hb3 b hb hn)).trans (i3.old b hb hn hne).1
        · simp [World.putObj]; omega
      refine hbody _ pre x Hc a1 _ _ hpre hR1 i1 (putObj_sub i2 _ dl1) (fun a' Hc' W3 j1 j2 j3 => ?_) (fun a' Hc' W3 j1 j2 j3 => ?_)
      · obtain ⟨f1, f2, f3, f4, f5, f6, f7⟩ := fin none Hc' W3 (dom _ _ j1) j2 j3
        exact ⟨_, _, f1, .inl ⟨rfl, ⟨Hc', j1, f2, f3, f4, f5, f6⟩, f7 _ (hlt b0) hn0, f7 _ (hlt b1) hn1, f7 _ (hlt b2) hn2⟩⟩
      · obtain ⟨f1, f2, f3, f4, f5, f6, f7⟩ := fin (some .ret) Hc' W3 (domX _ j1) j2 j3
        exact ⟨_, _, f1, .inr ⟨rfl, ⟨Hc', j1, f2, f3, f5, f6⟩⟩⟩
  · exact (hold _ (hlt b0)).trans b0
  · exact (hold _ (hlt b1)).trans b1
  · exact (hold _ (hlt b2)).trans b2
  · -- behind the iterator
    have after : ∀ {Hc : Heap} {W : World} (o : Obj), (∀ b, Hc b = none ↔ H b = none) → Sub Hc W → Ext1 B1 H w Hc W → Sub Hc (W.putObj (w.heap.size + 1) o) ∧ Ext1 B1 H w Hc (W.putObj (w.heap.size + 1) o) := fun o hd hs he =>
      ⟨putObj_sub hs _ (dl hd).1, he.os, he.tape, he.output, by have := he.size; simp [World.putObj]; omega, fun b hb hn hne => ⟨(World.putObj_heap_other (by omega)).trans (he.old b hb hn hne).1, (he.old b hb hn hne).2⟩⟩
    rintro e W2 ⟨⟨v, rfl⟩, ⟨Hc, i1, i2, i3, _, i5, i6⟩ | ⟨pre, _, Hc, i1, i2, i3, i5, i6⟩⟩
    · obtain ⟨k1, k2⟩ := after (.loop { rec .ready none with state := .exhausted }) (dom _ _ i1) i2 i3
      refine ⟨none, _, by have := run_endLoop (P := Tryd.prog) i5 (by rw [hrec]; simp); rw [hrec] at this; exact this, ?_⟩
      rw [hrec] at k1 k2
      have := hdone w.heap.size Hc _ (Nat.le_refl _) i1 k1 k2 ((World.putObj_heap_other (by omega)).trans i6)
      rw [hR.1.1]
      exact this
    · obtain ⟨k1, k2⟩ := after (.loop { rec .done (some .ret) with state := .exhausted }) (domX _ i1) i2 i3
      refine ⟨some .ret, _, by have := run_endLoop (P := Tryd.prog) i5 (by rw [hrec]; simp); rw [hrec] at this; exact this, wpIn_ret ?_⟩
      rw [hrec] at k1 k2
      have := hret w.heap.size Hc _ (Nat.le_refl _) i1 k1 k2 ((World.putObj_heap_other (by omega)).trans i6)
      rw [hR.1.1]
      exact this
end Go.Sh
