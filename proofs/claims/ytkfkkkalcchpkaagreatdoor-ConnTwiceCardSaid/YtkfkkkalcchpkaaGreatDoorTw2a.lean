/- A packet that comes once more changes nothing (part 1 of the walk and its laws) -/
import Derived.OrdersHeld
import Derived.KernelRfl
namespace Go.Sh
abbrev Heap := Nat → Option Obj
namespace Heap
def set (H : Heap) (b : Nat) (o : Obj) : Heap := fun i => if i = b then some o else H i
def cell? (H : Heap) (a : Addr) : Option Value :=
  match H a.block with
  | some (.cells c _ _) => if a.spot.isSome then none else c[a.off]?
  | _ => none
def shape? (H : Heap) (r : Nat) : Option (TypeId × Nat) :=
  match H r with
  | some (.cells c elem _) => some (elem, c.size)
  | _ => none
def frozen? (H : Heap) (a : Addr) : Bool :=
  match H a.block with
  | some (.cells _ _ (lo, hi)) => lo ≤ a.off && a.off < hi
  | _ => false
def frzObj (a : Addr) (n : Nat) : Obj → Obj
  | .cells c elem (lo, hi) => .cells c elem (if lo == hi then (a.off, a.off + n) else (min lo a.off, max hi (a.off + n)))
  | o => o
def setObj (a : Addr) (v : Value) : Obj → Obj
  | .cells c elem frozen => .cells (if a.spot.isSome then c else c.setIfInBounds a.off v) elem frozen
  | o => o
def upd (H : Heap) (b : Nat) (f : Obj → Obj) : Heap := fun i => if i = b then (H i).map f else H i
def freeze (H : Heap) (a : Addr) (n : Nat) : Heap := if n = 0 then H else H.upd a.block (frzObj a n)
def setCell (H : Heap) (a : Addr) (v : Value) : Heap := H.upd a.block (setObj a v)
def Le (H H' : Heap) : Prop := ∀ b o, H b = some o → H' b = some o
theorem Le.refl (H : Heap) : Le H H := fun _ _ h => h
theorem Le.trans {A B C : Heap} (h : Le A B) (k : Le B C) : Le A C := fun b o e => k b o (h b o e)
theorem set_self (H : Heap) (b : Nat) (o : Obj) : H.set b o b = some o := by simp [set]
theorem set_ne (H : Heap) {b i : Nat} (o : Obj) (h : i ≠ b) : H.set b o i = H i := by simp [set, h]
end Heap
def Sub (H : Heap) (w : World) : Prop := ∀ b o, H b = some o → w.heap[b]? = some o
theorem Sub.of_le {H H' : Heap} {w : World} (h : Sub H' w) (k : H.Le H') : Sub H w := fun b o e => h b o (k b o e)
theorem Sub.lt {H : Heap} {w : World} (h : Sub H w) {b : Nat} {o : Obj} (e : H b = some o) : b < w.heap.size := by
  rcases Nat.lt_or_ge b w.heap.size with hl | hg
  · exact hl
  · have := h b o e; rw [Array.getElem?_eq_none hg] at this; cases this
theorem Sub.fresh {H : Heap} {w : World} (h : Sub H w) : H w.heap.size = none := by
  cases e : H w.heap.size with
  | none => rfl
  | some o => exact absurd (h.lt e) (Nat.lt_irrefl _)
structure Ext (H : Heap) (w : World) (H' : Heap) (w' : World) : Prop where
  os : w'.os = w.os
  tape : w'.tape = w.tape
  output : w'.output = w.output
  size : w.heap.size ≤ w'.heap.size
  old : ∀ b, b < w.heap.size → H b = none → w'.heap[b]? = w.heap[b]? ∧ H' b = none
theorem Ext.refl (H : Heap) (w : World) : Ext H w H w := ⟨rfl, rfl, rfl, Nat.le_refl _, fun _ _ h => ⟨rfl, h⟩⟩
theorem Ext.trans {H H1 H2 : Heap} {w w1 w2 : World} (h : Ext H w H1 w1) (k : Ext H1 w1 H2 w2) : Ext H w H2 w2 :=
  ⟨k.os.trans h.os, k.tape.trans h.tape, k.output.trans h.output, Nat.le_trans h.size k.size, fun b hb hn =>
    have h1 := h.old b hb hn
    have h2 := k.old b (Nat.lt_of_lt_of_le hb h.size) h1.2
    ⟨h2.1.trans h1.1, h2.2⟩⟩
theorem Ext.of_le {H H' H'' : Heap} {w w' : World} (h : Ext H w H' w') (k : H''.Le H') : Ext H w H'' w' :=
  ⟨h.os, h.tape, h.output, h.size, fun b hb hn => ⟨(h.old b hb hn).1, by
    cases e : H'' b with
    | none => rfl
    | some o => have := k b o e; rw [(h.old b hb hn).2] at this; cases this⟩⟩
theorem Ext.drew (H : Heap) (w : World) (n : Nat) : Ext H w H { w with drawn := n } := ⟨rfl, rfl, rfl, Nat.le_refl _, fun _ _ h => ⟨rfl, h⟩⟩
theorem Sub.drew {H : Heap} {w : World} (h : Sub H w) (n : Nat) : Sub H { w with drawn := n } := h
section
variable {H : Heap} {w : World}
theorem Sub.cell (h : Sub H w) {a : Addr} {v : Value} (e : H.cell? a = some v) : w.cell? a = some v := by
  unfold Heap.cell? at e
  unfold World.cell?
  cases hb : H a.block with
  | none => simp [hb] at e
  | some o => rw [h _ _ hb]; rw [hb] at e; exact e
theorem Sub.isSome_cell (h : Sub H w) {a : Addr} (e : (H.cell? a).isSome = true) : ∃ v, w.cell? a = some v := by
  obtain ⟨v, hv⟩ := Option.isSome_iff_exists.1 e
  exact ⟨v, h.cell hv⟩
theorem Sub.block_of_cell {a : Addr} {v : Value} (e : H.cell? a = some v) : (H a.block).isSome = true := by
  unfold Heap.cell? at e
  cases hb : H a.block with
  | none => simp [hb] at e
  | some o => rfl
theorem Sub.frozen (h : Sub H w) {a : Addr} (e : (H a.block).isSome = true) : w.frozen? a = H.frozen? a := by
  obtain ⟨o, ho⟩ := Option.isSome_iff_exists.1 e
  unfold World.frozen? Heap.frozen?
  rw [h _ _ ho, ho]
  cases o <;> rfl
theorem Sub.shape (h : Sub H w) {r : Nat} (e : (H r).isSome = true) : w.shape? r = H.shape? r := by
  obtain ⟨o, ho⟩ := Option.isSome_iff_exists.1 e
  unfold World.shape? Heap.shape?
  rw [h _ _ ho, ho]
  cases o <;> rfl
theorem Sub.alloc (h : Sub H w) (o : Obj) : Sub (H.set w.heap.size o) { w with heap := w.heap.push o } := by
  intro b x hb
  show (w.heap.push o)[b]? = _
  rw [Array.getElem?_push]
  unfold Heap.set at hb
  split at hb
  · rename_i e; subst e; rw [if_pos rfl]; exact hb
  · rename_i e; rw [if_neg e]; exact h b x hb
theorem Ext.alloc (h : Sub H w) (o : Obj) : Ext H w (H.set w.heap.size o) { w with heap := w.heap.push o } :=
  ⟨rfl, rfl, rfl, by simp, fun b hb hn => ⟨by
    show (w.heap.push o)[b]? = _
    rw [Array.getElem?_push, if_neg (by omega)], by rw [Heap.set_ne _ _ (by omega)]; exact hn⟩⟩
theorem Sub.upd (h : Sub H w) (b : Nat) (f : Obj → Obj) : Sub (H.upd b f) { w with heap := w.heap.modify b f } := by
  intro i x hi
  show (w.heap.modify b f)[i]? = _
  rw [Array.getElem?_modify]
  unfold Heap.upd at hi
  by_cases e : i = b
  · subst e
    rw [if_pos rfl] at hi ⊢
    obtain ⟨y, hy, hx⟩ := Option.map_eq_some_iff.1 hi
    rw [h _ _ hy]; simp [hx]
  · rw [if_neg e] at hi
    rw [if_neg (fun e' => e e'.symm)]
    exact h i x hi
theorem Ext.upd {b : Nat} (h : (H b).isSome = true) (f : Obj → Obj) : Ext H w (H.upd b f) { w with heap := w.heap.modify b f } :=
  ⟨rfl, rfl, rfl, by simp, fun i _ hn => by
    have hne : i ≠ b := fun e => by subst e; rw [hn] at h; cases h
    refine ⟨?_, ?_⟩
    · show (w.heap.modify b f)[i]? = _
      rw [Array.getElem?_modify, if_neg (fun e => hne e.symm)]
    · unfold Heap.upd; rw [if_neg hne]; exact hn⟩
end
theorem frz_eq (w : World) (a : Addr) (n : Nat) (h : n ≠ 0) : w.freeze a n = { w with heap := w.heap.modify a.block (Heap.frzObj a n) } := by
  unfold World.freeze
  rw [if_neg h]
  have e : (fun o => Heap.frzObj a n o) = Heap.frzObj a n := rfl
  rw [← e]
  congr 2
theorem setCell_eq (w : World) (a : Addr) (v : Value) : w.setCell a v = { w with heap := w.heap.modify a.block (Heap.setObj a v) } := by
  unfold World.setCell
  have e : (fun o => Heap.setObj a v o) = Heap.setObj a v := rfl
  rw [← e]
  congr 2
def wpS (P : Program) {α : Type} : Sem α → (α → Heap → Prop) → (Value → Heap → Prop) → Heap → Prop
  | .pure a, K, _, H => K a H
  | .load _ a k, K, E, H => match H.cell? a with
    | some v => wpS P (k v) K E H
    | none => False
  | .store _ _ (.agg _) _, _, _, _ | .store _ _ (.tuple _) _, _, _, _ => False
  | .store _ a v k, K, E, H => (H.cell? a).isSome = true ∧ H.frozen? a = false ∧ wpS P k K E (H.setCell a v)
  | .new o k, K, E, H => ∀ b, H b = none → wpS P (k b) K E (H.set b o)
  | .shape r k, K, E, H => (H r).isSome = true ∧ wpS P (k (H.shape? r)) K E H
  | .freeze a n k, K, E, H => (H a.block).isSome = true ∧ wpS P k K E (H.freeze a n)
  | .frozen a k, K, E, H => (H a.block).isSome = true ∧ wpS P (k (H.frozen? a)) K E H
  | .getObj r k, K, E, H => match H r with
    | some (.cells ..) => False
    | some o => wpS P (k o) K E H
    | none => False
  | .setObj r o k, K, E, H => match H r with
    | some (.cells ..) => False
    | some _ => wpS P k K E (H.set r o)
    | none => False
  | .choose q k, K, E, H => if q.forced then wpS P (k 0) K E H else ∀ t, wpS P (k (q.cut t)) K E H
  | .sys _ _, _, _, _ => False
  | .program k, K, E, H => wpS P (k P) K E H
  | .mark _ k, K, E, H => wpS P k K E H
  | .halt (.panic v), _, E, H => E v H
  | .halt _, _, _, _ => False
def Runs {α : Type} (H : Heap) (w : World) (K : α → Heap → Prop) (E : Value → Heap → Prop) : Result α → Prop
  | .ok a w' => ∃ H', Sub H' w' ∧ Ext H w H' w' ∧ K a H'
  | .halt (.panic v) w' => ∃ H', Sub H' w' ∧ Ext H w H' w' ∧ E v H'
  | .halt _ _ => False
theorem Runs.trans {α : Type} {H H1 : Heap} {w w1 : World} {K : α → Heap → Prop} {E : Value → Heap → Prop} {r : Result α} (h : Ext H w H1 w1) (k : Runs H1 w1 K E r) :
    Runs H w K E r := by
  cases r with
  | ok a w' => obtain ⟨H', a1, a2, a3⟩ := k; exact ⟨H', a1, h.trans a2, a3⟩
  | halt x w' => cases x <;> first | exact k | (obtain ⟨H', a1, a2, a3⟩ := k; exact ⟨H', a1, h.trans a2, a3⟩)
theorem wpS_sound (P : Program) {α : Type} {K : α → Heap → Prop} {E : Value → Heap → Prop} (s : Sem α) :
    ∀ (H : Heap) (w : World), Sub H w → wpS P s K E H → Runs H w K E (s.run P w) := by
  induction s with
  | pure a => intro H w hs h; exact ⟨H, hs, Ext.refl H w, h⟩
  | load m a k ih =>
    intro H w hs h
    simp only [wpS] at h
    cases hc : H.cell? a with
    | none => simp [hc] at h
    | some v =>
      rw [hc] at h
      simp only [Sem.run, hs.cell hc]
      exact ih v H w hs h
  | store m a v k ih =>
    intro H w hs h
    have core : (H.cell? a).isSome = true ∧ H.frozen? a = false ∧ wpS P k K E (H.setCell a v) → (∀ c, v ≠ .agg c) → (∀ c, v ≠ .tuple c) →
        Runs H w K E ((Sem.store m a v k).run P w) := by
      rintro ⟨h1, h2, h3⟩ hA hT
      obtain ⟨u, hu⟩ := hs.isSome_cell h1
      obtain ⟨u', hu'⟩ := Option.isSome_iff_exists.1 h1
      have hb := Sub.block_of_cell hu'
      have hf := hs.frozen (a := a) hb
      have hr : (Sem.store m a v k).run P w = k.run P (w.setCell a v) := by
        cases v <;> first | (exact absurd rfl (hA _)) | (exact absurd rfl (hT _)) | (simp only [Sem.run, hu, hf, h2]; rfl)
      rw [hr, setCell_eq]
      exact (ih _ _ (hs.upd _ _) h3).trans (Ext.upd hb _)
    cases v <;> simp only [wpS] at h <;> first | exact h.elim | exact core h (by simp) (by simp)
  | new o k ih =>
    intro H w hs h
    simp only [wpS] at h
    simp only [Sem.run]
    exact (ih _ _ _ (hs.alloc o) (h _ hs.fresh)).trans (Ext.alloc hs o)
  | shape r k ih =>
    intro H w hs h
    simp only [wpS] at h
    simp only [Sem.run, hs.shape h.1]
    exact ih _ H w hs h.2
  | freeze a n k ih =>
    intro H w hs h
    simp only [wpS] at h
    simp only [Sem.run]
    by_cases hn : n = 0
    · subst hn
      simp only [World.freeze, if_true]
      simp only [Heap.freeze, if_true] at h
      exact ih _ _ hs h.2
    · rw [frz_eq w a n hn]
      have e : H.freeze a n = H.upd a.block (Heap.frzObj a n) := by simp [Heap.freeze, hn]
      rw [e] at h
      exact (ih _ _ (hs.upd _ _) h.2).trans (Ext.upd h.1 _)
  | frozen a k ih =>
    intro H w hs h
    simp only [wpS] at h
    simp only [Sem.run, hs.frozen h.1]
    exact ih _ H w hs h.2
  | getObj r k ih =>
    intro H w hs h
    simp only [wpS] at h
    cases hr : H r with
    | none => simp [hr] at h
    | some o =>
      rw [hr] at h
      have hw := hs r o hr
      cases o <;> simp only [] at h <;> first | exact h.elim | (simp only [Sem.run, hw]; exact ih _ H w hs h)
  | setObj r o k ih =>
    intro H w hs h
    simp only [wpS] at h
    cases hr : H r with
    | none => simp [hr] at h
    | some x =>
      rw [hr] at h
      have hw := hs r x hr
      have hlt := hs.lt hr
      have hsub : Sub (H.set r o) { w with heap := w.heap.setIfInBounds r o } := by
        intro b y hb
        show (w.heap.setIfInBounds r o)[b]? = _
        rw [Array.getElem?_setIfInBounds]
        unfold Heap.set at hb
        split at hb
        · rename_i e; subst e; rw [if_pos rfl, if_pos hlt]; exact hb
        · rename_i e; rw [if_neg (fun e' => e e'.symm)]; exact hs b y hb
      have hext : Ext H w (H.set r o) { w with heap := w.heap.setIfInBounds r o } :=
        ⟨rfl, rfl, rfl, by simp, fun b _ hn => by
          have hne : b ≠ r := fun e => by subst e; rw [hr] at hn; cases hn
          refine ⟨?_, ?_⟩
          · show (w.heap.setIfInBounds r o)[b]? = _
            rw [Array.getElem?_setIfInBounds, if_neg (fun e => hne e.symm)]
          · rw [Heap.set_ne _ _ hne]; exact hn⟩
      cases x <;> simp only [] at h <;> first | exact h.elim | (simp only [Sem.run, hw]; exact (ih _ _ hsub h).trans hext)
  | choose q k ih =>
    intro H w hs h
    simp only [wpS] at h
    simp only [Sem.run]
    split
    · rename_i hq; rw [if_pos hq] at h; exact ih _ H w hs h
    · rename_i hq
      rw [if_neg hq] at h
      exact (ih _ H _ (hs.drew _) (h _)).trans (Ext.drew H w _)
  | sys c k ih => intro H w hs h; simp only [wpS] at h
  | program k ih => intro H w hs h; simp only [wpS] at h; simp only [Sem.run]; exact ih _ H w hs h
  | mark m k ih => intro H w hs h; simp only [wpS] at h; simp only [Sem.run]; exact ih H w hs h
  | halt x => intro H w hs h; cases x <;> simp only [wpS] at h; exact ⟨H, hs, Ext.refl H w, h⟩
theorem wpS_bind (P : Program) {α β : Type} {K : β → Heap → Prop} {E : Value → Heap → Prop} (s : Sem α) (f : α → Sem β) :
    ∀ H, wpS P s (fun a H' => wpS P (f a) K E H') E H → wpS P (s.bind f) K E H := by
  induction s with
  | pure a => intro H h; exact h
  | load m a k ih => intro H h; simp only [wpS, Sem.bind] at h ⊢; split <;> rename_i hc <;> simp only [hc] at h; exact ih _ _ h
  | store m a v k ih => intro H h; cases v <;> simp only [wpS, Sem.bind] at h ⊢ <;> exact ⟨h.1, h.2.1, ih _ h.2.2⟩
  | new o k ih => intro H h; simp only [wpS, Sem.bind] at h ⊢; exact fun b hb => ih _ _ (h b hb)
  | shape r k ih => intro H h; simp only [wpS, Sem.bind] at h ⊢; exact ⟨h.1, ih _ _ h.2⟩
  | freeze a n k ih => intro H h; simp only [wpS, Sem.bind] at h ⊢; exact ⟨h.1, ih _ h.2⟩
  | frozen a k ih => intro H h; simp only [wpS, Sem.bind] at h ⊢; exact ⟨h.1, ih _ _ h.2⟩
  | getObj r k ih => intro H h; simp only [wpS, Sem.bind] at h ⊢; split <;> rename_i hc <;> simp only [hc] at h <;> exact ih _ _ h
  | setObj r o k ih => intro H h; simp only [wpS, Sem.bind] at h ⊢; split <;> rename_i hc <;> simp only [hc] at h <;> exact ih _ h
  | choose q k ih =>
    intro H h; simp only [wpS, Sem.bind] at h ⊢
    by_cases hc : q.forced = true
    · rw [if_pos hc] at h ⊢; exact ih _ _ h
    · rw [if_neg hc] at h ⊢; exact fun t => ih _ _ (h t)
  | sys c k ih => intro H h; exact h
  | program k ih => intro H h; exact ih _ _ h
  | mark m k ih => intro H h; exact ih _ h
  | halt x => intro H h; cases x <;> simp only [wpS, Sem.bind] at h ⊢; exact h
def val? (P : Program) {α : Type} : Sem α → Option α
  | .pure a => some a
  | .program k => val? P (k P)
  | .mark _ k => val? P k
  | _ => none
theorem val?_ok (P : Program) {α : Type} {K : α → Heap → Prop} {E : Value → Heap → Prop} {v : α} (s : Sem α) : ∀ H, val? P s = some v → K v H → wpS P s K E H := by
  induction s with
  | pure a => intro H h hK; simp only [val?, Option.some.injEq] at h; subst h; exact hK
  | program k ih => intro H h hK; exact ih _ H h hK
  | mark m k ih => intro H h hK; exact ih H h hK
  | _ => intro H h; simp [val?] at h
def wPure (P : Program) (s : Sem Value) (K : Value → Prop) : Prop :=
  match val? P s with
  | some v => K v
  | none => False
theorem wPure_elim {P : Program} {s : Sem Value} {K : Value → Prop} (h : wPure P s K) : ∃ v, val? P s = some v ∧ K v := by
  unfold wPure at h
  cases e : val? P s with
  | none => simp [e] at h
  | some v => rw [e] at h; exact ⟨v, rfl, h⟩
theorem wPure_ok {P : Program} {s : Sem Value} {K : Value → Heap → Prop} {E : Value → Heap → Prop} {H : Heap} (h : wPure P s fun v => K v H) : wpS P s K E H := by
  obtain ⟨v, hv, hk⟩ := wPure_elim h
  exact val?_ok P s H hv hk
end Go.Sh
