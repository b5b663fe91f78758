/- A packet that comes once more changes nothing (part 19 of the walk and its laws) -/
import Derived.Test.YtkfkkkalcchpkaaGreatDoorTw2r
import Derived.ChangeArms
import Derived.SizedLaws
namespace Go.Sh
open Go.ChangeShapes Go.WideShapes Go.RowKit
def TrodOk {H : Type} (enc : TypeId × Value → H) (P : Program) (W : World) (t : TypeId) (cs : List Value) : Prop :=
  ∃ fuel d ps, DataW.trod enc P W 0 (fun _ => true) true fuel t cs = some (d, ps) ∧ ∀ x ∈ d.weights P t, x ≤ reachBytes
section
variable {H : Type} {enc : TypeId × Value → H} {P : Program} {W : World} {t : TypeId} {cs : List Value}
theorem TrodOk.int {k : IntKind} (ht : P.underlying t = some (.int k)) (h : TrodOk enc P W t cs) : ∃ n, cs = [.int k n] ∧ k.has n := by
  obtain ⟨fuel, d, ps, h, _⟩ := h
  cases fuel with
  | zero => simp [DataW.trod] at h
  | succ m =>
    unfold DataW.trod at h
    rw [ht] at h
    split at h <;> simp_all
    rename_i k' n
    obtain ⟨⟨rfl, hw⟩, _⟩ := h
    simp only [Lit.wf, Bool.and_eq_true, decide_eq_true_eq] at hw
    exact hw
theorem TrodOk.string (ht : P.underlying t = some .string) (h : TrodOk enc P W t cs) : ∃ s : ByteArray, cs = [.string s] ∧ s.size ≤ reachBytes := by
  obtain ⟨fuel, d, ps, h, hw⟩ := h
  cases fuel with
  | zero => simp [DataW.trod] at h
  | succ m =>
    unfold DataW.trod at h
    rw [ht] at h
    split at h <;> simp_all
    rename_i s
    obtain ⟨_, rfl, _⟩ := h
    have := hw s.data.toList.length (by simp [DataW.weights])
    simpa using this
def RowsAt (H : Heap) (p : Option Addr) (n sz : Nat) (rows : List (List Value)) : Prop :=
  rows.length = n ∧ (p = none → n = 0) ∧ ∀ a, p = some a → ∀ (i : Nat) (es : List Value), rows[i]? = some es → es.length = sz ∧ ∀ (j : Nat) (v : Value), es[j]? = some v → H.cell? ((a.add (i * sz)).add j) = some v
theorem heapOf_cell {a : Addr} {v : Value} (h : W.cell? a = some v) : (heapOf W).cell? a = some v := by
  unfold World.cell? at h
  unfold Heap.cell? heapOf
  cases hb : W.heap[a.block]? with
  | none => rw [hb] at h; simp at h
  | some o => rw [hb] at h; cases o <;> simp_all
theorem trodAll_at {ts : List TypeId} {vs : List Value} {ds : List (DataW H)} {ps : List MemPlace} (h : DataW.TrodAll enc P W 0 (fun _ => true) true ts vs ds ps) (rest : List TypeId) (rd : List (DataW H)) :
    (∀ x ∈ DataW.weightsEach P (ts ++ rest) (ds ++ rd), x ≤ reachBytes) → ∀ (j : Nat) (u : TypeId) (v : Value), ts[j]? = some u → vs[j]? = some v → TrodOk enc P W u v.cells.toList := by
  induction ts generalizing vs ds ps with
  | nil => intro _ j u v hj; simp at hj
  | cons a ts ih =>
    obtain ⟨v0, vs1, d0, ds1, p, q, rfl, rfl, rfl, ⟨fuel, h1⟩, h2⟩ := trodAll_cons h
    intro hw j u v hj hv
    have hw' : ∀ x ∈ d0.weights P a ++ DataW.weightsEach P (ts ++ rest) (ds1 ++ rd), x ≤ reachBytes := hw
    cases j with
    | zero =>
      simp only [List.getElem?_cons_zero, Option.some.injEq] at hj hv
      subst hj; subst hv
      exact ⟨fuel, d0, p, h1, fun x hx => hw' x (List.mem_append_left _ hx)⟩
    | succ j =>
      simp only [List.getElem?_cons_succ] at hj hv
      exact ih h2 (fun x hx => hw' x (List.mem_append_right _ hx)) j u v hj hv
end
end Go.Sh
