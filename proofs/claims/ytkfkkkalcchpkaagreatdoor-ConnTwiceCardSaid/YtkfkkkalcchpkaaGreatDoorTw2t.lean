/- A packet that comes once more changes nothing (part 20 of the walk and its laws) -/
import Derived.Test.YtkfkkkalcchpkaaGreatDoorTw2s
namespace Go.Sh
theorem flat_len {α : Type} {sz : Nat} : ∀ {rows : List (List α)}, (∀ es ∈ rows, es.length = sz) → rows.flatten.length = rows.length * sz
  | [], _ => by simp
  | r :: rows, h => by
    rw [List.flatten_cons, List.length_append, h r (by simp), flat_len (fun es he => h es (by simp [he])), List.length_cons, Nat.add_mul]
    omega
theorem flat_get {α : Type} {sz : Nat} : ∀ {rows : List (List α)}, (∀ es ∈ rows, es.length = sz) → ∀ (i j : Nat), j < sz → rows.flatten[i * sz + j]? = (rows[i]?).bind (·[j]?)
  | [], _, i, j, _ => by simp
  | r :: rows, h, 0, j, hj => by
    rw [List.flatten_cons, Nat.zero_mul, Nat.zero_add, List.getElem?_append_left (by rw [h r (by simp)]; exact hj)]
    simp
  | r :: rows, h, i + 1, j, hj => by
    have hr := h r (by simp)
    rw [List.flatten_cons, List.getElem?_append_right (by rw [hr, Nat.add_mul]; omega), hr, show (i + 1) * sz + j - sz = i * sz + j by rw [Nat.add_mul]; omega]
    rw [flat_get (fun es he => h es (by simp [he])) i j hj]
    simp
theorem add_add (a : Addr) (i j : Nat) : (a.add i).add j = a.add (i + j) := by
  unfold Addr.add
  by_cases hi : i = 0 <;> by_cases hj : j = 0 <;> simp [hi, hj] <;> omega
theorem RowsAt.flat {H : Heap} {p : Option Addr} {n sz : Nat} {rows : List (List Value)} (h : RowsAt H p n sz rows) (hs : 0 < sz) {a : Addr} (ha : p = some a) {i : Nat} {v : Value} (hi : rows.flatten[i]? = some v) : H.cell? (a.add i) = some v := by
  have hl : ∀ es ∈ rows, es.length = sz := fun es he => by
    obtain ⟨k, hk⟩ := List.getElem?_of_mem he
    exact (h.2.2 a ha k es hk).1
  have e : i = i / sz * sz + i % sz := (Nat.div_add_mod' i sz).symm
  rw [e, flat_get hl _ _ (Nat.mod_lt i hs)] at hi
  cases hr : rows[i / sz]? with
  | none => rw [hr] at hi; cases hi
  | some es =>
    rw [hr] at hi
    have := (h.2.2 a ha _ es hr).2 _ v hi
    rw [add_add] at this
    rw [e]; exact this
theorem rdRow_of {H : Heap} {p : Option Addr} {n sz m : Nat} {rows : List (List Value)} {K : List Value → Prop} (h : RowsAt H p n sz rows) (hs : 0 < sz) (hm : m = n * sz) (hk : K rows.flatten) : rdRow H p m K := by
  cases p with
  | none =>
    have hn := h.2.1 rfl
    have hr : rows = [] := List.length_eq_zero_iff.1 (h.1.trans hn)
    subst hr; subst hn
    exact ⟨[], by simp [hm], (fun a ha => by cases ha), (fun _ => by simp [hm]), hk⟩
  | some a =>
    refine ⟨rows.flatten, ?_, fun ad had i v hi => h.flat hs had hi, (fun e => by cases e), hk⟩
    rw [flat_len (sz := sz) fun es he => ?_, h.1, hm]
    obtain ⟨k, hk⟩ := List.getElem?_of_mem he
    exact (h.2.2 a rfl k es hk).1
def zlb (H : Heap) (e : TypeId) (sz : Nat) (p : Option Addr) (n c : Nat) (rows : List (List Value)) : Prop :=
  rows.length = n ∧ (∀ es ∈ rows, es.length = sz) ∧ n ≤ c ∧ ((p = none ∧ c = 0) ∨ ∃ b arr, p = some ⟨b, 0, none⟩ ∧ H b = some (.cells arr e) ∧ arr.size = c * sz ∧ arr.toList.take (n * sz) = rows.flatten)
theorem zlb.at {H : Heap} {e : TypeId} {sz : Nat} {p : Option Addr} {n c : Nat} {rows : List (List Value)} (h : zlb H e sz p n c rows) : RowsAt H p n sz rows := by
  obtain ⟨h1, h2, h3, h4⟩ := h
  refine ⟨h1, fun hp => ?_, fun a ha i es hi => ?_⟩
  · rcases h4 with ⟨_, hc⟩ | ⟨b, arr, hb, _⟩
    · omega
    · rw [hp] at hb; cases hb
  · have hes := h2 es (List.mem_of_getElem? hi)
    refine ⟨hes, fun j v hj => ?_⟩
    rcases h4 with ⟨hp, _⟩ | ⟨b, arr, hb, hH, hsz, htk⟩
    · rw [hp] at ha; cases ha
    · rw [hb] at ha; cases ha
      have hjl : j < sz := by rw [← hes]; exact (List.getElem?_eq_some_iff.1 hj).1
      have hil : i < n := by rw [← h1]; exact (List.getElem?_eq_some_iff.1 hi).1
      have hf := flat_get h2 i j hjl
      rw [hi, Option.bind_some, hj, ← htk, List.getElem?_take] at hf
      split at hf
      · rw [add_add, add_mk, Nat.zero_add]
        unfold Heap.cell?
        rw [hH]
        simpa using hf
      · cases hf
theorem stcs_own {e : TypeId} {b : Nat} {K : Heap → Prop} : ∀ (new : List Value) (i off : Nat) (arr : Array Value) (H : Heap), H b = some (.cells arr e) → off + i + new.length ≤ arr.size →
    (∀ arr' : Array Value, arr'.size = arr.size → arr'.toList.take (off + i) = arr.toList.take (off + i) → (arr'.toList.drop (off + i)).take new.length = new → K (fun k => if k = b then some (.cells arr' e) else H k)) → stcs ⟨b, off, none⟩ new i K H
  | [], i, off, arr, H, hb, _, hk => by
    have := hk arr rfl rfl (by simp)
    have e1 : (fun k => if k = b then some (.cells arr e) else H k) = H := by funext k; split <;> simp_all
    rw [e1] at this
    exact this
  | v :: new, i, off, arr, H, hb, hl, hk => by
    simp only [List.length_cons] at hl
    show stc H (Addr.add ⟨b, off, none⟩ i) v fun H' => stcs ⟨b, off, none⟩ new (i + 1) K H'
    rw [add_mk]
    have hlt : off + i < arr.size := by omega
    refine ⟨?_, ?_, ?_⟩
    · simp [Heap.cell?, hb, hlt]
    · simp [Heap.frozen?, hb]
    · have e1 : (H.setCell ⟨b, off + i, none⟩ v) b = some (.cells (arr.setIfInBounds (off + i) v) e) := by simp [Heap.setCell, Heap.upd, Heap.setObj, hb]
      refine stcs_own new (i + 1) off _ _ e1 (by simp; omega) fun arr' h1 h2 h3 => ?_
      have hset : (arr.setIfInBounds (off + i) v).toList = arr.toList.set (off + i) v := by simp
      have := hk arr' (by simpa using h1) ?_ ?_
      · have e2 : (fun k => if k = b then some (.cells arr' e) else (H.setCell ⟨b, off + i, none⟩ v) k) = (fun k => if k = b then some (.cells arr' e) else H k) := by
          funext k
          by_cases hkb : k = b <;> simp [hkb, Heap.setCell, Heap.upd]
        rw [e2]; exact this
      · have h4 := congrArg (List.take (off + i)) h2
        rw [List.take_take, List.take_take, hset, Nat.min_eq_left (by omega), List.take_set_of_le (by omega)] at h4
        exact h4
      · have h4 : arr'.toList[off + i]? = some v := by
          have h5 := congrArg (fun l => l[off + i]?) h2
          simp only [List.getElem?_take, hset] at h5
          rw [if_pos (by omega), if_pos (by omega)] at h5
          rw [h5]
          simp [hlt]
        have h6 : arr'.toList.drop (off + i) = v :: arr'.toList.drop (off + (i + 1)) := by
          have hl2 : off + i < arr'.toList.length := (List.getElem?_eq_some_iff.1 h4).1
          rw [List.drop_eq_getElem_cons hl2]
          have : arr'.toList[off + i] = v := (List.getElem?_eq_some_iff.1 h4).2
          rw [this]
          rfl
        rw [h6, List.length_cons, List.take_succ_cons, h3]
theorem appT_own {H : Heap} {e : TypeId} {z : Value} {p : Option Addr} {n m c sz bytes : Nat} {rows xs : List (List Value)} {new : List Value} {K : Option Addr → Nat → Nat → Heap → Prop} (h : zlb H e sz p n c rows) (hs : 0 < sz) (hz : (z.cells).size = sz)
    (hnew : new = xs.flatten) (hm : xs.length = m) (hxs : ∀ es ∈ xs, es.length = sz) (hpl : ∀ v ∈ new, znd v = true) (hb1 : (n + m) * bytes ≤ 140737488355328) (hb2 : n + m ≤ 4611686018427387904)
    (hk : ∀ p' c' H', zlb H' e sz p' (n + m) c' (rows ++ xs) → (∀ k o, H k = some o → (∀ b, p = some ⟨b, 0, none⟩ → k ≠ b) → H' k = some o) → (∀ b, p' = some ⟨b, 0, none⟩ → p = p' ∨ H b = none) → K p' (n + m) c' H') : appT e z p n m c sz bytes new K H := by
  have hnl : new.length = m * sz := by rw [hnew, flat_len hxs, hm]
  have hall : ∀ es ∈ rows ++ xs, es.length = sz := fun es he => (List.mem_append.1 he).elim (h.2.1 es) (hxs es)
  have hat := h.at
  obtain ⟨h1, h2, h3, h4⟩ := h
  refine ⟨hb1, hb2, fun hc => ?_, fun hc => ?_⟩
  · rcases h4 with ⟨rfl, rfl⟩ | ⟨b, arr, rfl, hH, hsz, htk⟩
    · refine hk none 0 H ⟨by simp [h1, hm], hall, by omega, .inl ⟨rfl, rfl⟩⟩ (fun k o ho _ => ho) (fun b hb => by cases hb)
    · refine ⟨hpl, ?_⟩
      rw [add_mk, Nat.zero_add]
      have hmul : n * sz + m * sz ≤ c * sz := by rw [← Nat.add_mul]; exact Nat.mul_le_mul_right sz hc
      refine stcs_own new 0 (n * sz) arr H hH (by omega) fun arr' k1 k2 k3 => ?_
      refine hk _ c _ ⟨by simp [h1, hm], hall, hc, .inr ⟨b, arr', rfl, by simp, by rw [k1, hsz], ?_⟩⟩ (fun k o ho hne => ?_) (fun _ _ => Or.inl rfl)
      · rw [Nat.add_mul, List.take_add, List.flatten_append, ← hnew]
        rw [Nat.add_zero] at k2 k3
        rw [k2, htk, ← hnl, k3]
      · have := hne b rfl
        simp [this, ho]
  · refine rdRow_of hat hs rfl ?_
    intro cap hcap b hb
    refine hk _ cap _ ⟨by simp [h1, hm], hall, hcap, .inr ⟨b, (rows.flatten ++ new ++ zub z (cap - (n + m))).toArray, rfl, by simp, ?_, ?_⟩⟩ (fun k o ho _ => ?_) (fun b' hb' => ?_)
    · have hzl : (zub z (cap - (n + m))).length = (cap - (n + m)) * sz := by
        simp [zub, Builtin.zeroCells, hz]
      rw [List.size_toArray, List.length_append, List.length_append, flat_len h2, h1, hnl, hzl, ← Nat.add_mul, ← Nat.add_mul]
      congr 1; omega
    · rw [List.flatten_append, ← hnew]
      have hl : (rows.flatten ++ new).length = (n + m) * sz := by rw [List.length_append, flat_len h2, h1, hnl, Nat.add_mul]
      rw [← hl]
      exact List.take_left
    · have : k ≠ b := fun e => by subst e; rw [hb] at ho; cases ho
      rw [set_ne _ _ this]; exact ho
    · cases hb'; exact .inr hb
end Go.Sh
