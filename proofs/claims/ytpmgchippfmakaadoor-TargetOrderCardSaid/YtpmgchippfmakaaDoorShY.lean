/- Maps with text keys. -/
import Derived.Test.YtpmgchippfmakaaDoorShU
namespace Go.Sh
/-- The map r holds, at each key, what f says. -/
def MapS (H : Heap) (r : Nat) (f : ByteArray → Option Value) : Prop :=
  ∃ es clk, H r = some (.map es clk) ∧ (∀ e ∈ es.toList, ∃ n : ByteArray, e.key = .string n) ∧ (es.toList.map (·.key)).Pairwise (· ≠ ·) ∧ ∀ n, mfind (.string n) es = f n
theorem keyIs_str {n m : ByteArray} {e : MapEntry} (h : e.key = .string m) : keyIs (.string n) e = decide (n = m) := by
  unfold keyIs
  rw [h]
  show (n == m) = _
  by_cases e : n = m
  · subst e; rw [decide_eq_true rfl, ba_beq.2 rfl]
  · rw [decide_eq_false e]
    cases hb : n == m with
    | false => rfl
    | true => exact absurd (ba_beq.1 hb) e
theorem find_modifyS {v x : Value} {a : ByteArray} (hv : v = .string a) : ∀ (l : List MapEntry) (i : Nat), (∀ e ∈ l, ∃ n : ByteArray, e.key = .string n) → l.findIdx? (keyIs v) = some i → ∀ n,
    ((l.modify i fun e => { e with key := v, val := x }).find? (keyIs (.string n))).map (·.val) = if n = a then some x else (l.find? (keyIs (.string n))).map (·.val) := by
  subst hv
  intro l
  induction l with
  | nil => intro i _ h; cases h
  | cons e l ih =>
    intro i hk h n
    obtain ⟨m, hm⟩ := hk e (by simp)
    rw [List.findIdx?_cons] at h
    by_cases ham : a = m
    · rw [keyIs_str hm, decide_eq_true ham] at h
      simp only [if_true, Option.some.injEq] at h
      subst h
      simp only [List.modify_zero_cons, List.find?_cons]
      have e1 : keyIs (.string n) { e with key := .string a, val := x } = decide (n = a) := keyIs_str rfl
      rw [e1, keyIs_str hm]
      by_cases hna : n = a
      · simp [hna]
      · have : ¬ n = m := fun h => hna (by rw [h, ← ham])
        simp [hna, this]
    · rw [keyIs_str hm, decide_eq_false ham] at h
      simp only [Bool.false_eq_true, if_false, Option.map_eq_some_iff] at h
      obtain ⟨j, hj, rfl⟩ := h
      simp only [List.modify_succ_cons, List.find?_cons]
      rw [keyIs_str hm]
      by_cases hnm : n = m
      · have : ¬ n = a := fun h => ham (by rw [← h, hnm])
        simp [hnm]
        intro h; exact absurd h.symm ham
      · simp only [hnm, decide_false]
        exact ih j (fun e he => hk e (by simp [he])) hj n
theorem keys_modifyS {v x : Value} {a : ByteArray} (hv : v = .string a) : ∀ (l : List MapEntry) (i : Nat), (∀ e ∈ l, ∃ n : ByteArray, e.key = .string n) → l.findIdx? (keyIs v) = some i →
    (l.modify i fun e => { e with key := v, val := x }).map (·.key) = l.map (·.key) := by
  subst hv
  intro l
  induction l with
  | nil => intro i _ h; cases h
  | cons e l ih =>
    intro i hk h
    obtain ⟨m, hm⟩ := hk e (by simp)
    rw [List.findIdx?_cons, keyIs_str hm] at h
    by_cases ham : a = m
    · rw [decide_eq_true ham] at h
      simp only [if_true, Option.some.injEq] at h
      subst h
      simp [hm, ham]
    · rw [decide_eq_false ham] at h
      simp only [Bool.false_eq_true, if_false, Option.map_eq_some_iff] at h
      obtain ⟨j, hj, rfl⟩ := h
      simp only [List.modify_succ_cons, List.map_cons]
      rw [ih j (fun e he => hk e (by simp [he])) hj]
theorem str_keys {l l' : List MapEntry} (h : l'.map (·.key) = l.map (·.key)) (hk : ∀ e ∈ l, ∃ n : ByteArray, e.key = .string n) : ∀ e ∈ l', ∃ n : ByteArray, e.key = .string n := by
  intro e he
  have : e.key ∈ l.map (·.key) := by rw [← h]; exact List.mem_map_of_mem he
  obtain ⟨e2, h2, h3⟩ := List.mem_map.1 this
  rw [← h3]; exact hk e2 h2
theorem find_noneS {a : ByteArray} {l : List MapEntry} (h : l.findIdx? (keyIs (.string a)) = none) : l.find? (keyIs (.string a)) = none := by
  rw [List.findIdx?_eq_none_iff] at h
  rw [List.find?_eq_none]
  intro e he
  rw [h e he]; simp
theorem MapS.put {H : Heap} {r : Nat} {f : ByteArray → Option Value} (h : MapS H r f) {a : ByteArray} {x : Value} {K : Heap → Prop}
    (hk : ∀ o, MapS (H.set r o) r (fun n => if n = a then some x else f n) → K (H.set r o)) : putW .string (some r) (.string a) x K H := by
  obtain ⟨es, clk, h1, h2, h3, h4⟩ := h
  refine ⟨es, clk, h1, fun e he => ?_, ?_⟩
  · obtain ⟨n, hn⟩ := h2 e (by simpa using he)
    rw [hn]; simp [keyOk]
  · refine hk _ ?_
    unfold mput
    cases hf : es.toList.findIdx? (keyIs (.string a)) with
    | some i =>
      have hkeys := keys_modifyS (x := x) rfl _ _ h2 hf
      refine ⟨_, _, set_self _ _ _, ?_, ?_, fun n => ?_⟩
      · rw [Array.toList_modify]; exact str_keys hkeys h2
      · rw [Array.toList_modify, hkeys]; exact h3
      · unfold mfind
        rw [Array.toList_modify, find_modifyS rfl _ _ h2 hf n]
        have := h4 n
        unfold mfind at this
        rw [this]
    | none =>
      have hno := find_noneS hf
      rw [List.find?_eq_none] at hno
      refine ⟨_, _, set_self _ _ _, ?_, ?_, fun n => ?_⟩
      · intro e he
        rw [Array.toList_push] at he
        rcases List.mem_append.1 he with he | he
        · exact h2 e he
        · simp only [List.mem_singleton] at he; subst he; exact ⟨a, rfl⟩
      · rw [Array.toList_push, List.map_append, List.pairwise_append]
        refine ⟨h3, by simp, ?_⟩
        intro y hy z hz
        simp only [List.map_cons, List.map_nil, List.mem_singleton] at hz
        subst hz
        obtain ⟨e, he, rfl⟩ := List.mem_map.1 hy
        obtain ⟨m, hm⟩ := h2 e he
        intro heq
        have := hno e he
        rw [hm] at heq
        rw [keyIs_str hm] at this
        simp only [Value.string.injEq] at heq
        simp [heq] at this
      · unfold mfind
        rw [Array.toList_push, List.find?_append]
        have h5 := h4 n
        unfold mfind at h5
        by_cases hna : n = a
        · subst hna
          rw [find_noneS hf]
          have : keyIs (.string n) { key := .string n, val := x, born := clk } = true := by rw [keyIs_str (m := n) rfl]; simp
          simp [this]
        · have : keyIs (.string n) { key := .string a, val := x, born := clk } = false := by rw [keyIs_str (m := a) rfl]; simp [hna]
          show _ = if n = a then some x else f n
          rw [if_neg hna, ← h5]
          simp only [List.find?_cons, this, List.find?_nil, Option.or_none]
theorem MapS.look {H : Heap} {r : Nat} {f : ByteArray → Option Value} (h : MapS H r f) {a z : ByteArray} {K : ByteArray → Bool → Prop} (h1 : ∀ x, f a = some x → ∃ n, x = .string n ∧ K n true) (h0 : f a = none → K z false) : lookS .string (some r) (.string a) z K H := by
  obtain ⟨es, clk, e1, e2, e3, e4⟩ := h
  refine ⟨es, clk, e1, fun e he => ?_, ?_⟩
  · obtain ⟨n, hn⟩ := e2 e (by simpa using he)
    rw [hn]; simp [keyOk]
  · have := e4 a
    show (match mfind (.string a) es with
      | some v => ∃ n, v = Value.string n ∧ K n true
      | none => K z false)
    cases hm : mfind (.string a) es with
    | none => rw [hm] at this; exact h0 this.symm
    | some v => rw [hm] at this; exact h1 v this.symm
end Go.Sh
