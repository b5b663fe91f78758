/- A packet that comes once more changes nothing (part 21 of the walk and its laws) -/
import Derived.Test.YtkfkkkalcchpkaaGreatDoorTw2t
namespace Go.Sh
theorem rdBytes_of {H : Heap} {b n : Nat} {arr : Array Value} {e : TypeId} {bs : List UInt8} {K : ByteArray → Prop} (hb : H b = some (.cells arr e)) (hn : bs.length = n) (hc : ∀ (i : Nat) (x : UInt8), bs[i]? = some x → arr[i]? = some (.int .u8 (x.toNat : Int))) (hk : K ⟨bs.toArray⟩) : rdBytes H (some ⟨b, 0, none⟩) n K := by
  refine ⟨⟨bs.toArray⟩, by simpa [ByteArray.size] using hn, fun _ => .inr (by simp), fun ad had i hi => ?_, (fun h => by cases h), hk⟩
  cases had
  have hx : bs[i]? = some (bs[i]'(by omega)) := List.getElem?_eq_getElem (by omega)
  have := hc i _ hx
  rw [add_mk, Nat.zero_add]
  unfold Heap.cell?
  rw [hb]
  simp only [Option.isSome_none, Bool.false_eq_true, if_false]
  rw [this]
  simp [hx, List.getD_eq_getElem?_getD]
theorem ba_loop (s : ByteArray) : ∀ (m i : Nat) (r : List UInt8), m = s.size - i → ByteArray.toList.loop s i r = r.reverse ++ s.data.toList.drop i := by
  intro m
  induction m with
  | zero =>
    intro i r hm
    unfold ByteArray.toList.loop
    rw [if_neg (by omega), List.drop_eq_nil_of_le (by rw [Array.length_toList]; show s.size ≤ i; omega), List.append_nil]
  | succ m ih =>
    intro i r hm
    unfold ByteArray.toList.loop
    have hlt : i < s.data.toList.length := by rw [Array.length_toList]; show i < s.size; omega
    rw [if_pos (by omega), ih (i + 1) _ (by omega), List.drop_eq_getElem_cons hlt]
    have : s.get! i = s.data.toList[i] := by
      show s.data[i]! = _
      rw [getElem!_pos s.data i (by simpa using hlt)]
      rfl
    rw [this]
    simp
theorem ba_toList (s : ByteArray) : s.toList = s.data.toList := by
  unfold ByteArray.toList
  rw [ba_loop s s.size 0 [] rfl]
  rfl
theorem str_eq (x y : ByteArray) : (x.toList == y.toList) = true ↔ x = y := by
  rw [ba_toList, ba_toList]
  simp only [beq_iff_eq]
  exact ⟨fun h => ByteArray.ext (Array.toList_inj.1 h), fun h => by rw [h]⟩
def MapOf (H : Heap) (r : Nat) (k : IntKind) (f : Int → Option Value) : Prop :=
  ∃ es clk, H r = some (.map es clk) ∧ (∀ e ∈ es.toList, ∃ n, e.key = .int k n) ∧ (es.toList.map (·.key)).Pairwise (· ≠ ·) ∧ ∀ n, mfind (.int k n) es = f n
theorem zcf {k : IntKind} {n m : Int} {e : MapEntry} (h : e.key = .int k m) : keyIs (.int k n) e = decide (n = m) := by
  unfold keyIs
  rw [h]
  simp
  rfl
theorem find_modify {k : IntKind} {v x : Value} {a : Int} (hv : v = .int k a) : ∀ (l : List MapEntry) (i : Nat), (∀ e ∈ l, ∃ n, e.key = .int k n) → l.findIdx? (keyIs v) = some i → ∀ n,
    ((l.modify i fun e => { e with key := v, val := x }).find? (keyIs (.int k n))).map (·.val) = if n = a then some x else (l.find? (keyIs (.int k n))).map (·.val) := by
  subst hv
  intro l
  induction l with
  | nil => intro i _ h; cases h
  | cons e l ih =>
    intro i hk h n
    obtain ⟨m, hm⟩ := hk e (by simp)
    rw [List.findIdx?_cons] at h
    by_cases ham : a = m
    · rw [zcf hm, decide_eq_true ham] at h
      simp only [if_true, Option.some.injEq] at h
      subst h
      simp only [List.modify_zero_cons, List.find?_cons]
      have e1 : keyIs (.int k n) { e with key := .int k a, val := x } = decide (n = a) := zcf rfl
      rw [e1, zcf hm]
      by_cases hna : n = a
      · simp [hna]
      · have : ¬ n = m := fun h => hna (by omega)
        simp [hna, this]
    · rw [zcf hm, decide_eq_false ham] at h
      simp only [Bool.false_eq_true, if_false, Option.map_eq_some_iff] at h
      obtain ⟨j, hj, rfl⟩ := h
      simp only [List.modify_succ_cons, List.find?_cons]
      rw [zcf hm]
      by_cases hnm : n = m
      · have : ¬ n = a := fun h => ham (by omega)
        simp [hnm]
        intro h; omega
      · simp only [hnm, decide_false]
        exact ih j (fun e he => hk e (by simp [he])) hj n
theorem keys_modify {k : IntKind} {v x : Value} {a : Int} (hv : v = .int k a) : ∀ (l : List MapEntry) (i : Nat), (∀ e ∈ l, ∃ n, e.key = .int k n) → l.findIdx? (keyIs v) = some i →
    (l.modify i fun e => { e with key := v, val := x }).map (·.key) = l.map (·.key) := by
  subst hv
  intro l
  induction l with
  | nil => intro i _ h; cases h
  | cons e l ih =>
    intro i hk h
    obtain ⟨m, hm⟩ := hk e (by simp)
    rw [List.findIdx?_cons, zcf hm] at h
    by_cases ham : a = m
    · rw [decide_eq_true ham] at h
      simp only [if_true, Option.some.injEq] at h
      subst h
      simp [hm, ham]
    · rw [decide_eq_false ham] at h
      simp only [Bool.false_eq_true, if_false, Option.map_eq_some_iff] at h
      obtain ⟨j, hj, rfl⟩ := h
      simp only [List.modify_succ_cons, List.map_cons]
      rw [ih j (fun e he => hk e (by simp [he])) hj]
theorem int_keys {k : IntKind} {l l' : List MapEntry} (h : l'.map (·.key) = l.map (·.key)) (hk : ∀ e ∈ l, ∃ n, e.key = .int k n) : ∀ e ∈ l', ∃ n, e.key = .int k n := by
  intro e he
  have : e.key ∈ l.map (·.key) := by rw [← h]; exact List.mem_map_of_mem he
  obtain ⟨e2, h2, h3⟩ := List.mem_map.1 this
  rw [← h3]; exact hk e2 h2
theorem find_none {k : IntKind} {a : Int} {l : List MapEntry} (h : l.findIdx? (keyIs (.int k a)) = none) : l.find? (keyIs (.int k a)) = none := by
  rw [List.findIdx?_eq_none_iff] at h
  rw [List.find?_eq_none]
  intro e he
  rw [h e he]; simp
theorem MapOf.put {H : Heap} {r : Nat} {k : IntKind} {f : Int → Option Value} (h : MapOf H r k f) {a : Int} {x : Value} {K : Heap → Prop}
    (hk : ∀ o, MapOf (H.set r o) r k (fun n => if n = a then some x else f n) → K (H.set r o)) : putW (.int k) (some r) (.int k a) x K H := by
  obtain ⟨es, clk, h1, h2, h3, h4⟩ := h
  refine ⟨es, clk, h1, fun e he => ?_, ?_⟩
  · obtain ⟨n, hn⟩ := h2 e (by simpa using he)
    rw [hn]; simp [keyOk]
  · refine hk _ ?_
    unfold mput
    cases hf : es.toList.findIdx? (keyIs (.int k a)) with
    | some i =>
      have hkeys := keys_modify (x := x) rfl _ _ h2 hf
      refine ⟨_, _, set_self _ _ _, ?_, ?_, fun n => ?_⟩
      · rw [Array.toList_modify]; exact int_keys hkeys h2
      · rw [Array.toList_modify, hkeys]; exact h3
      · unfold mfind
        rw [Array.toList_modify, find_modify rfl _ _ h2 hf n]
        have := h4 n
        unfold mfind at this
        rw [this]
    | none =>
      have hno := find_none hf
      rw [List.find?_eq_none] at hno
      refine ⟨_, _, set_self _ _ _, ?_, ?_, fun n => ?_⟩
      · intro e he
        rw [Array.toList_push] at he
        rcases List.mem_append.1 he with he | he
        · exact h2 e he
        · simp only [List.mem_singleton] at he; subst he; exact ⟨a, rfl⟩
      · rw [Array.toList_push, List.map_append, List.pairwise_append]
        refine ⟨h3, by simp, ?_⟩
        intro y hy z hz
        simp only [List.map_cons, List.map_nil, List.mem_singleton] at hz
        subst hz
        obtain ⟨e, he, rfl⟩ := List.mem_map.1 hy
        obtain ⟨m, hm⟩ := h2 e he
        intro heq
        have := hno e he
        rw [hm] at heq
        rw [zcf hm] at this
        simp only [Value.int.injEq, true_and] at heq
        simp [heq] at this
      · unfold mfind
        rw [Array.toList_push, List.find?_append]
        have h5 := h4 n
        unfold mfind at h5
        by_cases hna : n = a
        · subst hna
          rw [find_none hf]
          have : keyIs (.int k n) { key := .int k n, val := x, born := clk } = true := by rw [zcf (m := n) rfl]; simp
          simp [this]
        · have : keyIs (.int k n) { key := .int k a, val := x, born := clk } = false := by rw [zcf (m := a) rfl]; simp [hna]
          show _ = if n = a then some x else f n
          rw [if_neg hna, ← h5]
          simp only [List.find?_cons, this, List.find?_nil, Option.or_none]
theorem MapOf.look {H : Heap} {r : Nat} {k kk : IntKind} {f : Int → Option Value} (h : MapOf H r k f) {a z : Int} {K : Int → Bool → Prop} (h1 : ∀ x, f a = some x → ∃ n, x = .int kk n ∧ K n true) (h0 : f a = none → K z false) : lookI (.int k) (some r) (.int k a) kk z K H := by
  obtain ⟨es, clk, e1, e2, e3, e4⟩ := h
  refine ⟨es, clk, e1, fun e he => ?_, ?_⟩
  · obtain ⟨n, hn⟩ := e2 e (by simpa using he)
    rw [hn]; simp [keyOk]
  · have := e4 a
    show (match mfind (.int k a) es with
      | some v => ∃ n, v = Value.int kk n ∧ K n true
      | none => K z false)
    cases hm : mfind (.int k a) es with
    | none => rw [hm] at this; exact h0 this.symm
    | some v => rw [hm] at this; exact h1 v this.symm
theorem find_erase {k : IntKind} {a : Int} : ∀ (l : List MapEntry) (i : Nat), (∀ e ∈ l, ∃ n, e.key = .int k n) → (l.map (·.key)).Pairwise (· ≠ ·) → l.findIdx? (keyIs (.int k a)) = some i → ∀ n,
    ((l.eraseIdx i).find? (keyIs (.int k n))).map (·.val) = if n = a then none else (l.find? (keyIs (.int k n))).map (·.val) := by
  intro l
  induction l with
  | nil => intro i _ _ h; cases h
  | cons e l ih =>
    intro i hk hp h n
    obtain ⟨m, hm⟩ := hk e (by simp)
    rw [List.map_cons, List.pairwise_cons] at hp
    rw [List.findIdx?_cons, zcf hm] at h
    by_cases ham : a = m
    · rw [decide_eq_true ham] at h
      simp only [if_true, Option.some.injEq] at h
      subst h
      simp only [List.eraseIdx_cons_zero, List.find?_cons]
      rw [zcf hm]
      by_cases hna : n = a
      · rw [if_pos hna]
        have : l.find? (keyIs (.int k n)) = none := by
          rw [List.find?_eq_none]
          intro e2 he2 hk2
          obtain ⟨m2, hm2⟩ := hk e2 (by simp [he2])
          rw [zcf hm2] at hk2
          have h3 := hp.1 e2.key (List.mem_map_of_mem he2)
          rw [hm, hm2] at h3
          apply h3
          have : n = m2 := by simpa using hk2
          rw [← this, hna, ham]
        rw [this]; rfl
      · have : ¬ n = m := fun h => hna (by omega)
        simp [hna, this]
    · rw [decide_eq_false ham] at h
      simp only [Bool.false_eq_true, if_false, Option.map_eq_some_iff] at h
      obtain ⟨j, hj, rfl⟩ := h
      simp only [List.eraseIdx_cons_succ, List.find?_cons]
      rw [zcf hm]
      by_cases hnm : n = m
      · have : ¬ n = a := fun h => ham (by omega)
        simp [hnm]
        intro h; omega
      · simp only [hnm, decide_false]
        exact ih j (fun e he => hk e (by simp [he])) hp.2 hj n
theorem MapOf.del {H : Heap} {r : Nat} {k : IntKind} {f : Int → Option Value} (h : MapOf H r k f) {a : Int} {K : Heap → Prop}
    (hk : ∀ o, MapOf (H.set r o) r k (fun n => if n = a then none else f n) → K (H.set r o)) : delW (.int k) (some r) (.int k a) K H := by
  obtain ⟨es, clk, h1, h2, h3, h4⟩ := h
  refine ⟨es, clk, h1, fun e he => ?_, ?_⟩
  · obtain ⟨n, hn⟩ := h2 e (by simpa using he)
    rw [hn]; simp [keyOk]
  · refine hk _ ?_
    unfold mdel
    cases hf : es.toList.findIdx? (keyIs (.int k a)) with
    | some i =>
      have hlt : i < es.size := by
        have := List.findIdx?_eq_some_iff_getElem.1 hf
        obtain ⟨h5, _⟩ := this
        simpa using h5
      have e5 : (es.eraseIdxIfInBounds i).toList = es.toList.eraseIdx i := by
        simp [Array.eraseIdxIfInBounds, hlt]
      refine ⟨_, _, set_self _ _ _, ?_, ?_, fun n => ?_⟩
      · rw [e5]; exact fun e he => h2 e (List.mem_of_mem_eraseIdx he)
      · rw [e5]; exact h3.sublist ((List.eraseIdx_sublist _ _).map _)
      · unfold mfind
        rw [e5, find_erase _ _ h2 h3 hf n]
        have := h4 n
        unfold mfind at this
        rw [this]
    | none =>
      refine ⟨_, _, set_self _ _ _, h2, h3, fun n => ?_⟩
      show _ = if n = a then none else f n
      by_cases hna : n = a
      · subst hna
        rw [if_pos rfl]
        unfold mfind
        rw [find_none hf]
        rfl
      · rw [if_neg hna]; exact h4 n
end Go.Sh
