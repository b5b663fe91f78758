/- A packet that comes once more changes nothing (part 24 of the walk and its laws) -/
import Derived.Test.YtkfkkkalcchpkaaGreatDoorTw2w
namespace Go.Sh
def putL {α : Type} (l : List α) (o : Nat) (new : List α) : List α := l.take o ++ new ++ l.drop (o + new.length)
theorem putL_nil {α : Type} (l : List α) (o : Nat) : putL l o [] = l := by simp [putL]
theorem putL_cons {α : Type} {l : List α} {o : Nat} {v : α} {new : List α} (h : o < l.length) : putL (l.set o v) (o + 1) new = putL l o (v :: new) := by
  unfold putL
  have e1 : (l.set o v).take (o + 1) = l.take o ++ [v] := by
    rw [List.take_succ_eq_append_getElem (by simpa using h)]
    simp [List.take_set_of_le]
  have e2 : (l.set o v).drop (o + 1 + new.length) = l.drop (o + (v :: new).length) := by
    rw [List.drop_set_of_lt (by omega), List.length_cons, show o + 1 + new.length = o + (new.length + 1) by omega]
  rw [e1, e2]
  simp
theorem putL_len {α : Type} {l : List α} {o : Nat} {new : List α} (h : o + new.length ≤ l.length) : (putL l o new).length = l.length := by
  unfold putL
  rw [List.length_append, List.length_append, List.length_take, List.length_drop]
  omega
theorem stc_any {H : Heap} {b o : Nat} {arr : Array Value} {e : TypeId} {f : Nat × Nat} {v : Value} {K : Heap → Prop} (hb : H b = some (.cells arr e f)) (ho : o < arr.size) (hf : ¬ (f.1 ≤ o ∧ o < f.2)) (h : K (H.set b (.cells (arr.setIfInBounds o v) e f))) : stc H (⟨b, o, none⟩ : Addr) v K := by
  obtain ⟨lo, hi⟩ := f
  refine ⟨by simp [Heap.cell?, hb, ho], ?_, ?_⟩
  · have : (decide (lo ≤ o) && decide (o < hi)) = false := by
      cases hd : (decide (lo ≤ o) && decide (o < hi)) with
      | false => rfl
      | true => exact absurd (by simpa using hd) hf
    simp [Heap.frozen?, hb, this]
  · have : H.setCell ⟨b, o, none⟩ v = H.set b (.cells (arr.setIfInBounds o v) e (lo, hi)) := by
      funext i
      by_cases hi : i = b <;> simp [Heap.setCell, Heap.upd, Heap.set, Heap.setObj, hi, hb]
    rw [this]; exact h
theorem stcs_at {e : TypeId} {b : Nat} {f : Nat × Nat} {K : Heap → Prop} : ∀ (new : List Value) (i off : Nat) (arr : Array Value) (H : Heap), H b = some (.cells arr e f) → off + i + new.length ≤ arr.size →
    (∀ k, off + i ≤ k → k < off + i + new.length → ¬ (f.1 ≤ k ∧ k < f.2)) → K (H.set b (.cells (putL arr.toList (off + i) new).toArray e f)) → stcs ⟨b, off, none⟩ new i K H
  | [], i, off, arr, H, hb, _, _, hk => by
    rw [putL_nil] at hk
    have e1 : H.set b (.cells arr.toList.toArray e f) = H := by
      funext k
      by_cases hkb : k = b
      · subst hkb; rw [set_self]; exact hb.symm
      · rw [set_ne _ _ hkb]
    rw [e1] at hk
    exact hk
  | v :: new, i, off, arr, H, hb, hl, hf, hk => by
    simp only [List.length_cons] at hl hf
    show stc H (Addr.add ⟨b, off, none⟩ i) v fun H' => stcs ⟨b, off, none⟩ new (i + 1) K H'
    rw [add_mk]
    refine stc_any hb (by omega) (hf _ (Nat.le_refl _) (by omega)) ?_
    refine stcs_at new (i + 1) off _ _ (set_self _ _ _) (by simp; omega) (fun k h1 h2 => hf k (by omega) (by omega)) ?_
    rw [zdc, Array.toList_setIfInBounds, ← Nat.add_assoc, putL_cons (by rw [Array.length_toList]; omega)]
    exact hk
def OwnB (H : Heap) (e : TypeId) (p : Option Addr) (n c : Nat) (l : List UInt8) : Prop :=
  l.length = n ∧ n ≤ c ∧ ((p = none ∧ c = 0) ∨ ∃ b off arr f, p = some ⟨b, off, none⟩ ∧ H b = some (.cells arr e f) ∧ off + c ≤ arr.size ∧ (∀ k, off ≤ k → k < off + c → ¬ (f.1 ≤ k ∧ k < f.2)) ∧ (arr.toList.drop off).take n = l.map byV)
def zzc (H : Heap) (p : Option Addr) (n : Nat) (l : List UInt8) : Prop :=
  l.length = n ∧ (p = none → n = 0) ∧ ∀ a, p = some a → ∀ (i : Nat) (x : UInt8), l[i]? = some x → H.cell? (a.add i) = some (byV x)
theorem zzc.take {H : Heap} {p : Option Addr} {n k : Nat} {l : List UInt8} (h : zzc H p n l) (hk : k ≤ n) : zzc H p k (l.take k) := by
  refine ⟨by rw [List.length_take, h.1]; omega, fun hp => by have := h.2.1 hp; omega, fun a ha i x hi => ?_⟩
  rw [List.getElem?_take] at hi
  split at hi
  · exact h.2.2 a ha i x hi
  · cases hi
theorem zzc.rows {H : Heap} {p : Option Addr} {n : Nat} {l : List UInt8} (h : zzc H p n l) : RowsAt H p n 1 (vrow l) := by
  refine ⟨by simpa [vrow] using h.1, h.2.1, fun a ha i es hi => ?_⟩
  have hi : (l.map fun x => [byV x])[i]? = some es := hi
  rw [List.getElem?_map, Option.map_eq_some_iff] at hi
  obtain ⟨x, hx, rfl⟩ := hi
  refine ⟨rfl, fun j v hj => ?_⟩
  cases j with
  | zero =>
    simp only [List.getElem?_cons_zero, Option.some.injEq] at hj
    subst hj
    rw [add_add, Nat.mul_one]
    exact h.2.2 a ha i x hx
  | succ j => simp at hj
theorem zzc.rdBytes {H : Heap} {p : Option Addr} {n : Nat} {l : List UInt8} {K : ByteArray → Prop} (h : zzc H p n l) (hk : K ⟨l.toArray⟩) : rdBytes H p n K := by
  have hl := h.1
  refine ⟨⟨l.toArray⟩, by simpa [ByteArray.size] using hl, fun _ => ?_, fun ad had i hi => ?_, h.2.1, hk⟩
  · cases p <;> simp
  · have hx : l[i]? = some (l[i]'(by omega)) := List.getElem?_eq_getElem (by omega)
    rw [h.2.2 ad had i _ hx]
    simp [byV, hx, List.getD_eq_getElem?_getD]
theorem zzc.rdRow {H : Heap} {p : Option Addr} {n m : Nat} {l : List UInt8} {K : List Value → Prop} (h : zzc H p n l) (hm : m = n * 1) (hk : K (vrow l).flatten) : rdRow H p m K := rdRow_of h.rows (by decide) hm hk
theorem zzc.step {L L' : List Nat} {H H' : Heap} (hs : Step L H L' H') {p : Option Addr} {n : Nat} {l : List UInt8} (h : zzc H p n l) (hn : ∀ k ∈ bl p, k ∉ L) : zzc H' p n l :=
  ⟨h.1, h.2.1, fun a ha i x hi => hs.cell (h.2.2 a ha i x hi) (by rw [add_block]; exact hn _ (by simp [ha, bl]))⟩
theorem OwnB.bytes {H : Heap} {e : TypeId} {p : Option Addr} {n c : Nat} {l : List UInt8} (h : OwnB H e p n c l) : zzc H p n l := by
  obtain ⟨h1, h2, h3⟩ := h
  refine ⟨h1, fun hp => ?_, fun a ha i x hi => ?_⟩
  · rcases h3 with ⟨_, hc⟩ | ⟨b, off, arr, f, hb, _⟩
    · omega
    · rw [hp] at hb; cases hb
  · rcases h3 with ⟨hp, _⟩ | ⟨b, off, arr, f, hb, hH, hsz, _, htk⟩
    · rw [hp] at ha; cases ha
    · rw [hb] at ha; cases ha
      have hil : i < n := by rw [← h1]; exact (List.getElem?_eq_some_iff.1 hi).1
      have h4 := congrArg (fun l => l[i]?) htk
      simp only [List.getElem?_take, List.getElem?_drop, List.getElem?_map, hi, Option.map_some] at h4
      rw [if_pos hil] at h4
      rw [add_mk]
      unfold Heap.cell?
      rw [hH]
      simpa using h4
theorem OwnB.step {L L' : List Nat} {H H' : Heap} {e : TypeId} {p : Option Addr} {n c : Nat} {l : List UInt8} (h : OwnB H e p n c l) (hs : Step L H L' H') (hn : ∀ k ∈ bl p, k ∉ L) : OwnB H' e p n c l := by
  obtain ⟨h1, h2, h3⟩ := h
  refine ⟨h1, h2, ?_⟩
  rcases h3 with h3 | ⟨b, off, arr, f, hp, hb, h4⟩
  · exact .inl h3
  · exact .inr ⟨b, off, arr, f, hp, (hs b _ hb (hn b (by simp [hp, bl]))).1, h4⟩
theorem OwnB.le {H H' : Heap} {e : TypeId} {p : Option Addr} {n c : Nat} {l : List UInt8} (h : OwnB H e p n c l) (hl : Heap.Le H H') : OwnB H' e p n c l := h.step (Step.of_le (L := []) hl) (by simp)
theorem OwnB.nil {H : Heap} {e : TypeId} : OwnB H e none 0 0 [] := ⟨rfl, Nat.le_refl _, .inl ⟨rfl, rfl⟩⟩
theorem OwnB.of_block {H : Heap} {e : TypeId} {b n c : Nat} {arr : Array Value} {f : Nat × Nat} {l : List UInt8} (hb : H b = some (.cells arr e f)) (hl : l.length = n) (hn : n ≤ c) (hc : c ≤ arr.size) (hf : c ≤ f.1 ∨ f.1 = f.2) (ht : arr.toList.take n = l.map byV) : OwnB H e (some ⟨b, 0, none⟩) n c l :=
  ⟨hl, hn, .inr ⟨b, 0, arr, f, rfl, hb, by omega, fun k _ h2 h3 => by omega, by simpa using ht⟩⟩
theorem OwnB.drop {H : Heap} {e : TypeId} {p : Option Addr} {n c k : Nat} {l : List UInt8} (h : OwnB H e p n c l) (hk : k ≤ n) : OwnB H e (slA p c k 1) (n - k) (c - k) (l.drop k) ∧ bl (slA p c k 1) = bl p := by
  obtain ⟨h1, h2, h3⟩ := h
  unfold slA
  by_cases hc : c = k
  · rw [if_pos hc]
    have hn : n = k := by omega
    refine ⟨⟨by rw [List.length_drop, h1], by omega, ?_⟩, rfl⟩
    rcases h3 with ⟨hp, hc0⟩ | ⟨b, off, arr, f, hp, hb, hsz, hf, _⟩
    · exact .inl ⟨hp, by omega⟩
    · refine .inr ⟨b, off, arr, f, hp, hb, by omega, fun i _ hi => by omega, ?_⟩
      rw [hn, Nat.sub_self, List.take_zero, List.drop_eq_nil_of_le (by omega)]
      rfl
  · rw [if_neg hc]
    rcases h3 with ⟨rfl, hc0⟩ | ⟨b, off, arr, f, rfl, hb, hsz, hf, ht⟩
    · omega
    · refine ⟨⟨by rw [List.length_drop, h1], by omega, .inr ⟨b, off + k, arr, f, by simp, hb, by omega, fun i h5 h6 => hf i (by omega) (by omega), ?_⟩⟩, by simp [bl]⟩
      have h4 := congrArg (List.drop k) ht
      rw [List.drop_take, List.drop_drop, ← List.map_drop] at h4
      exact h4
theorem slA_zero {p : Option Addr} {c : Nat} : slA p c 0 1 = p := by
  unfold slA
  split
  · rfl
  · cases p with
    | none => rfl
    | some a => cases a; simp [Addr.add]
theorem zerosB_len (n : Nat) : (zub (.int .u8 0) n).length = n := by
  have hs : (Value.int IntKind.u8 0).cells.size = 1 := rfl
  simp [zub, Builtin.zeroCells, hs]
theorem appT_bytes {H : Heap} {e : TypeId} {p : Option Addr} {n m c : Nat} {l xs : List UInt8} {new : List Value} {K : Option Addr → Nat → Nat → Heap → Prop} (h : OwnB H e p n c l)
    (hnew : new = (vrow xs).flatten) (hm : xs.length = m) (hb : n + m ≤ 140737488355328)
    (hk : ∀ p' c' H', OwnB H' e p' (n + m) c' (l ++ xs) → Step (bl p) H (bl p') H' → K p' (n + m) c' H') : appT e (.int .u8 0) p n m c 1 1 new K H := by
  have hat := h.bytes
  have hnl : new.length = m := by rw [hnew, zvd, List.length_map, hm]
  have hpl : ∀ v ∈ new, znd v = true := by
    intro v hv
    rw [hnew, zvd] at hv
    obtain ⟨x, _, rfl⟩ := List.mem_map.1 hv
    rfl
  obtain ⟨h1, h2, h3⟩ := h
  refine ⟨by omega, by omega, fun hc => ?_, fun hc => ?_⟩
  · rcases h3 with ⟨rfl, rfl⟩ | ⟨b, off, arr, f, rfl, hH, hsz, hf, ht⟩
    · refine hk none 0 H ⟨by rw [List.length_append, h1, hm], hc, .inl ⟨rfl, rfl⟩⟩ (Step.refl _ _)
    · refine ⟨hpl, ?_⟩
      rw [add_mk, Nat.mul_one]
      refine stcs_at new 0 (off + n) arr H hH (by omega) (fun k h5 h6 => hf k (by omega) (by omega)) ?_
      refine hk _ c _ ⟨by rw [List.length_append, h1, hm], hc, .inr ⟨b, off, _, f, rfl, set_self _ _ _, ?_, hf, ?_⟩⟩ (Step.set _ _ _)
      · have hal : arr.toList.length = arr.size := Array.length_toList
        rw [List.size_toArray, putL_len (by omega), hal]
        exact hsz
      · rw [List.toList_toArray, Nat.add_zero, List.map_append, ← ht, ← zvd xs, ← hnew]
        unfold putL
        have hal : arr.toList.length = arr.size := Array.length_toList
        have e1 : ((arr.toList.take (off + n) ++ new ++ arr.toList.drop (off + n + new.length)).drop off) = (arr.toList.drop off).take n ++ (new ++ arr.toList.drop (off + n + new.length)) := by
          rw [List.append_assoc, List.drop_append_of_le_length (by rw [List.length_take]; omega), List.drop_take, show off + n - off = n by omega]
        rw [e1, List.take_append, List.take_take, List.length_take, List.length_drop, Nat.min_eq_right (by omega : n ≤ n + m), show n + m - min n (arr.toList.length - off) = new.length by omega, List.take_left]
  · refine hat.rdRow rfl ?_
    refine fun cap hcap b hb => hk _ cap _ (OwnB.of_block (set_self _ _ _) (by rw [List.length_append, h1, hm]) hcap ?_ (.inr rfl) ?_) ?_
    · rw [List.size_toArray, List.length_append, List.length_append, zvd, List.length_map, h1, hnl, zerosB_len]
      omega
    · rw [List.toList_toArray, hnew, zvd, zvd, ← List.map_append]
      have : ((l ++ xs).map byV).length = n + m := by rw [List.length_map, List.length_append, h1, hm]
      rw [← this]
      exact List.take_left
    · intro k o ho hn
      have : k ≠ b := fun e => by subst e; rw [hb] at ho; cases ho
      exact ⟨by rw [set_ne _ _ this]; exact ho, by simpa [bl] using this⟩
theorem zzc.get {H : Heap} {p : Option Addr} {n : Nat} {l : List UInt8} (h : zzc H p n l) {i : Nat} (hi : i < n) : ∃ a, p = some a ∧ H.cell? (a.add (i * 1)) = some (.int .u8 ((l.getD i 0).toNat : Int)) := by
  have hx : l[i]? = some (l[i]'(by rw [h.1]; exact hi)) := List.getElem?_eq_getElem (by rw [h.1]; exact hi)
  cases p with
  | none => have := h.2.1 rfl; omega
  | some a =>
    refine ⟨a, rfl, ?_⟩
    rw [Nat.mul_one, h.2.2 a rfl i _ hx, List.getD_eq_getElem?_getD, hx]
    rfl
theorem OwnB.put {H : Heap} {e : TypeId} {p : Option Addr} {n c : Nat} {l : List UInt8} (h : OwnB H e p n c l) {i : Nat} (hi : i < n) {x : UInt8} {K : Heap → Prop} {a : Addr} (ha : p = some a)
    (hk : ∀ H', OwnB H' e p n c (l.set i x) → Step (bl p) H (bl p) H' → K H') : stc H (a.add (i * 1)) (byV x) K := by
  obtain ⟨h1, h2, h3⟩ := h
  rcases h3 with ⟨rfl, _⟩ | ⟨b, off, arr, f, hp, hb, hsz, hf, ht⟩
  · cases ha
  · rw [hp] at ha
    cases ha
    rw [Nat.mul_one, add_mk]
    refine stc_any hb (by omega) (hf _ (by omega) (by omega)) (hk _ ⟨by simpa using h1, h2, .inr ⟨b, off, _, f, hp, set_self _ _ _, by simpa using hsz, hf, ?_⟩⟩ ?_)
    · rw [List.map_set, ← ht, Array.toList_setIfInBounds, List.drop_set, if_neg (by omega), List.take_set, show off + i - off = i by omega]
    · rw [hp]
      exact Step.set _ _ _
theorem str_bytes {H : Heap} {b j : Nat} {s : ByteArray} {e : TypeId} (hb : H b = some (.cells ((zxb s).toArray ++ Array.replicate j (.int .u8 0)) e (s.size + j, s.size + j + 1))) : OwnB H e (some ⟨b, 0, none⟩) s.size (s.size + j) s.data.toList := by
  have hl : s.data.toList.length = s.size := by rw [Array.length_toList]; rfl
  refine OwnB.of_block hb hl (by omega) ?_ (.inl (Nat.le_refl _)) ?_
  · simp [zxb]
  · have : (zxb s).length = s.size := by simp [zxb]
    rw [Array.toList_append, List.toList_toArray, ← this, List.take_left]
    rfl
end Go.Sh
