/- A packet that comes once more changes nothing (part 22 of the walk and its laws) -/
import Derived.Test.YtkfkkkalcchpkaaGreatDoorTw2u
namespace Go.Sh
def byV (x : UInt8) : Value := .int .u8 (x.toNat : Int)
def vrow (l : List UInt8) : List (List Value) := l.map fun x => [byV x]
theorem vrow_len (l : List UInt8) : ∀ es ∈ vrow l, es.length = 1 := by
  intro es he
  obtain ⟨x, _, rfl⟩ := List.mem_map.1 he
  rfl
theorem zvd (l : List UInt8) : (vrow l).flatten = l.map byV := by
  induction l with
  | nil => rfl
  | cons x l ih => simp [vrow] at ih ⊢; exact ih
theorem own_rdBytes {H : Heap} {e : TypeId} {p : Option Addr} {c : Nat} {l : List UInt8} {n : Nat} {K : ByteArray → Prop} (h : zlb H e 1 p n c (vrow l)) (hk : K ⟨l.toArray⟩) : rdBytes H p n K := by
  have hat := h.at
  have hl : l.length = n := by simpa [vrow] using hat.1
  refine ⟨⟨l.toArray⟩, by simpa [ByteArray.size] using hl, fun _ => ?_, fun ad had i hi => ?_, hat.2.1, hk⟩
  · cases p <;> simp
  · have hx : l[i]? = some (l[i]'(by omega)) := List.getElem?_eq_getElem (by omega)
    have := hat.flat (by decide) had (i := i) (v := byV (l[i]'(by omega))) (by rw [zvd]; simp [hx])
    rw [this]
    simp [byV, hx, List.getD_eq_getElem?_getD]
theorem zlb.keep {H H' : Heap} {e : TypeId} {sz : Nat} {p : Option Addr} {n c : Nat} {rows : List (List Value)} (h : zlb H e sz p n c rows) (hk : ∀ ob o, p = some ⟨ob, 0, none⟩ → H ob = some o → H' ob = some o) : zlb H' e sz p n c rows := by
  obtain ⟨h1, h2, h3, h4⟩ := h
  refine ⟨h1, h2, h3, ?_⟩
  rcases h4 with h4 | ⟨ob, arr, hp, hb, h5⟩
  · exact .inl h4
  · exact .inr ⟨ob, arr, hp, hk ob _ hp hb, h5⟩
def Step (L : List Nat) (H : Heap) (L' : List Nat) (H' : Heap) : Prop := ∀ k o, H k = some o → k ∉ L → H' k = some o ∧ k ∉ L'
theorem Step.refl (L : List Nat) (H : Heap) : Step L H L H := fun _ _ h hn => ⟨h, hn⟩
theorem Step.trans {L L1 L2 : List Nat} {H H1 H2 : Heap} (h : Step L H L1 H1) (g : Step L1 H1 L2 H2) : Step L H L2 H2 := fun k o hk hn => g k o (h k o hk hn).1 (h k o hk hn).2
theorem Step.frame {L L' M M' : List Nat} {H H' : Heap} (h : Step L H L' H') (h1 : ∀ k, k ∉ M → k ∉ L) (h2 : ∀ k, k ∉ M → k ∉ L' → k ∉ M') : Step M H M' H' := fun k o hk hn => ⟨(h k o hk (h1 k hn)).1, h2 k hn (h k o hk (h1 k hn)).2⟩
theorem Step.le {L' : List Nat} {H H' : Heap} (h : Step [] H L' H') : Heap.Le H H' := fun k o hk => (h k o hk (by simp)).1
theorem Step.of_le {L : List Nat} {H H' : Heap} (h : Heap.Le H H') : Step L H L H' := fun k o hk hn => ⟨h k o hk, hn⟩
theorem Step.set (H : Heap) (b : Nat) (o : Obj) : Step [b] H [b] (H.set b o) := fun k o' hk hn => ⟨by rw [set_ne _ _ (by simpa using hn)]; exact hk, hn⟩
theorem Step.cell {L L' : List Nat} {H H' : Heap} (h : Step L H L' H') {a : Addr} {v : Value} (hc : H.cell? a = some v) (hn : a.block ∉ L) : H'.cell? a = some v := by
  unfold Heap.cell? at hc ⊢
  cases ho : H a.block with
  | none => rw [ho] at hc; cases hc
  | some o => rw [(h _ o ho hn).1]; rw [ho] at hc; exact hc
theorem Step.rows {L L' : List Nat} {H H' : Heap} (h : Step L H L' H') {p : Option Addr} {n sz : Nat} {rows : List (List Value)} (hr : RowsAt H p n sz rows) (hn : ∀ a, p = some a → a.block ∉ L) : RowsAt H' p n sz rows :=
  ⟨hr.1, hr.2.1, fun a ha i es hi => ⟨(hr.2.2 a ha i es hi).1, fun j v hj => h.cell ((hr.2.2 a ha i es hi).2 j v hj) (by rw [add_block, add_block]; exact hn a ha)⟩⟩
theorem RowsAt.mono {H H' : Heap} {p : Option Addr} {n sz : Nat} {rows : List (List Value)} (h : RowsAt H p n sz rows) (hl : Heap.Le H H') : RowsAt H' p n sz rows :=
  ⟨h.1, h.2.1, fun a ha i es hi => ⟨(h.2.2 a ha i es hi).1, fun j v hj => zcc hl ((h.2.2 a ha i es hi).2 j v hj)⟩⟩
theorem RowsAt.cell {H : Heap} {p : Option Addr} {n sz : Nat} {rows : List (List Value)} (h : RowsAt H p n sz rows) {i : Nat} {es : List Value} (hi : rows[i]? = some es) : ∃ a, p = some a ∧ ∀ (j : Nat) (v : Value), es[j]? = some v → H.cell? ((a.add (i * sz)).add j) = some v := by
  cases p with
  | none =>
    have h1 := h.2.1 rfl
    have h2 := (List.getElem?_eq_some_iff.1 hi).1
    have := h.1
    omega
  | some a => exact ⟨a, rfl, (h.2.2 a rfl i es hi).2⟩
theorem not_one {k b : Nat} {L : List Nat} (h : b ∉ L) (hk : k ∈ L) : k ∉ [b] := fun hm => by
  rw [List.mem_singleton] at hm
  subst hm
  exact h hk
theorem loc {H : Heap} {b o : Nat} {arr : Array Value} {e : TypeId} {v : Value} (h : H b = some (.cells arr e)) (hv : arr[o]? = some v) : H.cell? ((⟨b, 0, none⟩ : Addr).add o) = some v := by
  rw [add_mk, Nat.zero_add]
  unfold Heap.cell?
  rw [h]
  exact hv
theorem stc_loc {H : Heap} {b o : Nat} {arr : Array Value} {e : TypeId} {v : Value} {K : Heap → Prop} (hb : H b = some (.cells arr e)) (ho : o < arr.size) (h : K (H.set b (.cells (arr.setIfInBounds o v) e))) : stc H ((⟨b, 0, none⟩ : Addr).add o) v K := by
  rw [add_mk, Nat.zero_add]
  refine ⟨by simp [Heap.cell?, hb, ho], by simp [Heap.frozen?, hb], ?_⟩
  have : H.setCell ⟨b, o, none⟩ v = H.set b (.cells (arr.setIfInBounds o v) e) := by
    funext i
    by_cases hi : i = b <;> simp [Heap.setCell, Heap.upd, Heap.set, Heap.setObj, hi, hb]
  rw [this]; exact h
theorem zdc (H : Heap) (b : Nat) (o o' : Obj) : (H.set b o).set b o' = H.set b o' := by
  funext i
  by_cases hi : i = b <;> simp [Heap.set, hi]
theorem new_st2 {e : TypeId} {z0 z1 v0 v1 : Value} {K : Nat → Heap → Prop} {H : Heap} (h : ∀ b, H b = none → K b (H.set b (.cells #[v0, v1] e))) :
    newB (.cells #[z0, z1] e) (fun b h1 => stc h1 ((⟨b, 0, none⟩ : Addr).add 0) v0 fun h2 => stc h2 ((⟨b, 0, none⟩ : Addr).add 1) v1 fun h3 => K b h3) H := by
  intro b hb
  refine stc_loc (set_self _ _ _) (by simp) (stc_loc (set_self _ _ _) (by simp) ?_)
  rw [zdc, zdc]
  exact h b hb
theorem new_st3 {e : TypeId} {z0 z1 z2 v0 v1 v2 : Value} {K : Nat → Heap → Prop} {H : Heap} (h : ∀ b, H b = none → K b (H.set b (.cells #[v0, v1, v2] e))) :
    newB (.cells #[z0, z1, z2] e) (fun b h1 => stc h1 ((⟨b, 0, none⟩ : Addr).add 0) v0 fun h2 => stc h2 ((⟨b, 0, none⟩ : Addr).add 1) v1 fun h3 => stc h3 ((⟨b, 0, none⟩ : Addr).add 2) v2 fun h4 => K b h4) H := by
  intro b hb
  refine stc_loc (set_self _ _ _) (by simp) (stc_loc (set_self _ _ _) (by simp) (stc_loc (set_self _ _ _) (by simp) ?_))
  rw [zdc, zdc, zdc]
  exact h b hb
theorem st3_loc {H : Heap} {b : Nat} {e : TypeId} {z0 z1 z2 v0 v1 v2 : Value} {K : Heap → Prop} (hb : H b = some (.cells #[z0, z1, z2] e)) (h : K (H.set b (.cells #[v0, v1, v2] e))) :
    stc H ((⟨b, 0, none⟩ : Addr).add 0) v0 fun h1 => stc h1 ((⟨b, 0, none⟩ : Addr).add 1) v1 fun h2 => stc h2 ((⟨b, 0, none⟩ : Addr).add 2) v2 K := by
  refine stc_loc hb (by simp) (stc_loc (set_self _ _ _) (by simp) (stc_loc (set_self _ _ _) (by simp) ?_))
  rw [zdc, zdc]
  exact h
theorem zna {o : Obj} {K : Nat → Heap → Prop} {H : Heap} (h : ∀ b H', H b = none → H' b = some o → Heap.Le H H' → K b H') : newB o K H := fun b hb => h b _ hb (set_self _ _ _) (Le_set hb _)
theorem new2_le {e : TypeId} {z0 z1 v0 v1 : Value} {K : Nat → Heap → Prop} {H : Heap} (h : ∀ b H', H b = none → H' b = some (.cells #[v0, v1] e) → Heap.Le H H' → K b H') :
    newB (.cells #[z0, z1] e) (fun b h1 => stc h1 ((⟨b, 0, none⟩ : Addr).add 0) v0 fun h2 => stc h2 ((⟨b, 0, none⟩ : Addr).add 1) v1 fun h3 => K b h3) H := new_st2 fun b hb => h b _ hb (set_self _ _ _) (Le_set hb _)
theorem new3_le {e : TypeId} {z0 z1 z2 v0 v1 v2 : Value} {K : Nat → Heap → Prop} {H : Heap} (h : ∀ b H', H b = none → H' b = some (.cells #[v0, v1, v2] e) → Heap.Le H H' → K b H') :
    newB (.cells #[z0, z1, z2] e) (fun b h1 => stc h1 ((⟨b, 0, none⟩ : Addr).add 0) v0 fun h2 => stc h2 ((⟨b, 0, none⟩ : Addr).add 1) v1 fun h3 => stc h3 ((⟨b, 0, none⟩ : Addr).add 2) v2 fun h4 => K b h4) H := new_st3 fun b hb => h b _ hb (set_self _ _ _) (Le_set hb _)
theorem Step.put {L L' : List Nat} {H H' : Heap} (h : Step L H L' H') {b : Nat} (hb : H b = none) (o : Obj) : Step L H L' (H'.set b o) := fun k o' hk hn => ⟨by rw [set_ne _ _ (fun e => by subst e; rw [hb] at hk; cases hk)]; exact (h k o' hk hn).1, (h k o' hk hn).2⟩
def bl : Option Addr → List Nat
  | none => []
  | some a => [a.block]
theorem zlb.live {H : Heap} {e : TypeId} {sz : Nat} {p : Option Addr} {n c : Nat} {rows : List (List Value)} (h : zlb H e sz p n c rows) : ∀ k ∈ bl p, H k ≠ none := by
  rcases h.2.2.2 with ⟨rfl, _⟩ | ⟨ob, arr, rfl, hb, _⟩
  · simp [bl]
  · intro k hk
    simp only [bl, List.mem_singleton] at hk
    subst hk
    rw [hb]; simp
theorem zlb.step {L L' : List Nat} {H H' : Heap} {e : TypeId} {sz : Nat} {p : Option Addr} {n c : Nat} {rows : List (List Value)} (h : zlb H e sz p n c rows) (hs : Step L H L' H') (hn : ∀ k ∈ bl p, k ∉ L) : zlb H' e sz p n c rows :=
  h.keep fun ob o hp ho => (hs ob o ho (hn ob (by simp [hp, bl]))).1
theorem zlb.le {H H' : Heap} {e : TypeId} {sz : Nat} {p : Option Addr} {n c : Nat} {rows : List (List Value)} (h : zlb H e sz p n c rows) (hs : Heap.Le H H') : zlb H' e sz p n c rows :=
  h.keep fun ob o _ ho => hs ob o ho
theorem appT_step {H : Heap} {e : TypeId} {z : Value} {p : Option Addr} {n m c sz bytes : Nat} {rows xs : List (List Value)} {new : List Value} {K : Option Addr → Nat → Nat → Heap → Prop} (h : zlb H e sz p n c rows) (hs : 0 < sz) (hz : (z.cells).size = sz)
    (hnew : new = xs.flatten) (hm : xs.length = m) (hxs : ∀ es ∈ xs, es.length = sz) (hpl : ∀ v ∈ new, znd v = true) (hb1 : (n + m) * bytes ≤ 140737488355328) (hb2 : n + m ≤ 4611686018427387904)
    (hk : ∀ p' c' H', zlb H' e sz p' (n + m) c' (rows ++ xs) → Step (bl p) H (bl p') H' → K p' (n + m) c' H') : appT e z p n m c sz bytes new K H := by
  have hlive := h.live
  have hp0 : ∀ ob, p = some ⟨ob, 0, none⟩ ∨ p = none ∨ ∃ b2, p = some ⟨b2, 0, none⟩ := fun ob => by
    rcases h.2.2.2 with ⟨rfl, _⟩ | ⟨b2, arr, rfl, _⟩
    · exact .inr (.inl rfl)
    · exact .inr (.inr ⟨b2, rfl⟩)
  refine appT_own h hs hz hnew hm hxs hpl hb1 hb2 fun p' c' H' h1 h2 h3 => hk p' c' H' h1 fun k o hk hn => ⟨h2 k o hk fun b hb e => hn (by simp [hb, bl, e]), fun hm => ?_⟩
  rcases h1.2.2.2 with ⟨rfl, _⟩ | ⟨ob, arr, rfl, _⟩
  · simp [bl] at hm
  · simp only [bl, List.mem_singleton] at hm
    subst hm
    rcases h3 k rfl with e | e
    · exact hn (by simp [e, bl])
    · rw [e] at hk; cases hk
theorem own_get {H : Heap} {e : TypeId} {p : Option Addr} {n c : Nat} {l : List UInt8} (h : zlb H e 1 p n c (vrow l)) {i : Nat} (hi : i < n) : ∃ a x, p = some a ∧ l[i]? = some x ∧ H.cell? (a.add (i * 1)) = some (byV x) := by
  have hl : l.length = n := by simpa [vrow] using h.1
  have hx : l[i]? = some (l[i]'(by omega)) := List.getElem?_eq_getElem (by omega)
  obtain ⟨a, ha, hc⟩ := h.at.cell (i := i) (es := [byV (l[i]'(by omega))]) (by simp [vrow, hx])
  refine ⟨a, _, ha, hx, ?_⟩
  have := hc 0 _ rfl
  rw [add_add] at this
  exact this
theorem own_set {H : Heap} {e : TypeId} {p : Option Addr} {n c : Nat} {l : List UInt8} (h : zlb H e 1 p n c (vrow l)) {i : Nat} (hi : i < n) {x : UInt8} {K : Heap → Prop} {a : Addr} (ha : p = some a)
    (hk : ∀ H', zlb H' e 1 p n c (vrow (l.set i x)) → Step (bl p) H (bl p) H' → K H') : stc H (a.add (i * 1)) (byV x) K := by
  obtain ⟨h1, h2, h3, h4⟩ := h
  rcases h4 with ⟨rfl, _⟩ | ⟨ob, arr, hp, hb, hsz, htk⟩
  · cases ha
  · rw [hp] at ha
    cases ha
    rw [Nat.mul_one] at hsz htk ⊢
    refine stc_loc hb (by omega) (hk _ ⟨by simpa [vrow] using h1, vrow_len _, h3, .inr ⟨ob, _, hp, set_self _ _ _, by simpa using hsz, ?_⟩⟩ ?_)
    · rw [Nat.mul_one]
      rw [zvd] at htk ⊢
      rw [List.map_set, ← htk, Array.toList_setIfInBounds, List.take_set]
    · rw [hp]
      exact Step.set _ _ _
theorem own_rdSub {H : Heap} {e : TypeId} {p : Option Addr} {n c a z : Nat} {l : List UInt8} {K : ByteArray → Prop} (h : zlb H e 1 p n c (vrow l)) (hz : z ≤ n) (hk : K ⟨((l.drop a).take (z - a)).toArray⟩) : rdBytes H (slA p c a 1) (z - a) K := by
  have hat := h.at
  have hl : l.length = n := by simpa [vrow] using hat.1
  have hc := h.2.2.1
  have hsz : ((l.drop a).take (z - a)).length = z - a := by rw [List.length_take, List.length_drop]; omega
  refine ⟨⟨((l.drop a).take (z - a)).toArray⟩, by show ((l.drop a).take (z - a)).toArray.size = _; rw [List.size_toArray, hsz], fun _ => ?_, fun ad had i hi => ?_, fun hn => ?_, hk⟩
  · cases slA p c a 1 <;> simp
  · unfold slA at had
    rw [if_neg (by omega)] at had
    obtain ⟨ad0, hp, rfl⟩ := Option.map_eq_some_iff.1 had
    have hx : l[a + i]? = some (l[a + i]'(by omega)) := List.getElem?_eq_getElem (by omega)
    have := hat.flat (by decide) hp (i := a + i) (v := byV (l[a + i]'(by omega))) (by rw [zvd]; simp [hx])
    rw [add_add, Nat.mul_one, this]
    have e2 : ((l.drop a).take (z - a)).toArray.toList.getD i 0 = l[a + i]'(by omega) := by
      rw [List.getD_eq_getElem?_getD, List.toList_toArray, List.getElem?_take, if_pos hi, List.getElem?_drop, hx]
      rfl
    show some (byV _) = some (Value.int .u8 ((((l.drop a).take (z - a)).toArray.toList.getD i 0).toNat : Int))
    rw [e2]
    rfl
  · unfold slA at hn
    split at hn
    · omega
    · have hp : p = none := by simpa using hn
      have := hat.2.1 hp
      omega
end Go.Sh
