/- Routes: what is known of them, and how rows of them are written. -/
import Derived.Test.YtennpdminebahaaPolE
namespace Go.Sh
theorem flat_set {α : Type} {sz : Nat} : ∀ {rows : List (List α)}, (∀ es ∈ rows, es.length = sz) → ∀ (i j : Nat) (v : α) (es : List α), rows[i]? = some es → j < sz → (rows.set i (es.set j v)).flatten = rows.flatten.set (i * sz + j) v
  | [], _, i, j, v, es, hi, _ => by simp at hi
  | r :: rows, h, 0, j, v, es, hi, hj => by
    have hr := h r (by simp)
    simp only [List.getElem?_cons_zero, Option.some.injEq] at hi
    subst hi
    rw [List.set_cons_zero, List.flatten_cons, List.flatten_cons, List.set_append_left _ _ (by omega), Nat.zero_mul, Nat.zero_add]
  | r :: rows, h, i + 1, j, v, es, hi, hj => by
    have hr := h r (by simp)
    simp only [List.getElem?_cons_succ] at hi
    rw [List.set_cons_succ, List.flatten_cons, List.flatten_cons, List.set_append_right _ _ (by rw [hr, Nat.add_mul]; omega), flat_set (fun es he => h es (by simp [he])) i j v es hi hj, hr, show (i + 1) * sz + j - sz = i * sz + j by rw [Nat.add_mul]; omega]
theorem own_setcell {H : Heap} {e : TypeId} {sz : Nat} {p : Option Addr} {n c : Nat} {rows : List (List Value)} (h : OwnRows H e sz p n c rows) {i j : Nat} {es : List Value} {v : Value} {a : Addr} {K : Heap → Prop} (hi : rows[i]? = some es) (hj : j < sz) (ha : p = some a)
    (hk : ∀ H', OwnRows H' e sz p n c (rows.set i (es.set j v)) → Step (bl p) H (bl p) H' → K H') : stc H ((a.add (i * sz)).add j) v K := by
  obtain ⟨h1, h2, h3, h4⟩ := h
  have hes := h2 es (List.mem_of_getElem? hi)
  have hin : i < n := by rw [← h1]; exact (List.getElem?_eq_some_iff.1 hi).1
  rcases h4 with ⟨rfl, _⟩ | ⟨ob, arr, hp, hb, hsz, htk⟩
  · cases ha
  · rw [hp] at ha
    cases ha
    have hlt : i * sz + j < n * sz := by
      have := Nat.mul_le_mul_right sz (show i + 1 ≤ n by omega)
      rw [Nat.add_mul] at this; omega
    have hle : n * sz ≤ c * sz := Nat.mul_le_mul_right sz h3
    rw [add_add]
    refine stc_loc hb (by omega) (hk _ ⟨by simpa using h1, fun es' he' => ?_, h3, .inr ⟨ob, _, hp, set_self _ _ _, by simpa using hsz, ?_⟩⟩ ?_)
    · rcases List.mem_or_eq_of_mem_set he' with he' | rfl
      · exact h2 _ he'
      · simpa using hes
    · rw [flat_set h2 i j v es hi hj, ← htk, Array.toList_setIfInBounds, List.take_set]
    · rw [hp]
      exact Step.set _ _ _
theorem RowsAt.take {H : Heap} {p : Option Addr} {n sz m : Nat} {rows : List (List Value)} (h : RowsAt H p n sz rows) (hm : m ≤ n) : RowsAt H p m sz (rows.take m) :=
  ⟨by rw [List.length_take, h.1]; omega, fun hp => by have := h.2.1 hp; omega, fun a ha i es hi => h.2.2 a ha i es (by
    rw [List.getElem?_take] at hi
    split at hi
    · exact hi
    · cases hi)⟩
theorem slA_nul (p : Option Addr) (c sz : Nat) : slA p c 0 sz = p := by
  unfold slA
  split
  · rfl
  · cases p <;> simp [Addr.add]
theorem new6_le {e : TypeId} {z0 z1 z2 z3 z4 z5 v0 v1 v2 v3 v4 v5 : Value} {K : Nat → Heap → Prop} {H : Heap} (h : ∀ b H', H b = none → H' b = some (.cells #[v0, v1, v2, v3, v4, v5] e) → Heap.Le H H' → K b H') :
    newB (.cells #[z0, z1, z2, z3, z4, z5] e) (fun b h1 => stc h1 ((⟨b, 0, none⟩ : Addr).add 0) v0 fun h2 => stc h2 ((⟨b, 0, none⟩ : Addr).add 1) v1 fun h3 => stc h3 ((⟨b, 0, none⟩ : Addr).add 2) v2 fun h4 => stc h4 ((⟨b, 0, none⟩ : Addr).add 3) v3 fun h5 => stc h5 ((⟨b, 0, none⟩ : Addr).add 4) v4 fun h6 => stc h6 ((⟨b, 0, none⟩ : Addr).add 5) v5 fun h7 => K b h7) H := by
  intro b hb
  refine stc_loc (set_self _ _ _) (by simp) (stc_loc (set_self _ _ _) (by simp) (stc_loc (set_self _ _ _) (by simp) (stc_loc (set_self _ _ _) (by simp) (stc_loc (set_self _ _ _) (by simp) (stc_loc (set_self _ _ _) (by simp) ?_)))))
  rw [set_set, set_set, set_set, set_set, set_set, set_set]
  exact h b _ hb (set_self _ _ _) (Le_set hb _)
theorem push_route {H : Heap} {e e1 : TypeId} {p : Option Addr} {n c : Nat} {l : List (Int × Int)} {a b : Int} {K : Option Addr → Nat → Nat → Heap → Prop} (h : OwnRows H e 3 p n c (rrow l)) (hn : n ≤ 1000000)
    (hk : ∀ p' c' H', OwnRows H' e 3 p' (n + 1) c' (rrow (l ++ [(a, b)])) → Step (bl p) H (bl p') H' → K p' (n + 1) c' H') :
    newB (.cells #[(.int .u32 a), (.int .u32 b), (.int .i64 0)] e1) (fun b1 h5 => rdRow h5 (some (⟨b1, 0, none⟩ : Addr)) (1 * 3) fun cs0 => appT e (.agg #[(.int .u32 0), (.int .u32 0), (.int .i64 0)]) p n 1 c 3 16 cs0 K h5) H := by
  refine newB_le fun b1 H1 hb1 hl1 hle1 => ?_
  refine rdRow_of (n := 1) (sz := 3) (rows := [[.int .u32 a, .int .u32 b, .int .i64 0]]) ⟨rfl, (fun h => by cases h), fun ad ha i es hi => ?_⟩ (by decide) rfl ?_
  · cases ha
    cases i with
    | zero =>
      simp only [List.getElem?_cons_zero, Option.some.injEq] at hi
      subst hi
      refine ⟨rfl, fun j v hj => ?_⟩
      rw [add_add]
      exact loc hl1 (by simpa using hj)
    | succ i => simp at hi
  · refine appT_step (xs := [[.int .u32 a, .int .u32 b, .int .i64 0]]) (h.le hle1) (by decide) rfl rfl rfl (fun es he => by simp only [List.mem_singleton] at he; subst he; rfl) (fun v hv => ?_) (by omega) (by omega) fun p' c' H2 h1 h2 => hk p' c' H2 ?_ ?_
    · simp only [List.flatten_cons, List.flatten_nil, List.append_nil, List.mem_cons, List.not_mem_nil, or_false] at hv
      rcases hv with rfl | rfl | rfl <;> rfl
    · simpa [rrow] using h1
    · exact (Step.of_le hle1).trans h2
theorem set_route {H : Heap} {e : TypeId} {p : Option Addr} {n c : Nat} {l : List (Int × Int)} {x y z : Int} {a : Addr} {K : Heap → Prop} (h : OwnRows H e 3 p n c (rrow (l ++ [(x, y)]))) (ha : p = some a)
    (hk : ∀ H', OwnRows H' e 3 p n c (rrow (l ++ [(x, z)])) → Step (bl p) H (bl p) H' → K H') : stc H ((a.add (l.length * 3)).add 1) (.int .u32 z) K := by
  refine own_setcell h (es := [.int .u32 x, .int .u32 y, .int .i64 0]) (by simp [rrow]) (by decide) ha fun H' h1 h2 => hk H' ?_ h2
  have : (rrow (l ++ [(x, y)])).set l.length ([Value.int .u32 x, .int .u32 y, .int .i64 0].set 1 (.int .u32 z)) = rrow (l ++ [(x, z)]) := by
    unfold rrow
    rw [List.map_append, List.map_append, List.set_append_right _ _ (by simp)]
    simp
  rw [this] at h1
  exact h1
theorem route_get {H : Heap} {e : TypeId} {p : Option Addr} {n c : Nat} {l : List (Int × Int)} (h : OwnRows H e 3 p n c (rrow l)) {i : Nat} {x : Int × Int} (hx : l[i]? = some x) : ∃ a, p = some a ∧ H.cell? ((a.add (i * 3)).add 0) = some (.int .u32 x.1) ∧ H.cell? ((a.add (i * 3)).add 1) = some (.int .u32 x.2) ∧ H.cell? ((a.add (i * 3)).add 2) = some (.int .i64 0) := by
  obtain ⟨a, ha, hc⟩ := h.at.cell (i := i) (es := [.int .u32 x.1, .int .u32 x.2, .int .i64 0]) (by simp [rrow, hx])
  exact ⟨a, ha, hc 0 _ rfl, hc 1 _ rfl, hc 2 _ rfl⟩
/-! ### What routes are -/
/-- Bounds that rise, from 0 to 2^32. -/
structure Rises (bs : List Int) : Prop where
  rise : ∀ (i j : Nat) (x y : Int), bs[i]? = some x → bs[j]? = some y → i < j → x < y
  range : ∀ x ∈ bs, 0 ≤ x ∧ x ≤ 4294967296
theorem risen_rises {l : List Rul} (hf : ∀ r ∈ l, r.fine) : Rises (risen l) := ⟨fun _ _ _ _ hi hj hij => risen_lt hi hj hij, fun _ hx => risen_range hf hx⟩
theorem stepR_no {g : Int → Bool} {acc : List (Int × Int)} {low nxt : Int} (h : g low = false) : stepR g acc low nxt = acc := by
  unfold stepR; rw [if_neg (by simp [h])]
theorem stepR_nil {g : Int → Bool} {low nxt : Int} (h : g low = true) : stepR g [] low nxt = [(low, nxt - 1)] := by
  unfold stepR; rw [if_pos h]; rfl
theorem stepR_join {g : Int → Bool} {acc : List (Int × Int)} {x : Int × Int} {low nxt : Int} (h : g low = true) (hx : x.2 + 1 = low) : stepR g (acc ++ [x]) low nxt = acc ++ [(x.1, nxt - 1)] := by
  unfold stepR; rw [if_pos h]; simp [hx]
theorem stepR_new {g : Int → Bool} {acc : List (Int × Int)} {x : Int × Int} {low nxt : Int} (h : g low = true) (hx : x.2 + 1 ≠ low) : stepR g (acc ++ [x]) low nxt = acc ++ [x] ++ [(low, nxt - 1)] := by
  unfold stepR; rw [if_pos h]; simp [hx]
theorem snoc_cases {α : Type} (l : List α) : l = [] ∨ ∃ a x, l = a ++ [x] := by
  rcases List.eq_nil_or_concat l with h | ⟨a, x, h⟩
  · exact .inl h
  · exact .inr ⟨a, x, by rw [h, List.concat_eq_append]⟩
/-- What is known of the routes up to a bound. -/
structure Rts (g : Int → Bool) (bs : List Int) (k : Nat) (rs : List (Int × Int)) : Prop where
  each : ∀ x ∈ rs, 0 ≤ x.1 ∧ x.1 ≤ x.2 ∧ ∀ b, bs[k]? = some b → x.2 + 1 ≤ b
  apart : rs.Pairwise fun x y => x.2 + 1 < y.1
  cover : ∀ (i : Nat) (b b' a : Int), i < k → bs[i]? = some b → bs[i + 1]? = some b' → g b = true → b ≤ a → a < b' → ∃ x ∈ rs, x.1 ≤ a ∧ a ≤ x.2
theorem rts_ok {g : Int → Bool} {bs : List Int} (hb : Rises bs) : ∀ k, k < bs.length → Rts g bs k (rtsTo g bs k)
  | 0, _ => ⟨fun x hx => by simp [rtsTo] at hx, by simp [rtsTo], fun i b b' a hi => by omega⟩
  | k + 1, hk => by
    have ih := rts_ok (g := g) hb k (by omega)
    have e0 : bs[k]? = some (bs.getD k 0) := by rw [List.getD_eq_getElem?_getD, List.getElem?_eq_getElem (by omega)]; rfl
    have e1 : bs[k + 1]? = some (bs.getD (k + 1) 0) := by rw [List.getD_eq_getElem?_getD, List.getElem?_eq_getElem (by omega)]; rfl
    have hlt := hb.rise k (k + 1) _ _ e0 e1 (by omega)
    have hr0 := hb.range _ (List.mem_of_getElem? e0)
    show Rts g bs (k + 1) (stepR g (rtsTo g bs k) (bs.getD k 0) (bs.getD (k + 1) 0))
    generalize bs.getD k 0 = lo at *
    generalize bs.getD (k + 1) 0 = hi at *
    generalize rtsTo g bs k = rs at *
    have old : ∀ x ∈ rs, 0 ≤ x.1 ∧ x.1 ≤ x.2 ∧ x.2 + 1 ≤ lo := fun x hx => ⟨(ih.each x hx).1, (ih.each x hx).2.1, (ih.each x hx).2.2 lo e0⟩
    have fromEach : ∀ {rs' : List (Int × Int)}, (∀ x ∈ rs', 0 ≤ x.1 ∧ x.1 ≤ x.2 ∧ x.2 + 1 ≤ hi) → ∀ x ∈ rs', 0 ≤ x.1 ∧ x.1 ≤ x.2 ∧ ∀ b, bs[k + 1]? = some b → x.2 + 1 ≤ b := fun h x hx => ⟨(h x hx).1, (h x hx).2.1, fun b hb => by rw [e1] at hb; cases hb; exact (h x hx).2.2⟩
    have fromCover : ∀ {rs' : List (Int × Int)}, (∀ a, (∃ x ∈ rs, x.1 ≤ a ∧ a ≤ x.2) → ∃ x ∈ rs', x.1 ≤ a ∧ a ≤ x.2) → (g lo = true → ∀ a, lo ≤ a → a < hi → ∃ x ∈ rs', x.1 ≤ a ∧ a ≤ x.2) →
        ∀ (i : Nat) (b b' a : Int), i < k + 1 → bs[i]? = some b → bs[i + 1]? = some b' → g b = true → b ≤ a → a < b' → ∃ x ∈ rs', x.1 ≤ a ∧ a ≤ x.2 := fun h1 h2 i b b' a hi hb hb' hg h3 h4 => by
      by_cases e : i = k
      · subst e
        rw [e0] at hb; cases hb
        rw [e1] at hb'; cases hb'
        exact h2 hg a h3 h4
      · exact h1 a (ih.cover i b b' a (by omega) hb hb' hg h3 h4)
    cases hg : g lo with
    | false =>
      rw [stepR_no hg]
      exact ⟨fromEach fun x hx => by have := old x hx; omega, ih.apart, fromCover (fun a h => h) (fun h => by rw [hg] at h; cases h)⟩
    | true =>
      rcases snoc_cases rs with rfl | ⟨acc, x, rfl⟩
      · rw [stepR_nil hg]
        refine ⟨fromEach fun x hx => ?_, by simp, fromCover (fun a h => ?_) (fun _ a h1 h2 => ⟨(lo, hi - 1), by simp, h1, by show a ≤ hi - 1; omega⟩)⟩
        · simp only [List.mem_singleton] at hx; subst hx
          exact ⟨hr0.1, by show lo ≤ hi - 1; omega, by show hi - 1 + 1 ≤ hi; omega⟩
        · obtain ⟨x, hx, _⟩ := h; cases hx
      · have hold := old x (by simp)
        have hap := List.pairwise_append.1 ih.apart
        by_cases hj : x.2 + 1 = lo
        · rw [stepR_join hg hj]
          refine ⟨fromEach fun y hy => ?_, List.pairwise_append.2 ⟨hap.1, by simp, fun y hy z hz => ?_⟩, fromCover (fun a h => ?_) (fun _ a h1 h2 => ⟨(x.1, hi - 1), by simp, by show x.1 ≤ a; omega, by show a ≤ hi - 1; omega⟩)⟩
          · rcases List.mem_append.1 hy with hy | hy
            · have := old y (by simp [hy]); omega
            · simp only [List.mem_singleton] at hy; subst hy
              exact ⟨hold.1, by show x.1 ≤ hi - 1; omega, by show hi - 1 + 1 ≤ hi; omega⟩
          · simp only [List.mem_singleton] at hz; subst hz
            exact hap.2.2 y hy x (by simp)
          · obtain ⟨y, hy, h1, h2⟩ := h
            rcases List.mem_append.1 hy with hy | hy
            · exact ⟨y, by simp [hy], h1, h2⟩
            · simp only [List.mem_singleton] at hy; subst hy
              exact ⟨(y.1, hi - 1), by simp, h1, by show a ≤ hi - 1; omega⟩
        · rw [stepR_new hg hj]
          refine ⟨fromEach fun y hy => ?_, List.pairwise_append.2 ⟨ih.apart, by simp, fun y hy z hz => ?_⟩, fromCover (fun a h => ?_) (fun _ a h1 h2 => ⟨(lo, hi - 1), by simp, h1, by show a ≤ hi - 1; omega⟩)⟩
          · rcases List.mem_append.1 hy with hy | hy
            · have := old y hy; omega
            · simp only [List.mem_singleton] at hy; subst hy
              exact ⟨hr0.1, by show lo ≤ hi - 1; omega, by show hi - 1 + 1 ≤ hi; omega⟩
          · simp only [List.mem_singleton] at hz; subst hz
            show y.2 + 1 < lo
            rcases List.mem_append.1 hy with hy | hy
            · have := hap.2.2 y hy x (by simp)
              omega
            · simp only [List.mem_singleton] at hy; subst hy; omega
          · obtain ⟨y, hy, h1, h2⟩ := h
            exact ⟨y, List.mem_append.2 (.inl hy), h1, h2⟩
end Go.Sh
