/- Which addresses rules let packets go to: the law in plain words. Sets of whole numbers in maps, gone through in any order. -/
import Derived.Test.YtennpdminebahaaPolA
import Derived.Test.YtennpdminebahaaShV
import Derived.Test.YtennpdminebahaaShU
namespace Go.Sh
/-! ### Lists of numbers that rise -/
theorem rise_ext : ∀ {l1 l2 : List Int}, l1.Pairwise (· < ·) → l2.Pairwise (· < ·) → (∀ x, x ∈ l1 ↔ x ∈ l2) → l1 = l2
  | [], [], _, _, _ => rfl
  | [], b :: l2, _, _, h => absurd ((h b).2 (by simp)) (by simp)
  | a :: l1, [], _, _, h => absurd ((h a).1 (by simp)) (by simp)
  | a :: l1, b :: l2, h1, h2, h => by
    rw [List.pairwise_cons] at h1 h2
    have hab : a = b := by
      rcases List.mem_cons.1 ((h a).1 (by simp)) with e | e
      · exact e
      · rcases List.mem_cons.1 ((h b).2 (by simp)) with e2 | e2
        · exact e2.symm
        · have := h2.1 a e; have := h1.1 b e2; omega
    subst hab
    rw [rise_ext h1.2 h2.2 fun x => ?_]
    constructor
    · intro hx
      rcases List.mem_cons.1 ((h x).1 (by simp [hx])) with e | e
      · have := h1.1 x hx; omega
      · exact e
    · intro hx
      rcases List.mem_cons.1 ((h x).2 (by simp [hx])) with e | e
      · have := h2.1 x hx; omega
      · exact e
theorem compact_rise {l : List Int} (hs : l.Pairwise (· ≤ ·)) : (Lib.compact l).Pairwise (· < ·) ∧ ∀ x, x ∈ Lib.compact l ↔ x ∈ l := by
  have hget : ∀ (i : Nat) (h : i < l.length), l.toArray[i]! = l[i] := fun i h => by rw [getElem!_pos _ _ (by simpa using h)]; simp
  have hmono : ∀ (i j : Nat) (hi : i ≤ j) (hj : j < l.length), l[i]'(by omega) ≤ l[j] := fun i j hi hj => by
    rcases Nat.lt_or_eq_of_le hi with h | h
    · exact List.pairwise_iff_getElem.1 hs i j (by omega) hj h
    · subst h; exact Int.le_refl _
  have key : ∀ m, m ≤ l.length → (Lib.compactUpTo l.toArray m).Pairwise (· < ·) ∧ (∀ x, x ∈ Lib.compactUpTo l.toArray m ↔ ∃ i, ∃ h : i < l.length, i < m ∧ x = l[i]) := by
    intro m
    induction m with
    | zero => intro _; exact ⟨by simp [Lib.compactUpTo], fun x => by simp [Lib.compactUpTo]⟩
    | succ m ih =>
      intro hm
      obtain ⟨i1, i2⟩ := ih (by omega)
      rw [Lib.compactUpTo_succ, hget m (by omega)]
      by_cases hk : Lib.keeps l.toArray m = true
      · rw [if_pos hk]
        have hlt : ∀ x ∈ Lib.compactUpTo l.toArray m, x < l[m] := by
          intro x hx
          obtain ⟨i, hi, him, rfl⟩ := (i2 x).1 hx
          unfold Lib.keeps at hk
          rw [decide_eq_true_eq, hget m (by omega), hget (m - 1) (by omega)] at hk
          have h1 := hmono i (m - 1) (by omega) (by omega)
          have h2 := hmono (m - 1) m (by omega) (by omega)
          rcases hk with h | h
          · omega
          · omega
        refine ⟨List.pairwise_append.2 ⟨i1, by simp, fun x hx y hy => by rw [List.mem_singleton] at hy; subst hy; exact hlt x hx⟩, fun x => ?_⟩
        rw [List.mem_append, List.mem_singleton, i2]
        constructor
        · rintro (⟨i, hi, him, rfl⟩ | rfl)
          · exact ⟨i, hi, by omega, rfl⟩
          · exact ⟨m, by omega, by omega, rfl⟩
        · rintro ⟨i, hi, him, rfl⟩
          by_cases e : i = m
          · subst e; exact .inr rfl
          · exact .inl ⟨i, hi, by omega, rfl⟩
      · rw [if_neg hk, List.append_nil]
        refine ⟨i1, fun x => ?_⟩
        rw [i2]
        constructor
        · rintro ⟨i, hi, him, rfl⟩
          exact ⟨i, hi, by omega, rfl⟩
        · rintro ⟨i, hi, him, rfl⟩
          by_cases e : i = m
          · subst e
            unfold Lib.keeps at hk
            rw [decide_eq_true_eq, hget i (by omega)] at hk
            have hi0 : i ≠ 0 := fun h => hk (.inl h)
            rw [hget (i - 1) (by omega)] at hk
            have : l[i] = l[i - 1]'(by omega) := by
              rcases Int.lt_trichotomy l[i] (l[i - 1]'(by omega)) with h | h | h
              · exact absurd (.inr (by omega)) hk
              · exact h
              · exact absurd (.inr (by omega)) hk
            exact ⟨i - 1, by omega, by omega, this⟩
          · exact ⟨i, hi, by omega, rfl⟩
  obtain ⟨k1, k2⟩ := key l.length (Nat.le_refl _)
  refine ⟨k1, fun x => ?_⟩
  unfold Lib.compact
  rw [k2]
  constructor
  · rintro ⟨i, hi, _, rfl⟩; exact List.getElem_mem hi
  · intro hx
    obtain ⟨i, hi, rfl⟩ := List.getElem_of_mem hx
    exact ⟨i, hi, hi, rfl⟩
theorem sorted_rise (l : List Int) : (Lib.compact (l.mergeSort fun x y => decide (x ≤ y))).Pairwise (· < ·) ∧ ∀ x, x ∈ Lib.compact (l.mergeSort fun x y => decide (x ≤ y)) ↔ x ∈ l := by
  have hp : (l.mergeSort fun x y => decide (x ≤ y)).Pairwise (· ≤ ·) := by
    have := List.pairwise_mergeSort (le := fun x y : Int => decide (x ≤ y)) (fun a b c h1 h2 => by simp at *; omega) (fun a b => by simp; omega) l
    exact this.imp fun h => by simpa using h
  obtain ⟨h1, h2⟩ := compact_rise hp
  exact ⟨h1, fun x => by rw [h2]; exact (List.mergeSort_perm l _).mem_iff⟩
/-! ### What rules let go -/
def CanGo (l : List Rul) (a : Int) : Prop := ∃ p port, (1 ≤ p ∧ p ≤ 255) ∧ (0 ≤ port ∧ port ≤ 65535) ∧ allowL p a port l = true
noncomputable def canGo (l : List Rul) (a : Int) : Bool := @decide (CanGo l a) (Classical.propDecidable _)
theorem canGo_of {l : List Rul} {a : Int} {b : Bool} (h : b = true ↔ CanGo l a) : b = canGo l a := by
  unfold canGo
  cases b with
  | true => exact (@decide_eq_true _ (Classical.propDecidable _) (h.1 rfl)).symm
  | false => exact (@decide_eq_false _ (Classical.propDecidable _) fun hc => absurd (h.2 hc) (by simp)).symm
def named (l : List Rul) (p : Int) : Prop := ∃ r ∈ l, r.proto = p
def rel (p : Int) (r : Rul) : Bool := r.proto == 0 || r.proto == p
/-- The ports at which something changes, for one protocol. -/
def ptsR (r : Rul) : List Int := if r.hi < 65535 then [r.hi + 1, r.lo] else [r.lo]
def ptsL (l : List Rul) (p : Int) : List Int := ((l.filter (rel p)).flatMap ptsR) ++ [0]
theorem best_le {b : Int} : ∀ (xs : List Int), (∃ x ∈ xs, x ≤ b) → ∃ x ∈ xs, x ≤ b ∧ ∀ y ∈ xs, y ≤ b → y ≤ x
  | [], h => by obtain ⟨x, hx, _⟩ := h; cases hx
  | z :: xs, h => by
    by_cases hr : ∃ x ∈ xs, x ≤ b
    · obtain ⟨x, hx, hxb, hall⟩ := best_le xs hr
      by_cases hz : z ≤ b ∧ x ≤ z
      · refine ⟨z, by simp, hz.1, fun y hy hyb => ?_⟩
        rcases List.mem_cons.1 hy with rfl | hy
        · exact Int.le_refl _
        · exact Int.le_trans (hall y hy hyb) hz.2
      · refine ⟨x, by simp [hx], hxb, fun y hy hyb => ?_⟩
        rcases List.mem_cons.1 hy with rfl | hy
        · by_cases h1 : x ≤ y
          · exact absurd ⟨hyb, h1⟩ hz
          · omega
        · exact hall y hy hyb
    · obtain ⟨x, hx, hxb⟩ := h
      rcases List.mem_cons.1 hx with rfl | hx
      · refine ⟨x, by simp, hxb, fun y hy hyb => ?_⟩
        rcases List.mem_cons.1 hy with rfl | hy
        · exact Int.le_refl _
        · exact absurd ⟨y, hy, hyb⟩ hr
      · exact absurd ⟨x, hx, hxb⟩ hr
theorem allow_congr {l : List Rul} {p q a b s t : Int} (h : ∀ r ∈ l, r.fits p a s = r.fits q b t) : allowL p a s l = allowL q b t l := by
  have : l.find? (Rul.fits p a s) = l.find? (Rul.fits q b t) := by
    induction l with
    | nil => rfl
    | cons r l ih =>
      rw [List.find?_cons, List.find?_cons, h r (by simp), ih fun r hr => h r (by simp [hr])]
  unfold allowL
  rw [this]
theorem mem_ptsR {r : Rul} {x : Int} : x ∈ ptsR r ↔ x = r.lo ∨ (r.hi < 65535 ∧ x = r.hi + 1) := by
  unfold ptsR
  split
  · simp; omega
  · simp; intro h; omega
theorem mem_ptsL {l : List Rul} {p x : Int} : x ∈ ptsL l p ↔ x = 0 ∨ ∃ r ∈ l, rel p r = true ∧ x ∈ ptsR r := by
  unfold ptsL
  simp only [List.mem_append, List.mem_flatMap, List.mem_filter, List.mem_singleton]
  constructor
  · rintro (⟨r, ⟨h1, h2⟩, h3⟩ | h)
    · exact .inr ⟨r, h1, h2, h3⟩
    · exact .inl h
  · rintro (h | ⟨r, h1, h2, h3⟩)
    · exact .inr h
    · exact .inl ⟨r, ⟨h1, h2⟩, h3⟩
theorem rights {l : List Rul} (hl : l.all Rul.right = true) {r : Rul} (h : r ∈ l) : 0 ≤ r.proto ∧ r.proto ≤ 255 ∧ chk r.addr r.bits = true ∧ 0 ≤ r.lo ∧ r.lo ≤ r.hi ∧ r.hi ≤ 65535 := (Rul.right_iff r).1 (List.all_eq_true.1 hl r h)
theorem pts_range {l : List Rul} (hl : l.all Rul.right = true) {p x : Int} (h : x ∈ ptsL l p) : 0 ≤ x ∧ x ≤ 65535 := by
  rcases mem_ptsL.1 h with rfl | ⟨r, hr, _, hx⟩
  · omega
  · have := rights hl hr
    rcases mem_ptsR.1 hx with rfl | ⟨h1, rfl⟩ <;> omega
/-- If a packet may go, one of the same protocol to one of the ports at which something changes may go. -/
theorem to_pts {l : List Rul} (hl : l.all Rul.right = true) {p a port : Int} (h0 : 0 ≤ port) (h1 : port ≤ 65535) (h : allowL p a port l = true) : ∃ x ∈ ptsL l p, allowL p a x l = true := by
  obtain ⟨x, hx, hxb, hall⟩ := best_le (b := port) (ptsL l p) ⟨0, mem_ptsL.2 (.inl rfl), h0⟩
  refine ⟨x, hx, ?_⟩
  rw [← h]
  refine allow_congr fun r hr => ?_
  have hrr := rights hl hr
  unfold Rul.fits
  cases hrel : rel p r with
  | false =>
    have hrel' : (r.proto == 0 || r.proto == p) = false := hrel
    rw [hrel']; rfl
  | true =>
    have e1 : decide (x ≥ r.lo) = decide (port ≥ r.lo) := by
      apply Bool.eq_iff_iff.2
      rw [decide_eq_true_eq, decide_eq_true_eq]
      constructor
      · intro h; omega
      · intro h; exact hall r.lo (mem_ptsL.2 (.inr ⟨r, hr, hrel, mem_ptsR.2 (.inl rfl)⟩)) h
    have e2 : decide (x ≤ r.hi) = decide (port ≤ r.hi) := by
      apply Bool.eq_iff_iff.2
      rw [decide_eq_true_eq, decide_eq_true_eq]
      constructor
      · intro h
        by_cases hc : port ≤ r.hi
        · exact hc
        · have := hall (r.hi + 1) (mem_ptsL.2 (.inr ⟨r, hr, hrel, mem_ptsR.2 (.inr ⟨by omega, rfl⟩)⟩)) (by omega)
          omega
      · intro h; omega
    rw [e1, e2]
/-- A protocol that no rule names is as good as any other such. -/
theorem to_other {l : List Rul} {p q a port : Int} (hp : ¬ named l p) (hq : ¬ named l q) : allowL p a port l = allowL q a port l := by
  refine allow_congr fun r hr => ?_
  unfold Rul.fits
  have h1 : (r.proto == p) = false := by rw [beq_eq_false_iff_ne]; exact fun e => hp ⟨r, hr, e⟩
  have h2 : (r.proto == q) = false := by rw [beq_eq_false_iff_ne]; exact fun e => hq ⟨r, hr, e⟩
  rw [h1, h2]
/-- Protocols that stand for all. -/
structure Protos (l : List Rul) (ps : List Int) : Prop where
  range : ∀ p ∈ ps, 1 ≤ p ∧ p ≤ 255
  names : ∀ p, 1 ≤ p → p ≤ 255 → named l p → p ∈ ps
  other : (∃ p, 1 ≤ p ∧ p ≤ 255 ∧ ¬ named l p) → ∃ p ∈ ps, ¬ named l p
  len : ps.length ≤ 300
theorem can_iff {l : List Rul} (hl : l.all Rul.right = true) {ps : List Int} (hp : Protos l ps) {a : Int} : CanGo l a ↔ ∃ p ∈ ps, ∃ x ∈ ptsL l p, allowL p a x l = true := by
  constructor
  · rintro ⟨p, port, ⟨p1, p2⟩, ⟨h1, h2⟩, h⟩
    by_cases hn : named l p
    · exact ⟨p, hp.names p p1 p2 hn, to_pts hl h1 h2 h⟩
    · obtain ⟨q, hq, hqn⟩ := hp.other ⟨p, p1, p2, hn⟩
      rw [to_other hn hqn] at h
      exact ⟨q, hq, to_pts hl h1 h2 h⟩
  · rintro ⟨p, hps, x, hx, h⟩
    exact ⟨p, x, hp.range p hps, pts_range hl hx, h⟩
/-! ### The bounds -/
def bnds (l : List Rul) : List Int := l.flatMap fun r => [ends1 r.addr r.bits, ends2 r.addr r.bits + 1]
theorem ends_range {r : Rul} (hf : r.fine) : 0 ≤ ends1 r.addr r.bits ∧ ends1 r.addr r.bits < 4294967296 ∧ 0 ≤ ends2 r.addr r.bits ∧ ends2 r.addr r.bits < 4294967296 := by
  unfold ends1 ends2
  by_cases hc : chk r.addr r.bits = true
  · rw [if_pos hc, if_pos hc]
    obtain ⟨_, _, _, h4⟩ := chk_le hf.1 hf.2 hc
    have := hf.1
    have := pw_pos r.bits
    refine ⟨hf.1, hf.2, by omega, by omega⟩
  · rw [if_neg hc, if_neg hc]
    omega
theorem bnds_range {l : List Rul} (hf : ∀ r ∈ l, r.fine) {x : Int} (h : x ∈ bnds l) : 0 ≤ x ∧ x ≤ 4294967296 := by
  unfold bnds at h
  obtain ⟨r, hr, hx⟩ := List.mem_flatMap.1 h
  have := ends_range (hf r hr)
  simp only [List.mem_cons, List.not_mem_nil, or_false] at hx
  rcases hx with rfl | rfl <;> omega
/-- All bounds, rising. -/
def risen (l : List Rul) : List Int := Lib.compact ((0 :: 4294967296 :: bnds l).mergeSort fun x y => decide (x ≤ y))
theorem risen_pair (l : List Rul) : (risen l).Pairwise (· < ·) := (sorted_rise _).1
theorem risen_mem {l : List Rul} {x : Int} : x ∈ risen l ↔ x = 0 ∨ x = 4294967296 ∨ x ∈ bnds l := by
  unfold risen
  rw [(sorted_rise _).2 x]
  simp
theorem risen_range {l : List Rul} (hf : ∀ r ∈ l, r.fine) {x : Int} (h : x ∈ risen l) : 0 ≤ x ∧ x ≤ 4294967296 := by
  rcases risen_mem.1 h with rfl | rfl | h
  · omega
  · omega
  · exact bnds_range hf h
theorem risen_two (l : List Rul) : 2 ≤ (risen l).length := by
  have h0 := (risen_mem (l := l) (x := 0)).2 (.inl rfl)
  have h1 := (risen_mem (l := l) (x := 4294967296)).2 (.inr (.inl rfl))
  match h : risen l with
  | [] => rw [h] at h0; cases h0
  | [x] =>
    rw [h] at h0 h1
    simp at h0 h1
    omega
  | x :: y :: t => simp
theorem risen_lt {l : List Rul} {i j : Nat} {x y : Int} (hi : (risen l)[i]? = some x) (hj : (risen l)[j]? = some y) (hij : i < j) : x < y := by
  obtain ⟨h1, rfl⟩ := List.getElem?_eq_some_iff.1 hi
  obtain ⟨h2, rfl⟩ := List.getElem?_eq_some_iff.1 hj
  exact List.pairwise_iff_getElem.1 (risen_pair l) i j h1 h2 hij
/-! ### The routes -/
def stepR (g : Int → Bool) (acc : List (Int × Int)) (low nxt : Int) : List (Int × Int) :=
  if g low = true then (match acc.getLast? with
    | some x => if x.2 + 1 = low then acc.dropLast ++ [(x.1, nxt - 1)] else acc ++ [(low, nxt - 1)]
    | none => [(low, nxt - 1)])
  else acc
def rtsTo (g : Int → Bool) (bs : List Int) : Nat → List (Int × Int)
  | 0 => []
  | k + 1 => stepR g (rtsTo g bs k) (bs.getD k 0) (bs.getD (k + 1) 0)
def rts (g : Int → Bool) (bs : List Int) : List (Int × Int) := (rtsTo g bs (bs.length - 1)).take 16
noncomputable def routes (l : List Rul) : List (Int × Int) := if checkL l = 0 then rts (canGo l) (risen l) else []
theorem stepR_len (g : Int → Bool) (acc : List (Int × Int)) (low nxt : Int) : (stepR g acc low nxt).length ≤ acc.length + 1 := by
  unfold stepR
  split
  · split
    · split <;> simp <;> omega
    · simp
  · omega
theorem rtsTo_len (g : Int → Bool) (bs : List Int) : ∀ k, (rtsTo g bs k).length ≤ k
  | 0 => Nat.le_refl _
  | k + 1 => Nat.le_trans (stepR_len _ _ _ _) (Nat.succ_le_succ (rtsTo_len g bs k))
def rrow (l : List (Int × Int)) : List (List Value) := l.map fun x => [.int .u32 x.1, .int .u32 x.2, .int .i64 0]
theorem rrow_len (l : List (Int × Int)) : ∀ es ∈ rrow l, es.length = 3 := by
  intro es he
  obtain ⟨x, _, rfl⟩ := List.mem_map.1 he
  rfl
/-! ### Sets in maps -/
def MapB (H : Heap) (r : Nat) (ks : List Int) : Prop :=
  ∃ es clk, H r = some (.map es clk) ∧ (∀ e ∈ es.toList, e.born < clk ∧ ∃ n, e.key = .int .i64 n ∧ n ∈ ks) ∧ (∀ n ∈ ks, ∃ e ∈ es.toList, e.key = .int .i64 n) ∧ (es.toList.map (·.born)).Pairwise (· ≠ ·) ∧ ∀ e ∈ es.toList, e.val = .bool true
theorem MapB.eq {H H' : Heap} {r : Nat} {ks : List Int} (h : MapB H r ks) (e : H' r = H r) : MapB H' r ks := by
  obtain ⟨es, clk, h1, h2⟩ := h
  exact ⟨es, clk, e.trans h1, h2⟩
theorem MapB.congr {H : Heap} {r : Nat} {ks ks' : List Int} (h : MapB H r ks) (e : ∀ x, x ∈ ks ↔ x ∈ ks') : MapB H r ks' := by
  obtain ⟨es, clk, h1, h2, h3, h4⟩ := h
  exact ⟨es, clk, h1, fun x hx => ⟨(h2 x hx).1, (h2 x hx).2.choose, (h2 x hx).2.choose_spec.1, (e _).1 (h2 x hx).2.choose_spec.2⟩, fun n hn => h3 n ((e n).2 hn), h4⟩
theorem MapB.new {H : Heap} {r : Nat} : MapB (H.set r (.map #[] 0)) r [] := ⟨#[], 0, set_self _ _ _, by simp, by simp, by simp, by simp⟩
theorem MapB.clear {H : Heap} {r : Nat} {ks : List Int} (h : MapB H r ks) {K : Heap → Prop} (hk : ∀ o, MapB (H.set r o) r [] → K (H.set r o)) : clrW (some r) K H := by
  obtain ⟨es, clk, h1, _⟩ := h
  exact ⟨es, clk, h1, hk _ ⟨#[], clk, set_self _ _ _, by simp, by simp, by simp, by simp⟩⟩
theorem keyIs_at {n m : Int} {e : MapEntry} (h : e.key = .int .i64 m) : keyIs (.int .i64 n) e = decide (n = m) := keyIs_int h
theorem mem_mod {f : MapEntry → MapEntry} : ∀ {l : List MapEntry} {i : Nat} {x : MapEntry}, x ∈ l.modify i f → x ∈ l ∨ ∃ y, l[i]? = some y ∧ x = f y
  | [], i, x, h => by simp at h
  | y :: l, 0, x, h => by
    rw [List.modify_zero_cons] at h
    rcases List.mem_cons.1 h with h | h
    · exact .inr ⟨y, rfl, h⟩
    · exact .inl (by simp [h])
  | y :: l, i + 1, x, h => by
    rw [List.modify_succ_cons] at h
    rcases List.mem_cons.1 h with h | h
    · exact .inl (by simp [h])
    · rcases mem_mod h with h | ⟨z, hz, hx⟩
      · exact .inl (by simp [h])
      · exact .inr ⟨z, by simpa using hz, hx⟩
theorem map_mod {α : Type} {f : MapEntry → MapEntry} {g : MapEntry → α} : ∀ {l : List MapEntry} {i : Nat}, (∀ y, l[i]? = some y → g (f y) = g y) → (l.modify i f).map g = l.map g
  | [], i, h => by simp
  | y :: l, 0, h => by rw [List.modify_zero_cons, List.map_cons, List.map_cons, h y rfl]
  | y :: l, i + 1, h => by rw [List.modify_succ_cons, List.map_cons, List.map_cons, map_mod fun z hz => h z (by simpa using hz)]
theorem MapB.put {H : Heap} {r : Nat} {ks : List Int} (h : MapB H r ks) {a : Int} {K : Heap → Prop} (hk : ∀ o, MapB (H.set r o) r (a :: ks) → K (H.set r o)) : putW (.int .i64) (some r) (.int .i64 a) (.bool true) K H := by
  obtain ⟨es, clk, h1, h2, h3, h4, h5⟩ := h
  refine ⟨es, clk, h1, fun e he => ?_, hk _ ?_⟩
  · obtain ⟨_, n, hn, _⟩ := h2 e (by simpa using he)
    rw [hn]; simp [keyOk]
  · unfold mput
    cases hf : es.toList.findIdx? (keyIs (.int .i64 a)) with
    | some i =>
      obtain ⟨hi1, hi2, _⟩ := List.findIdx?_eq_some_iff_getElem.1 hf
      have hat : es.toList[i]? = some es.toList[i] := List.getElem?_eq_getElem hi1
      obtain ⟨hb, m, hm, hmk⟩ := h2 _ (List.getElem_mem hi1)
      have ham : a = m := by rw [keyIs_at hm] at hi2; simpa using hi2
      have hsame : ∀ (y : MapEntry), es.toList[i]? = some y → ({ y with key := .int .i64 a, val := .bool true } : MapEntry) = y := by
        intro y hy
        rw [hat] at hy; cases hy
        have hv := h5 _ (List.getElem_mem hi1)
        have hkey : es.toList[i].key = .int .i64 a := by rw [hm, ham]
        cases hE : es.toList[i] with
        | mk k v b => rw [hE] at hv hkey; simp at hv hkey; rw [hv, hkey]
      refine ⟨_, _, set_self _ _ _, ?_, ?_, ?_, ?_⟩
      · intro e he
        rw [Array.toList_modify] at he
        rcases mem_mod he with he | ⟨y, hy, rfl⟩
        · obtain ⟨q1, n, q2, q3⟩ := h2 e he
          exact ⟨q1, n, q2, by simp [q3]⟩
        · rw [hsame y hy]
          obtain ⟨q1, n, q2, q3⟩ := h2 y (List.mem_of_getElem? hy)
          exact ⟨q1, n, q2, by simp [q3]⟩
      · intro n hn
        rw [Array.toList_modify, show es.toList.modify i (fun e => { e with key := .int .i64 a, val := .bool true }) = es.toList by
          have := map_mod (l := es.toList) (i := i) (f := fun e => { e with key := .int .i64 a, val := .bool true }) (g := id) (fun y hy => hsame y hy)
          simpa using this]
        rcases List.mem_cons.1 hn with rfl | hn
        · exact ⟨_, List.getElem_mem hi1, by rw [hm, ham]⟩
        · exact h3 n hn
      · rw [Array.toList_modify, map_mod (f := fun e => { e with key := .int .i64 a, val := .bool true }) (g := fun e : MapEntry => e.born) (fun y _ => rfl)]
        exact h4
      · intro e he
        rw [Array.toList_modify] at he
        rcases mem_mod he with he | ⟨y, hy, rfl⟩
        · exact h5 e he
        · rfl
    | none =>
      refine ⟨_, _, set_self _ _ _, ?_, ?_, ?_, ?_⟩
      · intro e he
        rw [Array.toList_push] at he
        rcases List.mem_append.1 he with he | he
        · obtain ⟨q1, n, q2, q3⟩ := h2 e he
          exact ⟨by omega, n, q2, by simp [q3]⟩
        · simp only [List.mem_singleton] at he; subst he
          exact ⟨Nat.lt_succ_self _, a, rfl, by simp⟩
      · intro n hn
        rw [Array.toList_push]
        rcases List.mem_cons.1 hn with rfl | hn
        · exact ⟨_, List.mem_append.2 (.inr (List.mem_singleton.2 rfl)), rfl⟩
        · obtain ⟨e, he, hen⟩ := h3 n hn
          exact ⟨e, by simp [he], hen⟩
      · rw [Array.toList_push, List.map_append, List.pairwise_append]
        refine ⟨h4, by simp, ?_⟩
        intro x hx y hy
        simp only [List.map_cons, List.map_nil, List.mem_singleton] at hy
        subst hy
        obtain ⟨e, he, rfl⟩ := List.mem_map.1 hx
        have := (h2 e he).1
        omega
      · intro e he
        rw [Array.toList_push] at he
        rcases List.mem_append.1 he with he | he
        · exact h5 e he
        · simp only [List.mem_singleton] at he; subst he; rfl
theorem MapB.look {H : Heap} {r : Nat} {ks : List Int} (h : MapB H r ks) {a : Int} {K : Bool → Bool → Prop} (h1 : a ∈ ks → K true true) (h0 : a ∉ ks → K false false) : lookB (.int .i64) (some r) (.int .i64 a) false K H := by
  obtain ⟨es, clk, hr, h2, h3, h4, h5⟩ := h
  refine ⟨es, clk, hr, fun e he => ?_, ?_⟩
  · obtain ⟨_, n, hn, _⟩ := h2 e (by simpa using he)
    rw [hn]; simp [keyOk]
  · unfold mfind
    cases hf : es.toList.find? (keyIs (.int .i64 a)) with
    | some e =>
      have hm := List.mem_of_find?_eq_some hf
      have hp := List.find?_some hf
      obtain ⟨_, n, hn, hnk⟩ := h2 e hm
      rw [keyIs_at hn] at hp
      have : a = n := by simpa using hp
      subst this
      rw [hf, Option.map_some, h5 e hm]
      exact ⟨true, rfl, h1 hnk⟩
    | none =>
      rw [hf, Option.map_none]
      refine h0 fun ha => ?_
      obtain ⟨e, he, hen⟩ := h3 a ha
      have := List.find?_eq_none.1 hf e he
      rw [keyIs_at hen] at this
      simp at this
theorem filter_less {α : Type} {p q : α → Bool} : ∀ {l : List α}, (∀ x ∈ l, q x = true → p x = true) → (∃ x ∈ l, p x = true ∧ q x = false) → (l.filter q).length < (l.filter p).length
  | [], _, h => by obtain ⟨x, hx, _⟩ := h; cases hx
  | y :: l, h1, h2 => by
    have hle : (l.filter q).length ≤ (l.filter p).length := by
      clear h2
      induction l with
      | nil => simp
      | cons z l ih =>
        have ih := ih fun x hx => h1 x (by rcases List.mem_cons.1 hx with rfl | hx <;> simp [*])
        have hz := h1 z (by simp)
        rw [List.filter_cons, List.filter_cons]
        cases hq : q z with
        | true => rw [hz hq, if_pos rfl, if_pos rfl]; simpa using ih
        | false =>
          rw [if_neg (by simp)]
          split <;> simp <;> omega
    rw [List.filter_cons, List.filter_cons]
    by_cases hy : p y = true ∧ q y = false
    · rw [if_pos hy.1, if_neg (by simp [hy.2])]
      simp only [List.length_cons]; omega
    · obtain ⟨x, hx, hxp⟩ := h2
      have hx2 : x ∈ l := by
        rcases List.mem_cons.1 hx with rfl | hx
        · exact absurd hxp hy
        · exact hx
      have ih := filter_less (fun x hx => h1 x (by simp [hx])) ⟨x, hx2, hxp⟩
      cases hq : q y with
      | true => rw [h1 y (by simp) hq, if_pos rfl, if_pos rfl]; simpa using ih
      | false =>
        rw [if_neg (by simp)]
        split <;> simp <;> omega
end Go.Sh
