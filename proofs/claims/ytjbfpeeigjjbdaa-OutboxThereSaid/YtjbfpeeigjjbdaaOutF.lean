/- OutboxThere: a text comes whole into an inbox, whatever is lost of the first pieces. -/
import Derived.Test.YtjbfpeeigjjbdaaOutE
import Derived.Test.YtjbfpeeigjjbdaaInboxH
namespace Go.Sh
theorem Keep2.step {b mb : Nat} {H H' : Heap} (h : Keep2 b mb H H') {M : List Nat} (h1 : b ∈ M) (h2 : mb ∈ M) : Step M H M H' := fun k o hk hn => ⟨h k o hk (fun e => hn (e ▸ h1)) (fun e => hn (e ▸ h2)), hn⟩
theorem runL_ge {p : UInt8 → Bool} {l : List UInt8} {k : Nat} (h : k ≤ l.length) (hall : ∀ (i : Nat) (x : UInt8), i < k → l[i]? = some x → p x = true) : k ≤ runL p l := by
  by_cases hlt : k ≤ runL p l
  · exact hlt
  · exfalso
    have hr : runL p l < k := by omega
    have hx : l[runL p l]? = some (l[runL p l]'(by omega)) := List.getElem?_eq_getElem (by omega)
    have h1 := hall _ _ hr hx
    rw [runL_at hx] at h1
    cases h1
theorem readL_size : ∀ (m : Nat) (s : Bx), (readL m s).2.size = s.size
  | 0, _ => rfl
  | m + 1, s => by
    unfold readL
    split
    · rfl
    · split
      · rfl
      · exact readL_size m s.next
theorem readL_keys : ∀ (m : Nat) (s : Bx) (n : Int), (readL m s).2.read ≤ n → (readL m s).2.f n = s.f n
  | 0, _, _, _ => rfl
  | m + 1, s, n, h => by
    unfold readL at h ⊢
    split
    · rfl
    · rename_i hr
      rw [if_neg hr] at h
      cases hc : s.f s.read with
      | none => rfl
      | some c =>
        rw [hc] at h
        dsimp only at h ⊢
        rw [readL_keys m s.next n h]
        show (if n = s.read then none else s.f n) = _
        have hge : ∀ (m : Nat) (s : Bx), s.read ≤ (readL m s).2.read := by
          intro m
          induction m with
          | zero => intro s; exact Int.le_refl _
          | succ m ih =>
            intro s
            unfold readL
            split
            · exact Int.le_refl _
            · split
              · exact Int.le_refl _
              · have h4 : s.next.read = s.read + 1 := rfl
                have := ih s.next
                dsimp only
                omega
        have h3 := hge m s.next
        have h4 : s.next.read = s.read + 1 := rfl
        rw [if_neg (by omega)]
theorem readL_full {T : ByteArray} : ∀ (m : Nat) {s : Bx} {o : Nat}, Part T s o → T.size - o < m → (readL m s).2.f (readL m s).2.read = none
  | 0, s, o, h, hm => by omega
  | m + 1, s, o, h, hm => by
    unfold readL
    rw [if_neg (fun c => by rw [h.reset] at c; cases c)]
    cases hc : s.f s.read with
    | none => exact hc
    | some c =>
      have hk := h.keys _ _ hc
      rw [h.read] at hk
      have hn : Part T s.next (o + 1) := ⟨by show s.read + 1 = _; rw [h.read]; simp, by omega, h.reset, h.size, h.most, fun n x hx => by
        have hx : (if n = s.read then none else s.f n) = some x := hx
        split at hx
        · cases hx
        · rename_i hne
          have := h.keys n x hx
          rw [h.read] at hne
          exact ⟨by omega, this.2⟩⟩
      exact readL_full m hn (by omega)
theorem putS_keys {s : Bx} {off : Int} {d : ByteArray} {fin : Bool} {n : Int} (h : s.f n ≠ none) : (putS s off d fin).f n ≠ none := by
  unfold putS
  split
  · show putF s off d d.size n ≠ none
    unfold putF
    rw [if_neg (fun c => h c.2.2.2)]
    exact h
  · exact h
theorem putS_size0 {s : Bx} {off : Int} {d : ByteArray} : (putS s off d false).size = s.size := by
  unfold putS
  split
  · show (if false = true then putEnd off d else s.size) = s.size
    rw [if_neg (fun c => by cases c)]
  · rfl
/-- The box that sends, between two turns. -/
structure Tx (T : List UInt8) (s : OB) : Prop where
  text : s.text = T
  len : s.how.length = T.length
  how : ∀ (i : Nat) (x : UInt8), s.how[i]? = some x → x = 0 ∨ x = 2
  fin : s.fin = 0 ∨ s.fin = 2
  limit : s.limit = 4096
theorem Tx.next {T : List UInt8} {s : OB} (h : Tx T s) (hT : T.length ≤ 3000) {most : Int} (hm : 1 ≤ most) :
    (s.next most = (⟨0, ⟨#[]⟩, false, false⟩, s) ∧ (∀ (i : Nat) (x : UInt8), s.how[i]? = some x → x = 2) ∧ s.fin = 2) ∨
    ∃ a e f, a ≤ e ∧ e ≤ T.length ∧ (e : Int) - a ≤ most ∧ (f = true ↔ e = T.length) ∧ s.first = a ∧ (a < e ∨ (s.fin = 0 ∧ f = true)) ∧ (∀ i, a ≤ i → i < e → s.how[i]? = some 0) ∧
      s.next most = (⟨a, ⟨((T.drop a).take (e - a)).toArray⟩, f, true⟩, { s with how := mark s.how a e 1, fin := if f = true ∧ s.fin = 0 then 1 else s.fin }) := by
  have hf3 : s.fin ≠ 3 := by
    rcases h.fin with e | e <;> rw [e] <;> decide
  have hfl : s.first ≤ T.length := by rw [← h.len]; exact runL_le _
  by_cases h1 : s.first = T.length
  · have hall : ∀ (i : Nat) (x : UInt8), s.how[i]? = some x → x = 2 := fun i x hx => by
      have hi : i < s.how.length := (List.getElem?_eq_some_iff.1 hx).1
      have := runL_lt (p := (· != 0)) (l := s.how) (i := i) (x := x) (by show i < s.first; rw [h1, ← h.len]; exact hi) hx
      rcases h.how i x hx with e | e
      · rw [e] at this; exact absurd this (by decide)
      · exact e
    rcases h.fin with hf | hf
    · refine .inr ⟨T.length, T.length, true, Nat.le_refl _, Nat.le_refl _, by omega, by simp, h1, .inr ⟨hf, rfl⟩, fun i h1 h2 => by omega, ?_⟩
      unfold OB.next
      rw [h.text, if_pos h1, if_neg, if_pos ⟨rfl, hf⟩, mark_nil, Nat.sub_self, List.take_zero]
      rw [h.limit]
      rintro (c | c)
      · exact c hf
      · omega
    · refine .inl ⟨?_, hall, hf⟩
      unfold OB.next
      rw [h.text, if_pos h1, if_pos (.inl (by rw [hf]; decide))]
  · have hsp := OB.stop_spec (s := s) (most := most) (a := s.first) (s.text.length - s.first) s.first rfl (by rw [h.text]; exact hfl)
    have hE : s.stop most s.first (s.text.length - s.first) s.first = s.stopE most := rfl
    rw [hE, h.text, h.limit] at hsp
    obtain ⟨h2, h3, h4, h5⟩ := hsp
    generalize hee : s.stopE most = e at h2 h3 h4 h5
    have hat : s.how[s.first]? = some 0 := by
      have hx : s.how[s.first]? = some (s.how[s.first]'(by rw [h.len]; omega)) := List.getElem?_eq_getElem _
      have := runL_at (p := (· != 0)) (l := s.how) hx
      rw [hx]
      have : s.how[s.first]'(by rw [h.len]; omega) = 0 := by simpa using this
      rw [this]
    have hlt : s.first < e := by
      by_cases he : e = s.first
      · exfalso
        rw [he] at h5
        rcases h5 with h5 | h5 | h5 | h5
        · exact h1 h5
        · omega
        · omega
        · exact h5 hat
      · omega
    refine .inr ⟨s.first, e, decide (e = T.length), by omega, h3, ?_, by simp, rfl, .inl hlt, fun i h6 h7 => (h4 i h6 h7).2.2, ?_⟩
    · have := (h4 (e - 1) (by omega) (by omega)).2.1
      omega
    · unfold OB.next
      rw [h.text, if_neg h1, hee, if_neg (by omega)]
      have e1 : (decide (e = T.length ∧ s.fin ≠ 3)) = decide (e = T.length) := by
        by_cases hc : e = T.length
        · rw [decide_eq_true hc, decide_eq_true ⟨hc, hf3⟩]
        · rw [decide_eq_false hc, decide_eq_false (fun c => hc c.1)]
      rw [e1]
      have e2 : (if (e = T.length ∧ s.fin ≠ 3) ∧ s.fin = 0 then (1 : UInt8) else s.fin) = (if decide (e = T.length) = true ∧ s.fin = 0 then 1 else s.fin) := by
        by_cases hc : e = T.length ∧ s.fin = 0
        · rw [if_pos ⟨⟨hc.1, hf3⟩, hc.2⟩, if_pos ⟨decide_eq_true hc.1, hc.2⟩]
        · rw [if_neg (fun c => hc ⟨c.1.1, c.2⟩), if_neg (fun c => hc ⟨of_decide_eq_true c.1, c.2⟩)]
      rw [e2]
/-- What is lost is as it was. -/
theorem Tx.lost {T : List UInt8} {s : OB} (h : Tx T s) {a e : Nat} {f : Bool} (ha : a ≤ e) (hz : ∀ i, a ≤ i → i < e → s.how[i]? = some 0) :
    ({ s with how := mark s.how a e 1, fin := if f = true ∧ s.fin = 0 then 1 else s.fin } : OB).lost a (e - a) f = s := by
  unfold OB.lost
  obtain ⟨t, w, fi, li, k⟩ := s
  dsimp only at hz ⊢
  have hfin : fi = 0 ∨ fi = 2 := h.fin
  congr 1
  · apply List.ext_getElem?
    intro i
    rw [lostH_get, mark_get, show a + (e - a) = e by omega]
    cases hw : w[i]? with
    | none => rfl
    | some y =>
      simp only [Option.map_some]
      by_cases hc : a ≤ i ∧ i < e
      · have := hz i hc.1 hc.2
        rw [hw] at this
        have hy : y = 0 := Option.some.inj this
        rw [if_pos hc, if_pos ⟨hc.1, hc.2, by decide⟩, hy]
      · rw [if_neg hc, if_neg (fun c => hc ⟨c.1, c.2.1⟩)]
  · cases f with
    | false => rw [if_neg (by simp), if_neg (by simp)]
    | true =>
      rcases hfin with e | e
      · rw [e]; rfl
      · rw [e]; rfl
theorem Tx.acked {T : List UInt8} {s : OB} (h : Tx T s) {a e : Nat} {f : Bool} {k : Int} (ha : a ≤ e) (he : e ≤ T.length) (hfa : s.first = a) (hlt : a < e ∨ (s.fin = 0 ∧ f = true)) :
    Tx T (({ s with how := mark s.how a e 1, fin := if f = true ∧ s.fin = 0 then 1 else s.fin } : OB).acked a (e - a) f k) ∧
    (∀ i, (({ s with how := mark s.how a e 1, fin := if f = true ∧ s.fin = 0 then 1 else s.fin } : OB).acked a (e - a) f k).how[i]? = some 2 → s.how[i]? = some 2 ∨ (a ≤ i ∧ i < e)) ∧
    ((({ s with how := mark s.how a e 1, fin := if f = true ∧ s.fin = 0 then 1 else s.fin } : OB).acked a (e - a) f k).fin = 2 → s.fin = 2 ∨ f = true) ∧
    (s.first + (if s.fin = 0 then 0 else 1) < (({ s with how := mark s.how a e 1, fin := if f = true ∧ s.fin = 0 then 1 else s.fin } : OB).acked a (e - a) f k).first + (if (({ s with how := mark s.how a e 1, fin := if f = true ∧ s.fin = 0 then 1 else s.fin } : OB).acked a (e - a) f k).fin = 0 then 0 else 1)) := by
  unfold OB.acked
  dsimp only
  have hg : ∀ i, (mark (mark s.how a e 1) a (a + (e - a)) 2)[i]? = (s.how[i]?).map fun y => if a ≤ i ∧ i < e then 2 else y := fun i => by
    rw [mark_get, mark_get, show a + (e - a) = e by omega]
    cases s.how[i]? with
    | none => rfl
    | some y =>
      simp only [Option.map_some]
      by_cases hc : a ≤ i ∧ i < e
      · rw [if_pos hc, if_pos hc]
      · rw [if_neg hc, if_neg hc, if_neg hc]
  have hfin : (if f = true then (2 : UInt8) else if f = true ∧ s.fin = 0 then 1 else s.fin) = if f = true then 2 else s.fin := by
    cases f <;> simp
  rw [hfin]
  refine ⟨⟨h.text, by dsimp only; rw [mark_len, mark_len, h.len], fun i x hx => ?_, ?_, h.limit⟩, fun i hi => ?_, fun h2 => ?_, ?_⟩
  · dsimp only at hx
    rw [hg] at hx
    obtain ⟨y, hy, hxy⟩ := Option.map_eq_some_iff.1 hx
    split at hxy
    · exact .inr hxy.symm
    · rw [← hxy]; exact h.how i y hy
  · show (if f = true then (2 : UInt8) else s.fin) = 0 ∨ (if f = true then (2 : UInt8) else s.fin) = 2
    split
    · exact .inr rfl
    · exact h.fin
  · rw [hg] at hi
    obtain ⟨y, hy, hxy⟩ := Option.map_eq_some_iff.1 hi
    by_cases hc : a ≤ i ∧ i < e
    · exact .inr hc
    · rw [if_neg hc] at hxy
      rw [hy, hxy]; exact .inl rfl
  · cases f with
    | true => exact .inr rfl
    | false => exact .inl (by simpa using h2)
  · have hge : e ≤ runL (· != 0) (mark (mark s.how a e 1) a (a + (e - a)) 2) := by
      refine runL_ge (by rw [mark_len, mark_len, h.len]; exact he) fun i x hi hx => ?_
      rw [hg] at hx
      obtain ⟨y, hy, hxy⟩ := Option.map_eq_some_iff.1 hx
      split at hxy
      · rw [← hxy]; rfl
      · rename_i hc
        rw [← hxy]
        exact runL_lt (p := (· != 0)) (l := s.how) (i := i) (x := y) (by show i < s.first; omega) hy
    show s.first + _ < runL (· != 0) (mark (mark s.how a e 1) a (a + (e - a)) 2) + _
    rw [hfa]
    rcases hlt with hlt | ⟨h1, h2⟩
    · cases f with
      | true => split <;> simp <;> omega
      | false =>
        simp only [Bool.false_eq_true, if_false]
        split <;> omega
    · rw [h1, h2]
      simp
      omega
/-- All that holds between two turns. -/
structure Th (T : ByteArray) (s : OB) (bx : Bx) (o : Nat) : Prop where
  tx : Tx T.data.toList s
  part : Part T bx o
  got : ∀ i : Nat, s.how[i]? = some 2 → i < o ∨ bx.f i ≠ none
  fin : s.fin = 2 → bx.size = T.size
  at' : bx.f bx.read = none
theorem Th.turn {T : ByteArray} {s : OB} {bx b1 b2 : Bx} {o : Nat} (h : Th T s bx o) (hT : T.size ≤ 3000) {a e : Nat} {f : Bool} {k : Int} (ha : a ≤ e) (he : e ≤ T.size) (hf : f = true ↔ e = T.size) (hfa : s.first = a) (hlt : a < e ∨ (s.fin = 0 ∧ f = true))
    (h1 : b1 = putS bx a (T.extract a e) f) (h2 : b2 = b1 ∨ b2 = putS b1 a (T.extract a e) f) :
    (readL 5000 b2).1 = (T.data.toList.drop o).take (readL 5000 b2).1.length ∧
    Th T (({ s with how := mark s.how a e 1, fin := if f = true ∧ s.fin = 0 then 1 else s.fin } : OB).acked a (e - a) f k) (readL 5000 b2).2 (o + (readL 5000 b2).1.length) := by
  have hTl : T.data.toList.length = T.size := by rw [Array.length_toList]; rfl
  obtain ⟨t1, t2, t3, t4⟩ := h.tx.acked (k := k) (f := f) ha (by omega) hfa hlt
  obtain ⟨_, p1, p2, p3⟩ := h.part.put (by omega) ha he (fin := f) (fun e => hf.1 e)
  rw [← h1] at p1 p2 p3
  have hb2 : Part T b2 o ∧ (∀ n : Int, b1.f n ≠ none → b2.f n ≠ none) ∧ (f = true → b2.size = T.size) ∧ (f = false → b2.size = bx.size) := by
    rcases h2 with rfl | rfl
    · exact ⟨p1, fun _ h => h, p3, fun hf0 => by rw [h1, hf0]; exact putS_size0⟩
    · obtain ⟨_, q1, _, q3⟩ := p1.put (by omega) ha he (fin := f) (fun e => hf.1 e)
      exact ⟨q1, fun n hn => putS_keys hn, q3, fun hf0 => by rw [hf0, putS_size0, h1, hf0, putS_size0]⟩
  obtain ⟨c1, c2, c3, c4⟩ := hb2
  obtain ⟨r1, r2⟩ := c1.take 5000
  refine ⟨r1, t1, r2, fun i hi => ?_, fun h2 => ?_, readL_full 5000 c1 (by omega)⟩
  · have hgot : i < o ∨ b2.f i ≠ none := by
      rcases t2 i hi with h3 | ⟨h3, h4⟩
      · rcases h.got i h3 with h5 | h5
        · exact .inl h5
        · refine .inr (c2 _ ?_)
          rw [h1]
          exact putS_keys h5
      · by_cases h5 : i < o
        · exact .inl h5
        · exact .inr (c2 _ (p2 i (by omega) (by omega) (by omega)))
    by_cases h6 : i < o + (readL 5000 b2).1.length
    · exact .inl h6
    · right
      rcases hgot with h7 | h7
      · omega
      · rw [readL_keys 5000 b2 i (by rw [r2.read]; omega)]
        exact h7
  · rw [readL_size]
    cases f with
    | true => exact c3 rfl
    | false =>
      rw [c4 rfl]
      rcases t3 h2 with h5 | h5
      · exact h.fin h5
      · cases h5
theorem Th.done {T : ByteArray} {s : OB} {bx : Bx} {o : Nat} (h : Th T s bx o) (hall : ∀ (i : Nat) (x : UInt8), s.how[i]? = some x → x = 2) (hf : s.fin = 2) : o = T.size ∧ s.pre = T.size ∧ howE bx = 1 := by
  have hTl : T.data.toList.length = T.size := by rw [Array.length_toList]; rfl
  have ho : o = T.size := by
    have := h.part.le
    by_cases hlt : o < T.size
    · exfalso
      have hx : s.how[o]? = some (s.how[o]'(by rw [h.tx.len]; omega)) := List.getElem?_eq_getElem _
      have h2 := hall _ _ hx
      rw [h2] at hx
      rcases h.got o hx with h3 | h3
      · omega
      · apply h3
        have := h.at'
        rw [h.part.read] at this
        exact this
    · omega
  refine ⟨ho, ?_, ?_⟩
  · unfold OB.pre
    refine runL_eq (by rw [h.tx.len]; omega) (fun i x _ hx => by rw [hall i x hx]; rfl) (.inl (by rw [h.tx.len]; omega))
  · unfold howE
    rw [if_neg (fun c => by rw [h.part.reset] at c; cases c), h.fin hf, h.part.read, ho, if_pos rfl]
end Go.Sh
