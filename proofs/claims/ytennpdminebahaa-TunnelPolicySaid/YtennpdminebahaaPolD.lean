/- Whether some packet may go to an address: the program's way and the reference's. -/
import Derived.Test.YtennpdminebahaaPolC
namespace Go.Sh
theorem policy_allow.run {H : Heap} {p : Option Addr} {n c : Nat} {l : List Rul} {proto dst port : Int} (hat : RulesAt H p n l) (hf : ∀ r ∈ l, r.fine) (hd : 0 ≤ dst ∧ dst < 4294967296) (hn : n ≤ 32) {K : Bool → Heap → Prop} {E : Value → Heap → Prop} (h : K (allowL proto dst port l) H) : policy_allow.c p n c proto dst port K E H := by
  refine ⟨?_⟩
  unfold policy_allow.vc
  exact policy_allow.loop hat hf hd (by omega) (fun H' hle ha => ⟨H, hle, by rw [← ha]; exact h⟩) (fun H' hle => ⟨H, hle, h⟩)
theorem int_get {H : Heap} {e : TypeId} {p : Option Addr} {n c : Nat} {l : List Int} (h : OwnRows H e 1 p n c (irow l)) {i : Nat} {x : Int} (hx : l[i]? = some x) : ∃ a, p = some a ∧ H.cell? (a.add (i * 1)) = some (.int .i64 x) := by
  obtain ⟨a, ha, hc⟩ := h.at.cell (i := i) (es := [.int .i64 x]) (by simp [irow, hx])
  refine ⟨a, ha, ?_⟩
  have := hc 0 _ rfl
  rw [add_add] at this
  exact this
theorem born_inj : ∀ {l : List MapEntry}, (l.map (·.born)).Pairwise (· ≠ ·) → ∀ {x y : MapEntry}, x ∈ l → y ∈ l → x.born = y.born → x = y
  | z :: l, h, x, y, hx, hy, e => by
    rw [List.map_cons, List.pairwise_cons] at h
    rcases List.mem_cons.1 hx with rfl | hx2 <;> rcases List.mem_cons.1 hy with rfl | hy2
    · rfl
    · exact absurd e (h.1 _ (List.mem_map_of_mem (f := fun e : MapEntry => e.born) hy2))
    · exact absurd e.symm (h.1 _ (List.mem_map_of_mem (f := fun e : MapEntry => e.born) hx2))
    · exact born_inj h.2 hx2 hy2 e
/-- What is known of all blocks but one. -/
def drop1 (H : Heap) (r : Nat) : Heap := fun k => if k = r then none else H k
theorem drop1_le (H : Heap) (r : Nat) : Heap.Le (drop1 H r) H := fun k o hk => by
  unfold drop1 at hk
  split at hk
  · cases hk
  · exact hk
theorem le_drop1 {H0 H : Heap} {r : Nat} (h : Heap.Le H0 H) (hr : H0 r = none) : Heap.Le H0 (drop1 H r) := fun k o hk => by
  unfold drop1
  rw [if_neg (fun e => by subst e; rw [hr] at hk; cases hk)]
  exact h k o hk
theorem drop1_self (H : Heap) (r : Nat) : drop1 H r r = none := by simp [drop1]
/-! ### The program's way -/
theorem policy_reached.each {Hb H0 : Heap} {r it : Nat} {p x0 : Option Addr} {n c x1 x2 : Nat} {x3 x4 : Int} {l : List Rul} {es : Array MapEntry} {clk : Nat} {proto a : Int} {ks : List Int} (hat : RulesAt Hb p n l) (hn : n ≤ 32) (hf : ∀ r ∈ l, r.fine) (ha : 0 ≤ a ∧ a < 4294967296) (hit : Hb it = none) (hle : Heap.Le Hb H0)
    (hm : H0 r = some (.map es clk)) (hi : H0 it = some (.mapIter (some r) clk #[] clk)) (hes : ∀ e ∈ es.toList, e.born < clk ∧ ∃ n, e.key = .int .i64 n ∧ n ∈ ks) (hks : ∀ n ∈ ks, ∃ e ∈ es.toList, e.key = .int .i64 n) (hborn : (es.toList.map (·.born)).Pairwise (· ≠ ·))
    {Kx : Heap → Prop} {Kr : Bool → Heap → Prop} {E : Value → Heap → Prop} (hx : ∀ H, Heap.Le Hb H → H r = some (.map es clk) → (∀ x ∈ ks, allowL proto a x l = false) → Kx H) (hr : ∀ H, Heap.Le Hb H → ∀ x ∈ ks, allowL proto a x l = true → Kr true H) :
    policy_reached.W2 p n c a (some r) proto x0 x1 x2 x3 x4 (⟨it, 0, none⟩ : Addr) Kx Kr E H0 := by
  have hrit : r ≠ it := by rintro rfl; rw [hm] at hi; cases hi
  refine ⟨Loop.of (I := fun _ H m => ∃ seen : Array Nat, m = (es.toList.filter fun e => !seen.contains e.born).length ∧ Heap.Le Hb H ∧ H r = some (.map es clk) ∧ H it = some (.mapIter (some r) clk seen clk) ∧ ∀ e ∈ es.toList, seen.contains e.born = true → ∀ n, e.key = .int .i64 n → allowL proto a n l = false) ?_ ⟨#[], rfl, hle, hm, hi, fun e _ h => by simp at h⟩⟩
  rintro m _ H ⟨seen, rfl, hle, hm, hi, hno⟩ RR hRR
  unfold policy_reached.W2.vc
  refine ⟨rfl, r, clk, seen, clk, es, clk, hi, hm, fun e he => ⟨(hes e he).1, (hes e he).1⟩, fun hall => ?_, fun e he hne => ?_⟩
  · refine hx H hle hm fun x hxk => ?_
    obtain ⟨e, he, hek⟩ := hks x hxk
    exact hno e he (hall e he) x hek
  · obtain ⟨hb, y, hy, hyk⟩ := hes e he
    have hle' : Heap.Le Hb (H.set it (.mapIter (some r) clk (seen.push e.born) clk)) := Le_put hle hit _
    have hm' : (H.set it (.mapIter (some r) clk (seen.push e.born) clk)) r = some (.map es clk) := by rw [set_ne _ _ hrit]; exact hm
    have hfind : es.find? (fun x => x.born == e.born) = some e := by
      cases hfd : es.find? (fun x => x.born == e.born) with
      | none =>
        rw [Array.find?_eq_none] at hfd
        exact absurd (beq_self_eq_true e.born) (hfd e (by simpa using he))
      | some e' =>
        have h1 := Array.mem_of_find?_eq_some hfd
        have h2 := Array.find?_some hfd
        exact congrArg some (born_inj hborn (by simpa using h1) he (by simpa using h2))
    refine ⟨rfl, r, clk, seen.push e.born, clk, es, e.born, e, y, set_self _ _ _, hm', by simp, hfind, hy, ?_⟩
    refine policy_allow.run (RulesAt.mono hat hle') hf ha hn ?_
    cases hal : allowL proto a y l with
    | true =>
      rw [if_pos rfl]
      exact hr _ hle' y hyk hal
    | false =>
      rw [if_neg (by simp)]
      refine hRR _ _ _ (filter_less (p := fun x => !seen.contains x.born) (q := fun x => !(seen.push e.born).contains x.born) (fun x hx h => ?_) ⟨e, he, by rw [hne]; rfl, ?_⟩) ⟨seen.push e.born, rfl, hle', hm', set_self _ _ _, fun x hx hc z hz => ?_⟩
      · simp at h ⊢
        exact h.1
      · simp
      · by_cases hxb : x.born = e.born
        · have := born_inj hborn hx he hxb
          subst this
          rw [hy] at hz
          cases hz
          exact hal
        · refine hno x hx ?_ z hz
          simp at hc ⊢
          rcases hc with hc | hc
          · exact hc
          · exact absurd hc hxb
theorem policy_reached.run {H0 : Heap} {p : Option Addr} {n c : Nat} {l : List Rul} {a : Int} (hat : RulesAt H0 p n l) (hn : n ≤ 32) (hf : ∀ r ∈ l, r.fine) (hl : l.all Rul.right = true) (ha : 0 ≤ a ∧ a < 4294967296) {K : Bool → Heap → Prop} {E : Value → Heap → Prop}
    (h : K (canGo l a) H0) : policy_reached.c p n c a K E H0 := by
  refine ⟨?_⟩
  unfold policy_reached.vc
  intro r hr
  refine policy_protos.run (hat.mono (Le_set hr _)) hn fun ps p' c' H1 hps hown hst => ?_
  obtain ⟨hm1, hrp⟩ := (MapB.new (H := H0) (r := r)).step hst (by simp)
  have hle1 : Heap.Le H0 H1 := (Le_set hr _).trans hst.le
  have hob : OwnRows (drop1 H1 r) 3 1 p' ps.length c' (irow ps) := hown.keep fun ob o hp ho => by
    unfold drop1
    rw [if_neg (fun e => by subst e; subst hp; exact hrp (by simp [bl]))]
    exact ho
  have hatb : RulesAt (drop1 H1 r) p n l := hat.mono (le_drop1 hle1 hr)
  have yes : ∀ {x y}, x ∈ ps → y ∈ ptsL l x → allowL x a y l = true → canGo l a = true := fun hx hy hal => (canGo_of (b := true) ⟨fun _ => (can_iff hl hps).2 ⟨_, hx, _, hy, hal⟩, fun _ => rfl⟩).symm
  refine ⟨Loop.of (I := fun s H m => ∃ k : Nat, s = (k : Int) ∧ k ≤ ps.length ∧ m = ps.length - k ∧ Heap.Le (drop1 H1 r) H ∧ (∃ ks, MapB H r ks) ∧ ∀ x ∈ ps.take k, ∀ y ∈ ptsL l x, allowL x a y l = false) ?_ ⟨0, rfl, Nat.zero_le _, rfl, drop1_le _ _, ⟨_, hm1⟩, by simp⟩⟩
  rintro m s H ⟨k, rfl, hk, rfl, hle, ⟨ks, hmap⟩, hno⟩ RR hRR
  unfold policy_reached.W1.vc
  by_cases hlt : k < ps.length
  · rw [if_pos (by simp; omega)]
    obtain ⟨x, hx⟩ : ∃ x, ps[k]? = some x := ⟨ps[k], List.getElem?_eq_getElem hlt⟩
    obtain ⟨ad, rfl, hc⟩ := int_get (hob.le hle) hx
    refine ⟨ad, rfl, by omega, by omega, x, hc, ?_⟩
    refine policy_ports.run hatb hn hl (drop1_self _ _) hle hmap fun H2 hle2 hm2 => ?_
    have hm2' := hm2
    obtain ⟨es, clk, q1, q2, q3, q4, q5⟩ := hm2
    refine ⟨es, clk, q1, fun it hit => ?_⟩
    have hitb : drop1 H1 r it = none := by
      cases hd : drop1 H1 r it with
      | none => rfl
      | some o => have := hle2 it o hd; rw [hit] at this; cases this
    have hrit : r ≠ it := by rintro rfl; rw [hit] at q1; cases q1
    refine policy_reached.each hatb hn hf ha hitb (Le_put hle2 hitb _) (by rw [set_ne _ _ hrit]; exact q1) (set_self _ _ _) q2 q3 q4 (fun H3 hle3 hm3 hall => ?_) (fun H3 hle3 y hy hal => ?_)
    · refine hRR _ _ (ps.length - (k + 1)) (by omega) ⟨k + 1, by rw [w_i64 (by omega) (by have := hps.len; omega)]; simp, by omega, rfl, hle3, ⟨_, es, clk, hm3, q2, q3, q4, q5⟩, fun z hz => ?_⟩
      rw [List.take_add_one, hx] at hz
      rcases List.mem_append.1 hz with hz | hz
      · exact hno z hz
      · simp at hz
        subst hz
        exact hall
    · refine ⟨H0, ?_, ?_⟩
      · exact (le_drop1 hle1 hr).trans hle3
      · rw [yes (List.mem_of_getElem? hx) hy hal] at h
        exact h
  · rw [if_neg (by simp; omega)]
    refine ⟨H0, (le_drop1 hle1 hr).trans hle, ?_⟩
    rw [List.take_of_length_le (by omega)] at hno
    have : false = canGo l a := canGo_of ⟨fun h => (by cases h), fun hc => by
      obtain ⟨x, hx, y, hy, hal⟩ := (can_iff hl hps).1 hc
      rw [hno x hx y hy] at hal; cases hal⟩
    rw [← this] at h
    exact h
/-! ### The reference's way -/
/-- The first protocol that no rule names, or 1. -/
structure Other (l : List Rul) (q : Int) : Prop where
  range : 1 ≤ q ∧ q ≤ 255
  free : (∃ p, 1 ≤ p ∧ p ≤ 255 ∧ ¬ named l p) → ¬ named l q
theorem vizardref18_other.run {H0 : Heap} {p : Option Addr} {n c : Nat} {l : List Rul} (hat : RulesAt H0 p n l) (hn : n ≤ 32) {K : Int → Heap → Prop} {E : Value → Heap → Prop}
    (h : ∀ q, Other l q → K q H0) : vizardref18_other.c p n c K E H0 := by
  have hlen := hat.len
  refine ⟨?_⟩
  unfold vizardref18_other.vc
  refine ⟨Loop.of (I := fun st H m => ∃ j : Nat, st = (j : Int) ∧ 1 ≤ j ∧ j ≤ 256 ∧ m = 256 - j ∧ H = H0 ∧ ∀ x : Int, 1 ≤ x → x < j → named l x) ?_ ⟨1, rfl, Nat.le_refl _, by omega, rfl, rfl, fun x h1 h2 => by omega⟩⟩
  rintro m st _ ⟨j, rfl, hj1, hj2, rfl, rfl, hnm⟩ RR hRR
  unfold vizardref18_other.W1.vc
  by_cases hjl : j ≤ 255
  · rw [if_pos (by simp; omega)]
    refine ⟨Loop.of (I := fun st H' m => ∃ k : Nat, st.2 = (k : Int) ∧ k ≤ n ∧ m = n - k ∧ H' = _ ∧ (st.1 = true ↔ ∃ r ∈ l.take k, r.proto = j)) ?_ ⟨0, rfl, Nat.zero_le _, rfl, rfl, by simp⟩⟩
    rintro m2 ⟨in0, i0⟩ H2 ⟨k, hk0, hk, rfl, rfl, hin⟩ RR2 hRR2
    dsimp only at hk0 hin
    subst hk0
    unfold vizardref18_other.W2.vc
    dsimp only
    by_cases hlt : k < n
    · rw [if_pos (by simp; omega)]
      obtain ⟨x, hget⟩ : ∃ x, l[k]? = some x := ⟨l[k]'(by omega), List.getElem?_eq_getElem (by omega)⟩
      have next : ∀ {b : Bool}, (b = true ↔ (∃ r ∈ l.take k, r.proto = j) ∨ x.proto = j) → RR2 (b, IntKind.i64.wrap ((k : Int) + 1)) H2 := fun hb =>
        hRR2 _ _ (n - (k + 1)) (by omega) ⟨k + 1, by show IntKind.i64.wrap ((k : Int) + 1) = _; rw [w_i64 (by omega) (by omega)]; simp, by omega, rfl, rfl, by
          show _ ↔ _
          rw [hb, List.take_add_one, hget]
          simp only [Option.toList_some, List.mem_append, List.mem_singleton]
          constructor
          · rintro (⟨r, hr, e⟩ | e)
            · exact ⟨r, .inl hr, e⟩
            · exact ⟨x, .inr rfl, e⟩
          · rintro ⟨r, hr | rfl, e⟩
            · exact .inl ⟨r, hr, e⟩
            · exact .inr e⟩
      cases hin0 : in0 with
      | true =>
        rw [if_pos rfl]
        refine ⟨?_⟩
        unfold vizardref18_other.J3.vc
        exact next ⟨fun _ => .inl (hin.1 hin0), fun _ => rfl⟩
      | false =>
        rw [if_neg (by simp)]
        obtain ⟨a, rfl, f0, f1, _⟩ := hat.get hget
        refine ⟨a, rfl, by omega, by omega, x.proto, f1, ?_⟩
        refine ⟨?_⟩
        unfold vizardref18_other.J3.vc
        refine next ⟨fun e => .inr (by simpa using e), fun e => ?_⟩
        rcases e with e | e
        · have := hin.2 e; rw [hin0] at this; cases this
        · simpa using e
    · rw [if_neg (by simp; omega)]
      rw [List.take_of_length_le (by omega)] at hin
      cases hin0 : in0 with
      | true =>
        rw [if_neg (by simp)]
        refine hRR _ _ (256 - (j + 1)) (by omega) ⟨j + 1, by rw [w_i64 (by omega) (by omega)]; rfl, by omega, by omega, rfl, rfl, fun x x1 x2 => ?_⟩
        by_cases hxj : x = j
        · subst hxj; exact hin.1 hin0
        · exact hnm x x1 (by omega)
      | false =>
        rw [if_pos (by simp)]
        refine ⟨_, Heap.Le.refl _, h j ⟨by omega, fun _ hn => ?_⟩⟩
        have := hin.2 hn
        rw [hin0] at this; cases this
  · rw [if_neg (by simp; omega)]
    refine ⟨_, Heap.Le.refl _, h 1 ⟨by omega, fun hex => ?_⟩⟩
    obtain ⟨x, x1, x2, x3⟩ := hex
    exact absurd (hnm x x1 (by omega)) x3
end Go.Sh
