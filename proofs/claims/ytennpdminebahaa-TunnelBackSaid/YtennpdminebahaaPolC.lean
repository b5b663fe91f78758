/- What the functions that ask whether some packet may go compute. -/
import Derived.Test.YtennpdminebahaaPolB
import Derived.Test.YtennpdminebahaaSrt
namespace Go.Sh
theorem Le_put {H0 H : Heap} (h : Heap.Le H0 H) {r : Nat} (hr : H0 r = none) (o : Obj) : Heap.Le H0 (H.set r o) := fun k x hk => by
  rw [set_ne _ _ (fun e => by subst e; rw [hr] at hk; cases hk)]; exact h k x hk
theorem push_ints {H : Heap} {e e1 : TypeId} {p : Option Addr} {n m c : Nat} {l xs : List Int} {arr : Array Value} {K : Option Addr → Nat → Nat → Heap → Prop} (h : OwnRows H e 1 p n c (irow l)) (hn : n ≤ 4294967296) (hm : xs.length = m) (hm2 : m ≤ 16) (harr : arr.toList = xs.map (Value.int .i64))
    (hk : ∀ p' c' H', OwnRows H' e 1 p' (n + m) c' (irow (l ++ xs)) → Step (bl p) H (bl p') H' → K p' (n + m) c' H') :
    newB (.cells arr e1) (fun b1 h5 => rdRow h5 (some (⟨b1, 0, none⟩ : Addr)) (m * 1) fun cs0 => appT e (.int .i64 0) p n m c 1 8 cs0 K h5) H := by
  refine newB_le fun b1 H1 hb1 hl1 hle1 => ?_
  refine rdRow_of (n := m) (sz := 1) (rows := irow xs) ⟨by simpa [irow] using hm, (fun h => by cases h), fun ad ha i es hi => ?_⟩ (by decide) rfl ?_
  · cases ha
    have hes := irow_len xs es (List.mem_of_getElem? hi)
    refine ⟨hes, fun j v hj => ?_⟩
    have hj0 : j = 0 := by have := (List.getElem?_eq_some_iff.1 hj).1; omega
    subst hj0
    rw [add_add]
    refine loc hl1 ?_
    simp only [irow, List.getElem?_map, Option.map_eq_some_iff] at hi
    obtain ⟨x, hx, rfl⟩ := hi
    rw [← Array.getElem?_toList, harr, Nat.mul_one, Nat.add_zero, List.getElem?_map, hx]
    simpa using hj
  · refine appT_step (xs := irow xs) (h.le hle1) (by decide) rfl rfl (by simpa [irow] using hm) (irow_len xs) (fun v hv => ?_) (by omega) (by omega) fun p' c' H2 h1 h2 => hk p' c' H2 ?_ ?_
    · rw [irow_flat] at hv
      obtain ⟨x, _, rfl⟩ := List.mem_map.1 hv
      rfl
    · simpa [irow] using h1
    · exact (Step.of_le hle1).trans h2
theorem MapB.ne {H : Heap} {r b : Nat} {ks : List Int} (h : MapB H r ks) (hb : H b = none) : r ≠ b := by
  rintro rfl
  obtain ⟨es, clk, h1, _⟩ := h
  rw [hb] at h1; cases h1
theorem MapB.step {L L' : List Nat} {H H' : Heap} {r : Nat} {ks : List Int} (h : MapB H r ks) (hs : Step L H L' H') (hn : r ∉ L) : MapB H' r ks ∧ r ∉ L' := by
  obtain ⟨es, clk, h1, h2⟩ := h
  exact ⟨⟨es, clk, (hs r _ h1 hn).1, h2⟩, (hs r _ h1 hn).2⟩
/-! ### Protocols -/
theorem policy_protos.names {Hb H0 : Heap} {r : Nat} {p : Option Addr} {n c : Nat} {l : List Rul} (hat : RulesAt Hb p n l) (hn : n ≤ 32) (hr : Hb r = none) (hm : MapB H0 r []) (hle : Heap.Le Hb H0) {Kx : Heap → Prop} {E : Value → Heap → Prop}
    (h : ∀ H, Heap.Le Hb H → MapB H r (l.map (·.proto)) → Kx H) : policy_protos.W1 (some r) p n c (n : Int) 0 Kx E H0 := by
  refine ⟨Loop.of (I := fun s H m => ∃ k : Nat, s = (k : Int) ∧ k ≤ n ∧ m = n - k ∧ Heap.Le Hb H ∧ MapB H r ((l.take k).map (·.proto))) ?_ ⟨0, rfl, Nat.zero_le _, rfl, hle, by simpa using hm⟩⟩
  rintro m s H ⟨k, rfl, hk, rfl, hle, hmap⟩ RR hRR
  have hlen := hat.len
  unfold policy_protos.W1.vc
  by_cases hlt : k < n
  · rw [if_pos (by simp; omega)]
    obtain ⟨x, hget⟩ : ∃ x, l[k]? = some x := ⟨l[k]'(by omega), List.getElem?_eq_getElem (by omega)⟩
    obtain ⟨a, rfl, f0, f1, f2, f3, f4, f5⟩ := (hat.mono hle).get hget
    refine ⟨a, rfl, by omega, by omega, ?_⟩
    simp only [Int.toNat_natCast]
    refine ⟨_, f0, _, f1, _, f2, _, f3, _, f4, _, f5, ?_⟩
    intro b hb
    have hbr := hmap.ne hb
    simp [-Bool.exists_bool]
    refine MapB.put (hmap.eq (set_ne _ _ hbr)) fun o ho => ?_
    refine hRR _ _ (n - (k + 1)) (by omega) ⟨k + 1, by rw [w_i64 (by omega) (by omega)]; simp, by omega, rfl, Le_put (hle.trans (Le_set hb _)) hr o, ho.congr fun y => ?_⟩
    rw [List.take_add_one, hget]
    simp [or_comm]
  · rw [if_neg (by simp; omega)]
    refine h H hle ?_
    rw [List.take_of_length_le (by omega)] at hmap
    exact hmap
theorem named_iff {l : List Rul} {x : Int} : x ∈ l.map (·.proto) ↔ named l x := by
  simp [named]
theorem policy_protos.run {H0 : Heap} {p : Option Addr} {n c : Nat} {l : List Rul} (hat : RulesAt H0 p n l) (hn : n ≤ 32) {K : Option Addr → Nat → Nat → Heap → Prop} {E : Value → Heap → Prop}
    (h : ∀ ps p' c' H, Protos l ps → OwnRows H 3 1 p' ps.length c' (irow ps) → Step [] H0 (bl p') H → K p' ps.length c' H) : policy_protos.c p n c K E H0 := by
  refine ⟨?_⟩
  unfold policy_protos.vc
  intro r hr
  refine policy_protos.names hat hn hr MapB.new (Le_set hr _) fun H1 hle1 hm1 => ?_
  refine ⟨Loop.of (I := fun st H m => ∃ (k : Nat) (ps : List Int) (p' : Option Addr) (c' : Nat), st = (p', ps.length, c', (k : Int)) ∧ 1 ≤ k ∧ k ≤ 256 ∧ m = 256 - k ∧ OwnRows H 3 1 p' ps.length c' (irow ps) ∧ Step [] H0 (bl p') H ∧ MapB H r (l.map (·.proto)) ∧ r ∉ bl p' ∧
    (∀ x ∈ ps, 1 ≤ x ∧ x ≤ 255 ∧ named l x) ∧ (∀ x : Int, 1 ≤ x → x < k → named l x → x ∈ ps) ∧ ps.length ≤ k) ?_ ⟨1, [], none, 0, rfl, Nat.le_refl _, by omega, rfl, ⟨rfl, (fun es he => by cases he), Nat.le_refl _, .inl ⟨rfl, rfl⟩⟩, Step.of_le hle1, hm1, by simp [bl], (fun x hx => by cases hx), (fun x h1 h2 => by omega), by simp⟩⟩
  rintro m st H ⟨k, ps, p', c', rfl, hk1, hk2, rfl, hown, hst, hmap, hrn, hps, hall, hpl⟩ RR hRR
  unfold policy_protos.W2.vc
  dsimp only
  by_cases hlt : k ≤ 255
  · rw [if_pos (by simp; omega)]
    have next : ∀ {p2 : Option Addr} {c2 : Nat} {ps2 : List Int} {H2 : Heap}, OwnRows H2 3 1 p2 ps2.length c2 (irow ps2) → Step [] H0 (bl p2) H2 → MapB H2 r (l.map (·.proto)) → r ∉ bl p2 → (∀ x ∈ ps2, 1 ≤ x ∧ x ≤ 255 ∧ named l x) → (∀ x : Int, 1 ≤ x → x < (k + 1 : Nat) → named l x → x ∈ ps2) → ps2.length ≤ k + 1 → RR (p2, ps2.length, c2, IntKind.i64.wrap ((k : Int) + 1)) H2 :=
      fun q1 q2 q3 q4 q5 q6 q7 => hRR _ _ (256 - (k + 1)) (by omega) ⟨k + 1, _, _, _, by rw [w_i64 (by omega) (by omega)]; rfl, by omega, by omega, rfl, q1, q2, q3, q4, q5, q6, q7⟩
    refine hmap.look (fun hin => ?_) (fun hnin => ?_)
    · refine ⟨?_⟩
      unfold policy_protos.J3.vc
      rw [if_pos rfl]
      refine push_ints (xs := [(k : Int)]) hown (by omega) rfl (by decide) rfl fun p2 c2 H2 h1 h2 => ?_
      obtain ⟨q1, q2⟩ := hmap.step h2 hrn
      refine ⟨?_⟩
      unfold policy_protos.J4.vc
      have e : (ps ++ [(k : Int)]).length = ps.length + 1 := by simp
      have := next (ps2 := ps ++ [(k : Int)]) (p2 := p2) (c2 := c2) (H2 := H2) (by rw [e]; exact h1) (hst.trans h2) q1 q2 (fun x hx => ?_) (fun x x1 x2 x3 => ?_) (by rw [e]; omega)
      · rw [e] at this; exact this
      · rcases List.mem_append.1 hx with hx | hx
        · exact hps x hx
        · rw [List.mem_singleton] at hx
          subst hx
          exact ⟨by omega, by omega, named_iff.1 hin⟩
      · by_cases hxk : x = k
        · subst hxk; simp
        · exact List.mem_append.2 (.inl (hall x x1 (by omega) x3))
    · refine ⟨?_⟩
      unfold policy_protos.J3.vc
      rw [if_neg (by simp)]
      refine ⟨?_⟩
      unfold policy_protos.J4.vc
      refine next hown hst hmap hrn hps (fun x x1 x2 x3 => ?_) (by omega)
      by_cases hxk : x = k
      · subst hxk; exact absurd (named_iff.2 x3) hnin
      · exact hall x x1 (by omega) x3
  · rw [if_neg (by simp; omega)]
    have hk : k = 256 := by omega
    subst hk
    clear hRR
    -- the first protocol that no rule names
    refine ⟨Loop.of (I := fun (st : Int) H' m => ∃ j : Nat, st = (j : Int) ∧ 1 ≤ j ∧ j ≤ 256 ∧ m = 256 - j ∧ H' = H ∧ ∀ x : Int, 1 ≤ x → x < j → named l x) ?_ ⟨1, rfl, Nat.le_refl _, by omega, rfl, rfl, fun x h1 h2 => by omega⟩⟩
    rintro m st _ ⟨j, rfl, hj1, hj2, rfl, rfl, hnm⟩ RR hRR
    unfold policy_protos.W5.vc
    dsimp only
    by_cases hjl : j ≤ 255
    · rw [if_pos (by simp; omega)]
      refine hmap.look (fun hin => ?_) (fun hnin => ?_)
      · refine ⟨?_⟩
        unfold policy_protos.J6.vc
        rw [if_neg (by simp)]
        refine ⟨?_⟩
        unfold policy_protos.J7.vc
        refine hRR _ _ (256 - (j + 1)) (by omega) ⟨j + 1, by rw [w_i64 (by omega) (by omega)]; rfl, by omega, by omega, rfl, rfl, fun x x1 x2 => ?_⟩
        by_cases hxj : x = j
        · subst hxj; exact named_iff.1 hin
        · exact hnm x x1 (by omega)
      · refine ⟨?_⟩
        unfold policy_protos.J6.vc
        rw [if_pos (by simp)]
        refine push_ints (xs := [(j : Int)]) hown (by omega) rfl (by decide) rfl fun p2 c2 H2 h1 h2 => ⟨H2, Heap.Le.refl _, ?_⟩
        have e : (ps ++ [(j : Int)]).length = ps.length + 1 := by simp
        have := h (ps ++ [(j : Int)]) p2 c2 H2 ⟨fun x hx => ?_, fun x x1 x2 x3 => ?_, fun _ => ⟨j, by simp, fun hn => hnin (named_iff.2 hn)⟩, by rw [e]; omega⟩ (by rw [e]; exact h1) (hst.trans h2)
        · rw [e] at this; exact this
        · rcases List.mem_append.1 hx with hx | hx
          · exact ⟨(hps x hx).1, (hps x hx).2.1⟩
          · rw [List.mem_singleton] at hx
            subst hx
            omega
        · exact List.mem_append.2 (.inl (hall x x1 (by omega) x3))
    · rw [if_neg (by simp; omega)]
      refine ⟨_, Heap.Le.refl _, h ps p' c' _ ⟨fun x hx => ⟨(hps x hx).1, (hps x hx).2.1⟩, fun x x1 x2 x3 => hall x x1 (by omega) x3, fun hex => ?_, by omega⟩ hown hst⟩
      obtain ⟨x, x1, x2, x3⟩ := hex
      exact absurd (hnm x x1 (by omega)) x3
/-! ### Ports -/
theorem policy_ports.J2.run {Hb H : Heap} {r b : Nat} {x : Rul} {ks : List Int} {proto : Int} {x1 : Option Addr} {x2 x3 : Nat} {x4 x5 : Int} {x6 : Bool} {Kn : Heap → Prop} {E : Value → Heap → Prop} {e : TypeId} (hr : Hb r = none) (hle : Heap.Le Hb H) (hm : MapB H r ks)
    (hb : H b = some (.cells #[.bool x.allow, .int .i64 x.proto, .int .u32 x.addr, .int .i64 x.bits, .int .i64 x.lo, .int .i64 x.hi] e)) (hhi : 0 ≤ x.hi ∧ x.hi ≤ 65535)
    (h : ∀ H', Heap.Le Hb H' → MapB H' r ((if x6 = true then ptsR x else []) ++ ks) → Kn H') : policy_ports.J2 (some r) proto (⟨b, 0, none⟩ : Addr) x1 x2 x3 x4 x5 x6 Kn E H := by
  refine ⟨?_⟩
  unfold policy_ports.J2.vc
  cases x6 with
  | false =>
    rw [if_neg (by simp)]
    exact h H hle hm
  | true =>
    rw [if_pos rfl]
    refine ⟨x.lo, loc hb (by simp), ?_⟩
    have hrb : b ≠ r := by
      rintro rfl
      obtain ⟨es, clk, h1, _⟩ := hm
      rw [hb] at h1; cases h1
    refine hm.put fun o ho => ?_
    have hb2 : (H.set r o) b = some (.cells #[.bool x.allow, .int .i64 x.proto, .int .u32 x.addr, .int .i64 x.bits, .int .i64 x.lo, .int .i64 x.hi] e) := by rw [set_ne _ _ hrb]; exact hb
    refine ⟨x.hi, loc hb2 (by simp), ?_⟩
    dsimp only
    by_cases hc : x.hi < 65535
    · rw [if_pos (by simpa using hc)]
      refine ⟨x.hi, loc hb2 (by simp), ?_⟩
      dsimp only
      rw [w_i64 (by omega) (by omega)]
      refine ho.put fun o2 ho2 => ?_
      refine h _ (Le_put (Le_put hle hr o) hr o2) (ho2.congr fun y => ?_)
      rw [if_pos rfl]
      unfold ptsR
      rw [if_pos hc]
      simp
    · rw [if_neg (by simpa using hc)]
      refine h _ (Le_put hle hr o) (ho.congr fun y => ?_)
      rw [if_pos rfl]
      unfold ptsR
      rw [if_neg hc]
      simp
theorem policy_ports.run {Hb H0 : Heap} {r : Nat} {ks : List Int} {p : Option Addr} {n c : Nat} {l : List Rul} {proto : Int} (hat : RulesAt Hb p n l) (hn : n ≤ 32) (hl : l.all Rul.right = true) (hr : Hb r = none) (hle : Heap.Le Hb H0) (hm : MapB H0 r ks) {K : Heap → Prop} {E : Value → Heap → Prop}
    (h : ∀ H, Heap.Le Hb H → MapB H r (ptsL l proto) → K H) : policy_ports.c (some r) p n c proto K E H0 := by
  refine ⟨?_⟩
  unfold policy_ports.vc
  refine hm.clear fun o ho => ho.put fun o2 ho2 => ?_
  refine ⟨Loop.of (I := fun s H m => ∃ k : Nat, s = (k : Int) ∧ k ≤ n ∧ m = n - k ∧ Heap.Le Hb H ∧ MapB H r (ptsL (l.take k) proto)) ?_ ⟨0, rfl, Nat.zero_le _, rfl, Le_put (Le_put hle hr o) hr o2, by simpa [ptsL] using ho2⟩⟩
  rintro m s H ⟨k, rfl, hk, rfl, hle, hmap⟩ RR hRR
  have hlen := hat.len
  unfold policy_ports.W1.vc
  by_cases hlt : k < n
  · rw [if_pos (by simp; omega)]
    obtain ⟨x, hget⟩ : ∃ x, l[k]? = some x := ⟨l[k]'(by omega), List.getElem?_eq_getElem (by omega)⟩
    obtain ⟨a, rfl, f0, f1, f2, f3, f4, f5⟩ := (hat.mono hle).get hget
    refine ⟨a, rfl, by omega, by omega, ?_⟩
    simp only [Int.toNat_natCast]
    refine ⟨_, f0, _, f1, _, f2, _, f3, _, f4, _, f5, ?_⟩
    intro b hb
    have hbr := hmap.ne hb
    have hx := rights hl (List.mem_of_getElem? hget)
    simp [-Bool.exists_bool]
    have hset := set_self H b (.cells #[.bool x.allow, .int .i64 x.proto, .int .u32 x.addr, .int .i64 x.bits, .int .i64 x.lo, .int .i64 x.hi] 40)
    have fin : ∀ {x6 : Bool}, rel proto x = x6 → policy_ports.J2 (some r) proto (⟨b, 0, none⟩ : Addr) (some a) n c (n : Int) (k : Int) x6 (fun h8 => policy_ports.J3 (some r) proto (some a) n c (n : Int) (k : Int) RR E h8) E (H.set b (.cells #[.bool x.allow, .int .i64 x.proto, .int .u32 x.addr, .int .i64 x.bits, .int .i64 x.lo, .int .i64 x.hi] 40)) := by
      intro x6 hrel
      refine policy_ports.J2.run hr (hle.trans (Le_set hb _)) (hmap.eq (set_ne _ _ hbr)) hset ⟨by omega, by omega⟩ fun H' hle' hm' => ⟨?_⟩
      unfold policy_ports.J3.vc
      refine hRR _ _ (n - (k + 1)) (by omega) ⟨k + 1, by rw [w_i64 (by omega) (by omega)]; simp, by omega, rfl, hle', hm'.congr fun y => ?_⟩
      unfold ptsL
      rw [List.take_add_one, hget, List.filter_append, List.flatMap_append]
      simp only [Option.toList_some, List.mem_append, List.filter_cons, List.filter_nil, hrel]
      cases x6 with
      | true => simp [or_comm, or_assoc, or_left_comm]
      | false => simp
    by_cases h0 : x.proto = 0
    · rw [if_pos h0]
      exact fin (by simp [rel, h0])
    · rw [if_neg h0]
      by_cases h1 : x.proto = proto
      · exact fin (by simp [rel, h1])
      · exact fin (by simp [rel, h0, h1])
  · rw [if_neg (by simp; omega)]
    rw [List.take_of_length_le (by omega)] at hmap
    exact ⟨H, Heap.Le.refl _, h H hle hmap⟩
end Go.Sh
