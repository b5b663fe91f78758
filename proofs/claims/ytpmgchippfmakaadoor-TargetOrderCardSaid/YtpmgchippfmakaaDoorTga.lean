/- The document's own answer for paths and requests: what its functions do. -/
import Derived.Test.YtpmgchippfmakaaDoorTgz
namespace Go.Sh
open Go.Proofs Num
set_option maxRecDepth 8000
section
variable {H : Heap} {E : Value → Heap → Prop}
theorem dig_at {D : List UInt8} {j : Nat} {r : List UInt8} (hr : r = D ++ [47]) (hd : ∀ c ∈ D, 48 ≤ c.toNat ∧ c.toNat ≤ 57) (hall : ∀ c ∈ r.take j, 48 ≤ c.toNat ∧ c.toNat ≤ 57) : j ≤ D.length := by
  rcases Nat.lt_or_ge D.length j with h | h
  · exfalso
    have hm : (47 : UInt8) ∈ r.take j := by
      apply List.mem_of_getElem? (i := D.length)
      rw [List.getElem?_take_of_lt h, hr, List.getElem?_append_right (Nat.le_refl _)]
      simp
    have := hall 47 hm
    revert this
    decide
  · exact h
/-- The digits behind a slash. -/
theorem vizardref17_udp.W2.run {h : ByteArray} (hs : h.size ≤ 1000) {x0 : Addr} {i : Nat} (hi : i < h.size) {a0 : Int} {ok0 : Bool} {Kx2 : Int → Heap → Prop}
    (hk : ∀ N : Nat, N < 100000 → (∀ D : List UInt8, h.data.toList.drop (i + 1) = D ++ [47] → (∀ c ∈ D, 48 ≤ c.toNat ∧ c.toNat ≤ 57) → D.length ≤ 5 → N = foldD D) → Kx2 (N : Int) H) : vizardref17_udp.W2 h x0 (i : Int) a0 ok0 0 (IntKind.i64.wrap ((i : Int) + 1)) Kx2 E H := by
  obtain ⟨r, hr⟩ : ∃ r : List UInt8, r = h.data.toList.drop (i + 1) := ⟨_, rfl⟩
  have hl := list_sizeB h
  have hrl : r.length = h.size - (i + 1) := by rw [hr, List.length_drop, hl]
  have e6 : IntKind.i64.wrap ((i : Int) + 6) = ((i + 6 : Nat) : Int) := by rw [w_i64 (by omega) (by omega)]; omega
  rw [w_i64 (n := (i : Int) + 1) (by omega) (by omega)]
  refine ⟨Loop.of (I := fun st H' m => ∃ j : Nat, st = ((foldD (r.take j) : Int), ((i + 1 + j : Nat) : Int)) ∧ j ≤ 5 ∧ i + 1 + j ≤ h.size ∧ m = 5 - j ∧ H' = H ∧ foldD (r.take j) < 10 ^ j ∧ ∀ c ∈ r.take j, 48 ≤ c.toNat ∧ c.toNat ≤ 57) ?_ ⟨0, by simp [foldD], by decide, by omega, rfl, rfl, by simp [foldD], by simp⟩⟩
  rintro m st H' ⟨j, rfl, hj, hjs, rfl, rfl, hb, hall⟩ RR hRR
  unfold vizardref17_udp.W2.vc
  dsimp only
  rw [e6]
  have hpow : 10 ^ j ≤ 10 ^ 5 := Nat.pow_le_pow_right (by decide) hj
  have e5 : (10 : Nat) ^ 5 = 100000 := by decide
  have stop : (∀ D : List UInt8, r = D ++ [47] → (∀ c ∈ D, 48 ≤ c.toNat ∧ c.toNat ≤ 57) → D.length ≤ 5 → j ≤ D.length → j = D.length) → Kx2 (foldD (r.take j) : Int) H' := fun hD => by
    refine hk _ (by omega) fun D h1 h2 h3 => ?_
    rw [← hr] at h1
    have := hD D h1 h2 h3 (dig_at h1 h2 hall)
    rw [h1, this]
    simp
  by_cases h1 : i + 1 + j < h.size
  · rw [if_pos (by rw [decide_eq_true_eq]; omega)]
    by_cases h2 : j < 5
    · rw [if_pos (by rw [decide_eq_true_eq]; omega)]
      obtain ⟨x, hx⟩ : ∃ x, r[j]? = some x := ⟨_, List.getElem?_eq_getElem (by omega)⟩
      have hx2 : h.data.toList[i + 1 + j]? = some x := by rw [hr, List.getElem?_drop] at hx; exact hx
      have stop2 : ¬ (48 ≤ x.toNat ∧ x.toNat ≤ 57) → Kx2 (foldD (r.take j) : Int) H' := fun hno => stop fun D d1 d2 d3 d4 => by
        rcases Nat.lt_or_ge j D.length with hlt | hge
        · exfalso
          rw [d1, List.getElem?_append_left hlt] at hx
          exact hno (d2 x (List.mem_of_getElem? hx))
        · omega
      rw [bt_at hx2]
      refine ⟨by omega, by omega, ?_⟩
      by_cases h48 : 48 ≤ x.toNat
      · rw [if_pos (by rw [decide_eq_true_eq]; omega)]
        refine ⟨by omega, by omega, ?_⟩
        by_cases h57 : x.toNat ≤ 57
        · rw [if_pos (by rw [decide_eq_true_eq]; omega)]
          refine ⟨⟨by omega, by omega, ?_⟩⟩
          rw [bt_at hx2]
          have hsn : foldD (r.take (j + 1)) = foldD (r.take j) * 10 + (x.toNat - 48) := by
            rw [List.take_add_one, hx]
            exact foldD_snoc _ _
          have w1 : IntKind.i64.wrap (IntKind.u8.wrap ((x.toNat : Int) - 48)) = ((x.toNat - 48 : Nat) : Int) := by
            rw [w_u8 (by omega) (by omega), w_i64 (by omega) (by omega)]; omega
          have w2 : IntKind.i64.wrap (10 * (foldD (r.take j) : Int)) = ((10 * foldD (r.take j) : Nat) : Int) := by
            rw [w_i64 (by omega) (by omega)]; omega
          rw [w1, w2, w_i64 (by omega) (by omega), w_i64 (by omega) (by omega)]
          refine hRR (_, _) _ (5 - (j + 1)) (by omega) ⟨j + 1, ?_, by omega, by omega, rfl, rfl, ?_, ?_⟩
          · rw [hsn]
            congr 1 <;> omega
          · rw [hsn, Nat.pow_succ]; omega
          · rw [List.take_add_one, hx]
            intro c hc
            rcases List.mem_append.1 hc with hc | hc
            · exact hall c hc
            · have : c = x := by simpa using hc
              rw [this]; exact ⟨h48, h57⟩
        · rw [if_neg (by rw [decide_eq_true_eq]; omega)]
          exact stop2 (by omega)
      · rw [if_neg (by rw [decide_eq_true_eq]; omega)]
        exact stop2 (by omega)
    · rw [if_neg (by rw [decide_eq_true_eq]; omega)]
      exact stop fun D d1 d2 d3 d4 => by omega
  · rw [if_neg (by rw [decide_eq_true_eq]; omega)]
    refine stop fun D d1 d2 d3 d4 => ?_
    have := congrArg List.length d1
    rw [List.length_append] at this
    simp at this
    omega
theorem slash_first {l : List UInt8} {i : Nat} {a : List UInt8} {b : List UInt8} (h : l = a ++ 47 :: b) (ha : (47 : UInt8) ∉ a) (hi : l[i]? = some 47) (hno : (47 : UInt8) ∉ l.take i) : i = a.length := by
  rcases Nat.lt_or_ge i a.length with hlt | hge
  · exfalso
    rw [h, List.getElem?_append_left hlt] at hi
    exact ha (List.mem_of_getElem? hi)
  · rcases Nat.lt_or_ge a.length i with hgt | hle
    · exfalso
      apply hno
      apply List.mem_of_getElem? (i := a.length)
      rw [List.getElem?_take_of_lt hgt, h, List.getElem?_append_right (Nat.le_refl _)]
      simp
    · omega
/-- What a path asks for, by the document. -/
theorem vizardref17_udp.run {h : ByteArray} (hs : h.size ≤ 1000) {K : Bool → Int → Int → Bool → Heap → Prop} (hK : ∀ x, udpV h = some x → ∀ H', Heap.Le H H' → K false x.1 x.2 true H') (hN : udpV h = none → ∀ ip a q H', Heap.Le H H' → K ip a q false H') : vizardref17_udp.c h K E H := by
  refine ⟨?_⟩
  unfold vizardref17_udp.vc
  refine newB_le fun b0 H1 hn0 hl0 hle0 => ?_
  have hl := list_sizeB h
  have hfr : frontB.data.toList.length = 24 := rfl
  -- what is laid, and handed back
  have fin : ∀ {Hc : Heap} {ip ok : Bool} {a q : Int}, Hc b0 = some (.cells #[.bool false, .int .u32 0, .int .i64 0] 24) → Heap.Le H Hc → (∀ H', Heap.Le H H' → K ip a q ok H') →
      stc Hc ((⟨b0, 0, none⟩ : Addr).add 0) (.bool ip) fun h2 => stc h2 ((⟨b0, 0, none⟩ : Addr).add 1) (.int .u32 a) fun h3 => stc h3 ((⟨b0, 0, none⟩ : Addr).add 2) (.int .i64 q) fun h4 =>
      ldB h4 ((⟨b0, 0, none⟩ : Addr).add 0) fun r0 => ldI h4 .u32 ((⟨b0, 0, none⟩ : Addr).add 1) fun r1 => ldI h4 .i64 ((⟨b0, 0, none⟩ : Addr).add 2) fun r2 => ∃ H', Heap.Le H' h4 ∧ K r0 r1 r2 ok H' := by
    intro Hc ip ok a q h0 hle hk
    refine st3_loc h0 ?_
    refine ⟨_, loc (o := 0) (set_self _ _ _) rfl, _, loc (o := 1) (set_self _ _ _) rfl, _, loc (o := 2) (set_self _ _ _) rfl, _, Heap.Le.refl _, hk _ fun c o hc => ?_⟩
    rw [set_ne _ _ (fun e => by rw [e, hn0] at hc; cases hc)]
    exact hle c o hc
  by_cases hx : ∃ x, IsUdp h x
  · -- a path
    obtain ⟨⟨A, p⟩, hu⟩ := hx
    have hv := udpV_of hu
    obtain ⟨hA, hp1, hp2, he⟩ := hu
    dsimp only at hA hp1 hp2 he
    have hpl := path_list hA (p := p)
    rw [← he] at hpl
    have hsz : h.size = 24 + ((dotL A).length + (1 + ((Lib.decDigits p).length + 1))) := by
      rw [← hl, hpl]
      simp only [List.length_append, List.length_cons, List.length_nil, hfr]
      omega
    rw [if_neg (by rw [decide_eq_true_eq]; omega)]
    have hrest : h.data.toList.drop 24 = dotL A ++ 47 :: (Lib.decDigits p ++ [47]) := by rw [hpl, ← hfr, List.drop_left]
    refine ⟨Loop.of (I := fun st H' m => ∃ i : Nat, st = ((24 + i : Nat) : Int) ∧ i ≤ (dotL A).length ∧ m = (dotL A).length - i ∧ H' = H1) ?_ ⟨0, rfl, Nat.zero_le _, rfl, rfl⟩⟩
    rintro m st H' ⟨i, rfl, hi, rfl, rfl⟩ RR hRR
    unfold vizardref17_udp.W1.vc
    rw [if_pos (by rw [decide_eq_true_eq]; omega)]
    refine ⟨by omega, by omega, ?_⟩
    have hat : h.data.toList[24 + i]? = (dotL A ++ 47 :: (Lib.decDigits p ++ [47]))[i]? := by rw [← hrest, List.getElem?_drop]
    by_cases hlt : i < (dotL A).length
    · obtain ⟨c, hc⟩ : ∃ c, (dotL A)[i]? = some c := ⟨_, List.getElem?_eq_getElem hlt⟩
      rw [List.getElem?_append_left hlt, hc] at hat
      rw [bt_at hat]
      have hne : c ≠ 47 := fun e => dot_noslash hA (by rw [← e]; exact List.mem_of_getElem? hc)
      rw [if_pos (by
        rw [bne_iff_ne]
        intro e
        exact hne (UInt8.toNat_inj.1 (by show c.toNat = 47; omega)))]
      rw [w_i64 (by omega) (by omega)]
      exact hRR _ _ ((dotL A).length - (i + 1)) (by omega) ⟨i + 1, by omega, by omega, rfl, rfl⟩
    · have hi2 : i = (dotL A).length := by omega
      subst hi2
      rw [List.getElem?_append_right (Nat.le_refl _)] at hat
      simp only [Nat.sub_self, List.getElem?_cons_zero] at hat
      rw [bt_at hat, if_neg (by decide)]
      refine ⟨by omega, by omega, by omega, ?_⟩
      have hex : h.extract 24 (((24 + (dotL A).length : Nat) : Int)).toNat = dotB A := by
        apply ba_ext
        rw [Int.toNat_natCast, ByteArray.data_extract, Array.toList_extract, List.extract_eq_take_drop, hrest, dotB_list hA]
        rw [show 24 + (dotL A).length - 24 = (dotL A).length by omega, List.take_left]
      rw [hex]
      refine vizardref04_Parse.run fun H2 hle2 => ?_
      rw [parse_dot hA]
      refine vizardref17_udp.W2.run hs (by omega) fun N hN1 hN2 => ?_
      have hNp : N = p := by
        have := hN2 (Lib.decDigits p) ?_ (dec_dig p) (dec_len5 hp2)
        · rw [this, foldD_dec]
        · have : h.data.toList.drop (24 + (dotL A).length + 1) = (h.data.toList.drop 24).drop ((dotL A).length + 1) := by rw [List.drop_drop]; congr 1
          rw [this, hrest, show dotL A ++ 47 :: (Lib.decDigits p ++ [47]) = (dotL A ++ [47]) ++ (Lib.decDigits p ++ [47]) by simp, show (dotL A).length + 1 = (dotL A ++ [47]).length by simp, List.drop_left]
      subst hNp
      refine new3_le fun b H3 hbn hb3 hle3 => ?_
      have g0 := loc (o := 0) hb3 rfl
      have g1 := loc (o := 1) hb3 rfl
      have g2 := loc (o := 2) hb3 rfl
      refine ⟨_, g0, _, g1, _, g2, ?_⟩
      dsimp only
      rw [if_pos rfl]
      refine ⟨_, g0, _, g1, _, g2, ?_⟩
      dsimp only
      refine vizardref17_Path.run hA fun H4 hle4 => ?_
      refine ⟨⟨_, Le_cell hle4 g0, _, Le_cell hle4 g1, _, Le_cell hle4 g2, rfl, rfl⟩, ?_⟩
      have hpath : pathB false A (N : Int) = h := by
        have hr : rightB false (A : Int) (N : Int) = true := by simp [rightB]; omega
        unfold pathB
        rw [hr, if_pos rfl, if_neg (by simp), Int.toNat_natCast, he]
      rw [hpath, ba_eq, decide_eq_true rfl]
      exact fin (hle4 _ _ (hle3 _ _ (hle2 _ _ hl0))) (((hle0.trans hle2).trans hle3).trans hle4) fun H' hl' => hK _ hv H' hl'
  · -- none
    have hv := udpV_none (h := h) fun x hu => hx ⟨x, hu⟩
    by_cases h24 : h.size < 24
    · rw [if_pos (by rw [decide_eq_true_eq]; omega)]
      exact fin hl0 hle0 fun H' hl' => hN hv _ _ _ H' hl'
    · rw [if_neg (by rw [decide_eq_true_eq]; omega)]
      refine ⟨Loop.of (I := fun st H' m => ∃ i : Nat, st = (i : Int) ∧ 24 ≤ i ∧ i ≤ h.size ∧ m = h.size - i ∧ H' = H1) ?_ ⟨24, rfl, Nat.le_refl _, by omega, rfl, rfl⟩⟩
      rintro m st H' ⟨i, rfl, hi24, hi, rfl, rfl⟩ RR hRR
      unfold vizardref17_udp.W1.vc
      by_cases hlt : i < h.size
      · rw [if_pos (by rw [decide_eq_true_eq]; omega)]
        refine ⟨by omega, by omega, ?_⟩
        split
        · rw [w_i64 (by omega) (by omega)]
          exact hRR _ _ (h.size - (i + 1)) (by omega) ⟨i + 1, by simp, by omega, by omega, rfl, rfl⟩
        · refine ⟨by omega, by omega, by omega, vizardref04_Parse.run fun H2 hle2 => ?_⟩
          refine vizardref17_udp.W2.run hs hlt fun N hN1 _ => ?_
          refine new3_le fun b H3 hbn hb3 hle3 => ?_
          have g0 := loc (o := 0) hb3 rfl
          have g1 := loc (o := 1) hb3 rfl
          have g2 := loc (o := 2) hb3 rfl
          refine ⟨_, g0, _, g1, _, g2, ?_⟩
          dsimp only
          split
          · rename_i hok
            obtain ⟨A, hA, hAe⟩ := parse_is hok
            have hp1 : (parseV (h.extract 24 ((i : Int)).toNat)).1 = (A : Int) := by rw [hAe, parse_dot hA]
            rw [hp1] at g1 ⊢
            refine ⟨_, g0, _, g1, _, g2, ?_⟩
            dsimp only
            refine vizardref17_Path.run hA fun H4 hle4 => ?_
            refine ⟨⟨_, Le_cell hle4 g0, _, Le_cell hle4 g1, _, Le_cell hle4 g2, rfl, rfl⟩, ?_⟩
            have hno : pathB false A (N : Int) ≠ h := fun e => hx ⟨_, path_isUdp hA e (by omega)⟩
            rw [ba_eq, decide_eq_false hno]
            exact fin (hle4 _ _ (hle3 _ _ (hle2 _ _ hl0))) (((hle0.trans hle2).trans hle3).trans hle4) fun H' hl' => hN hv _ _ _ H' hl'
          · refine ⟨⟨_, g0, _, g1, _, g2, rfl, rfl⟩, ?_⟩
            exact fin (hle3 _ _ (hle2 _ _ hl0)) ((hle0.trans hle2).trans hle3) fun H' hl' => hN hv _ _ _ H' hl'
      · rw [if_neg (by rw [decide_eq_true_eq]; omega)]
        exact fin hl0 hle0 fun H' hl' => hN hv _ _ _ H' hl'
end
section
variable {H : Heap} {p : Option Addr} {n c : Nat} {l : FL} {E : Value → Heap → Prop} {b0 : Nat} {Kr : Int → Heap → Prop}
/-- The answer is laid, by the document. -/
structure Rs (H : Heap) (p : Option Addr) (n : Nat) (l : FL) (b0 : Nat) (Kr : Int → Heap → Prop) : Prop where
  hr : RowsAt H p n 2 (rF l)
  hn : n ≤ 4611686018427387904
  n0 : H b0 = none
  good : ∀ ip a q x H', parseL l = (ip, a, q, x) → H' b0 = some (.cells #[.bool ip, .int .u32 (a : Int), .int .i64 (q : Int)] 24) → Heap.Le H H' → Kr (x : Int) H'
theorem Rs.lay (s : Rs H p n l b0 Kr) {Hc : Heap} (h0 : Hc b0 = some (.cells #[.bool false, .int .u32 0, .int .i64 0] 24)) (hle : Heap.Le H Hc) {ip : Bool} {a q x : Nat} (h : parseL l = (ip, a, q, x)) :
    stc Hc ((⟨b0, 0, none⟩ : Addr).add 0) (.bool ip) fun h1 => stc h1 ((⟨b0, 0, none⟩ : Addr).add 1) (.int .u32 (a : Int)) fun h2 => stc h2 ((⟨b0, 0, none⟩ : Addr).add 2) (.int .i64 (q : Int)) fun h3 => Kr (x : Int) h3 := by
  refine st3_loc h0 (s.good ip a q x _ h (set_self _ _ _) fun k o hk => ?_)
  rw [set_ne _ _ (fun e => by rw [e, s.n0] at hk; cases hk)]
  exact hle k o hk
theorem vizardref17_Parse.J5.run (s : Rs H p n l b0 Kr) {Hc : Heap} (h0 : Hc b0 = some (.cells #[.bool false, .int .u32 0, .int .i64 0] 24)) (hle : Heap.Le H Hc) {pa pr : ByteArray} {x : Bool} {Kn : Heap → Prop} (h1 : x = true → parseL l = badA 400) (hk : x = false → Kn Hc) : vizardref17_Parse.J5 ⟨b0, 0, none⟩ pa pr x Kn Kr E Hc := by
  refine ⟨?_⟩
  unfold vizardref17_Parse.J5.vc
  cases x with
  | true => rw [if_pos rfl]; exact s.lay h0 hle (h1 rfl)
  | false => rw [if_neg (by simp)]; exact hk rfl
theorem vizardref17_Parse.J6.run (s : Rs H p n l b0 Kr) {Hc : Heap} (h0 : Hc b0 = some (.cells #[.bool false, .int .u32 0, .int .i64 0] 24)) (hle : Heap.Le H Hc) {h pv : ByteArray} (hh : h.size ≤ 256)
    (hP : parseL l = if some pv = some ipB then (if h = packB then (true, 0, 0, 200) else badA 404) else match udpV h with | some x => (false, x.1, x.2, 200) | none => badA 404) : vizardref17_Parse.J6 ⟨b0, 0, none⟩ h pv Kr E Hc := by
  refine ⟨?_⟩
  unfold vizardref17_Parse.J6.vc
  rw [ba_eq]
  by_cases hi : pv = ipB
  · rw [if_pos (by rw [decide_eq_true_eq]; exact hi)]
    rw [if_pos (by rw [hi])] at hP
    refine vizardref17_Path.run (a := 0) (p := 0) (by decide) fun H1 hle1 => ?_
    have hpk : pathB true (0 : Nat) 0 = packB := rfl
    rw [hpk, ba_eq]
    by_cases hk : h = packB
    · rw [if_neg (by rw [decide_eq_true hk]; simp)]
      rw [if_pos hk] at hP
      exact s.lay (hle1 _ _ h0) (hle.trans hle1) hP
    · rw [if_pos (by rw [decide_eq_false hk]; rfl)]
      rw [if_neg hk] at hP
      exact s.lay (hle1 _ _ h0) (hle.trans hle1) hP
  · rw [if_neg (by rw [decide_eq_true_eq]; exact hi)]
    rw [if_neg (fun e => hi (Option.some.inj e))] at hP
    refine vizardref17_udp.run (by omega) (fun x hx H1 hle1 => ?_) (fun hx ip a q H1 hle1 => ?_)
    · refine new3_le fun b H2 hbn hb2 hle2 => ?_
      rw [if_neg (by simp)]
      rw [hx] at hP
      refine ⟨_, loc (o := 0) hb2 rfl, _, loc (o := 1) hb2 rfl, _, loc (o := 2) hb2 rfl, ?_⟩
      exact s.lay (hle2 _ _ (hle1 _ _ h0)) ((hle.trans hle1).trans hle2) hP
    · refine new3_le fun b H2 hbn hb2 hle2 => ?_
      rw [if_pos (by rfl)]
      rw [hx] at hP
      exact s.lay (hle2 _ _ (hle1 _ _ h0)) ((hle.trans hle1).trans hle2) hP
theorem vizardref17_Parse.J2.run (s : Rs H p n l b0 Kr) {Hc : Heap} (h0 : Hc b0 = some (.cells #[.bool false, .int .u32 0, .int .i64 0] 24)) (hle : Heap.Le H Hc) (hks : (chkL l && shapeGo l false l) = true) : vizardref17_Parse.J2 p n c ⟨b0, 0, none⟩ Kr E Hc := by
  have hr := s.hr.mono hle
  have hk : chkL l = true := by rw [Bool.and_eq_true] at hks; exact hks.1
  refine ⟨vizardref14_Get.run hr s.hn (vizardref14_Get.run hr s.hn (vizardref14_Get.run hr s.hn (vizardref14_Get.run hr s.hn (vizardref14_Get.run hr s.hn (vizardref14_Get.run hr s.hn ?_)))))⟩
  -- a name that is not there
  have lack : ∀ {nm : ByteArray} {a1 a2 a3 a4 a5 a6 : ByteArray} {f : Bool} {Kn : Heap → Prop}, nm ∈ namesL → (!(getF l nm).isSome) = true → vizardref17_Parse.J3 ⟨b0, 0, none⟩ a1 a2 a3 a4 a5 a6 f true Kn Kr E Hc := fun hm hn => ⟨by
    unfold vizardref17_Parse.J3.vc
    rw [if_pos rfl]
    refine s.lay h0 hle (parse_lack hm ?_)
    rename_i nm _ _ _ _ _ _ _ _
    cases hv : getF l nm with
    | none => rfl
    | some v => rw [hv] at hn; cases hn⟩
  by_cases k1 : (!(getF l mNm).isSome) = true
  · rw [if_pos k1]; exact lack (by simp [namesL]) k1
  rw [if_neg k1]
  by_cases k2 : (!(getF l sNm).isSome) = true
  · rw [if_pos k2]; exact lack (by simp [namesL]) k2
  rw [if_neg k2]
  by_cases k3 : (!(getF l aNm).isSome) = true
  · rw [if_pos k3]; exact lack (by simp [namesL]) k3
  rw [if_neg k3]
  by_cases k4 : (!(getF l hNm).isSome) = true
  · rw [if_pos k4]; exact lack (by simp [namesL]) k4
  rw [if_neg k4]
  have some4 : ∀ {nm : ByteArray}, ¬ (!(getF l nm).isSome) = true → ∃ v, getF l nm = some v := fun {nm} hk => by
    cases hv : getF l nm with
    | none => rw [hv] at hk; exact absurd rfl hk
    | some v => exact ⟨v, rfl⟩
  obtain ⟨m, hm⟩ := some4 k1
  obtain ⟨sc, hsc⟩ := some4 k2
  obtain ⟨a, ha⟩ := some4 k3
  obtain ⟨h, hh⟩ := some4 k4
  have hP : parseL l = restA l m sc a h := by
    unfold parseL
    rw [if_pos hks, hm, hsc, ha, hh]
  have em : (getF l mNm).getD ⟨#[]⟩ = m := by rw [hm]; rfl
  have es : (getF l sNm).getD ⟨#[]⟩ = sc := by rw [hsc]; rfl
  have ea : (getF l aNm).getD ⟨#[]⟩ = a := by rw [ha]; rfl
  have eh : (getF l hNm).getD ⟨#[]⟩ = h := by rw [hh]; rfl
  have h256 := getF_ok hk hh
  rw [em, es, ea, eh, ba_eq]
  obtain ⟨pv, hpv⟩ : ∃ pv : ByteArray, (getF l pNm).getD ⟨#[]⟩ = pv := ⟨_, rfl⟩
  rw [hpv]
  by_cases hc : m = connB
  · rw [if_pos (by rw [decide_eq_true_eq]; exact hc)]
    refine ⟨?_⟩
    unfold vizardref17_Parse.J3.vc
    by_cases hp : (!(getF l pNm).isSome) = true
    · rw [if_pos hp]
      refine s.lay h0 hle ?_
      rw [hP]
      unfold restA
      rw [if_pos (by
        cases hv : getF l pNm with
        | none => simp [hc]
        | some v => rw [hv] at hp; cases hp)]
      rfl
    · rw [if_neg hp]
      obtain ⟨pw, hpw⟩ := some4 hp
      have : pv = pw := by rw [← hpv, hpw]; rfl
      subst this
      rw [ba_eq, if_neg (by rw [decide_eq_true hc]; simp), ba_eq]
      have hR : restA l m sc a h = if ¬ (pv = udpB ∨ pv = ipB) then badA 501 else if ¬ (sc = httpsB ∧ a.size ≠ 0 ∧ getF l cNm = some oneB) then badA 400 else if some pv = some ipB then (if h = packB then (true, 0, 0, 200) else badA 404) else match udpV h with | some x => (false, x.1, x.2, 200) | none => badA 404 := by
        unfold restA
        rw [if_neg (by rw [hpw]; simp), if_neg (by simp [hc]), hpw]
        simp only [Option.some.injEq]
        rfl
      -- behind the protocol
      have behind : ∀ {x : Bool}, x = decide (¬ (pv = udpB ∨ pv = ipB)) → vizardref17_Parse.J4 ⟨b0, 0, none⟩ sc a h pv ((getF l cNm).getD ⟨#[]⟩) (getF l cNm).isSome x (fun h19 => vizardref17_Parse.J6 ⟨b0, 0, none⟩ h pv Kr E h19) Kr E Hc := fun {x} hx => ⟨by
        unfold vizardref17_Parse.J4.vc
        by_cases hp2 : pv = udpB ∨ pv = ipB
        · rw [decide_eq_false (fun hno => hno hp2)] at hx
          subst hx
          rw [if_neg (by simp)]
          rw [if_neg (fun hno => hno hp2)] at hR
          have bad : ¬ (sc = httpsB ∧ a.size ≠ 0 ∧ getF l cNm = some oneB) → vizardref17_Parse.J5 ⟨b0, 0, none⟩ h pv true (fun h19 => vizardref17_Parse.J6 ⟨b0, 0, none⟩ h pv Kr E h19) Kr E Hc := fun hno => vizardref17_Parse.J5.run s h0 hle (fun _ => by rw [hP, hR, if_pos hno]) (fun e => by cases e)
          rw [ba_eq]
          by_cases q1 : sc = httpsB
          · rw [if_neg (by rw [decide_eq_true q1]; simp), ba_eq]
            by_cases q2 : a.size = 0
            · rw [if_pos (by rw [decide_eq_true_eq]; exact size0.2 q2)]
              exact bad fun hno => hno.2.1 q2
            · rw [if_neg (by rw [decide_eq_true_eq]; exact fun e => q2 (size0.1 e))]
              by_cases q3 : (!(getF l cNm).isSome) = true
              · rw [if_pos q3]
                exact bad fun hno => by rw [hno.2.2] at q3; cases q3
              · rw [if_neg q3]
                obtain ⟨cv, hcv⟩ := some4 q3
                have ec : (getF l cNm).getD ⟨#[]⟩ = cv := by rw [hcv]; rfl
                rw [ec, ba_eq]
                refine vizardref17_Parse.J5.run s h0 hle (fun hx => ?_) (fun hx => ?_)
                · rw [Bool.not_eq_true', decide_eq_false_iff_not] at hx
                  rw [hP, hR, if_pos (fun hno => hx (by rw [hcv] at hno; exact Option.some.inj hno.2.2))]
                · rw [Bool.not_eq_false', decide_eq_true_eq] at hx
                  refine vizardref17_Parse.J6.run s h0 hle h256 ?_
                  rw [hP, hR, if_neg (fun hno => hno ⟨q1, q2, by rw [hcv, hx]⟩)]
          · rw [if_pos (by rw [decide_eq_false q1]; rfl)]
            exact bad fun hno => q1 hno.1
        · rw [decide_eq_true hp2] at hx
          subst hx
          rw [if_pos rfl]
          refine s.lay h0 hle ?_
          rw [hP, hR, if_pos hp2]
          rfl⟩
      by_cases hu : pv = udpB
      · rw [if_neg (by rw [decide_eq_true hu]; simp)]
        exact behind (by rw [decide_eq_false (fun hno => hno (.inl hu))])
      · rw [if_pos (by rw [decide_eq_false hu]; rfl), ba_eq]
        refine behind ?_
        rw [Bool.eq_iff_iff, Bool.not_eq_true', decide_eq_false_iff_not, decide_eq_true_eq]
        exact ⟨fun hi hno => hno.elim hu hi, fun hno hi => hno (.inr hi)⟩
  · rw [if_neg (by rw [decide_eq_true_eq]; exact hc)]
    refine ⟨?_⟩
    unfold vizardref17_Parse.J3.vc
    rw [if_neg (by simp), ba_eq, if_pos (by rw [decide_eq_false hc]; rfl)]
    refine s.lay h0 hle ?_
    rw [hP]
    unfold restA
    rw [if_neg (by rw [decide_eq_false hc]; simp), if_pos hc]
    rfl
/-- What a request asks for, by the document. -/
theorem vizardref17_Parse.run {K : Bool → Int → Int → Int → Heap → Prop} (hr : RowsAt H p n 2 (rF l)) (hn : n ≤ 4611686018427387904) (h : K (parseL l).1 ((parseL l).2.1 : Int) ((parseL l).2.2.1 : Int) ((parseL l).2.2.2 : Int) H) : vizardref17_Parse.c p n c K E H := by
  refine ⟨?_⟩
  unfold vizardref17_Parse.vc
  refine newB_le fun b0 H1 hn0 hl0 hle0 => ?_
  have s : Rs H p n l b0 (fun x h5 => ldB h5 ((⟨b0, 0, none⟩ : Addr).add 0) fun r3 => ldI h5 .u32 ((⟨b0, 0, none⟩ : Addr).add 1) fun r4 => ldI h5 .i64 ((⟨b0, 0, none⟩ : Addr).add 2) fun r5 => ∃ H', Heap.Le H' h5 ∧ K r3 r4 r5 x H') := ⟨hr, hn, hn0, fun ip a q x H' hp hb hle => by
    rw [hp] at h
    exact ⟨_, loc (o := 0) hb rfl, _, loc (o := 1) hb rfl, _, loc (o := 2) hb rfl, H, hle, h⟩⟩
  refine vizardref14_Check.run (hr.mono hle0) (fun hk => ?_) (fun hk e he => ?_)
  · rw [if_neg (by simp)]
    refine vizardref17_shaped.run (hr.mono hle0) hn hk ⟨?_⟩
    unfold vizardref17_Parse.J1.vc
    cases hs : shapeGo l false l with
    | false =>
      rw [if_pos (by rfl)]
      exact s.lay hl0 hle0 (parse_bad (by rw [hs, Bool.and_false]))
    | true =>
      rw [if_neg (by simp)]
      exact vizardref17_Parse.J2.run s hl0 hle0 (by rw [hk, hs]; rfl)
  · rw [if_pos (by simpa using he)]
    refine ⟨?_⟩
    unfold vizardref17_Parse.J1.vc
    rw [if_pos rfl]
    exact s.lay hl0 hle0 (parse_bad (by rw [hk]; rfl))
end
end Go.Sh
