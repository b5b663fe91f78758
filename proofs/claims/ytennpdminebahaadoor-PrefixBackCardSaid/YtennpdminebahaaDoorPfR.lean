/- Addresses and prefixes in writing: what the functions do; PrefixWrites. -/
import Derived.Test.YtennpdminebahaaDoorPfP
import Derived.Test.YtennpdminebahaaDoorShV
namespace Go.Sh
open Go.Proofs Num
set_option maxRecDepth 8000
/-- The package variables that Atoi and Itoa read. -/
structure GH (H : Heap) : Prop where
  e1 : ErrIn H 1
  e2 : ErrIn H 2
  tab : TabIn H 6 .u64 powTab
theorem GH.le {H H' : Heap} (h : GH H) (hl : Heap.Le H H') : GH H' := ⟨h.e1.le hl, h.e2.le hl, h.tab.le hl⟩
theorem prefix_Parse.run {H : Heap} (g : GH H) {s : ByteArray} (hs : s.size ≤ 281474976710656) {K : Int → Bool → Heap → Prop} {E : Value → Heap → Prop} (h : K (parseV s).1 (parseV s).2 H) : prefix_Parse.c s K E H := ⟨⟨hs, g.e1, g.e2, g.tab, h⟩⟩
theorem bt_at {s : ByteArray} {i : Nat} {c : UInt8} (h : s.data.toList[i]? = some c) : bt s (i : Int) = (c.toNat : Int) := by
  unfold bt
  rw [Int.toNat_natCast, List.getD_eq_getElem?_getD, h]
  rfl
theorem list_size (s : ByteArray) : s.data.toList.length = s.size := by rw [Array.length_toList]; rfl
theorem vizardref04_Parse.run {H : Heap} {s : ByteArray} {K : Int → Bool → Heap → Prop} {E : Value → Heap → Prop} (h : ∀ H', Heap.Le H H' → K (parseV s).1 (parseV s).2 H') : vizardref04_Parse.c s K E H := by
  refine ⟨?_⟩
  unfold vizardref04_Parse.vc
  refine ⟨Loop.of (I := fun st H' m => ∃ i : Nat, st = ((((s.data.toList.take i).foldl stP (0, 0)).1 : Int), (((s.data.toList.take i).foldl stP (0, 0)).2 : Int), (i : Int)) ∧ i ≤ s.size ∧ i ≤ 16 ∧ m = 16 - i ∧ H' = H ∧ ((s.data.toList.take i).foldl stP (0, 0)).1 < 4294967296 ∧ ((s.data.toList.take i).foldl stP (0, 0)).2 < 256) ?_
    ⟨0, rfl, by omega, by omega, rfl, rfl, (show (0 : Nat) < 4294967296 by decide), (show (0 : Nat) < 256 by decide)⟩⟩
  rintro m st H' ⟨i, rfl, hi, hi16, rfl, rfl, hx, hy⟩ RR hRR
  unfold vizardref04_Parse.W1.vc
  dsimp only
  have fin : (s.data.toList.take i = s.data.toList.take 16) → vizardref04_Text.c (IntKind.u32.wrap ((IntKind.u32.wrap ((((s.data.toList.take i).foldl stP (0, 0)).1 : Int) * 256)) + (((s.data.toList.take i).foldl stP (0, 0)).2 : Int))) (fun x0 h2 => (if (!(x0.toList == s.toList)) = true then ∃ H3, Heap.Le H3 h2 ∧ K 0 false H3 else ∃ H3, Heap.Le H3 h2 ∧ K (IntKind.u32.wrap ((IntKind.u32.wrap ((((s.data.toList.take i).foldl stP (0, 0)).1 : Int) * 256)) + (((s.data.toList.take i).foldl stP (0, 0)).2 : Int))) true H3)) E H' := by
    intro ht
    have e : IntKind.u32.wrap ((IntKind.u32.wrap ((((s.data.toList.take i).foldl stP (0, 0)).1 : Int) * 256)) + (((s.data.toList.take i).foldl stP (0, 0)).2 : Int)) = (refA s.data.toList : Int) := by
      unfold refA
      rw [← ht]
      simp only [IntKind.wrap, IntKind.bits, IntKind.signed, Bool.false_and, Bool.false_eq_true, if_false]
      omega
    rw [e]
    refine vizardref04_Text.run (refA_lt _) fun H2 hle => ?_
    have hp := parse_ref s
    have hk := h H2 hle
    by_cases hd : dotB (refA s.data.toList) = s
    · rw [if_pos hd] at hp
      rw [hp] at hk
      rw [if_neg (by simp [hd])]
      exact ⟨H2, Heap.Le.refl _, hk⟩
    · rw [if_neg hd] at hp
      rw [hp] at hk
      rw [if_pos (by
        cases hb : ((dotB (refA s.data.toList)).toList == s.toList) with
        | false => rfl
        | true => exact absurd ((str_eq _ _).1 hb) hd)]
      exact ⟨H2, Heap.Le.refl _, hk⟩
  by_cases hc : (i : Int) < (s.size : Int)
  · rw [if_pos (by simpa using hc)]
    by_cases hc2 : (i : Int) < 16
    · rw [if_pos (by simpa using hc2)]
      refine ⟨?_⟩
      unfold vizardref04_Parse.J2.vc
      refine ⟨by omega, hc, ?_⟩
      have hl : i < s.data.toList.length := by rw [list_size]; omega
      obtain ⟨c, hcc⟩ : ∃ c, s.data.toList[i]? = some c := ⟨_, List.getElem?_eq_getElem hl⟩
      have hts : (s.data.toList.take (i + 1)).foldl stP (0, 0) = stP ((s.data.toList.take i).foldl stP (0, 0)) c := by
        rw [List.take_add_one, List.foldl_append, hcc]
        rfl
      rw [bt_at hcc]
      by_cases hd : c = 46
      · have e0 : stP ((s.data.toList.take i).foldl stP (0, 0)) c = ((((s.data.toList.take i).foldl stP (0, 0)).1 * 256 + ((s.data.toList.take i).foldl stP (0, 0)).2) % 4294967296, 0) := by unfold stP; rw [if_pos hd]
        rw [if_pos (by subst hd; rfl)]
        refine ⟨?_⟩
        unfold vizardref04_Parse.J3.vc
        rw [w_i64 (by omega) (by omega)]
        refine hRR _ H' (16 - (i + 1)) (by omega) ⟨i + 1, ?_, by omega, by omega, rfl, rfl, ?_, ?_⟩
        · rw [hts, e0]
          refine Prod.ext ?_ (Prod.ext rfl (by simp))
          dsimp only
          simp only [IntKind.wrap, IntKind.bits, IntKind.signed, Bool.false_and, Bool.false_eq_true, if_false]
          omega
        · rw [hts, e0]; exact Nat.mod_lt _ (by decide)
        · rw [hts, e0]; exact (by decide : (0 : Nat) < 256)
      · have e0 : stP ((s.data.toList.take i).foldl stP (0, 0)) c = (((s.data.toList.take i).foldl stP (0, 0)).1, (((s.data.toList.take i).foldl stP (0, 0)).2 * 10 + (c.toNat + 208) % 256) % 256) := by unfold stP; rw [if_neg hd]
        have hct : c.toNat < 256 := c.toNat_lt
        rw [if_neg (by
          intro hb
          have : (c.toNat : Int) = 46 := by simpa using hb
          exact hd (UInt8.toNat_inj.1 (by show c.toNat = 46; omega)))]
        refine ⟨by omega, hc, by decide, ⟨?_⟩⟩
        unfold vizardref04_Parse.J3.vc
        rw [w_i64 (n := (i : Int) + 1) (by omega) (by omega)]
        refine hRR _ H' (16 - (i + 1)) (by omega) ⟨i + 1, ?_, by omega, by omega, rfl, rfl, ?_, ?_⟩
        · rw [hts, e0]
          refine Prod.ext rfl (Prod.ext ?_ (by simp))
          dsimp only
          have w0 : IntKind.u8.wrap ((c.toNat : Int) - 48) = (((c.toNat + 208) % 256 : Nat) : Int) := by
            simp only [IntKind.wrap, IntKind.bits, IntKind.signed, Bool.false_and, Bool.false_eq_true, if_false]
            omega
          rw [w0, w_u32 (n := (((c.toNat + 208) % 256 : Nat) : Int)) (by omega) (by omega), w_u32 (n := _ * 10) (by omega) (by omega), w_u32 (by omega) (by omega), Int.tmod_eq_emod_of_nonneg (by omega)]
          omega
        · rw [hts, e0]; exact hx
        · rw [hts, e0]; exact Nat.mod_lt _ (by decide)
    · rw [if_neg (by simpa using hc2)]
      exact fin (by rw [show i = 16 by omega])
  · rw [if_neg (by simpa using hc)]
    refine fin ?_
    rw [List.take_of_length_le (by rw [list_size]; omega), List.take_of_length_le (by rw [list_size]; omega)]
def pprint (a n : Nat) (ok : Bool) : ByteArray := if ok then printB a n else ⟨#[]⟩
theorem num_small {n : Nat} (h : n < 1000) : (numB n).size ≤ 3 := by
  unfold numB
  rw [dg_eq h, ba_size]
  unfold dg
  split
  · simp
  · split <;> simp
theorem prefix_Print.run {H : Heap} (ht : powH H) {a : Nat} {n : Int} (ha : a < 4294967296) {K : ByteArray → Heap → Prop} {E : Value → Heap → Prop} (h : ∀ H', Heap.Le H H' → K (pprint a n.toNat (chk a n)) H') : prefix_Print.c a n K E H := by
  refine ⟨?_⟩
  unfold prefix_Print.vc
  refine newB_le fun b0 H1 hn1 hl1 hle1 => ?_
  refine ⟨_, loc hl1 rfl, _, loc hl1 rfl, prefix_Check.run (by omega) (by omega) ?_⟩
  cases hc : chk a n with
  | false =>
    rw [if_pos (show (!false) = true from rfl)]
    have := h H1 hle1
    rw [hc] at this
    exact ⟨H1, Heap.Le.refl _, this⟩
  | true =>
    rw [if_neg (by simp)]
    obtain ⟨n0, n1, _, _⟩ := chk_le (by omega) (by omega) hc
    obtain ⟨N, rfl⟩ := Int.eq_ofNat_of_zero_le n0
    refine ⟨_, loc hl1 rfl, _, loc hl1 rfl, prefix_Text.run ha (ht.le hle1) fun H2 hle2 => ?_⟩
    have hs := dotB_size a ha
    have hs2 := num_small (n := N) (by omega)
    have h47 : (⟨#[47]⟩ : ByteArray).size = 1 := rfl
    refine ⟨⟨_, loc (hle2 _ _ hl1) rfl, rfl, rfl⟩, by omega, strconv_Itoa.run (by omega) ((ht.le hle1).le hle2) ⟨?_, H2, Heap.Le.refl _, ?_⟩⟩
    · rw [ByteArray.size_append]; omega
    · have := h H2 (hle1.trans hle2)
      rw [hc] at this
      exact this
theorem vizardref04_Print.run {H : Heap} {a : Nat} {n : Int} (ha : a < 4294967296) {K : ByteArray → Heap → Prop} {E : Value → Heap → Prop} (h : ∀ H', Heap.Le H H' → K (pprint a n.toNat (chk a n)) H') : vizardref04_Print.c a n K E H := by
  refine ⟨?_⟩
  unfold vizardref04_Print.vc
  refine newB_le fun b0 H1 hn1 hl1 hle1 => ?_
  refine ⟨_, loc hl1 rfl, _, loc hl1 rfl, vizardref04_Check.run (by omega) (by omega) ?_⟩
  cases hc : chk a n with
  | false =>
    rw [if_pos (show (!false) = true from rfl)]
    have := h H1 hle1
    rw [hc] at this
    exact ⟨H1, Heap.Le.refl _, this⟩
  | true =>
    rw [if_neg (by simp)]
    obtain ⟨n0, n1, _, _⟩ := chk_le (by omega) (by omega) hc
    obtain ⟨N, rfl⟩ := Int.eq_ofNat_of_zero_le n0
    refine ⟨_, loc hl1 rfl, _, loc hl1 rfl, vizardref04_Text.run ha fun H2 hle2 => ?_⟩
    have hs := dotB_size a ha
    have hs2 := num_small (n := N) (by omega)
    have h47 : (⟨#[47]⟩ : ByteArray).size = 1 := rfl
    refine ⟨⟨_, loc (hle2 _ _ hl1) rfl, rfl, rfl⟩, by omega, vizardref04_Number.run (by omega) fun H3 hle3 => ⟨?_, H3, Heap.Le.refl _, ?_⟩⟩
    · rw [ByteArray.size_append]; omega
    · have := h H3 ((hle1.trans hle2).trans hle3)
      rw [hc] at this
      exact this
theorem strings_Cut.run {H : Heap} {s : ByteArray} (hs : s.size ≤ 281474976710656) {c : UInt8} {K : ByteArray → ByteArray → Bool → Heap → Prop} {E : Value → Heap → Prop} (h0 : c ∉ s.data.toList → K s ⟨#[]⟩ false H)
    (h1 : ∀ x y : ByteArray, s.data.toList = x.data.toList ++ c :: y.data.toList → c ∉ x.data.toList → K x y true H) : strings_Cut.c s ⟨#[c]⟩ K E H := by
  refine ⟨?_⟩
  unfold strings_Cut.vc
  refine ⟨?_⟩
  unfold internal_stringslite_Cut.vc
  refine ⟨c, rfl, ?_⟩
  have hge := Lib.indexByte_ge s.data.toList c
  by_cases hi : Lib.indexByte s.data.toList c = -1
  · rw [if_neg (by rw [hi]; decide)]
    refine ⟨H, Heap.Le.refl _, H, Heap.Le.refl _, h0 fun hm => ?_⟩
    obtain ⟨k, hk⟩ := List.getElem?_of_mem hm
    exact Lib.indexByte_none hi k hk
  · obtain ⟨o, ho⟩ : ∃ o : Nat, Lib.indexByte s.data.toList c = o := ⟨(Lib.indexByte s.data.toList c).toNat, by omega⟩
    obtain ⟨h2, h3⟩ := Lib.indexByte_some ho
    have hlt : o < s.data.toList.length := (List.getElem?_eq_some_iff.1 h2).1
    have hsz := list_size s
    have hsep : (⟨#[c]⟩ : ByteArray).size = 1 := rfl
    rw [ho, if_pos (by simp), hsep]
    have hw : IntKind.i64.wrap ((o : Int) + ((1 : Nat) : Int)) = ((o + 1 : Nat) : Int) := by rw [w_i64 (by omega) (by omega)]; omega
    rw [hw, Int.toNat_natCast, Int.toNat_natCast]
    refine ⟨by omega, by omega, by omega, by omega, Nat.le_refl _, H, Heap.Le.refl _, H, Heap.Le.refl _, h1 _ _ ?_ ?_⟩
    · have e1 : (s.extract 0 o).data.toList = s.data.toList.take o := by simp [ByteArray.data_extract]
      have e2 : (s.extract (o + 1) s.size).data.toList = s.data.toList.drop (o + 1) := by
        simp [ByteArray.data_extract]
        rw [List.take_of_length_le]
        rw [List.length_drop, hsz]
        exact Nat.le_refl _
      rw [e1, e2]
      have := List.take_append_drop o s.data.toList
      rw [List.drop_eq_getElem_cons hlt] at this
      have h4 : s.data.toList[o] = c := by rw [List.getElem?_eq_getElem hlt] at h2; exact Option.some.inj h2
      rw [h4] at this
      exact this.symm
    · have e1 : (s.extract 0 o).data.toList = s.data.toList.take o := by simp [ByteArray.data_extract]
      rw [e1]
      intro hm
      obtain ⟨k, hk⟩ := List.getElem?_of_mem hm
      rw [List.getElem?_take] at hk
      split at hk
      · rename_i hko; exact h3 k hko hk
      · cases hk
theorem st_two {H : Heap} {b : Nat} {u0 u1 v0 v1 : Value} {e : TypeId} {K : Heap → Prop} (h : H b = some (.cells #[u0, u1] e)) (hk : ∀ H', H' b = some (.cells #[v0, v1] e) → (∀ c, c ≠ b → H' c = H c) → K H') :
    stc H ((⟨b, 0, none⟩ : Addr).add 0) v0 fun h1 => stc h1 ((⟨b, 0, none⟩ : Addr).add 1) v1 K := by
  refine stc_loc (o := 0) h (by simp) ?_
  refine stc_loc (o := 1) (set_self _ _ _) (by simp) (hk _ ?_ fun c hc => ?_)
  · rw [set_self]; rfl
  · rw [set_ne _ _ hc, set_ne _ _ hc]
theorem le_two {H H1 H2 : Heap} {b : Nat} (hn : H b = none) (hl : Heap.Le H H1) (h : ∀ c, c ≠ b → H2 c = H1 c) : Heap.Le H H2 := fun c o hc => by
  rw [h c (fun e => by subst e; rw [hn] at hc; cases hc)]
  exact hl c o hc
theorem cut_print {s x y : ByteArray} (hs : s.data.toList = x.data.toList ++ 47 :: y.data.toList) (hx : (47 : UInt8) ∉ x.data.toList) {A N : Nat} (hA : A < 4294967296) (hN : N ≤ 32) (he : s = printB A N) : x = dotB A ∧ y.data.toList = dg N := by
  rw [he, print_list hA (by omega)] at hs
  obtain ⟨e1, e2⟩ := first_at (dot_noslash hA) hx hs
  exact ⟨ba_ext (by rw [dotB_list hA, e1]), e2.symm⟩
section
variable {H : Heap} {s : ByteArray} {K : Int → Int → Bool → Heap → Prop} {E : Value → Heap → Prop}
theorem prefix_Read.bad {b0 b1 : Nat} {Hc : Heap} (hn : H b0 = none) (hl : Heap.Le H Hc) (hc : Hc b0 = some (.cells #[.int .u32 0, .int .i64 0] 24)) (hno : ∀ A N : Nat, A < 4294967296 → N ≤ 32 → chk A N = true → s ≠ printB A N)
    (h : ∀ a n ok H', ReadIs s a n ok → Heap.Le H H' → K a n ok H') {Kn : Heap → Prop} :
    prefix_Read.J1 (⟨b0, 0, none⟩ : Addr) (⟨b1, 0, none⟩ : Addr) true Kn (fun x8 h10 => ldI h10 .u32 ((⟨b0, 0, none⟩ : Addr).add 0) fun r2 => ldI h10 .i64 ((⟨b0, 0, none⟩ : Addr).add 1) fun r3 => ∃ H', Heap.Le H' h10 ∧ K r2 r3 x8 H') E Hc := by
  refine ⟨?_⟩
  unfold prefix_Read.J1.vc
  rw [if_pos rfl]
  refine st_two hc fun H' h1 h2 => ⟨_, loc h1 rfl, _, loc h1 rfl, H', Heap.Le.refl _, h 0 0 false H' (.inr ⟨rfl, rfl, rfl, hno⟩) (le_two hn hl h2)⟩
theorem prefix_Read.run (g : GH H) (hs : s.size ≤ 281474976710656) (h : ∀ a n ok H', ReadIs s a n ok → Heap.Le H H' → K a n ok H') : prefix_Read.c s K E H := by
  refine ⟨?_⟩
  unfold prefix_Read.vc
  refine newB_le fun b0 H1 hn0 hl0 hle0 => ?_
  have g1 := g.le hle0
  have size_of : ∀ {x y : ByteArray}, s.data.toList = x.data.toList ++ 47 :: y.data.toList → x.size ≤ s.size ∧ y.size ≤ s.size := fun {x y} hx => by
    have := congrArg List.length hx
    rw [List.length_append, List.length_cons, list_size, list_size, list_size] at this
    omega
  refine strings_Cut.run hs (fun hno => ?_) (fun x y hxy hx => ?_)
  · refine prefix_Parse.run g1 hs ⟨⟨by show (0 : Nat) ≤ _; omega, g1.e1, g1.e2, fun v hv => ?_, fun _ v e => ?_⟩⟩
    all_goals
      refine new2_le fun b1 H2 hn1 hl1 hle1 => ?_
      rw [if_pos (show (!false) = true from rfl)]
      refine prefix_Read.bad hn0 (hle0.trans hle1) (hle1 _ _ hl0) (fun A N hA hN _ he => hno ?_) h
      rw [he, print_list hA (by omega)]
      simp
  · obtain ⟨sx, sy⟩ := size_of hxy
    refine prefix_Parse.run g1 (by omega) ⟨⟨by omega, g1.e1, g1.e2, fun v hv => ?_, fun hno v e => ?_⟩⟩
    · refine new2_le fun b1 H2 hn1 hl1 hle1 => ?_
      rw [if_neg (show ¬ ((!true) = true) by simp)]
      rcases parse_cases x with ⟨A, hA, hxA, hp⟩ | ⟨hno, hp⟩
      · rw [hp] at hl1 ⊢
        dsimp only at hl1 ⊢
        rw [if_neg (show ¬ ((!true) = true) by simp)]
        refine nilV_no ?_
        obtain ⟨v0, v1⟩ := Lib.atoiAll_bounds hv
        refine ⟨⟨by omega, by omega, g1.tab.le hle1, ?_⟩⟩
        by_cases hb : (⟨(Lib.itoa v).toArray⟩ : ByteArray) = y
        · rw [if_neg (by simp [hb])]
          refine ⟨_, loc hl1 rfl, _, loc hl1 rfl, prefix_Check.run (by omega) (by omega) ?_⟩
          cases hc : chk A v with
          | false =>
            refine prefix_Read.bad hn0 (hle0.trans hle1) (hle1 _ _ hl0) (fun B N hB hN hcB he => ?_) h
            obtain ⟨e1, e2⟩ := cut_print hxy hx hB hN he
            rw [hxA] at e1
            have := dot_inj hA hB e1
            subst this
            rw [e2, (dg_facts (by omega)).2.1] at hv
            have hv' := Lib.NumEnd.ok.inj hv
            rw [← hv', hcB] at hc
            cases hc
          | true =>
            obtain ⟨n0, n1, _, _⟩ := chk_le (by omega) (by omega) hc
            obtain ⟨N, rfl⟩ := Int.eq_ofNat_of_zero_le n0
            refine ⟨?_⟩
            unfold prefix_Read.J1.vc
            rw [if_neg (show ¬ ((!true) = true) by simp)]
            refine ⟨?_⟩
            unfold prefix_Read.J2.vc
            refine ⟨_, loc hl1 rfl, _, loc hl1 rfl, st_two (hle1 _ _ hl0) fun H' h1 h2 => ⟨_, loc h1 rfl, _, loc h1 rfl, H', Heap.Le.refl _, h _ _ _ H' (.inl ⟨rfl, A, N, rfl, rfl, hA, by omega, hc, ?_⟩) (le_two hn0 (hle0.trans hle1) h2)⟩⟩
            apply ba_ext
            rw [print_list hA (by omega), hxy, hxA, dotB_list hA, ← hb, ba_list, dg_itoa (by omega)]
        · rw [if_pos (by
            cases hq : ((⟨(Lib.itoa v).toArray⟩ : ByteArray).toList == y.toList) with
            | false => rfl
            | true => exact absurd ((str_eq _ _).1 hq) hb)]
          refine prefix_Read.bad hn0 (hle0.trans hle1) (hle1 _ _ hl0) (fun B N hB hN hcB he => hb ?_) h
          obtain ⟨e1, e2⟩ := cut_print hxy hx hB hN he
          rw [e2, (dg_facts (by omega)).2.1] at hv
          have hv' := Lib.NumEnd.ok.inj hv
          apply ba_ext
          rw [ba_list, ← hv', dg_itoa (by omega), e2]
      · rw [hp]
        rw [if_pos (show (!false) = true from rfl)]
        refine prefix_Read.bad hn0 (hle0.trans hle1) (hle1 _ _ hl0) (fun B N hB hN hcB he => ?_) h
        exact hno B hB (cut_print hxy hx hB hN he).1
    · refine new2_le fun b1 H2 hn1 hl1 hle1 => ?_
      rw [if_neg (show ¬ ((!true) = true) by simp)]
      have fail : ∀ B N : Nat, B < 4294967296 → N ≤ 32 → chk B N = true → s ≠ printB B N := fun B N hB hN hcB he => by
        obtain ⟨e1, e2⟩ := cut_print hxy hx hB hN he
        have := (dg_facts (n := N) (by omega)).2.1
        rw [← e2] at this
        exact hno _ this
      cases hp : (parseV x).2 with
      | true =>
        rw [if_neg (show ¬ ((!true) = true) by simp)]
        exact nilV_err (prefix_Read.bad hn0 (hle0.trans hle1) (hle1 _ _ hl0) fail h)
      | false =>
        rw [if_pos (show (!false) = true from rfl)]
        exact prefix_Read.bad hn0 (hle0.trans hle1) (hle1 _ _ hl0) fail h
/-- The document's way: at each stroke, all 33 prefixes are written and compared. -/
theorem vizardref04_Read.run (hs : s.size ≤ 281474976710656) (h : ∀ a n ok H', ReadIs s a n ok → Heap.Le H H' → K a n ok H') : vizardref04_Read.c s K E H := by
  refine ⟨?_⟩
  unfold vizardref04_Read.vc
  refine newB_le fun b0 H1 hn0 hl0 hle0 => ?_
  have at_slash : ∀ {A N : Nat}, A < 4294967296 → N ≤ 32 → s = printB A N → s.data.toList[(dotL A).length]? = some 47 ∧ s.data.toList.take (dotL A).length = dotL A := fun {A N} hA hN he => by
    rw [he, print_list hA (by omega)]
    exact ⟨by rw [List.getElem?_append_right (Nat.le_refl _)]; simp, by rw [List.take_append_of_le_length (Nat.le_refl _), List.take_length]⟩
  refine ⟨Loop.of (I := fun st H' m => ∃ i : Nat, st = (i : Int) ∧ i ≤ s.size ∧ m = s.size - i ∧ H' b0 = some (.cells #[.int .u32 0, .int .i64 0] 24) ∧ Heap.Le H H' ∧ (∀ A N : Nat, A < 4294967296 → N ≤ 32 → chk A N = true → s = printB A N → i ≤ (dotL A).length)) ?_
    ⟨0, rfl, by omega, rfl, hl0, hle0, fun _ _ _ _ _ _ => Nat.zero_le _⟩⟩
  rintro m st Hc ⟨i, rfl, hi, rfl, hb, hle, hno⟩ RR hRR
  unfold vizardref04_Read.W1.vc
  dsimp only
  by_cases hc : (i : Int) < (s.size : Int)
  · rw [if_pos (by simpa using hc)]
    refine ⟨by omega, hc, ?_⟩
    have hl : i < s.data.toList.length := by rw [list_size]; omega
    obtain ⟨c, hcc⟩ : ∃ c, s.data.toList[i]? = some c := ⟨_, List.getElem?_eq_getElem hl⟩
    rw [bt_at hcc]
    have next : ∀ H', H' b0 = some (.cells #[.int .u32 0, .int .i64 0] 24) → Heap.Le H H' → (∀ A N : Nat, A < 4294967296 → N ≤ 32 → chk A N = true → s = printB A N → i ≠ (dotL A).length) → vizardref04_Read.J2 s ⟨b0, 0, none⟩ i RR E H' := fun H' h1 h2 h3 => by
      refine ⟨?_⟩
      unfold vizardref04_Read.J2.vc
      rw [w_i64 (by omega) (by omega)]
      refine hRR _ H' (s.size - (i + 1)) (by omega) ⟨i + 1, by simp, by omega, rfl, h1, h2, fun A N hA hN hcA he => ?_⟩
      have := hno A N hA hN hcA he
      have := h3 A N hA hN hcA he
      omega
    by_cases hd : c = 47
    · rw [if_neg (by subst hd; simp)]
      refine ⟨by omega, by omega, vizardref04_Parse.run fun H2 hle2 => ?_⟩
      rw [Int.toNat_natCast]
      have ex : (s.extract 0 i).data.toList = s.data.toList.take i := by simp [ByteArray.data_extract]
      rcases parse_cases (s.extract 0 i) with ⟨A, hA, hxA, hp⟩ | ⟨hnoA, hp⟩
      · rw [hp]
        refine ⟨Loop.of (I := fun st H' m => ∃ n : Nat, st = (n : Int) ∧ n ≤ 33 ∧ m = 33 - n ∧ H' b0 = some (.cells #[.int .u32 0, .int .i64 0] 24) ∧ Heap.Le H H' ∧ (∀ N : Nat, N < n → chk A N = true → s ≠ printB A N)) ?_
          ⟨0, rfl, by omega, rfl, hle2 _ _ hb, hle.trans hle2, fun N hN => by omega⟩⟩
        rintro m st H3 ⟨n, rfl, hn, rfl, hb3, hle3, hno3⟩ RR3 hRR3
        unfold vizardref04_Read.W3.vc
        dsimp only
        by_cases hn2 : (n : Int) ≤ 32
        · rw [if_pos (by simpa using hn2), if_pos rfl]
          refine ⟨?_⟩
          unfold vizardref04_Read.J4.vc
          refine new2_le fun b1 H4 hn1 hl1 hle4 => ?_
          refine ⟨_, loc hl1 rfl, _, loc hl1 rfl, vizardref04_Print.run hA fun H5 hle5 => ?_⟩
          rw [Int.toNat_natCast]
          have hle6 := hle4.trans hle5
          by_cases he : pprint A n (chk A n) = s
          · rw [if_pos (by simp [he])]
            have hck : chk A n = true := by
              cases hck : chk A n with
              | true => rfl
              | false =>
                rw [hck] at he
                rw [← he] at hl
                exact absurd hl (by simp [pprint])
            rw [hck] at he
            refine ⟨_, loc (hle5 _ _ hl1) rfl, _, loc (hle5 _ _ hl1) rfl, st_two (hle6 _ _ hb3) fun H' h1 h2 => ⟨_, loc h1 rfl, _, loc h1 rfl, H', Heap.Le.refl _, h _ _ _ H' (.inl ⟨rfl, A, n, rfl, rfl, hA, by omega, hck, he.symm⟩) (le_two hn0 (hle3.trans hle6) h2)⟩⟩
          · rw [if_neg (by
              intro hq
              exact he ((str_eq _ _).1 hq))]
            rw [w_i64 (by omega) (by omega)]
            refine hRR3 _ H5 (33 - (n + 1)) (by omega) ⟨n + 1, by simp, by omega, rfl, hle6 _ _ hb3, hle3.trans hle6, fun N hN hcN hsN => ?_⟩
            by_cases hNn : N = n
            · subst hNn
              rw [hcN] at he
              exact he hsN.symm
            · exact hno3 N (by omega) hcN hsN
        · rw [if_neg (by simpa using hn2)]
          refine next H3 hb3 hle3 fun B N hB hN hcB he hi2 => ?_
          obtain ⟨_, t2⟩ := at_slash hB hN he
          rw [← hi2, ← ex, hxA, dotB_list hA] at t2
          have hAB : A = B := dot_inj hA hB (ba_ext (by rw [dotB_list hA, dotB_list hB, t2]))
          subst hAB
          exact hno3 N (by omega) hcB he
      · rw [hp]
        refine ⟨Loop.of (n := 0) (I := fun st H' m => st = (0 : Int) ∧ H' = H2) ?_ ⟨rfl, rfl⟩⟩
        rintro m st H3 ⟨rfl, rfl⟩ RR3 hRR3
        unfold vizardref04_Read.W3.vc
        dsimp only
        rw [if_pos (by decide), if_neg (by simp)]
        refine next _ (hle2 _ _ hb) (hle.trans hle2) fun B N hB hN hcB he hi2 => ?_
        obtain ⟨_, t2⟩ := at_slash hB hN he
        rw [← hi2, ← ex] at t2
        exact hnoA B hB (ba_ext (by rw [t2, dotB_list hB]))
    · rw [if_pos (by
        rw [bne_iff_ne]
        intro e
        exact hd (UInt8.toNat_inj.1 (by show c.toNat = 47; omega)))]
      refine next Hc hb hle fun A N hA hN hcA he hi2 => ?_
      obtain ⟨t1, _⟩ := at_slash hA hN he
      rw [← hi2, hcc] at t1
      exact hd (Option.some.inj t1)
  · rw [if_neg (by simpa using hc)]
    refine st_two hb fun H' h1 h2 => ⟨_, loc h1 rfl, _, loc h1 rfl, H', Heap.Le.refl _, h 0 0 false H' (.inr ⟨rfl, rfl, rfl, fun A N hA hN hcA he => ?_⟩) (le_two hn0 hle h2)⟩
    have h3 := hno A N hA hN hcA he
    obtain ⟨t1, _⟩ := at_slash hA hN he
    have := (List.getElem?_eq_some_iff.1 t1).1
    rw [list_size] at this
    omega
end
end Go.Sh
