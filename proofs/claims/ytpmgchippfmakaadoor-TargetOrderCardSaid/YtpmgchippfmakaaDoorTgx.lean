/- target.parse, target.Parse: what they answer. -/
import Derived.Test.YtpmgchippfmakaaDoorTgw
namespace Go.Sh
open Go.Proofs Num Go.RowKit
set_option maxRecDepth 8000
/-! ### Texts between slashes -/
theorem ixb_at {c : UInt8} : ∀ {x y : List UInt8}, c ∉ x → Lib.indexByte (x ++ c :: y) c = (x.length : Int)
  | [], y, _ => by unfold Lib.indexByte; simp
  | b :: x, y, h => by
    have hb : ¬ (b == c) = true := fun e => h (by rw [beq_iff_eq.1 e]; simp)
    have ih := ixb_at (x := x) (y := y) (c := c) fun hm => h (by simp [hm])
    show Lib.indexByte (b :: (x ++ c :: y)) c = _
    unfold Lib.indexByte
    rw [if_neg hb, ih, if_neg (by rw [beq_iff_eq]; omega)]
    simp
theorem split_len (sep : ByteArray) : ∀ (k : Nat) (s x : ByteArray), x ∈ Lib.splitB sep 0 k s → x.size ≤ s.size
  | 0, s, x, h => by
    have : x = s := by simpa [Lib.splitB] using h
    rw [this]; exact Nat.le_refl _
  | k + 1, s, x, h => by
    unfold Lib.splitB at h
    split at h
    · have : x = s := by simpa using h
      rw [this]; exact Nat.le_refl _
    · rcases List.mem_cons.1 h with rfl | h
      · rw [ByteArray.size_extract]; omega
      · have := split_len sep k _ x h
        rw [ByteArray.size_extract] at this
        omega
theorem splitP_len (s : ByteArray) (b : UInt8) : (splitP b s).length = Lib.countB s ⟨#[b]⟩ + 1 := Lib.splitB_all ⟨#[b]⟩ (Nat.le_refl 1) 0 _ s rfl
theorem split_hit {s : ByteArray} {c : UInt8} {x y : List UInt8} (hs : s.data.toList = x ++ c :: y) (hx : c ∉ x) (k : Nat) : Lib.splitB ⟨#[c]⟩ 0 (k + 1) s = ⟨x.toArray⟩ :: Lib.splitB ⟨#[c]⟩ 0 k ⟨y.toArray⟩ := by
  have hi : Lib.indexB s ⟨#[c]⟩ = ((x.length : Nat) : Int) := by
    show Lib.index s.data.toList [c] = _
    rw [Lib.index_one, hs, ixb_at hx]
  rw [Lib.splitB_hit _ _ _ _ _ hi]
  have hsz : s.size = x.length + (y.length + 1) := by rw [← list_sizeB, hs]; simp
  have e1 : s.extract 0 (x.length + 0) = ⟨x.toArray⟩ := by
    apply ba_ext
    rw [ByteArray.data_extract, Array.toList_extract, List.extract_eq_take_drop, hs, ba_list]
    simp
  have e2 : s.extract (x.length + (⟨#[c]⟩ : ByteArray).size) s.size = ⟨y.toArray⟩ := by
    apply ba_ext
    rw [ByteArray.data_extract, Array.toList_extract, List.extract_eq_take_drop, hs, ba_list, hsz]
    show List.take _ (List.drop (x.length + 1) _) = _
    rw [show x ++ c :: y = (x ++ [c]) ++ y by simp, show x.length + 1 = (x ++ [c]).length by simp, List.drop_left]
    exact List.take_of_length_le (by have e1 : (⟨#[c]⟩ : ByteArray).size = 1 := rfl; omega)
  rw [e1, e2]
theorem count_slash {s : ByteArray} {x y z : List UInt8} (hs : s.data.toList = x ++ 47 :: (y ++ 47 :: z)) (hx : (47 : UInt8) ∉ x) (hy : (47 : UInt8) ∉ y) (hz : (47 : UInt8) ∉ z) : Lib.countB s ⟨#[47]⟩ = 2 := by
  show Lib.count s.data.toList [47] = 2
  rw [Lib.count_one, hs]
  simp [List.count_append, List.count_eq_zero.2 hx, List.count_eq_zero.2 hy, List.count_eq_zero.2 hz]
theorem three_parts {s : ByteArray} {x y z : List UInt8} (hs : s.data.toList = x ++ 47 :: (y ++ 47 :: z)) (hx : (47 : UInt8) ∉ x) (hy : (47 : UInt8) ∉ y) (hz : (47 : UInt8) ∉ z) : splitP 47 s = [⟨x.toArray⟩, ⟨y.toArray⟩, ⟨z.toArray⟩] := by
  unfold splitP
  rw [count_slash hs hx hy hz, split_hit hs hx 1, split_hit (ba_list _) hy 0]
  rfl
theorem dec_noslash (n : Nat) : (47 : UInt8) ∉ Lib.decDigits n := fun h => by
  have := dec_dig n 47 h
  revert this
  decide
/-- The package variables that Atoi and Itoa read. -/
structure GH (H : Heap) : Prop where
  e1 : ErrIn H 1
  e2 : ErrIn H 2
  tab : TabIn H 0 .u64 powTab
theorem GH.le {H H' : Heap} (h : GH H) (hl : Heap.Le H H') : GH H' := ⟨h.e1.le hl, h.e2.le hl, h.tab.le hl⟩
theorem prefix_Parse.run {H : Heap} (g : GH H) {s : ByteArray} (hs : s.size ≤ 281474976710656) {K : Int → Bool → Heap → Prop} {E : Value → Heap → Prop} (h : K (parseV s).1 (parseV s).2 H) : prefix_Parse.c s K E H := ⟨⟨hs, g.e1, g.e2, g.tab, h⟩⟩
theorem trim_front {h r : List UInt8} (e : h = frontB.data.toList ++ r) : Lib.hasPrefix h frontB.data.toList = true ∧ Lib.trimPrefix h frontB.data.toList = r := by
  have h1 : Lib.hasPrefix h frontB.data.toList = true := by
    unfold Lib.hasPrefix
    rw [List.isPrefixOf_iff_prefix, e]
    exact List.prefix_append _ _
  refine ⟨h1, ?_⟩
  unfold Lib.trimPrefix
  rw [if_pos h1, e]
  exact List.drop_left
theorem trim_len (h : ByteArray) : (⟨(Lib.trimPrefix h.data.toList frontB.data.toList).toArray⟩ : ByteArray).size ≤ h.size := by
  rw [ba_size, ← list_sizeB]
  exact Lib.trimPrefix_le _ _
theorem path_isUdp {h : ByteArray} {a : Nat} {p : Int} (ha : a < 4294967296) (he : pathB false a p = h) (h0 : h.size ≠ 0) : IsUdp h (a, p.toNat) := by
  unfold pathB at he
  cases hr : rightB false a p with
  | false => rw [hr, if_neg (by simp)] at he; rw [← he] at h0; exact absurd rfl h0
  | true =>
    rw [hr, if_pos rfl, if_neg (by simp)] at he
    have hp := right_port hr
    exact ⟨ha, by dsimp only; omega, by dsimp only; omega, he.symm⟩
section
variable {H : Heap} {E : Value → Heap → Prop}
theorem target_parse.J2.run {Hc : Heap} {b0 b : Nat} {a p : Int} {K : Bool → Int → Int → Heap → Prop} (hn : H b0 = none) (h0 : Hc b0 = some (.cells #[.bool false, .int .u32 0, .int .i64 0] 24)) (hb : Hc b = some (.cells #[.bool false, .int .u32 a, .int .i64 p] 24)) (hne : b ≠ b0) (hle : Heap.Le H Hc) (h : ∀ H', Heap.Le H H' → K false a p H') :
    target_parse.J2 ⟨b0, 0, none⟩ ⟨b, 0, none⟩ (fun h5 => ldB h5 ((⟨b0, 0, none⟩ : Addr).add 0) fun r0 => ldI h5 .u32 ((⟨b0, 0, none⟩ : Addr).add 1) fun r1 => ldI h5 .i64 ((⟨b0, 0, none⟩ : Addr).add 2) fun r2 => ∃ H', Heap.Le H' h5 ∧ K r0 r1 r2 H') E Hc := by
  refine ⟨⟨_, loc (o := 0) hb rfl, _, loc (o := 1) hb rfl, _, loc (o := 2) hb rfl, ?_⟩⟩
  refine st3_loc h0 ?_
  refine ⟨_, loc (o := 0) (set_self _ _ _) rfl, _, loc (o := 1) (set_self _ _ _) rfl, _, loc (o := 2) (set_self _ _ _) rfl, _, Heap.Le.refl _, h _ ?_⟩
  intro c o hc
  rw [set_ne _ _ (fun e => by rw [e, hn] at hc; cases hc)]
  exact hle c o hc
/-- What a path asks for. -/
theorem target_parse.run (g : GH H) {h : ByteArray} (hs : h.size ≤ 1000) {K : Bool → Int → Int → Heap → Prop} (hK : ∀ x, udpV h = some x → ∀ H', Heap.Le H H' → K false x.1 x.2 H') (hE : udpV h = none → ∀ H', Heap.Le H H' → E (.iface 48 (.int .i64 404)) H') : target_parse.c h K E H := by
  refine ⟨?_⟩
  unfold target_parse.vc
  refine newB_le fun b0 H1 hn0 hl0 hle0 => ⟨?_⟩
  have hrs := trim_len h
  obtain ⟨rest, hrest⟩ : ∃ rest : ByteArray, rest = ⟨(Lib.trimPrefix h.data.toList frontB.data.toList).toArray⟩ := ⟨_, rfl⟩
  rw [← hrest] at hrs ⊢
  refine ⟨⟨47, rfl, by omega, fun q H2 hq hle1 hq2 => ?_⟩⟩
  have hne : q ≠ b0 := fun e => by rw [e, hl0] at hq; cases hq
  have hle := hle0.trans hle1
  have hl0' := hle1 _ _ hl0
  -- the parts as they lie there
  have hcell : ∀ {Hc : Heap}, Heap.Le H2 Hc → ∀ {i : Nat} {x : ByteArray}, (splitP 47 rest)[i]? = some x → Hc.cell? ((⟨q, 0, none⟩ : Addr).add i) = some (.string x) := by
    intro Hc hl i x hi
    refine loc (hl _ _ hq2) ?_
    simp [List.getElem?_map, hi]
  have hlen := splitP_len rest 47
  have hsz : ∀ {i : Nat} {x : ByteArray}, (splitP 47 rest)[i]? = some x → x.size ≤ 1000 := fun hi => by
    have := split_len _ _ _ _ (List.mem_of_getElem? hi)
    omega
  by_cases hx : ∃ x, IsUdp h x
  · -- a path
    obtain ⟨⟨a, p⟩, hu⟩ := hx
    have hv := udpV_of hu
    obtain ⟨ha, hp1, hp2, he⟩ := hu
    dsimp only at ha hp1 hp2 he
    have hl := path_list ha (p := p)
    rw [← he] at hl
    obtain ⟨t1, t2⟩ := trim_front hl
    have hrl : rest.data.toList = dotL a ++ 47 :: (Lib.decDigits p ++ 47 :: []) := by rw [hrest, ba_list, t2]
    have hparts := three_parts hrl (dot_noslash ha) (dec_noslash p) (by simp)
    have hcnt := count_slash hrl (dot_noslash ha) (dec_noslash p) (by simp)
    rw [if_pos t1, hcnt, if_pos (by decide)]
    refine ⟨_, rfl, by decide, by decide, _, hcell (Heap.Le.refl _) (i := 2) (by rw [hparts]; rfl), ?_⟩
    dsimp only
    refine target_check.run (fun _ => ⟨?_⟩) (fun hb => ?_)
    rotate_left
    · rw [ba_eq, decide_eq_false_iff_not] at hb; exact absurd rfl hb
    have p0 : (splitP 47 rest)[0]? = some ⟨(dotL a).toArray⟩ := by rw [hparts]; rfl
    have p1 : (splitP 47 rest)[1]? = some ⟨(Lib.decDigits p).toArray⟩ := by rw [hparts]; rfl
    refine ⟨_, rfl, by decide, by decide, _, hcell (Heap.Le.refl _) p0, ?_⟩
    dsimp only
    have ed : (⟨(dotL a).toArray⟩ : ByteArray) = dotB a := ba_ext (by rw [ba_list, dotB_list ha])
    have hs0 := hsz p0
    refine prefix_Parse.run (g.le hle) (by omega) ?_
    rw [ed, parse_dot ha]
    refine ⟨_, rfl, by decide, by decide, _, hcell (Heap.Le.refl _) p1, ?_⟩
    dsimp only
    have hs1 := hsz p1
    have hat := dec_atoi (n := p) (by omega)
    refine ⟨⟨by omega, g.e1.le hle, g.e2.le hle, fun v hv2 => ?_, fun hno => ?_⟩⟩
    · rw [ba_list, hat] at hv2
      cases hv2
      refine new3_le fun b H3 hbn hb3 hle3 => ?_
      rw [if_pos rfl]
      refine nilV_no ?_
      refine ⟨_, loc (o := 0) hb3 rfl, _, loc (o := 1) hb3 rfl, _, loc (o := 2) hb3 rfl, ?_⟩
      dsimp only
      refine target_Path.run ha (g.tab.le (hle.trans hle3)) fun H4 hle4 => ?_
      have hpath : pathB false a (p : Int) = h := by
        have hr : rightB false (a : Int) (p : Int) = true := by simp [rightB]; omega
        unfold pathB
        rw [hr, if_pos rfl, if_neg (by simp), Int.toNat_natCast, he]
      rw [hpath]
      refine target_check.run (fun _ => ?_) (fun hb => by simp at hb)
      exact target_parse.J2.run hn0 (hle4 _ _ (hle3 _ _ hl0')) (hle4 _ _ hb3) (fun e => by rw [e, hl0'] at hbn; cases hbn) ((hle.trans hle3).trans hle4) fun H' hl' => hK _ hv H' hl'
    · rw [ba_list] at hno
      exact absurd hat (hno _)
  · -- none
    have hv := udpV_none (h := h) fun x hu => hx ⟨x, hu⟩
    have fail : ∀ {ok : Bool} {Kc : Heap → Prop} {Hc : Heap}, Heap.Le H Hc → (ok = true → Kc Hc) → target_check.c ok 404 Kc E Hc := fun hl hk => target_check.run hk fun _ => hE hv _ hl
    have never : ∀ {Kc : Heap → Prop} {Hc : Heap}, Heap.Le H Hc → target_check.c false 404 Kc E Hc := fun hl => fail hl fun e => by cases e
    split
    rotate_left
    · exact never hle
    rename_i ht1
    split
    rotate_left
    · exact never hle
    rename_i hc3
    have hc3 : Lib.countB rest ⟨#[47]⟩ + 1 = 3 := by
      rw [beq_iff_eq] at hc3
      omega
    obtain ⟨x0, p0⟩ : ∃ x, (splitP 47 rest)[0]? = some x := ⟨_, List.getElem?_eq_getElem (by omega)⟩
    obtain ⟨x1, p1⟩ : ∃ x, (splitP 47 rest)[1]? = some x := ⟨_, List.getElem?_eq_getElem (by omega)⟩
    obtain ⟨x2, p2⟩ : ∃ x, (splitP 47 rest)[2]? = some x := ⟨_, List.getElem?_eq_getElem (by omega)⟩
    refine ⟨_, rfl, by decide, by omega, _, hcell (Heap.Le.refl _) (i := 2) p2, ?_⟩
    dsimp only
    refine fail hle fun _ => ⟨?_⟩
    refine ⟨_, rfl, by decide, by omega, _, hcell (Heap.Le.refl _) (i := 0) p0, ?_⟩
    dsimp only
    have hs0 := hsz p0
    have hs1 := hsz p1
    refine prefix_Parse.run (g.le hle) (by omega) ?_
    refine ⟨_, rfl, by decide, by omega, _, hcell (Heap.Le.refl _) (i := 1) p1, ?_⟩
    dsimp only
    have h0 : h.size ≠ 0 := by
      intro h0
      have : h = ⟨#[]⟩ := size0.2 h0
      subst this
      revert ht1
      decide
    refine ⟨⟨by omega, g.e1.le hle, g.e2.le hle, fun v hv2 => ?_, fun hno v x => ?_⟩⟩
    · refine new3_le fun b H3 hbn hb3 hle3 => ?_
      split
      rotate_left
      · exact never (hle.trans hle3)
      rename_i hok
      refine nilV_no ?_
      refine ⟨_, loc (o := 0) hb3 rfl, _, loc (o := 1) hb3 rfl, _, loc (o := 2) hb3 rfl, ?_⟩
      dsimp only
      obtain ⟨a, ha, rfl⟩ := parse_is hok
      rw [parse_dot ha]
      dsimp only
      refine target_Path.run ha (g.tab.le (hle.trans hle3)) fun H4 hle4 => ?_
      refine fail ((hle.trans hle3).trans hle4) fun he => ?_
      rw [ba_eq, decide_eq_true_eq] at he
      exact absurd ⟨_, path_isUdp ha he h0⟩ hx
    · refine new3_le fun b H3 hbn hb3 hle3 => ?_
      split
      · exact nilV_err (never (hle.trans hle3))
      · exact never (hle.trans hle3)
end
end Go.Sh
