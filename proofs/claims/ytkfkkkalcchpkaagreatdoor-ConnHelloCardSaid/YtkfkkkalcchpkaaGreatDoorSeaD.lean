/- Hiding, marks, Seal, Open; and the reference's. -/
import Derived.Test.YtkfkkkalcchpkaaGreatDoorSeaC
namespace Go.Sh
set_option maxRecDepth 8000
def hbyte (k : List UInt8) (u i : Nat) : UInt8 := (hmac k (beN u 8 ++ beN (i / 32) 4)).getD (i % 32) 0
def hideTo (k : List UInt8) (u : Nat) (d : List UInt8) (m : Nat) : List UInt8 := (List.range d.length).map fun t => if t < m then d.getD t 0 ^^^ hbyte k u t else d.getD t 0
def hideL (k : List UInt8) (u : Nat) (d : List UInt8) : List UInt8 := hideTo k u d d.length
theorem hideTo_len {k : List UInt8} {u : Nat} {d : List UInt8} {m : Nat} : (hideTo k u d m).length = d.length := by unfold hideTo; simp
theorem hideTo_at {k : List UInt8} {u : Nat} {d : List UInt8} {m t : Nat} (ht : t < d.length) : (hideTo k u d m)[t]? = some (if t < m then d.getD t 0 ^^^ hbyte k u t else d.getD t 0) := by
  unfold hideTo
  rw [List.getElem?_map, List.getElem?_range ht]
  rfl
theorem hideTo_get {k : List UInt8} {u : Nat} {d : List UInt8} {m : Nat} (hm : m < d.length) : (hideTo k u d m).getD m 0 = d.getD m 0 := by
  rw [List.getD_eq_getElem?_getD, hideTo_at hm, if_neg (by omega)]
  rfl
theorem hideTo_set {k : List UInt8} {u : Nat} {d : List UInt8} {m : Nat} (hm : m < d.length) : (hideTo k u d m).set m (d.getD m 0 ^^^ hbyte k u m) = hideTo k u d (m + 1) := by
  apply List.ext_getElem?
  intro i
  rw [List.getElem?_set]
  rcases Nat.lt_or_ge i d.length with h | h
  · rw [hideTo_at h, hideTo_at h]
    by_cases hi : m = i
    · subst hi
      rw [if_pos rfl, if_pos (by rw [hideTo_len]; exact h), if_pos (by omega)]
    · rw [if_neg hi]
      by_cases hl : i < m
      · rw [if_pos hl, if_pos (by omega)]
      · rw [if_neg hl, if_neg (by omega)]
  · rw [List.getElem?_eq_none (by rw [hideTo_len]; exact h), if_neg (by omega), List.getElem?_eq_none (by rw [hideTo_len]; exact h)]
theorem hideTo_zero {k : List UInt8} {u : Nat} {d : List UInt8} : hideTo k u d 0 = d := by
  apply List.ext_getElem?
  intro i
  rcases Nat.lt_or_ge i d.length with h | h
  · rw [hideTo_at h, if_neg (by omega), List.getD_eq_getElem?_getD, List.getElem?_eq_getElem h]
    rfl
  · rw [List.getElem?_eq_none (by rw [hideTo_len]; exact h), List.getElem?_eq_none h]
theorem hideTo_more {k : List UInt8} {u : Nat} {d : List UInt8} {m : Nat} (hm : d.length ≤ m) : hideTo k u d m = hideL k u d := by
  apply List.ext_getElem?
  intro i
  unfold hideL
  rcases Nat.lt_or_ge i d.length with h | h
  · rw [hideTo_at h, hideTo_at h, if_pos (by omega), if_pos h]
  · rw [List.getElem?_eq_none (by rw [hideTo_len]; exact h), List.getElem?_eq_none (by rw [hideTo_len]; exact h)]
theorem hideL_len {k : List UInt8} {u : Nat} {d : List UInt8} : (hideL k u d).length = d.length := hideTo_len
def hidePre (k : List UInt8) (u : Nat) (d : List UInt8) (i : Nat) : List UInt8 := (List.range i).map fun t => d.getD t 0 ^^^ hbyte k u t
theorem hidePre_succ {k : List UInt8} {u : Nat} {d : List UInt8} {i : Nat} : hidePre k u d i ++ [d.getD i 0 ^^^ hbyte k u i] = hidePre k u d (i + 1) := by
  unfold hidePre
  rw [List.range_succ, List.map_append]
  rfl
theorem hidePre_all {k : List UInt8} {u : Nat} {d : List UInt8} : hidePre k u d d.length = hideL k u d := by
  unfold hidePre hideL hideTo
  refine List.map_congr_left fun t ht => ?_
  rw [if_pos (List.mem_range.1 ht)]
def tagL (s : List UInt8) (u : Nat) (head hidden : List UInt8) : List UInt8 := (hmac (keyT s) ((beN u 8 ++ vtext head) ++ hidden)).take 16
theorem tagL_len {s : List UInt8} {u : Nat} {head hidden : List UInt8} : (tagL s u head hidden).length = 16 := by
  unfold tagL
  rw [List.length_take, hmac_len]
  rfl
def sealL (s : List UInt8) (u : Nat) (head d : List UInt8) : List UInt8 := hideL (keyC s) u d ++ tagL s u head (hideL (keyC s) u d)
theorem sealL_len {s : List UInt8} {u : Nat} {head d : List UInt8} : (sealL s u head d).length = d.length + 16 := by
  unfold sealL
  rw [List.length_append, hideL_len, tagL_len]
def openL (s : List UInt8) (u : Nat) (head x : List UInt8) : List UInt8 × Int :=
  if x.length < 16 then ([], 1) else if tagL s u head (x.take (x.length - 16)) = x.drop (x.length - 16) then (hideL (keyC s) u (x.take (x.length - 16)), 0) else ([], 10)
theorem ext_list (x : ByteArray) (a z : Nat) : (x.extract a z).data.toList = (x.data.toList.drop a).take (z - a) := by
  rw [ByteArray.data_extract, Array.toList_extract, List.extract_eq_take_drop]
theorem ba_eq {x : ByteArray} {l : List UInt8} (h : x.data.toList = l) : x = ⟨l.toArray⟩ := by
  rw [← h, ba_mk]
theorem only_tab {b : Nat} {H H' : Heap} (h : Heap.Le H H') : Only b H H' := Only.of_le h
theorem not_mem1 {k b : Nat} (h : k ≠ b) : k ∉ [b] := by simpa using h
theorem seal_Key_hide.inner {H0 : Heap} {k : List UInt8} {u q : Nat} {data : List UInt8} {d cap : Nat} {ko : Option Addr} {n : Int} (hq : 32 * q < data.length) (hl : data.length ≤ 1000000) (ho : OwnB H0 5 (some ⟨d, 0, none⟩) data.length cap (hideTo k u data (32 * q)))
    {Kx : Heap → Prop} {E : Value → Heap → Prop} (hx : ∀ H, OwnB H 5 (some ⟨d, 0, none⟩) data.length cap (hideTo k u data (32 * (q + 1))) → Step [d] H0 [d] H → Kx H) :
    seal_Key_hide.W2 ko n (some ⟨d, 0, none⟩) data.length cap ((32 * q : Nat) : Int) ⟨(hmac k (beN u 8 ++ beN q 4)).toArray⟩ (if (IntKind.i64.wrap ((data.length : Int) - ((32 * q : Nat) : Int))) < 32 then (IntKind.i64.wrap ((data.length : Int) - ((32 * q : Nat) : Int))) else 32) 0 Kx E H0 := by
  obtain ⟨w, hw⟩ : ∃ w : Nat, w = min (data.length - 32 * q) 32 := ⟨_, rfl⟩
  have ew : (if (IntKind.i64.wrap ((data.length : Int) - ((32 * q : Nat) : Int))) < 32 then (IntKind.i64.wrap ((data.length : Int) - ((32 * q : Nat) : Int))) else 32) = (w : Int) := by
    rw [w_i64 (by omega) (by omega)]
    split <;> omega
  rw [ew]
  have hs : (⟨(hmac k (beN u 8 ++ beN q 4)).toArray⟩ : ByteArray).size = 32 := by rw [ba_size, hmac_len]
  refine ⟨Loop.of (I := fun st H m => ∃ j : Nat, st = (j : Int) ∧ j ≤ w ∧ m = w - j ∧ OwnB H 5 (some ⟨d, 0, none⟩) data.length cap (hideTo k u data (32 * q + j)) ∧ Step [d] H0 [d] H) ?_ ⟨0, rfl, Nat.zero_le _, rfl, ho, Step.refl _ _⟩⟩
  rintro m st H ⟨j, rfl, hj, rfl, ho, hst⟩ RR hRR
  unfold seal_Key_hide.W2.vc
  by_cases hc : j < w
  · rw [if_pos (by rw [decide_eq_true_eq]; omega)]
    have ei : IntKind.i64.wrap (((32 * q : Nat) : Int) + (j : Int)) = ((32 * q + j : Nat) : Int) := by rw [w_i64 (by omega) (by omega)]; omega
    rw [ei, Int.toNat_natCast]
    have hm : 32 * q + j < data.length := by omega
    obtain ⟨a, ha, hcell⟩ := ho.bytes.get (i := 32 * q + j) hm
    rw [hideTo_get hm] at hcell
    refine ⟨a, ha, by omega, by omega, _, hcell, by omega, by rw [hs]; omega, a, ha, by omega, by omega, ?_⟩
    rw [bt_getD, ba_list (hmac _ _), xor_u8]
    have eb : hbyte k u (32 * q + j) = (hmac k (beN u 8 ++ beN q 4)).getD j 0 := by
      unfold hbyte
      rw [show (32 * q + j) / 32 = q by omega, show (32 * q + j) % 32 = j by omega]
    rw [← eb]
    refine ho.put (i := 32 * q + j) hm ha fun H2 h2 hst2 => ?_
    rw [hideTo_set hm] at h2
    rw [w_i64 (by omega) (by omega)]
    exact hRR _ _ (w - (j + 1)) (by omega) ⟨j + 1, rfl, by omega, rfl, h2, hst.trans hst2⟩
  · rw [if_neg (by rw [decide_eq_true_eq]; omega)]
    refine hx H ?_ hst
    have : j = w := by omega
    subst this
    rcases Nat.lt_or_ge (data.length - 32 * q) 32 with h | h
    · rw [hideTo_more (by omega)] at ho ⊢
      exact ho
    · rw [show 32 * (q + 1) = 32 * q + j by omega]
      exact ho
theorem seal_Key_hide.run {H : Heap} {b : Nat} {s data : ByteArray} {a o n : Int} (hs : s.size ≤ 100000) (hd : data.size ≤ 100000) (h : KeyAt H b s a o) (ht : Tabs H) {K : ByteArray → Heap → Prop} {E : Value → Heap → Prop}
    (hk : ∀ H', KeyDone H' b s a o → Only b H H' → K ⟨(hideL (keyC s.data.toList) (un n) data.data.toList).toArray⟩ H') : seal_Key_hide.c (some ⟨b, 0, none⟩) n data K E H := by
  have hdl := ba_len data
  obtain ⟨hu, hlt⟩ := un_eq n
  refine ⟨?_⟩
  unfold seal_Key_hide.vc
  refine seal_Key_parts.run hs h ht fun H1 h1 o1 => ?_
  intro j0
  refine newB_le fun d H2 hn2 hl2 hle2 => ?_
  have ho := str_bytes hl2
  have hdb : b ≠ d := fun e => by subst e; rw [h1.2] at hn2; cases hn2
  rw [← hdl] at ho ⊢
  refine ⟨Loop.of (I := fun st H' m => ∃ q : Nat, st = ((32 * q : Nat) : Int) ∧ 32 * q < data.data.toList.length + 32 ∧ m = data.data.toList.length + 32 - 32 * q ∧ OwnB H' 5 (some ⟨d, 0, none⟩) data.data.toList.length (data.data.toList.length + j0) (hideTo (keyC s.data.toList) (un n) data.data.toList (32 * q)) ∧ Step [d] H2 [d] H') ?_
    ⟨0, rfl, by omega, rfl, by rw [hideTo_zero]; exact ho, Step.refl _ _⟩⟩
  rintro m st H' ⟨q, rfl, hq, rfl, ho, hst⟩ RR hRR
  have hk2 : KeyDone H' b s a o := ⟨h1.1, (hst b _ (hle2 _ _ h1.2) (not_mem1 hdb)).1⟩
  have oH : Only b H H' := fun k ob hk hn => by
    have k1 := o1 k ob hk hn
    have : k ≠ d := fun e => by subst e; rw [hn2] at k1; cases k1
    exact (hst k ob (hle2 _ _ k1) (not_mem1 this)).1
  have t2 := ht.only oH h1.1
  unfold seal_Key_hide.W1.vc
  by_cases hc : 32 * q < data.data.toList.length
  · rw [if_pos (by rw [decide_eq_true_eq]; omega)]
    refine ⟨_, rfl, mac_ld hk2.ldC ⟨by decide, ?_⟩⟩
    rw [hu]
    refine seal_bytes.run (k := 8) (by decide) (by decide) fun H3 hle3 => ?_
    have hk3 := hk2.le hle3
    refine ⟨⟨rfl, rfl⟩, mac_ld hk3.ldC ⟨rfl, rfl⟩, ?_⟩
    have eq : IntKind.u64.wrap (IntKind.i64.wrap (Int.tdiv ((32 * q : Nat) : Int) 32)) = (q : Int) := by
      rw [Int.tdiv_eq_ediv_of_nonneg (by omega), w_i64 (by omega) (by omega), w_u64 (by omega) (by omega)]
      omega
    rw [eq]
    refine seal_bytes.run (k := 4) (by decide) (by decide) fun H4 hle4 => ?_
    have hk4 := hk3.le hle4
    have hle34 := hle3.trans hle4
    refine ⟨mac_ld hk4.ldC ⟨rfl, rfl⟩, by rw [ba_size, ba_size, beN_len, beN_len]; decide, ?_⟩
    refine mac_code (k := keyC s.data.toList) (by rw [keyC_len]; decide) (by rw [ByteArray.size_append, ba_size, ba_size, beN_len, beN_len]; decide) (t2.up hle34).k fun H5 hle5 => ?_
    rw [ba_app, ba_list (beN _ 8), ba_list (beN _ 4)]
    refine seal_Key_hide.inner hc (by omega) (ho.le (hle34.trans hle5)) fun H6 h6 hst6 => ?_
    rw [w_i64 (by omega) (by omega)]
    refine hRR _ H6 (data.data.toList.length + 32 - 32 * (q + 1)) (by omega) ⟨q + 1, by omega, by omega, rfl, h6, (hst.trans (Step.of_le (hle34.trans hle5))).trans hst6⟩
  · rw [if_neg (by rw [decide_eq_true_eq]; omega)]
    rw [hideTo_more (by omega)] at ho
    refine ho.bytes.rdBytes ?_
    exact ⟨H', Heap.Le.refl _, hk H' hk2 oH⟩
theorem seal_Key_mark.run {H : Heap} {b : Nat} {s head hidden : ByteArray} {a o n : Int} (hs : s.size ≤ 100000) (hh : head.size ≤ 100000) (hd : hidden.size ≤ 100000) (h : KeyAt H b s a o) (ht : Tabs H) {K : ByteArray → Heap → Prop} {E : Value → Heap → Prop}
    (hk : ∀ H', KeyDone H' b s a o → Only b H H' → K ⟨(tagL s.data.toList (un n) head.data.toList hidden.data.toList).toArray⟩ H') : seal_Key_mark.c (some ⟨b, 0, none⟩) n head hidden K E H := by
  obtain ⟨hu, hlt⟩ := un_eq n
  refine ⟨?_⟩
  unfold seal_Key_mark.vc
  refine seal_Key_parts.run hs h ht fun H1 h1 o1 => ⟨_, rfl, mac_ld h1.ldT ?_⟩
  have t1 := ht.only o1 h1.1
  rw [hu]
  refine seal_bytes.run (k := 8) (by decide) (by decide) fun H2 hle2 => ⟨mac_ld (h1.le hle2).ldT ⟨rfl, rfl⟩, ?_⟩
  refine varint_Text.run (by omega) (t1.up hle2).s fun H3 hle3 => ?_
  have hle := hle2.trans hle3
  have hv := vtext_len head.data.toList
  rw [ba_len] at hv
  refine ⟨mac_ld (h1.le hle).ldT ⟨rfl, rfl⟩, by rw [ba_size, ba_size, beN_len]; omega, by rw [ByteArray.size_append, ba_size, ba_size, beN_len]; omega, ?_⟩
  refine mac_code (k := keyT s.data.toList) (by rw [keyT_len]; decide) (by rw [ByteArray.size_append, ByteArray.size_append, ba_size, ba_size, beN_len]; omega) (t1.up hle).k fun H4 hle4 => ?_
  rw [ba_app, ba_app, ba_list (beN _ 8), ba_list (vtext _)]
  have h4 := h1.le (hle.trans hle4)
  refine ⟨by decide, by rw [ba_size, hmac_len]; decide, H4, Heap.Le.refl _, ?_⟩
  have := hk H4 h4 (o1.trans (Only.of_le (hle.trans hle4)))
  rw [ba_eq (ext_list _ 0 16), ba_list (hmac _ _), List.drop_zero]
  exact this
theorem add44 {H : Heap} {b : Nat} {s : ByteArray} {a o : Int} (h : KeyAt H b s a o) : ∃ arr, H b = some (.cells arr 216) ∧ arr[44]? = some (.int .i64 a) ∧ arr[45]? = some (.int .i64 o) ∧ (∀ x : Int, KeyAt (H.set b (.cells (arr.setIfInBounds 44 (.int .i64 x)) 216)) b s x o) ∧ (∀ x : Int, KeyAt (H.set b (.cells (arr.setIfInBounds 45 (.int .i64 x)) 216)) b s a x) := by
  rcases h with h | ⟨hb, h⟩
  · exact ⟨_, h.2, rfl, rfl, fun x => .inl ⟨h.1, by rw [set_self]; rfl⟩, fun x => .inl ⟨h.1, by rw [set_self]; rfl⟩⟩
  · exact ⟨_, h, rfl, rfl, fun x => .inr ⟨hb, by rw [set_self]; rfl⟩, fun x => .inr ⟨hb, by rw [set_self]; rfl⟩⟩
theorem seal_add44.run {H : Heap} {b : Nat} {s : ByteArray} {a o : Int} (h : KeyAt H b s a o) (h0 : 0 ≤ a) (h1 : a ≤ 1000000) {K : Int → Heap → Prop} {E : Value → Heap → Prop} (hk : ∀ H', KeyAt H' b s (a + 1) o → Only b H H' → K (a + 1) H') : sync_atomic_Int64_Add.c (some ((⟨b, 0, none⟩ : Addr).add 44)) 1 K E H := by
  obtain ⟨arr, hb, e1, _, e2, _⟩ := add44 h
  refine ⟨?_⟩
  unfold sync_atomic_Int64_Add.vc
  refine ⟨_, rfl, ⟨b, 44, arr, 216, a, rfl, hb, e1, ?_⟩⟩
  rw [w_i64 (by omega) (by omega)]
  exact ⟨_, Heap.Le.refl _, hk _ (e2 _) (Only.set _)⟩
theorem seal_add45.run {H : Heap} {b : Nat} {s : ByteArray} {a o : Int} (h : KeyAt H b s a o) (h0 : 0 ≤ o) (h1 : o ≤ 1000000) {K : Int → Heap → Prop} {E : Value → Heap → Prop} (hk : ∀ H', KeyAt H' b s a (o + 1) → Only b H H' → K (o + 1) H') : sync_atomic_Int64_Add.c (some ((⟨b, 0, none⟩ : Addr).add 45)) 1 K E H := by
  obtain ⟨arr, hb, _, e1, _, e2⟩ := add44 h
  refine ⟨?_⟩
  unfold sync_atomic_Int64_Add.vc
  refine ⟨_, rfl, ⟨b, 45, arr, 216, o, rfl, hb, e1, ?_⟩⟩
  rw [w_i64 (by omega) (by omega)]
  exact ⟨_, Heap.Le.refl _, hk _ (e2 _) (Only.set _)⟩
theorem seal_New.run {H : Heap} (ht : Tabs H) {s : ByteArray} {K : Option Addr → Heap → Prop} {E : Value → Heap → Prop} (hk : ∀ b H', KeyAt H' b s 0 0 → H b = none → Heap.Le H H' → K (some ⟨b, 0, none⟩) H') : seal_New.c s K E H := by
  refine ⟨?_⟩
  unfold seal_New.vc
  refine newB_le fun b H1 hn hl hle => ⟨H1, Heap.Le.refl _, hk b H1 (.inr ⟨?_, hl⟩) hn hle⟩
  have h0 := IntsIn.some0 ht.k
  have h1 := IntsIn.some0 ht.s
  rcases b with _ | _ | b
  · exact absurd hn h1
  · exact absurd hn h0
  · omega
theorem seal_Key_Seal.run {H : Heap} {b : Nat} {s head data : ByteArray} {a o n : Int} (hs : s.size ≤ 100000) (hh : head.size ≤ 100000) (hd : data.size ≤ 100000) (h : KeyAt H b s a o) (h0 : 0 ≤ a) (h1 : a ≤ 1000000) (ht : Tabs H) {K : ByteArray → Heap → Prop} {E : Value → Heap → Prop}
    (hk : ∀ H', KeyAt H' b s (a + 1) o → Only b H H' → K ⟨(sealL s.data.toList (un n) head.data.toList data.data.toList).toArray⟩ H') : seal_Key_Seal.c (some ⟨b, 0, none⟩) n head data K E H := by
  have hdl := ba_len data
  refine ⟨?_⟩
  unfold seal_Key_Seal.vc
  refine ⟨_, rfl, seal_add44.run h h0 h1 fun H1 k1 o1 => ?_⟩
  refine seal_Key_hide.run hs hd k1 (ht.only o1 h.lt) fun H2 k2 o2 => ?_
  have o12 := o1.trans o2
  refine seal_Key_mark.run hs hh (by rw [ba_size, hideL_len]; omega) (.inl k2) (ht.only o12 h.lt) fun H3 k3 o3 => ?_
  rw [ba_list (hideL _ _ _)]
  refine ⟨by rw [ba_size, ba_size, hideL_len, tagL_len]; omega, H3, Heap.Le.refl _, ?_⟩
  have e : (⟨(hideL (keyC s.data.toList) (un n) data.data.toList).toArray⟩ : ByteArray) ++ ⟨(tagL s.data.toList (un n) head.data.toList (hideL (keyC s.data.toList) (un n) data.data.toList)).toArray⟩ = ⟨(sealL s.data.toList (un n) head.data.toList data.data.toList).toArray⟩ :=
    ba_eq (by rw [ba_app, ba_list (hideL _ _ _), ba_list (tagL _ _ _ _)]; rfl)
  rw [e]
  exact hk H3 (.inl k3) (o12.trans o3)
theorem openL_short {s : List UInt8} {u : Nat} {head x : List UInt8} (h : x.length < 16) : openL s u head x = ([], 1) := by unfold openL; rw [if_pos h]
theorem openL_bad {s : List UInt8} {u : Nat} {head x : List UInt8} (h : ¬ x.length < 16) (ht : tagL s u head (x.take (x.length - 16)) ≠ x.drop (x.length - 16)) : openL s u head x = ([], 10) := by unfold openL; rw [if_neg h, if_neg ht]
theorem openL_ok {s : List UInt8} {u : Nat} {head x : List UInt8} (h : ¬ x.length < 16) (ht : tagL s u head (x.take (x.length - 16)) = x.drop (x.length - 16)) : openL s u head x = (hideL (keyC s) u (x.take (x.length - 16)), 0) := by unfold openL; rw [if_neg h, if_pos ht]
theorem beq_lists {x y : ByteArray} : (x.toList == y.toList) = true ↔ x.data.toList = y.data.toList := by
  rw [ba_toList, ba_toList, beq_iff_eq]
theorem seal_Key_Open.run {H : Heap} {b : Nat} {s head x : ByteArray} {a o n : Int} (hs : s.size ≤ 100000) (hh : head.size ≤ 100000) (hx : x.size ≤ 100000) (h : KeyAt H b s a o) (h0 : 0 ≤ o) (h1 : o ≤ 1000000) (ht : Tabs H) {K : ByteArray → Int → Heap → Prop} {E : Value → Heap → Prop}
    (hk : ∀ H' o', KeyAt H' b s a o' → Only b H H' → (o' = if (openL s.data.toList (un n) head.data.toList x.data.toList).2 = 0 then o + 1 else o) → K ⟨(openL s.data.toList (un n) head.data.toList x.data.toList).1.toArray⟩ (openL s.data.toList (un n) head.data.toList x.data.toList).2 H') : seal_Key_Open.c (some ⟨b, 0, none⟩) n head x K E H := by
  have hxl := ba_len x
  refine ⟨?_⟩
  unfold seal_Key_Open.vc
  rw [w_i64 (by omega) (by omega)]
  by_cases hc : x.data.toList.length < 16
  · rw [if_pos (by rw [decide_eq_true_eq]; omega)]
    have := hk H o h (fun k ob hk _ => hk) (by rw [openL_short hc]; rfl)
    rw [openL_short hc] at this
    exact ⟨H, Heap.Le.refl _, this⟩
  · rw [if_neg (by rw [decide_eq_true_eq]; omega)]
    have en : ((x.size : Int) - 16).toNat = x.data.toList.length - 16 := by omega
    refine ⟨by omega, by omega, by omega, by omega, by omega, ?_⟩
    rw [en]
    have e1 : x.extract 0 (x.data.toList.length - 16) = ⟨(x.data.toList.take (x.data.toList.length - 16)).toArray⟩ := ba_eq (by rw [ext_list, List.drop_zero, Nat.sub_zero])
    have e2 : (x.extract (x.data.toList.length - 16) x.size).data.toList = x.data.toList.drop (x.data.toList.length - 16) := by
      rw [ext_list, List.take_of_length_le (by rw [List.length_drop]; omega)]
    rw [e1]
    have hsz : (⟨(x.data.toList.take (x.data.toList.length - 16)).toArray⟩ : ByteArray).size ≤ 100000 := by rw [ba_size, List.length_take]; omega
    refine seal_Key_mark.run hs hh hsz h ht fun H1 k1 o1 => ?_
    rw [ba_list (x.data.toList.take _)]
    by_cases hg : tagL s.data.toList (un n) head.data.toList (x.data.toList.take (x.data.toList.length - 16)) = x.data.toList.drop (x.data.toList.length - 16)
    · rw [if_neg (by rw [Bool.not_eq_true', Bool.not_eq_false, beq_lists, e2, ba_list (tagL _ _ _ _)]; exact hg)]
      refine ⟨_, rfl, seal_add45.run (.inl k1) h0 h1 fun H2 k2 o2 => ?_⟩
      have o12 := o1.trans o2
      refine seal_Key_hide.run hs hsz k2 (ht.only o12 h.lt) fun H3 k3 o3 => ?_
      have := hk H3 (o + 1) (.inl k3) (o12.trans o3) (by rw [openL_ok hc hg]; rfl)
      rw [openL_ok hc hg] at this
      rw [ba_list (x.data.toList.take _)]
      exact ⟨H3, Heap.Le.refl _, this⟩
    · rw [if_pos (by rw [Bool.not_eq_true', ← Bool.not_eq_true, beq_lists, e2, ba_list (tagL _ _ _ _)]; exact hg)]
      have := hk H1 o (.inl k1) o1 (by rw [openL_bad hc hg]; rfl)
      rw [openL_bad hc hg] at this
      exact ⟨H1, Heap.Le.refl _, this⟩
/-! ### The reference -/
theorem vizardref06_Tag.run {s head hidden : ByteArray} {n : Int} (hs : s.size ≤ 100000) (hh : head.size ≤ 100000) (hd : hidden.size ≤ 100000) {H : Heap} {K : ByteArray → Heap → Prop} {E : Value → Heap → Prop}
    (hk : ∀ H', Heap.Le H H' → K ⟨(tagL s.data.toList (un n) head.data.toList hidden.data.toList).toArray⟩ H') : vizardref06_Tag.c s n head hidden K E H := by
  refine ⟨?_⟩
  unfold vizardref06_Tag.vc
  refine vizardref05_Derive.run hs (by decide) (by decide) fun H1 hle1 => ?_
  refine vizardref06_Eight.run fun H2 hle2 => ?_
  refine vizardref01_Text.run (by omega) fun H3 hle3 => ?_
  have hv := vtext_len head.data.toList
  rw [ba_len] at hv
  refine ⟨by rw [ba_size, ba_size, beN_len]; omega, by rw [ByteArray.size_append, ba_size, ba_size, beN_len]; omega, ?_⟩
  have hkl := keyT_len s.data.toList
  unfold keyT at hkl
  refine vizardref05_Hmac.run (by rw [ba_size]; show (derive s.data.toList [116, 97, 103] []).length ≤ _; omega) (by rw [ByteArray.size_append, ByteArray.size_append, ba_size, ba_size, beN_len]; omega) fun H4 hle4 => ?_
  rw [ba_app, ba_app, ba_list (beN _ 8), ba_list (vtext _), ba_list (derive _ _ _)]
  refine ⟨by decide, by rw [ba_size, hmac_len]; decide, H4, Heap.Le.refl _, ?_⟩
  have := hk H4 (((hle1.trans hle2).trans hle3).trans hle4)
  rw [ba_eq (ext_list _ 0 16), ba_list (hmac _ _), List.drop_zero]
  exact this
theorem vizardref06_Hide.J2.run {n : Int} {data key stream : ByteArray} {k : List UInt8} {u i : Nat} {p : Option Addr} {c : Nat} (hi : i < data.data.toList.length) (hl : data.size ≤ 100000) (hst : stream.data.toList = hmac k (beN u 8 ++ beN (i / 32) 4)) {H : Heap} (ho : OwnB H 5 p i c (hidePre k u data.data.toList i))
    {Kn : Option Addr → Nat → Nat → Heap → Prop} {E : Value → Heap → Prop} (hk : ∀ p' c' H', OwnB H' 5 p' (i + 1) c' (hidePre k u data.data.toList (i + 1)) → Step (bl p) H (bl p') H' → Kn p' (i + 1) c' H') : vizardref06_Hide.J2 n data key p i c stream i Kn E H := by
  have hdl := ba_len data
  have hsl := ba_len stream
  rw [hst, hmac_len] at hsl
  refine ⟨?_⟩
  unfold vizardref06_Hide.J2.vc
  have em : Int.tmod (i : Int) 32 = ((i % 32 : Nat) : Int) := by rw [Int.tmod_eq_emod_of_nonneg (by omega)]; simp
  rw [em]
  refine ⟨by omega, by omega, by decide, by omega, by omega, ?_⟩
  rw [bt_getD, bt_getD, xor_u8, hst]
  refine push_byte rfl ho (by omega) fun p' c' H2 h1 h2 => ?_
  have e : data.data.toList.getD i 0 ^^^ (hmac k (beN u 8 ++ beN (i / 32) 4)).getD (i % 32) 0 = data.data.toList.getD i 0 ^^^ hbyte k u i := rfl
  rw [e, hidePre_succ] at h1
  exact hk p' c' H2 h1 h2
theorem vizardref06_Hide.run {s data : ByteArray} {n : Int} (hs : s.size ≤ 100000) (hd : data.size ≤ 100000) {H : Heap} {K : ByteArray → Heap → Prop} {E : Value → Heap → Prop}
    (hk : ∀ H', Heap.Le H H' → K ⟨(hideL (keyC s.data.toList) (un n) data.data.toList).toArray⟩ H') : vizardref06_Hide.c s n data K E H := by
  have hdl := ba_len data
  refine ⟨?_⟩
  unfold vizardref06_Hide.vc
  refine vizardref05_Derive.run hs (by decide) (by decide) fun H1 hle1 => ?_
  have ek : derive s.data.toList (⟨#[99, 105, 112, 104, 101, 114]⟩ : ByteArray).data.toList (⟨#[]⟩ : ByteArray).data.toList = keyC s.data.toList := rfl
  rw [ek]
  have hkl := keyC_len s.data.toList
  refine ⟨Loop.of (I := fun st H' m => ∃ i : Nat, st.2.2.2.2 = (i : Int) ∧ i ≤ data.data.toList.length ∧ m = data.data.toList.length - i ∧ st.2.1 = i ∧ OwnB H' 5 st.1 st.2.1 st.2.2.1 (hidePre (keyC s.data.toList) (un n) data.data.toList i) ∧ (i % 32 ≠ 0 → st.2.2.2.1.data.toList = hmac (keyC s.data.toList) (beN (un n) 8 ++ beN (i / 32) 4)) ∧ Step [] H (bl st.1) H') ?_
    ⟨0, rfl, Nat.zero_le _, rfl, rfl, OwnB.nil, fun h => absurd rfl h, Step.of_le hle1⟩⟩
  rintro m ⟨p, n1, c, stream, i'⟩ H' ⟨i, hi', hi, rfl, hn, ho, hstr, hst⟩ RR hRR
  dsimp only at hi' hn ho hstr hst
  subst hi'; subst hn
  unfold vizardref06_Hide.W1.vc
  dsimp only
  by_cases hc : n1 < data.data.toList.length
  · rw [if_pos (by rw [decide_eq_true_eq]; omega)]
    refine ⟨by decide, ?_⟩
    have em : Int.tmod (n1 : Int) 32 = ((n1 % 32 : Nat) : Int) := by rw [Int.tmod_eq_emod_of_nonneg (by omega)]; simp
    have step : ∀ {stream2 : ByteArray} {H2 : Heap}, stream2.data.toList = hmac (keyC s.data.toList) (beN (un n) 8 ++ beN (n1 / 32) 4) → Heap.Le H' H2 →
        vizardref06_Hide.J2 n data ⟨(keyC s.data.toList).toArray⟩ p n1 c stream2 n1 (fun b3 b4 b5 h4 => vizardref06_Hide.J3 n data ⟨(keyC s.data.toList).toArray⟩ b3 b4 b5 stream2 n1 (fun i1 h5 => RR (b3, b4, b5, stream2, i1) h5) E h4) E H2 := by
      intro stream2 H2 hs2 hle2
      refine vizardref06_Hide.J2.run hc hd hs2 (ho.le hle2) fun p' c' H3 h1 h2 => ⟨?_⟩
      unfold vizardref06_Hide.J3.vc
      rw [w_i64 (by omega) (by omega)]
      refine hRR (p', n1 + 1, c', stream2, _) H3 (data.data.toList.length - (n1 + 1)) (by omega) ⟨n1 + 1, by simp, by omega, rfl, rfl, h1, fun hne => ?_, (hst.trans (Step.of_le hle2)).trans h2⟩
      rw [hs2, show (n1 + 1) / 32 = n1 / 32 by omega]
    rw [em]
    by_cases hz : n1 % 32 = 0
    · rw [if_pos (by rw [beq_iff_eq]; omega)]
      refine vizardref06_Eight.run fun H2 hle2 => ⟨by decide, ?_⟩
      have eq : IntKind.i64.wrap (Int.tdiv (n1 : Int) 32) = ((n1 / 32 : Nat) : Int) := by
        rw [Int.tdiv_eq_ediv_of_nonneg (by omega), w_i64 (by omega) (by omega)]
        simp
      rw [eq]
      refine vizardref01_Bytes.run (k := 4) (by decide) (by omega) fun H3 hle3 => ⟨by rw [ba_size, ba_size, beN_len, beN_len]; decide, ?_⟩
      refine vizardref05_Hmac.run (by rw [ba_size]; omega) (by rw [ByteArray.size_append, ba_size, ba_size, beN_len, beN_len]; decide) fun H4 hle4 => ?_
      rw [ba_app, ba_list (beN _ 8), ba_list (beN _ 4), ba_list (keyC _)]
      exact step (ba_list _) ((hle2.trans hle3).trans hle4)
    · rw [if_neg (by rw [beq_iff_eq]; omega)]
      exact step (hstr hz) (Heap.Le.refl _)
  · rw [if_neg (by rw [decide_eq_true_eq]; omega)]
    have : n1 = data.data.toList.length := by omega
    subst this
    rw [hidePre_all] at ho
    refine ho.bytes.rdBytes ?_
    exact ⟨H', Heap.Le.refl _, hk H' hst.le⟩
theorem vizardref06_Seal.run {s head data : ByteArray} {n : Int} (hs : s.size ≤ 100000) (hh : head.size ≤ 100000) (hd : data.size ≤ 100000) {H : Heap} {K : ByteArray → Heap → Prop} {E : Value → Heap → Prop}
    (hk : ∀ H', Heap.Le H H' → K ⟨(sealL s.data.toList (un n) head.data.toList data.data.toList).toArray⟩ H') : vizardref06_Seal.c s n head data K E H := by
  have hdl := ba_len data
  refine ⟨?_⟩
  unfold vizardref06_Seal.vc
  refine vizardref06_Hide.run hs hd fun H1 hle1 => ?_
  refine vizardref06_Tag.run hs hh (by rw [ba_size, hideL_len]; omega) fun H2 hle2 => ?_
  rw [ba_list (hideL _ _ _)]
  refine ⟨by rw [ba_size, ba_size, hideL_len, tagL_len]; omega, H2, Heap.Le.refl _, ?_⟩
  have e : (⟨(hideL (keyC s.data.toList) (un n) data.data.toList).toArray⟩ : ByteArray) ++ ⟨(tagL s.data.toList (un n) head.data.toList (hideL (keyC s.data.toList) (un n) data.data.toList)).toArray⟩ = ⟨(sealL s.data.toList (un n) head.data.toList data.data.toList).toArray⟩ :=
    ba_eq (by rw [ba_app, ba_list (hideL _ _ _), ba_list (tagL _ _ _ _)]; rfl)
  rw [e]
  exact hk H2 (hle1.trans hle2)
theorem vizardref06_Open.run {s head x : ByteArray} {n : Int} (hs : s.size ≤ 100000) (hh : head.size ≤ 100000) (hx : x.size ≤ 100000) {H : Heap} {K : ByteArray → Int → Heap → Prop} {E : Value → Heap → Prop}
    (hk : ∀ H', Heap.Le H H' → K ⟨(openL s.data.toList (un n) head.data.toList x.data.toList).1.toArray⟩ (openL s.data.toList (un n) head.data.toList x.data.toList).2 H') : vizardref06_Open.c s n head x K E H := by
  have hxl := ba_len x
  refine ⟨?_⟩
  unfold vizardref06_Open.vc
  rw [w_i64 (by omega) (by omega)]
  by_cases hc : x.data.toList.length < 16
  · rw [if_pos (by rw [decide_eq_true_eq]; omega)]
    rw [openL_short hc] at hk
    exact ⟨H, Heap.Le.refl _, hk H (Heap.Le.refl _)⟩
  · rw [if_neg (by rw [decide_eq_true_eq]; omega)]
    have en : ((x.size : Int) - 16).toNat = x.data.toList.length - 16 := by omega
    refine ⟨by omega, by omega, by omega, by omega, by omega, ?_⟩
    rw [en]
    have e1 : x.extract 0 (x.data.toList.length - 16) = ⟨(x.data.toList.take (x.data.toList.length - 16)).toArray⟩ := ba_eq (by rw [ext_list, List.drop_zero, Nat.sub_zero])
    have e2 : (x.extract (x.data.toList.length - 16) x.size).data.toList = x.data.toList.drop (x.data.toList.length - 16) := by
      rw [ext_list, List.take_of_length_le (by rw [List.length_drop]; omega)]
    rw [e1]
    have hsz : (⟨(x.data.toList.take (x.data.toList.length - 16)).toArray⟩ : ByteArray).size ≤ 100000 := by rw [ba_size, List.length_take]; omega
    refine vizardref06_Tag.run hs hh hsz fun H1 hle1 => ?_
    rw [ba_list (x.data.toList.take _)]
    by_cases hg : tagL s.data.toList (un n) head.data.toList (x.data.toList.take (x.data.toList.length - 16)) = x.data.toList.drop (x.data.toList.length - 16)
    · rw [if_neg (by rw [Bool.not_eq_true', Bool.not_eq_false, beq_lists, e2, ba_list (tagL _ _ _ _)]; exact hg)]
      refine ⟨by omega, by omega, vizardref06_Hide.run hs hsz fun H3 hle3 => ?_⟩
      rw [openL_ok hc hg] at hk
      rw [ba_list (x.data.toList.take _)]
      exact ⟨H3, Heap.Le.refl _, hk H3 (hle1.trans hle3)⟩
    · rw [if_pos (by rw [Bool.not_eq_true', ← Bool.not_eq_true, beq_lists, e2, ba_list (tagL _ _ _ _)]; exact hg)]
      rw [openL_bad hc hg] at hk
      exact ⟨H1, Heap.Le.refl _, hk H1 hle1⟩
end Go.Sh
