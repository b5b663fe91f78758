/- InboxWhole: pieces of a text give a beginning of it, and in the end all of it. -/
import Derived.Test.YtjbfpeeigjjbdaaInboxG
import Derived.Test.YtjbfpeeigjjbdaaInboxE
import Derived.Test.YtjbfpeeigjjbdaaInboxD
namespace Go.Sh
theorem u64_modb {off m : Int} (hm : 0 < m) (hm2 : m ≤ 100000) : (∃ k : Nat, IntKind.i64.wrap (Int.tmod (IntKind.u64.wrap off) (IntKind.u64.wrap (IntKind.i64.wrap m))) = (k : Int) ∧ (k : Int) < m) ∧ IntKind.u64.wrap (IntKind.i64.wrap m) ≠ 0 := by
  rw [w_i64 (n := m) (by omega) (by omega), w_u64 (n := m) (by omega) (by omega)]
  exact ⟨u64_small hm hm2, by omega⟩
theorem bget_extract {T : ByteArray} {a e : Nat} {n : Int} (h1 : (a : Int) ≤ n) (h2 : n < (e : Int)) (h3 : e ≤ T.size) : bget (T.extract a e) (n - a) = bget T n := by
  obtain ⟨k, rfl⟩ : ∃ k : Nat, n = k := ⟨n.toNat, by omega⟩
  have hl : T.data.toList.length = T.size := by rw [Array.length_toList]; rfl
  unfold bget
  have e1 : ((k : Int) - a).toNat = k - a := by omega
  rw [e1, Int.toNat_natCast, ByteArray.data_extract, Array.toList_extract, List.extract_eq_take_drop, List.getD_eq_getElem?_getD, List.getD_eq_getElem?_getD, List.getElem?_take, if_pos (by omega), List.getElem?_drop, show a + (k - a) = k by omega]
structure Part (T : ByteArray) (s : Bx) (o : Nat) : Prop where
  read : s.read = o
  le : o ≤ T.size
  reset : s.reset = false
  size : s.size = -1 ∨ s.size = T.size
  most : s.most ≤ T.size
  keys : ∀ n x, s.f n = some x → (o : Int) ≤ n ∧ n < T.size ∧ x = bget T n
theorem Part.fine {T : ByteArray} {s : Bx} {o : Nat} (h : Part T s o) (hT : T.size ≤ 4000) : s.fine := by
  have := h.le
  refine ⟨fun n x hx => ?_, by rw [h.read]; omega, by rw [h.read]; omega⟩
  have := h.keys n x hx
  rw [h.read]
  omega
theorem Part.put {T : ByteArray} {s : Bx} {o : Nat} (h : Part T s o) (hT : T.size ≤ 4000) {a e : Nat} (ha : a ≤ e) (he : e ≤ T.size) {fin : Bool} (hf : fin = true → e = T.size) : putE s a (T.extract a e) fin = 0 ∧ Part T (putS s a (T.extract a e) fin) o ∧
    (∀ n : Int, (a : Int) ≤ n → n < e → (o : Int) ≤ n → (putS s a (T.extract a e) fin).f n ≠ none) ∧ (fin = true → (putS s a (T.extract a e) fin).size = T.size) := by
  have hsz : (T.extract a e).size = e - a := by rw [ByteArray.size_extract]; omega
  have hend : putEnd a (T.extract a e) = e := by unfold putEnd; rw [hsz]; omega
  have ho := h.le
  have hp : placeOk a = true := by unfold placeOk; exact decide_eq_true ⟨by omega, by omega⟩
  have hfit : fitsE s (putEnd a (T.extract a e)) fin = 0 := by
    unfold fitsE
    rw [hend, h.read, w_i64 (by omega) (by omega), if_neg (by omega), if_neg, if_neg]
    · rintro ⟨h1, h2⟩
      have := hf h1; have := h.most; omega
    · rintro ⟨h1, h2⟩
      have h3 := h.size.resolve_left h1
      rw [h3] at h2
      rcases h2 with h2 | ⟨h4, h5⟩
      · omega
      · have := hf h4; omega
  have hS : putS s a (T.extract a e) fin = putBx s a (T.extract a e) fin := by unfold putS; rw [if_pos ⟨hp, hfit, h.reset⟩]
  refine ⟨by unfold putE; rw [if_pos hp]; exact hfit, ?_, ?_, ?_⟩
  · rw [hS]
    refine ⟨h.read, h.le, h.reset, ?_, ?_, fun n x hx => ?_⟩
    · have hz : (putBx s a (T.extract a e) fin).size = if fin = true then (e : Int) else s.size := by
        show (if fin = true then putEnd a (T.extract a e) else s.size) = _
        rw [hend]
      rw [hz]
      split
      · rename_i hfin; right; have := hf hfin; omega
      · exact h.size
    · show (if (T.extract a e).size = 0 then s.most else if putEnd a (T.extract a e) > s.most then putEnd a (T.extract a e) else s.most) ≤ _
      rw [hend]
      have := h.most
      split
      · exact this
      · split <;> omega
    · have hx : putF s a (T.extract a e) (T.extract a e).size n = some x := hx
      unfold putF at hx
      split at hx
      · rename_i hc
        rw [hsz, h.read] at hc
        cases hx
        exact ⟨by omega, by omega, bget_extract (by omega) (by omega) he⟩
      · exact h.keys n x hx
  · intro n h1 h2 h3
    rw [hS]
    show putF s a (T.extract a e) (T.extract a e).size n ≠ none
    unfold putF
    cases hfn : s.f n with
    | none => rw [if_pos ⟨h1, by rw [hsz]; omega, by rw [h.read]; omega, rfl⟩]; simp
    | some x => rw [if_neg (by simp)]; simp
  · intro hfin
    rw [hS]
    show (if fin = true then putEnd a (T.extract a e) else s.size) = _
    rw [if_pos hfin, hend, hf hfin]
theorem Part.take {T : ByteArray} : ∀ (m : Nat) {s : Bx} {o : Nat}, Part T s o → (readL m s).1 = (T.data.toList.drop o).take (readL m s).1.length ∧ Part T (readL m s).2 (o + (readL m s).1.length)
  | 0, s, o, h => ⟨rfl, h⟩
  | m + 1, s, o, h => by
    unfold readL
    rw [if_neg (by simp [h.reset])]
    cases hc : s.f s.read with
    | none => exact ⟨rfl, h⟩
    | some c =>
      have hk := h.keys _ _ hc
      rw [h.read] at hk
      have hl : T.data.toList.length = T.size := by rw [Array.length_toList]; rfl
      have hn : Part T s.next (o + 1) := ⟨by show s.read + 1 = _; rw [h.read]; simp, by omega, h.reset, h.size, h.most, fun n x hx => by
        have hx : (if n = s.read then none else s.f n) = some x := hx
        split at hx
        · cases hx
        · rename_i hne
          have := h.keys n x hx
          rw [h.read] at hne
          exact ⟨by omega, this.2⟩⟩
      obtain ⟨h1, h2⟩ := Part.take m hn
      refine ⟨?_, ?_⟩
      · show c :: (readL m s.next).1 = (T.data.toList.drop o).take ((readL m s.next).1.length + 1)
        have ho : o < T.data.toList.length := by omega
        rw [List.drop_eq_getElem_cons ho, List.take_succ_cons, ← h1]
        have e1 : T.data.toList[o] = c := by
          have := bget_get (s := T) (i := o) (by omega)
          rw [List.getElem?_eq_getElem ho] at this
          rw [hk.2.2]
          exact Option.some.inj this
        rw [e1]
      · show Part T (readL m s.next).2 (o + ((readL m s.next).1.length + 1))
        rw [show o + ((readL m s.next).1.length + 1) = o + 1 + (readL m s.next).1.length by omega]
        exact h2
theorem ext_add {T : ByteArray} {o : Nat} {l : List UInt8} (hl : l = (T.data.toList.drop o).take l.length) : T.extract 0 o ++ ⟨l.toArray⟩ = T.extract 0 (o + l.length) := by
  apply ByteArray.ext
  rw [ByteArray.data_append, ByteArray.data_extract, ByteArray.data_extract]
  apply Array.toList_inj.1
  rw [Array.toList_append, Array.toList_extract, Array.toList_extract, List.extract_eq_take_drop, List.extract_eq_take_drop, List.drop_zero, Nat.sub_zero, Nat.sub_zero, List.take_add]
  conv => lhs; rw [hl]
theorem ext_all {T : ByteArray} : T.extract 0 T.size = T := by
  apply ByteArray.ext
  rw [ByteArray.data_extract]
  apply Array.toList_inj.1
  rw [Array.toList_extract, List.extract_eq_take_drop, List.drop_zero, List.take_of_length_le]
  rw [Array.length_toList]
  exact Nat.le_of_eq rfl
theorem ext_size {T : ByteArray} {o : Nat} (h : o ≤ T.size) : (T.extract 0 o).size = o := by rw [ByteArray.size_extract]; omega
theorem vizardlaw11_InboxWhole.main {Hb : Heap} {T : ByteArray} (hT : T.size ≤ 2000) {p rp : Option Addr} {n c rn rc : Nat} {rows : List (List Value)} {rl : List Int} (hat : RowsAt Hb p n 2 rows) (hes : ∀ es ∈ rows, ∃ y0 y1, es = [.int .i64 y0, .int .i64 y1] ∧ IntKind.i64.has y0 ∧ IntKind.i64.has y1)
    (hri : IntsAt Hb rp rn rl) {K : Bool → Heap → Prop} {E : Value → Heap → Prop} (h : ∀ H, Heap.Le Hb H → K true H) : vizardlaw11_InboxWhole.J1 T p n c rp rn rc K E Hb := by
  have hlen := hat.1
  have hrl := hri.len
  have hra : reachBytes = 140737488351232 := rfl
  have hT4 : T.size ≤ 4000 := by omega
  refine ⟨?_⟩
  unfold vizardlaw11_InboxWhole.J1.vc
  refine inbox_New.run fun b mb H0 hb0 hnb hnm hle0 => ?_
  have hn : ∀ k ∈ [b, mb], Hb k = none := by
    intro k hk
    simp only [List.mem_cons, List.not_mem_nil, or_false] at hk
    rcases hk with rfl | rfl
    · exact hnb
    · exact hnm
  refine ⟨Loop.of (I := fun st H m => ∃ (k o : Nat) (s : Bx), st = (T.extract 0 o, (k : Int)) ∧ k ≤ 100 ∧ m = 100 - k ∧ BoxAt H b mb s ∧ Part T s o ∧ KeepL [b, mb] Hb H) ?_
    ⟨0, 0, bx0, ?_, by decide, rfl, hb0, ⟨rfl, Nat.zero_le _, rfl, .inl rfl, by show (0 : Int) ≤ _; omega, fun n x hx => by cases hx⟩, hle0.toKeep _⟩⟩
  · rintro m st H ⟨k, o, s, rfl, hk, rfl, hb, hp, hkeep⟩ RR hRR
    unfold vizardlaw11_InboxWhole.W2.vc
    dsimp only
    -- the end
    have last : ∀ (_ : True), inbox_Box_Put.c (some ⟨b, 0, none⟩) 0 T true (fun x1 h3 =>
        (if (x1 != 0) = true then K false h3 else inbox_Box_Read.c (some ⟨b, 0, none⟩) (IntKind.i64.wrap ((T.size : Int) + 1)) (fun x2 h4 => (T.extract 0 o).size + x2.size ≤ 9223372036854775807 ∧
          inbox_Box_State.c (some ⟨b, 0, none⟩) (fun x3 x4 x5 h5 => (if ((T.extract 0 o ++ x2).toList == T.toList) = true then (if (x3 == (T.size : Int)) = true then (if (x5 == 1) = true then
            inbox_Box_Read.c (some ⟨b, 0, none⟩) 5 (fun x6 h6 => K (x6.toList == (⟨#[]⟩ : ByteArray).toList) h6) E h5 else K false h5) else K false h5) else K false h5)) E h4) E h3)) E H := by
      intro _
      have h0 := hp.put hT4 (a := 0) (e := T.size) (Nat.zero_le _) (Nat.le_refl _) (fin := true) (fun _ => rfl)
      rw [ext_all] at h0
      obtain ⟨h1, h2, h3, h4⟩ := h0
      refine inbox_Box_Put.run hb ⟨by decide, by decide⟩ (by omega) fun H1 hb1 hk1 => ?_
      rw [show putE s 0 T true = 0 from h1, if_neg (by simp)]
      have h2 : Part T (putS s 0 T true) o := h2
      refine inbox_Box_Read.run hb1 (h2.fine hT4) fun H2 hb2 hk2 => ?_
      rw [w_i64 (by omega) (by omega)] at hb2 ⊢
      have hl : T.data.toList.length = T.size := by rw [Array.length_toList]; rfl
      have e5 := readL_of (T.data.toList.drop o) (putS s 0 T true) ((T.size : Int) + 1).toNat h2.reset (fun i hi => by
        rw [List.length_drop, hl] at hi
        rw [h2.read, List.getElem?_drop]
        cases hf : (putS s 0 T true).f ((o : Int) + i) with
        | none => exact absurd hf (h3 _ (by omega) (by omega) (by omega))
        | some x =>
          have := h2.keys _ _ hf
          rw [this.2.2, show (o : Int) + i = ((o + i : Nat) : Int) by simp, bget_get (by omega)]) (by
        rw [h2.read, List.length_drop, hl]
        cases hf : (putS s 0 T true).f ((o : Int) + ((T.size - o : Nat) : Int)) with
        | none => rfl
        | some x => have := h2.keys _ _ hf; have := h2.le; omega) (by rw [List.length_drop, hl]; omega)
      obtain ⟨t1, t2⟩ := h2.take ((T.size : Int) + 1).toNat
      have hol := h2.le
      have e6 : (readL ((T.size : Int) + 1).toNat (putS s 0 T true)).1.length = T.size - o := by rw [e5.1, List.length_drop, hl]
      have e7 : T.extract 0 o ++ ⟨(readL ((T.size : Int) + 1).toNat (putS s 0 T true)).1.toArray⟩ = T := by
        rw [ext_add t1, e6, show o + (T.size - o) = T.size by omega, ext_all]
      refine ⟨?_, ?_⟩
      · rw [ext_size hol]
        show o + (readL ((T.size : Int) + 1).toNat (putS s 0 T true)).1.toArray.size ≤ _
        rw [List.size_toArray, e6]; omega
      refine inbox_Box_State.run hb2 ?_
      rw [e7, if_pos (by simp), t2.read, e6, if_pos (by simp; omega)]
      have e8 : howE (readL ((T.size : Int) + 1).toNat (putS s 0 T true)).2 = 1 := by
        unfold howE
        rw [e5.2.2.1, if_neg (by simp), e5.2.2.2, t2.read, e6, show (putS s 0 T true).size = T.size from h4 rfl, if_pos (by omega)]
      rw [e8, if_pos (by simp)]
      refine inbox_Box_Read.run hb2 (t2.fine hT4) fun H3 hb3 hk3 => ?_
      have e9 : (readL (5 : Int).toNat (readL ((T.size : Int) + 1).toNat (putS s 0 T true)).2).1 = [] := by
        show (readL 5 _).1 = []
        unfold readL
        rw [if_neg (fun c => by rw [t2.reset] at c; cases c)]
        cases hf : (readL ((T.size : Int) + 1).toNat (putS s 0 T true)).2.f (readL ((T.size : Int) + 1).toNat (putS s 0 T true)).2.read with
        | none => rfl
        | some x =>
          have := t2.keys _ _ hf
          rw [t2.read, e6] at this
          omega
      rw [e9]
      have := h H3 ((((hkeep.trans (hk1.to (by simp) (by simp))).trans (hk2.to (by simp) (by simp))).trans (hk3.to (by simp) (by simp))).le hn)
      simpa using this
    by_cases hkn : (k : Int) < n
    · rw [if_pos (by simpa using hkn)]
      by_cases hk1 : (k : Int) < 100
      · rw [if_pos (by simpa using hk1)]
        refine ⟨?_⟩
        unfold vizardlaw11_InboxWhole.J3.vc
        obtain ⟨es, hget⟩ : ∃ es, rows[k]? = some es := ⟨rows[k]'(by omega), List.getElem?_eq_getElem (by omega)⟩
        obtain ⟨y0, y1, rfl, i0, i1⟩ := hes es (List.mem_of_getElem? hget)
        obtain ⟨a, rfl, fc⟩ := hat.cell hget
        have fcH : ∀ (j : Nat) (v : Value), ([.int .i64 y0, .int .i64 y1] : List Value)[j]? = some v → H.cell? ((a.add (k * 2)).add j) = some v := fun j v hj => by
          refine hkeep.cell (fc j v hj) fun hm => ?_
          exact some_ne_none_block (fc j v hj) (hn _ hm) rfl
        obtain ⟨⟨at_, hat1, hat2⟩, hat3⟩ := u64_modb (off := y0) (m := (T.size : Int) + 1) (by omega) (by omega)
        obtain ⟨q, hq1, hq2⟩ := u64_small (x := y1) (m := 500) (by decide) (by decide)
        refine ⟨a, rfl, by omega, by omega, ?_⟩
        rw [Int.toNat_natCast]
        refine ⟨y0, fcH 0 _ rfl, hat3, a, rfl, by omega, by omega, y1, fcH 1 _ rfl, by decide, ?_⟩
        rw [hat1, hq1, w_i64 (n := (at_ : Int) + q) (by omega) (by omega)]
        have hen : ∃ en : Nat, (if (at_ : Int) + q < (T.size : Int) then (at_ : Int) + q else (T.size : Int)) = en ∧ at_ ≤ en ∧ en ≤ T.size := by
          split
          · exact ⟨at_ + q, by simp, by omega, by omega⟩
          · exact ⟨T.size, rfl, by omega, Nat.le_refl _⟩
        obtain ⟨en, hen1, hen2, hen3⟩ := hen
        rw [hen1, Int.toNat_natCast, Int.toNat_natCast]
        refine ⟨by omega, by omega, by omega, ?_⟩
        have hput := hp.put hT4 hen2 hen3 (fin := ((en : Int) == (T.size : Int))) (fun e => Int.ofNat.inj (by simpa using e : (en : Int) = T.size))
        obtain ⟨p1, p2, _, _⟩ := hput
        refine inbox_Box_Put.run hb ⟨by show (-9223372036854775808 : Int) ≤ at_; omega, by show (at_ : Int) ≤ 9223372036854775807; omega⟩ (by rw [ByteArray.size_extract]; omega) fun H1 hb1 hk1 => ?_
        rw [p1, if_neg (by simp)]
        have fin : ∀ {H2 : Heap} {o2 : Nat} {s2 : Bx}, BoxAt H2 b mb s2 → Part T s2 o2 → KeepL [b, mb] Hb H2 → ∀ {Kn : Int → Heap → Prop}, (∀ H, BoxAt H b mb s2 → KeepL [b, mb] Hb H → Kn ((k + 1 : Nat) : Int) H) →
            vizardlaw11_InboxWhole.J4 T (some a) n c rp rn rc (some ⟨b, 0, none⟩) (T.extract 0 o2) k (fun h3 => vizardlaw11_InboxWhole.J6 T (some a) n c rp rn rc (some ⟨b, 0, none⟩) (T.extract 0 o2) k Kn E h3) K E H2 := by
          intro H2 o2 s2 hb2 hp2 hk2 Kn hKn
          refine ⟨?_⟩
          unfold vizardlaw11_InboxWhole.J4.vc
          have := hp2.le
          rw [ext_size this, if_neg (by simp; omega)]
          refine ⟨by omega, by omega, ⟨?_⟩⟩
          unfold vizardlaw11_InboxWhole.J5.vc
          rw [Int.toNat_natCast, if_neg (by simp)]
          refine ⟨?_⟩
          unfold vizardlaw11_InboxWhole.J6.vc
          rw [w_i64 (by omega) (by omega)]
          exact hKn _ hb2 hk2
        have hkeep1 := hkeep.trans (hk1.to (bs := [b, mb]) (by simp) (by simp))
        by_cases hkr : (k : Int) < rn
        · rw [if_pos (by simpa using hkr)]
          obtain ⟨x, hx⟩ : ∃ x, rl[k]? = some x := ⟨rl[k]'(by omega), List.getElem?_eq_getElem (by omega)⟩
          obtain ⟨ra, rfl, rc1⟩ := hri.get hx
          refine ⟨ra, rfl, by omega, by omega, x, ?_, by decide, ?_⟩
          · refine hkeep1.cell rc1 fun hm => ?_
            exact some_ne_none_block rc1 (hn _ hm) rfl
          obtain ⟨q2, hq3, hq4⟩ := u64_small (x := x) (m := 100) (by decide) (by decide)
          rw [hq3]
          refine inbox_Box_Read.run hb1 (p2.fine hT4) fun H2 hb2 hk2 => ?_
          rw [Int.toNat_natCast] at hb2 ⊢
          obtain ⟨t1, t2⟩ := p2.take q2
          rw [ext_add t1]
          refine ⟨?_, fin hb2 t2 (hkeep1.trans (hk2.to (by simp) (by simp))) fun H3 hb3 hk3 => ?_⟩
          · rw [ext_size hp.le]
            show o + (readL q2 _).1.toArray.size ≤ _
            rw [List.size_toArray]
            have := t2.le; omega
          · exact hRR _ _ (100 - (k + 1)) (by omega) ⟨k + 1, _, _, rfl, by omega, rfl, hb3, t2, hk3⟩
        · rw [if_neg (by simpa using hkr)]
          exact fin hb1 p2 hkeep1 fun H3 hb3 hk3 => hRR _ _ (100 - (k + 1)) (by omega) ⟨k + 1, _, _, rfl, by omega, rfl, hb3, p2, hk3⟩
      · rw [if_neg (by simpa using hk1)]
        exact last trivial
    · rw [if_neg (by simpa using hkn)]
      exact last trivial
  · congr 1
    apply ByteArray.ext
    rw [ByteArray.data_extract]
    simp
theorem vizardlaw11_InboxWhole.run {H : Heap} {T : ByteArray} {p rp : Option Addr} {n c rn rc : Nat} {K : Bool → Heap → Prop} {E : Value → Heap → Prop} (_ : T.size ≤ reachBytes) (_ : n ≤ c) (_ : c * 16 ≤ reachBytes)
    (hrows : ∃ rows, RowsAt H p n 2 rows ∧ ∀ es ∈ rows, ∃ y0 y1, es = [.int .i64 y0, .int .i64 y1] ∧ IntKind.i64.has y0 ∧ IntKind.i64.has y1) (_ : rn ≤ rc) (_ : rc * 8 ≤ reachBytes)
    (hrd : ∃ rows, RowsAt H rp rn 1 rows ∧ ∀ es ∈ rows, ∃ y, es = [(.int .i64 y)] ∧ IntKind.i64.has y) (h : K true H) : vizardlaw11_InboxWhole.c T p n c rp rn rc K E H := by
  obtain ⟨rows, hat, hes⟩ := hrows
  obtain ⟨l, hri, _⟩ := ints_of hrd
  refine ⟨?_⟩
  unfold vizardlaw11_InboxWhole.vc
  refine vizardlaw11_works.run ?_
  rw [if_neg (by simp)]
  by_cases hT : (T.size : Int) > 2000
  · rw [if_pos (by simpa using hT)]
    refine ⟨by decide, by omega, ?_⟩
    exact vizardlaw11_InboxWhole.main (by rw [ByteArray.size_extract]; omega) hat hes hri fun H' hl => ⟨H, hl, h⟩
  · rw [if_neg (by simpa using hT)]
    exact vizardlaw11_InboxWhole.main (by omega) hat hes hri fun H' hl => ⟨H, hl, h⟩
end Go.Sh
