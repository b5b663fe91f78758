/- That the box that sends works at all; OutboxEnd. -/
import Derived.Test.YtjbfpeeigjjbdaaOutC
namespace Go.Sh
theorem vizardlaw12_works.run {H : Heap} {K : Bool → Heap → Prop} {E : Value → Heap → Prop} (h : K true H) : vizardlaw12_works.c K E H := by
  refine ⟨?_⟩
  unfold vizardlaw12_works.vc
  refine outbox_New.run fun b H0 hb0 hnb hle0 => ?_
  rw [if_neg (by simp)]
  have hst0 : Step [] H [b] H0 := fun k o hk _ => ⟨hle0 k o hk, fun hm => by rw [List.mem_singleton] at hm; subst hm; rw [hnb] at hk; cases hk⟩
  refine outbox_Box_Write.run hb0 (by decide) (by decide) fun L H1 hb1 hs1 => ?_
  have e1 : ob0.writeS ⟨#[104, 101, 108, 108, 111]⟩ true = ⟨[104, 101, 108, 108, 111], [0, 0, 0, 0, 0], 0, 4096, 5⟩ := by kernel_rfl
  rw [e1] at hb1
  have e2 : OB.next ⟨[104, 101, 108, 108, 111], [0, 0, 0, 0, 0], 0, 4096, 5⟩ 3 = (⟨0, ⟨#[104, 101, 108]⟩, false, true⟩, ⟨[104, 101, 108, 108, 111], [1, 1, 1, 0, 0], 0, 4096, 5⟩) := by kernel_rfl
  refine outbox_Box_Next.run hb1 rfl (by decide) fun H2 hb2 hs2 => ?_
  rw [e2] at hb2 ⊢
  dsimp only at hb2 ⊢
  refine new3_le fun b0 H3 hn0 hl0 hle3 => ?_
  have q0 : b0 ∉ L := fun hm => hb2.live b0 hm hn0
  have e3 : OB.next ⟨[104, 101, 108, 108, 111], [1, 1, 1, 0, 0], 0, 4096, 5⟩ 9 = (⟨3, ⟨#[108, 111]⟩, true, true⟩, ⟨[104, 101, 108, 108, 111], [1, 1, 1, 1, 1], 1, 4096, 5⟩) := by kernel_rfl
  refine outbox_Box_Next.run (hb2.le hle3) rfl (by decide) fun H4 hb4 hs4 => ?_
  have hl0 := (hs4 b0 _ hl0 q0).1
  rw [e3] at hb4 ⊢
  dsimp only at hb4 ⊢
  refine new3_le fun b1 H5 hn1 hl1 hle5 => ?_
  have q1 : b1 ∉ L := fun hm => hb4.live b1 hm hn1
  have hl0 := hle5 _ _ hl0
  refine ⟨_, loc hl0 rfl, _, loc hl0 rfl, _, loc hl0 rfl, ?_⟩
  refine outbox_Box_Lost.run (o := 0) (hb4.le hle5) (by decide) (by decide) fun H6 hb6 hs6 => ?_
  have hl0 := (hs6 b0 _ hl0 q0).1
  have hl1 := (hs6 b1 _ hl1 q1).1
  have e4 : OB.lost ⟨[104, 101, 108, 108, 111], [1, 1, 1, 1, 1], 1, 4096, 5⟩ 0 (⟨#[104, 101, 108]⟩ : ByteArray).size false = ⟨[104, 101, 108, 108, 111], [0, 0, 0, 1, 1], 1, 4096, 5⟩ := by kernel_rfl
  rw [e4] at hb6
  have e5 : OB.next ⟨[104, 101, 108, 108, 111], [0, 0, 0, 1, 1], 1, 4096, 5⟩ 9 = (⟨0, ⟨#[104, 101, 108]⟩, false, true⟩, ⟨[104, 101, 108, 108, 111], [1, 1, 1, 1, 1], 1, 4096, 5⟩) := by kernel_rfl
  refine outbox_Box_Next.run hb6 rfl (by decide) fun H7 hb7 hs7 => ?_
  have hl0 := (hs7 b0 _ hl0 q0).1
  have hl1 := (hs7 b1 _ hl1 q1).1
  rw [e5] at hb7 ⊢
  dsimp only at hb7 ⊢
  refine new3_le fun b2 H8 hn2 hl2 hle8 => ?_
  have q2 : b2 ∉ L := fun hm => hb7.live b2 hm hn2
  have hl0 := hle8 _ _ hl0
  have hl1 := hle8 _ _ hl1
  refine ⟨_, loc hl1 rfl, _, loc hl1 rfl, _, loc hl1 rfl, ?_⟩
  refine outbox_Box_Acked.run (o := 3) (hb7.le hle8) (by decide) (by decide) fun k1 H9 hb9 hs9 => ?_
  have hl0 := (hs9 b0 _ hl0 q0).1
  have hl1 := (hs9 b1 _ hl1 q1).1
  have hl2 := (hs9 b2 _ hl2 q2).1
  refine ⟨_, loc hl2 rfl, _, loc hl2 rfl, _, loc hl2 rfl, ?_⟩
  have e6 : OB.acked ⟨[104, 101, 108, 108, 111], [1, 1, 1, 1, 1], 1, 4096, 5⟩ 3 (⟨#[108, 111]⟩ : ByteArray).size true k1 = ⟨[104, 101, 108, 108, 111], [1, 1, 1, 2, 2], 2, 4096, k1⟩ := by rfl
  rw [e6] at hb9
  refine outbox_Box_Acked.run (o := 0) hb9 (Nat.le_of_ble_eq_true rfl) (Nat.le_of_ble_eq_true rfl) fun k2 Ha hba hsa => ?_
  have hl0 := (hsa b0 _ hl0 q0).1
  have hl1 := (hsa b1 _ hl1 q1).1
  have hl2 := (hsa b2 _ hl2 q2).1
  have e7 : OB.acked ⟨[104, 101, 108, 108, 111], [1, 1, 1, 2, 2], 2, 4096, k1⟩ 0 (⟨#[104, 101, 108]⟩ : ByteArray).size false k2 = ⟨[104, 101, 108, 108, 111], [2, 2, 2, 2, 2], 2, 4096, k2⟩ := by rfl
  rw [e7] at hba
  refine outbox_Box_State.run hba (Nat.le_of_ble_eq_true rfl) ?_
  rw [if_pos rfl, if_pos rfl, if_pos rfl]
  refine ⟨_, loc hl0 rfl, _, loc hl0 rfl, _, loc hl0 rfl, ?_⟩
  refine (if_pos (by decide)).mpr ⟨_, loc hl1 rfl, _, loc hl1 rfl, _, loc hl1 rfl, ?_⟩
  refine (if_pos (by decide)).mpr ⟨_, loc hl2 rfl, _, loc hl2 rfl, _, loc hl2 rfl, _, loc hl0 rfl, _, loc hl0 rfl, _, loc hl0 rfl, ?_⟩
  refine (if_pos (by decide)).mpr ((if_pos (by kernel_rfl)).mpr ((if_pos (by kernel_rfl)).mpr ⟨H, ?_, ?_⟩))
  · exact (((((((((hst0.trans hs1).trans hs2).trans (Step.of_le hle3)).trans hs4).trans (Step.of_le hle5)).trans hs6).trans hs7).trans (Step.of_le hle8)).trans (hs9.trans hsa)).le
  · exact h
/-! ### A text of which all bytes have come as far -/
def Sx (T : List UInt8) (x f : UInt8) (k : Int) : OB := ⟨T, List.replicate T.length x, f, 4096, k⟩
theorem runL_rep {p : UInt8 → Bool} {n : Nat} {x : UInt8} (h : p x = true ∨ n = 0) : runL p (List.replicate n x) = n := by
  refine runL_eq (by simp) (fun i y hi hy => ?_) (.inl (by simp))
  rw [List.getElem?_replicate, if_pos hi] at hy
  cases hy
  rcases h with h | h
  · exact h
  · omega
theorem Sx.first {T : List UInt8} {x f : UInt8} {k : Int} (h : x ≠ 0 ∨ T = []) : (Sx T x f k).first = T.length := by
  unfold OB.first Sx
  exact runL_rep (h.imp (fun h => by simpa using h) (fun h => by rw [h]; rfl))
theorem Sx.next_end {T : List UInt8} {x : UInt8} {k most : Int} (h : x ≠ 0 ∨ T = []) (hT : T.length ≤ 4096) : (Sx T x 0 k).next most = (⟨T.length, ⟨#[]⟩, true, true⟩, Sx T x 1 k) := by
  unfold OB.next
  rw [if_pos (show (Sx T x 0 k).first = (Sx T x 0 k).text.length from Sx.first h), if_neg]
  · rfl
  · rintro (c | c)
    · exact c rfl
    · have : (4096 : Int) < T.length := c
      omega
theorem Sx.next_no {T : List UInt8} {x f : UInt8} {k most : Int} (h : x ≠ 0 ∨ T = []) (hf : f ≠ 0) : (Sx T x f k).next most = (⟨0, ⟨#[]⟩, false, false⟩, Sx T x f k) := by
  unfold OB.next
  rw [if_pos (show (Sx T x f k).first = (Sx T x f k).text.length from Sx.first h), if_pos (.inl hf)]
theorem mark_rep {n : Nat} {x y : UInt8} : mark (List.replicate n x) 0 n y = List.replicate n y := by
  apply List.ext_getElem?
  intro i
  rw [mark_get, List.getElem?_replicate, List.getElem?_replicate]
  by_cases hi : i < n
  · rw [if_pos hi, if_pos hi, Option.map_some, if_pos ⟨by omega, hi⟩]
  · rw [if_neg hi, if_neg hi]; rfl
theorem mark_rep_none {l : List UInt8} {a : Nat} {y : UInt8} : mark l a (a + 0) y = l := mark_nil
theorem Sx.next_all {T : List UInt8} {k most : Int} (h : T ≠ []) (hT : T.length ≤ 4096) (hm : T.length ≤ most) : (Sx T 0 3 k).next most = (⟨0, ⟨T.toArray⟩, false, true⟩, Sx T 1 3 k) := by
  have hpos : 0 < T.length := List.length_pos_iff.2 h
  have hf : (Sx T 0 3 k).first = 0 := by
    unfold OB.first Sx
    refine runL_eq (Nat.zero_le _) (fun i y hi => by omega) (.inr ⟨0, ?_, rfl⟩)
    rw [List.getElem?_replicate, if_pos hpos]
  have hs : (Sx T 0 3 k).stopE most = T.length := by
    unfold OB.stopE
    rw [hf]
    have hsp := OB.stop_spec (s := Sx T 0 3 k) (most := most) (a := 0) ((Sx T 0 3 k).text.length - 0) 0 rfl (Nat.zero_le _)
    have h2 : (Sx T 0 3 k).stop most 0 ((Sx T 0 3 k).text.length - 0) 0 ≤ T.length := hsp.2.1
    rcases hsp.2.2.2 with h4 | h4 | h4 | h4
    · exact h4
    · have h4 : (4096 : Int) ≤ _ := h4
      omega
    · omega
    · by_cases h5 : (Sx T 0 3 k).stop most 0 ((Sx T 0 3 k).text.length - 0) 0 = T.length
      · exact h5
      · exfalso
        apply h4
        show (List.replicate T.length 0)[_]? = _
        rw [List.getElem?_replicate, if_pos (by omega)]
  have hl : (Sx T 0 3 k).text.length = T.length := rfl
  unfold OB.next
  rw [hf, hs, hl, if_neg (by omega), if_neg (by omega)]
  have e1 : (Sx T 0 3 k).fin = 3 := rfl
  have e2 : (Sx T 0 3 k).how = List.replicate T.length 0 := rfl
  have e3 : (Sx T 0 3 k).text = T := rfl
  rw [e1, e2, e3, mark_rep, decide_eq_false (fun c => c.2 rfl), if_neg (fun c => c.1.2 rfl), List.drop_zero, Nat.sub_zero, List.take_length]
  rfl
theorem Sx.lost_end {T : List UInt8} {x : UInt8} {k : Int} : (Sx T x 1 k).lost T.length 0 true = Sx T x 0 k := by
  unfold OB.lost Sx
  rw [Nat.add_zero, lostH_nil, if_pos ⟨rfl, show (1 : UInt8) ≠ 2 by decide⟩]
theorem Sx.acked_end {T : List UInt8} {x f : UInt8} {k q : Int} : (Sx T x f k).acked T.length 0 true q = Sx T x 2 q := by
  unfold OB.acked Sx
  rw [Nat.add_zero, mark_nil, if_pos rfl]
theorem Sx.acked_all {T : List UInt8} {x f : UInt8} {k q : Int} : (Sx T x f k).acked 0 T.length false q = Sx T 2 f q := by
  unfold OB.acked Sx
  rw [Nat.zero_add, mark_rep, if_neg (by simp)]
theorem Sx.how_len {T : List UInt8} {x f : UInt8} {k : Int} : (Sx T x f k).how.length = T.length := by simp [Sx]
theorem Sx.write {T : List UInt8} {x : UInt8} {k : Int} (hk : 0 ≤ k ∧ k ≤ 2000) : (Sx T x 3 k).writeE ⟨#[]⟩ = 0 ∧ (Sx T x 3 k).writeS ⟨#[]⟩ true = Sx T x 0 k := by
  have e : (Sx T x 3 k).writeE ⟨#[]⟩ = 0 := by
    unfold OB.writeE
    rw [if_neg (fun c => c rfl), if_neg]
    show ¬ ((0 : Nat) : Int) > IntKind.i64.wrap (16384 - k)
    rw [w_i64 (by omega) (by omega)]
    omega
  refine ⟨e, ?_⟩
  unfold OB.writeS
  rw [if_pos e, if_pos rfl]
  have e2 : IntKind.i64.wrap ((Sx T x 3 k).kept + ((⟨#[]⟩ : ByteArray).size : Int)) = k := by
    show IntKind.i64.wrap (k + 0) = k
    rw [w_i64 (by omega) (by omega)]
    omega
  rw [e2]
  show OB.mk (T ++ []) (List.replicate T.length x ++ []) 0 4096 k = _
  rw [List.append_nil, List.append_nil]
  rfl
theorem ob0_write {d : ByteArray} (hd : d.size ≤ 6000) : ob0.writeE d = 0 ∧ ob0.writeS d false = Sx d.data.toList 0 3 d.size ∧ ob0.writeS d true = Sx d.data.toList 0 0 d.size := by
  have hl : d.data.toList.length = d.size := by rw [Array.length_toList]; rfl
  have e : ob0.writeE d = 0 := by
    unfold OB.writeE
    rw [if_neg (fun c => c rfl), if_neg]
    show ¬ (d.size : Int) > IntKind.i64.wrap (16384 - 0)
    rw [w_i64 (by decide) (by decide)]
    omega
  have e2 : IntKind.i64.wrap (ob0.kept + (d.size : Int)) = d.size := by
    show IntKind.i64.wrap (0 + (d.size : Int)) = _
    rw [w_i64 (by omega) (by omega)]
    omega
  refine ⟨e, ?_, ?_⟩
  · unfold OB.writeS Sx
    rw [if_pos e, e2, if_neg (by simp), hl]
    rfl
  · unfold OB.writeS Sx
    rw [if_pos e, e2, if_pos rfl, hl]
    rfl
theorem OEnd.e7 {T : List UInt8} {y : UInt8} {k : Int} (hT : T.length ≤ 1000) (hy : y = 2 ∨ T = []) {H : Heap} {b q : Nat} {L : List Nat} (hb : OA H b L (Sx T y 1 k)) (hq : H q = some (.cells #[.int .i64 T.length, .string ⟨#[]⟩, .bool true] 72)) {Kr : Bool → Heap → Prop} {E : Value → Heap → Prop}
    (h : ∀ H', Step L H L H' → Kr true H') : vizardlaw12_OutboxEnd.J7 (some ⟨b, 0, none⟩) ⟨q, 0, none⟩ false Kr E H := by
  refine ⟨?_⟩
  unfold vizardlaw12_OutboxEnd.J7.vc
  refine ⟨_, loc hq rfl, _, loc hq rfl, _, loc hq rfl, ?_⟩
  refine outbox_Box_Acked.run hb (by rw [Sx.how_len]; omega) (by rw [Sx.how_len]; exact Nat.le_refl _) fun k2 H2 hb2 hs2 => ?_
  have e : (Sx T y 1 k).acked T.length (⟨#[]⟩ : ByteArray).size true k2 = Sx T y 2 k2 := Sx.acked_end
  rw [e] at hb2
  refine outbox_Box_State.run hb2 (by rw [Sx.how_len]; omega) ?_
  refine (if_pos rfl).mpr ?_
  have e2 : (Sx T y 2 k2).pre = T.length := by
    unfold OB.pre Sx
    exact runL_rep (hy.imp (fun h => by rw [h]; rfl) (fun h => by rw [h]; rfl))
  rw [e2, decide_eq_true ⟨Sx.how_len.symm, rfl⟩]
  exact h H2 hs2
theorem OEnd.e6 {T : ByteArray} {x : UInt8} {k : Int} (hT : T.size ≤ 1000) (hx : x ≠ 0 ∨ T.data.toList = []) {H : Heap} {b q p : Nat} {L : List Nat} {ok : Bool} (hb : OA H b L (Sx T.data.toList x 1 k)) (hq : H q = some (.cells #[.int .i64 T.data.toList.length, .string ⟨#[]⟩, .bool true] 72)) (hqL : q ∉ L)
    (hp : ok = true → H p = some (.cells #[.int .i64 0, .string T, .bool false] 72) ∧ p ∉ L) (hn : ok = false → T.data.toList = []) {Kr : Bool → Heap → Prop} {E : Value → Heap → Prop}
    (h : ∀ H', Step L H L H' → Kr true H') : vizardlaw12_OutboxEnd.J6 (some ⟨b, 0, none⟩) ⟨p, 0, none⟩ ok ⟨q, 0, none⟩ Kr E H := by
  have hTl : T.data.toList.length = T.size := by rw [Array.length_toList]; rfl
  refine ⟨?_⟩
  unfold vizardlaw12_OutboxEnd.J6.vc
  refine outbox_Box_Next.run hb Sx.how_len (by show T.data.toList.length ≤ _; omega) fun H2 hb2 hs2 => ?_
  rw [Sx.next_no hx (by decide)] at hb2 ⊢
  dsimp only at hb2 ⊢
  refine new3_le fun b1 H3 hn1 hl1 hle3 => ?_
  have hq3 := hle3 _ _ (hs2 q _ hq hqL).1
  have hs3 : Step L H L H3 := hs2.trans (Step.of_le hle3)
  cases ok with
  | true =>
    obtain ⟨hp1, hp2⟩ := hp rfl
    have hp3 := hle3 _ _ (hs2 p _ hp1 hp2).1
    rw [if_pos rfl]
    refine ⟨_, loc hp3 rfl, _, loc hp3 rfl, _, loc hp3 rfl, ?_⟩
    refine outbox_Box_Acked.run (o := 0) (hb2.le hle3) (by rw [Sx.how_len]; omega) (by rw [Sx.how_len]; omega) fun k2 H4 hb4 hs4 => ?_
    rw [← hTl, Sx.acked_all] at hb4
    exact OEnd.e7 (by omega) (.inl rfl) hb4 (hs4 q _ hq3 hqL).1 fun H5 hs5 => h H5 ((hs3.trans hs4).trans hs5)
  | false =>
    rw [if_neg (by simp)]
    exact OEnd.e7 (by omega) (.inr (hn rfl)) (hb2.le hle3) hq3 fun H5 hs5 => h H5 (hs3.trans hs5)
theorem OEnd.e4 {T : ByteArray} {x : UInt8} {k : Int} (hT : T.size ≤ 1000) (hx : x ≠ 0 ∨ T.data.toList = []) {H : Heap} {b q p : Nat} {L : List Nat} {ok lost : Bool} (hb : OA H b L (Sx T.data.toList x 1 k)) (hq : H q = some (.cells #[.int .i64 T.data.toList.length, .string ⟨#[]⟩, .bool true] 72)) (hqL : q ∉ L)
    (hp : ok = true → H p = some (.cells #[.int .i64 0, .string T, .bool false] 72) ∧ p ∉ L) (hn : ok = false → T.data.toList = []) {Kr : Bool → Heap → Prop} {E : Value → Heap → Prop}
    (h : ∀ H', Step L H L H' → Kr true H') : vizardlaw12_OutboxEnd.J4 lost (some ⟨b, 0, none⟩) ⟨p, 0, none⟩ ok ⟨q, 0, none⟩ Kr E H := by
  have hTl : T.data.toList.length = T.size := by rw [Array.length_toList]; rfl
  refine ⟨?_⟩
  unfold vizardlaw12_OutboxEnd.J4.vc
  cases lost with
  | false =>
    rw [if_neg (by simp)]
    exact OEnd.e6 hT hx hb hq hqL hp hn h
  | true =>
    rw [if_pos rfl]
    refine ⟨_, loc hq rfl, _, loc hq rfl, _, loc hq rfl, ?_⟩
    refine outbox_Box_Lost.run hb (by rw [Sx.how_len]; omega) (by rw [Sx.how_len]; exact Nat.le_refl _) fun H2 hb2 hs2 => ?_
    have e : (Sx T.data.toList x 1 k).lost T.data.toList.length (⟨#[]⟩ : ByteArray).size true = Sx T.data.toList x 0 k := Sx.lost_end
    rw [e] at hb2
    refine outbox_Box_Next.run hb2 Sx.how_len (by show T.data.toList.length ≤ _; omega) fun H3 hb3 hs3 => ?_
    rw [Sx.next_end hx (by omega)] at hb3 ⊢
    dsimp only at hb3 ⊢
    refine new3_le fun b1 H4 hn1 hl1 hle4 => ?_
    have hs4 : Step L H L H4 := (hs2.trans hs3).trans (Step.of_le hle4)
    have hq4 := (hs4 q _ hq hqL).1
    rw [if_neg (by simp)]
    refine ⟨_, loc hl1 rfl, _, loc hl1 rfl, _, loc hl1 rfl, _, loc hq4 rfl, _, loc hq4 rfl, _, loc hq4 rfl, ⟨?_⟩⟩
    unfold vizardlaw12_OutboxEnd.J5.vc
    rw [if_neg (by simp [ba_refl])]
    exact OEnd.e6 hT hx (hb3.le hle4) hq4 hqL (fun ho => ⟨(hs4 p _ (hp ho).1 (hp ho).2).1, (hp ho).2⟩) hn fun H5 hs5 => h H5 (hs4.trans hs5)
theorem OEnd.e2 {T : ByteArray} {x : UInt8} {k : Int} (hT : T.size ≤ 1000) (hx : x ≠ 0 ∨ T.data.toList = []) {H : Heap} {b p : Nat} {L : List Nat} {ok lost : Bool} (hb : OA H b L (Sx T.data.toList x 0 k))
    (hp : ok = true → H p = some (.cells #[.int .i64 0, .string T, .bool false] 72) ∧ p ∉ L) (hn : ok = false → T.data.toList = []) {Kr : Bool → Heap → Prop} {E : Value → Heap → Prop}
    (h : ∀ H', Step L H L H' → Kr true H') : vizardlaw12_OutboxEnd.J2 T lost (some ⟨b, 0, none⟩) ⟨p, 0, none⟩ ok Kr E H := by
  have hTl : T.data.toList.length = T.size := by rw [Array.length_toList]; rfl
  refine ⟨?_⟩
  unfold vizardlaw12_OutboxEnd.J2.vc
  refine outbox_Box_Next.run hb Sx.how_len (by show T.data.toList.length ≤ _; omega) fun H2 hb2 hs2 => ?_
  rw [Sx.next_end hx (by omega)] at hb2 ⊢
  dsimp only at hb2 ⊢
  refine new3_le fun b1 H3 hn1 hl1 hle3 => ?_
  have hs3 : Step L H L H3 := hs2.trans (Step.of_le hle3)
  rw [if_neg (by simp)]
  refine ⟨_, loc hl1 rfl, _, loc hl1 rfl, _, loc hl1 rfl, ⟨?_⟩⟩
  unfold vizardlaw12_OutboxEnd.J3.vc
  rw [hTl, if_neg (by simp [ba_refl])]
  refine OEnd.e4 hT hx (hb2.le hle3) hl1 (fun hm => hb2.live b1 hm hn1) (fun ho => ⟨(hs3 p _ (hp ho).1 (hp ho).2).1, (hp ho).2⟩) hn fun H5 hs5 => h H5 (hs3.trans hs5)
theorem OEnd.e1 {T : ByteArray} {x : UInt8} (hT : T.size ≤ 1000) (hx : x ≠ 0 ∨ T.data.toList = []) {H : Heap} {b p : Nat} {L : List Nat} {ok lost : Bool} (hb : OA H b L (Sx T.data.toList x 3 T.size))
    (hp : ok = true → H p = some (.cells #[.int .i64 0, .string T, .bool false] 72) ∧ p ∉ L) (hn : ok = false → T.data.toList = []) {Kr : Bool → Heap → Prop} {E : Value → Heap → Prop}
    (h : ∀ L' H', Step L H L' H' → Kr true H') : outbox_Box_Write.c (some ⟨b, 0, none⟩) ⟨#[]⟩ true (fun x9 h12 => (if (x9 != 0) = true then vizardlaw12_OutboxEnd.J1 T lost (some ⟨b, 0, none⟩) ⟨p, 0, none⟩ ok true (fun h13 => vizardlaw12_OutboxEnd.J2 T lost (some ⟨b, 0, none⟩) ⟨p, 0, none⟩ ok Kr E h13) Kr E h12 else
          outbox_Box_Write.c (some ⟨b, 0, none⟩) ⟨#[120]⟩ false (fun x12 h16 => vizardlaw12_OutboxEnd.J1 T lost (some ⟨b, 0, none⟩) ⟨p, 0, none⟩ ok (x12 != 7) (fun h17 => vizardlaw12_OutboxEnd.J2 T lost (some ⟨b, 0, none⟩) ⟨p, 0, none⟩ ok Kr E h17) Kr E h16) E h12)) E H := by
  have hTl : T.data.toList.length = T.size := by rw [Array.length_toList]; rfl
  obtain ⟨u1, u2⟩ := Sx.write (T := T.data.toList) (x := x) (k := T.size) (by omega)
  have s0 : (⟨#[]⟩ : ByteArray).size = 0 := rfl
  have s1 : (⟨#[120]⟩ : ByteArray).size = 1 := rfl
  refine outbox_Box_Write.run hb (by show T.data.toList.length + _ ≤ _; omega) (by rw [Sx.how_len]; omega) fun L4 H4 hb4 hs4 => ?_
  rw [u2] at hb4
  rw [u1, if_neg (by simp)]
  have v1 : (Sx T.data.toList x 0 T.size).writeE ⟨#[120]⟩ = 7 := by unfold OB.writeE; rw [if_pos]; show (0 : UInt8) ≠ 3; decide
  have v2 : (Sx T.data.toList x 0 T.size).writeS ⟨#[120]⟩ false = Sx T.data.toList x 0 T.size := by unfold OB.writeS; rw [if_neg (by rw [v1]; decide)]
  refine outbox_Box_Write.run hb4 (by show T.data.toList.length + _ ≤ _; omega) (by rw [Sx.how_len]; omega) fun L5 H5 hb5 hs5 => ?_
  rw [v2] at hb5
  rw [v1]
  refine ⟨?_⟩
  unfold vizardlaw12_OutboxEnd.J1.vc
  rw [if_neg (by simp)]
  have hs : Step L H L5 H5 := hs4.trans hs5
  exact OEnd.e2 hT hx hb5 (fun ho => hs p _ (hp ho).1 (hp ho).2) hn fun H6 hs6 => h L5 H6 (hs.trans hs6)
theorem vizardlaw12_OutboxEnd.run {T : ByteArray} {lost : Bool} {H : Heap} {K : Bool → Heap → Prop} {E : Value → Heap → Prop} (_ : T.size ≤ reachBytes) (h : K true H) : vizardlaw12_OutboxEnd.c T lost K E H := by
  refine ⟨?_⟩
  unfold vizardlaw12_OutboxEnd.vc
  refine vizardlaw12_works.run ?_
  rw [if_neg (by simp)]
  by_cases h1 : (T.size : Int) > 1000
  · rw [if_pos (by simpa using h1)]
    exact ⟨H, Heap.Le.refl _, h⟩
  · rw [if_neg (by simpa using h1)]
    have hTl : T.data.toList.length = T.size := by rw [Array.length_toList]; rfl
    refine outbox_New.run fun b H0 hb0 hnb hle0 => ?_
    have hst0 : Step [] H [b] H0 := fun k o hk _ => ⟨hle0 k o hk, fun hm => by rw [List.mem_singleton] at hm; subst hm; rw [hnb] at hk; cases hk⟩
    obtain ⟨w1, w2, _⟩ := ob0_write (d := T) (by omega)
    refine outbox_Box_Write.run hb0 (by show 0 + T.size ≤ _; omega) (by show 0 + T.size ≤ _; omega) fun L H1 hb1 hs1 => ?_
    rw [w2] at hb1
    rw [w1, if_neg (by simp)]
    refine outbox_Box_Next.run hb1 Sx.how_len (by show T.data.toList.length ≤ _; omega) fun H2 hb2 hs2 => ?_
    by_cases hz : T.data.toList = []
    · have hT0 : T = ⟨#[]⟩ := ByteArray.ext (Array.toList_inj.1 hz)
      rw [Sx.next_no (.inr hz) (by decide)] at hb2 ⊢
      dsimp only at hb2 ⊢
      refine new3_le fun b0 H3 hn0 hl0 hle3 => ?_
      rw [if_neg (by rw [hT0]; simp)]
      exact OEnd.e1 (by omega) (.inr hz) (hb2.le hle3) (fun c => by cases c) (fun _ => hz) fun L' H' hs' => ⟨H, ((((hst0.trans hs1).trans hs2).trans (Step.of_le hle3)).trans hs').le, h⟩
    · have hT0 : (T.toList == (⟨#[]⟩ : ByteArray).toList) = false := by
        cases hc : (T.toList == (⟨#[]⟩ : ByteArray).toList) with
        | false => rfl
        | true => rw [str_eq] at hc; subst hc; exact absurd rfl hz
      rw [Sx.next_all hz (by omega) (by omega)] at hb2 ⊢
      dsimp only at hb2 ⊢
      refine new3_le fun b0 H3 hn0 hl0 hle3 => ?_
      rw [if_neg (by rw [hT0]; simp)]
      have e : (⟨T.data.toList.toArray⟩ : ByteArray) = T := ByteArray.ext (by simp)
      rw [e] at hl0
      exact OEnd.e1 (by omega) (.inl (by decide)) (hb2.le hle3) (fun _ => ⟨hl0, fun hm => hb2.live b0 hm hn0⟩) (fun c => by cases c) fun L' H' hs' => ⟨H, ((((hst0.trans hs1).trans hs2).trans (Step.of_le hle3)).trans hs').le, h⟩
end Go.Sh
