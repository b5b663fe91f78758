/- OutboxPieces: pieces follow one another. -/
import Derived.Test.YtjbfpeeigjjbdaaOutD
import Derived.Test.YtjbfpeeigjjbdaaInboxE
namespace Go.Sh
theorem ext_list (T : ByteArray) (a e : Nat) : T.extract a e = ⟨((T.data.toList.drop a).take (e - a)).toArray⟩ := by
  apply ByteArray.ext
  rw [ByteArray.data_extract]
  apply Array.toList_inj.1
  rw [Array.toList_extract, List.extract_eq_take_drop]
def Py (T : List UInt8) (a : Nat) (M k : Int) : OB := ⟨T, mark (List.replicate T.length 0) 0 a 1, 3, M, k⟩
theorem Py.how_len {T : List UInt8} {a : Nat} {M k : Int} : (Py T a M k).how.length = T.length := by simp [Py, mark_len]
theorem Py.get {T : List UInt8} {a : Nat} {M k : Int} {i : Nat} (hi : i < T.length) : (Py T a M k).how[i]? = some (if i < a then 1 else 0) := by
  show (mark (List.replicate T.length 0) 0 a 1)[i]? = _
  rw [mark_get, List.getElem?_replicate, if_pos hi, Option.map_some]
  by_cases h : i < a
  · rw [if_pos h, if_pos ⟨Nat.zero_le _, h⟩]
  · rw [if_neg h, if_neg (fun c => h c.2)]
theorem Py.first {T : List UInt8} {a : Nat} {M k : Int} (ha : a ≤ T.length) : (Py T a M k).first = a := by
  unfold OB.first
  refine runL_eq (by rw [Py.how_len]; exact ha) (fun i x hi hx => ?_) ?_
  · rw [Py.get (by omega), if_pos hi] at hx
    cases hx
    rfl
  · by_cases h : a = T.length
    · exact .inl (by rw [Py.how_len]; exact h)
    · exact .inr ⟨0, by rw [Py.get (by omega), if_neg (by omega)], rfl⟩
theorem mark_mark {l : List UInt8} {a e : Nat} {x : UInt8} (h : a ≤ e) : mark (mark l 0 a x) a e x = mark l 0 e x := by
  apply List.ext_getElem?
  intro i
  rw [mark_get, mark_get, mark_get]
  cases l[i]? with
  | none => rfl
  | some y =>
    simp only [Option.map_some]
    by_cases h1 : i < a
    · rw [if_neg (by omega), if_pos ⟨Nat.zero_le _, h1⟩, if_pos ⟨Nat.zero_le _, by omega⟩]
    · by_cases h2 : i < e
      · rw [if_pos ⟨by omega, h2⟩, if_pos ⟨Nat.zero_le _, h2⟩]
      · rw [if_neg (fun c => h2 c.2), if_neg (fun c => h1 c.2), if_neg (fun c => h2 c.2)]
theorem Py.next {T : List UInt8} {a : Nat} {M k most : Int} (ha : a ≤ T.length) (hM : (a : Int) ≤ M) (hm : 1 ≤ most) :
    (((a : Int) = M ∨ a = T.length) ∧ (Py T a M k).next most = (⟨0, ⟨#[]⟩, false, false⟩, Py T a M k)) ∨
    ∃ e, a < e ∧ e ≤ T.length ∧ (e : Int) ≤ M ∧ (e : Int) - a ≤ most ∧ ((e : Int) - a < most → e = T.length ∨ (e : Int) = M) ∧ (Py T a M k).next most = (⟨a, ⟨((T.drop a).take (e - a)).toArray⟩, false, true⟩, Py T e M k) := by
  have hl : (Py T a M k).text.length = T.length := rfl
  have e1 : (Py T a M k).fin = 3 := rfl
  have e2 : (Py T a M k).how = mark (List.replicate T.length 0) 0 a 1 := rfl
  have e3 : (Py T a M k).text = T := rfl
  by_cases h : a = T.length
  · refine .inl ⟨.inr h, ?_⟩
    unfold OB.next
    rw [Py.first ha, hl, if_pos h, if_pos (.inl (by rw [e1]; decide))]
  · have hsp := OB.stop_spec (s := Py T a M k) (most := most) (a := a) ((Py T a M k).text.length - a) a rfl ha
    have hE : (Py T a M k).stop most a ((Py T a M k).text.length - a) a = (Py T a M k).stopE most := by unfold OB.stopE; rw [Py.first ha]
    rw [hE] at hsp
    obtain ⟨h1, h2, h3, h4⟩ := hsp
    rw [hl] at h2 h4
    have hMl : (Py T a M k).limit = M := rfl
    rw [hMl] at h3 h4
    generalize hee : (Py T a M k).stopE most = e at h1 h2 h3 h4
    have hfr : e < T.length → (Py T a M k).how[e]? = some 0 := fun hlt => by rw [Py.get hlt, if_neg (by omega)]
    by_cases h5 : e = a
    · subst h5
      refine .inl ⟨.inl ?_, ?_⟩
      · rcases h4 with h4 | h4 | h4 | h4
        · exact absurd h4 h
        · omega
        · omega
        · exact absurd (hfr (by omega)) h4
      · unfold OB.next
        rw [Py.first ha, hl, if_neg h, hee, if_pos rfl]
    · have hlast := h3 (e - 1) (by omega) (by omega)
      refine .inr ⟨e, by omega, h2, by omega, by omega, fun hlt => ?_, ?_⟩
      · rcases h4 with h4 | h4 | h4 | h4
        · exact .inl h4
        · exact .inr (by omega)
        · omega
        · by_cases h6 : e = T.length
          · exact .inl h6
          · exact absurd (hfr (by omega)) h4
      · unfold OB.next
        rw [Py.first ha, hl, if_neg h, hee, if_neg h5, e1, decide_eq_false (fun c => c.2 rfl), if_neg (fun c => c.1.2 rfl), e2, e3, mark_mark h1]
        rfl
theorem vizardlaw12_OutboxPieces.loop {H0 : Heap} {b : Nat} {L : List Nat} {T : ByteArray} {M most k0 : Int} (hT : T.size ≤ 6000) (hM : 4096 ≤ M) (hm : 1 ≤ most) (hb : OA H0 b L (Py T.data.toList 0 M k0)) {Kx : Int → Heap → Prop} {Kr : Bool → Heap → Prop} {E : Value → Heap → Prop}
    (hx : ∀ H, Step L H0 L H → Kx (if (T.size : Int) < M then (T.size : Int) else M) H) : vizardlaw12_OutboxPieces.W2 T most (some ⟨b, 0, none⟩) M 0 Kx Kr E H0 := by
  have hTl : T.data.toList.length = T.size := by rw [Array.length_toList]; rfl
  refine ⟨Loop.of (I := fun st H m => ∃ a : Nat, st = (a : Int) ∧ a ≤ T.size ∧ (a : Int) ≤ M ∧ m = T.size - a ∧ OA H b L (Py T.data.toList a M k0) ∧ Step L H0 L H) ?_ ⟨0, rfl, Nat.zero_le _, by omega, rfl, hb, Step.refl _ _⟩⟩
  rintro m st H ⟨a, rfl, ha, haM, rfl, hb, hst⟩ RR hRR
  unfold vizardlaw12_OutboxPieces.W2.vc
  refine outbox_Box_Next.run hb Py.how_len (by show T.data.toList.length ≤ _; omega) fun H2 hb2 hs2 => ?_
  rcases Py.next (T := T.data.toList) (a := a) (M := M) (k := k0) (most := most) (by omega) haM hm with ⟨h1, h2⟩ | ⟨e, h1, h2, h3, h4, h5, h6⟩
  · rw [h2] at hb2 ⊢
    dsimp only at hb2 ⊢
    refine new3_le fun b1 H3 hn1 hl1 hle3 => ?_
    rw [if_pos (by simp)]
    have := hx H3 ((hst.trans hs2).trans (Step.of_le hle3))
    have e1 : (if (T.size : Int) < M then (T.size : Int) else M) = a := by
      split <;> omega
    rw [e1] at this
    exact this
  · rw [h6] at hb2 ⊢
    dsimp only at hb2 ⊢
    refine new3_le fun b1 H3 hn1 hl1 hle3 => ?_
    rw [if_neg (by simp)]
    refine ⟨_, loc hl1 rfl, _, loc hl1 rfl, ?_⟩
    rw [hTl] at h2 h5
    have hsz : (⟨((T.data.toList.drop a).take (e - a)).toArray⟩ : ByteArray).size = e - a := by
      show ((T.data.toList.drop a).take (e - a)).toArray.size = _
      rw [List.size_toArray, List.length_take, List.length_drop]
      omega
    rw [hsz]
    have hw : IntKind.i64.wrap ((a : Int) + ((e - a : Nat) : Int)) = (e : Int) := by rw [w_i64 (by omega) (by omega)]; omega
    rw [hw]
    rw [if_neg (by simp), if_neg (by rw [decide_eq_true_eq]; omega), if_neg (by rw [decide_eq_true_eq]; omega)]
    refine ⟨_, loc hl1 rfl, ?_⟩
    dsimp only
    rw [if_neg (fun c => by cases c), if_neg (by rw [decide_eq_true_eq]; omega)]
    refine ⟨by omega, by omega, by omega, _, loc hl1 rfl, ?_⟩
    dsimp only
    rw [Int.toNat_natCast, Int.toNat_natCast, ext_list, if_neg (by simp)]
    have nx : vizardlaw12_OutboxPieces.J4 T most (some ⟨b, 0, none⟩) M a ((e - a : Nat) : Int) RR E H3 := ⟨by
      unfold vizardlaw12_OutboxPieces.J4.vc
      rw [hw]
      exact hRR _ _ (T.size - e) (by omega) ⟨e, rfl, h2, h3, rfl, hb2.le hle3, (hst.trans hs2).trans (Step.of_le hle3)⟩⟩
    have j3 : ∀ {x : Bool}, x = false → vizardlaw12_OutboxPieces.J3 T most (some ⟨b, 0, none⟩) M a ((e - a : Nat) : Int) x (fun h24 => vizardlaw12_OutboxPieces.J4 T most (some ⟨b, 0, none⟩) M a ((e - a : Nat) : Int) RR E h24) Kr E H3 := fun hx => ⟨by
      unfold vizardlaw12_OutboxPieces.J3.vc
      rw [if_neg (by simp [hx])]
      exact nx⟩
    by_cases h7 : ((e - a : Nat) : Int) < most
    · rw [if_pos (by simpa using h7)]
      refine j3 ?_
      have h8 := h5 (by omega)
      have : (e : Int) = (if (T.size : Int) < M then (T.size : Int) else M) := by
        split <;> omega
      rw [← this]
      simp
    · rw [if_neg (by simpa using h7)]
      exact j3 rfl
theorem vizardlaw12_OutboxPieces.main {T : ByteArray} (hT : T.size ≤ 6000) {most limit : Int} {H : Heap} {Kr : Bool → Heap → Prop} {E : Value → Heap → Prop} (h : ∀ H', Heap.Le H H' → Kr true H') : vizardlaw12_OutboxPieces.J1 T most limit Kr E H := by
  have hTl : T.data.toList.length = T.size := by rw [Array.length_toList]; rfl
  refine ⟨?_⟩
  unfold vizardlaw12_OutboxPieces.J1.vc
  refine ⟨by decide, ?_⟩
  obtain ⟨q, hq, hq2⟩ := u64_small (x := most) (m := 300) (by decide) (by decide)
  rw [hq, w_i64 (n := 1 + (q : Int)) (by omega) (by omega)]
  refine outbox_New.run fun b H0 hb0 hnb hle0 => ?_
  have hst0 : Step [] H [b] H0 := fun k o hk _ => ⟨hle0 k o hk, fun hm => by rw [List.mem_singleton] at hm; subst hm; rw [hnb] at hk; cases hk⟩
  refine outbox_Box_Allow.run hb0 fun H1 hb1 hs1 => ?_
  have hM : 4096 ≤ (if limit > 4096 then limit else 4096) := by split <;> omega
  change OA H1 b [b] ⟨[], [], 3, if limit > 4096 then limit else 4096, 0⟩ at hb1
  generalize (if limit > 4096 then limit else 4096) = M at hM hb1 ⊢
  have we : (⟨[], [], 3, M, 0⟩ : OB).writeE T = 0 := by
    unfold OB.writeE
    rw [if_neg (fun c => c rfl), if_neg]
    show ¬ (T.size : Int) > IntKind.i64.wrap (16384 - 0)
    rw [w_i64 (by decide) (by decide)]
    omega
  have ws : (⟨[], [], 3, M, 0⟩ : OB).writeS T false = Py T.data.toList 0 M T.size := by
    unfold OB.writeS Py
    rw [if_pos we, if_neg (by simp), mark_nil, hTl]
    show OB.mk ([] ++ T.data.toList) ([] ++ List.replicate T.size 0) 3 M (IntKind.i64.wrap (0 + (T.size : Int))) = _
    rw [w_i64 (by omega) (by omega), List.nil_append, List.nil_append, Int.zero_add]
  refine outbox_Box_Write.run hb1 (by show 0 + T.size ≤ _; omega) (by show 0 + T.size ≤ _; omega) fun L H2 hb2 hs2 => ?_
  rw [ws] at hb2
  rw [we, if_neg (by simp)]
  refine vizardlaw12_OutboxPieces.loop hT hM (by omega) hb2 fun H3 hs3 => ?_
  have := h H3 (((hst0.trans hs1).trans hs2).trans hs3).le
  simpa using this
theorem vizardlaw12_OutboxPieces.run {T : ByteArray} {most limit : Int} {H : Heap} {K : Bool → Heap → Prop} {E : Value → Heap → Prop} (_ : T.size ≤ reachBytes) (_ : IntKind.i64.has most) (_ : IntKind.i64.has limit) (h : K true H) : vizardlaw12_OutboxPieces.c T most limit K E H := by
  refine ⟨?_⟩
  unfold vizardlaw12_OutboxPieces.vc
  refine vizardlaw12_works.run ?_
  rw [if_neg (by simp)]
  by_cases hT : (T.size : Int) > 6000
  · rw [if_pos (by simpa using hT)]
    refine ⟨by decide, by omega, ?_⟩
    exact vizardlaw12_OutboxPieces.main (by rw [ByteArray.size_extract]; omega) fun H' hl => ⟨H, hl, h⟩
  · rw [if_neg (by simpa using hT)]
    exact vizardlaw12_OutboxPieces.main (by omega) fun H' hl => ⟨H, hl, h⟩
end Go.Sh
