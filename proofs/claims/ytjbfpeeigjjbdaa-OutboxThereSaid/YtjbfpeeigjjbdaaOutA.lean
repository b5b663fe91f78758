/- What the functions of the box of a stream that is sent compute. -/
import Derived.Test.YtjbfpeeigjjbdaaShV
import Derived.Test.YtjbfpeeigjjbdaaGout
namespace Go.Sh
structure OB where
  text : List UInt8
  how : List UInt8
  fin : UInt8
  limit : Int
  kept : Int
def OB.cells (s : OB) (tp : Option Addr) (tc : Nat) (hp : Option Addr) (hc : Nat) : Array Value := #[.slice tp s.text.length tc, .slice hp s.how.length hc, byV s.fin, .int .i64 s.limit, .int .i64 s.kept]
structure OAt (H : Heap) (b : Nat) (tp : Option Addr) (tc : Nat) (hp : Option Addr) (hc : Nat) (s : OB) : Prop where
  box : ∃ e, H b = some (.cells (s.cells tp tc hp hc) e)
  t : OwnRows H 5 1 tp s.text.length tc (vrow s.text)
  h : OwnRows H 98 1 hp s.how.length hc (vrow s.how)
  d1 : b ∉ bl tp
  d2 : b ∉ bl hp
  d3 : ∀ k ∈ bl tp, k ∉ bl hp
def fpO (b : Nat) (tp hp : Option Addr) : List Nat := b :: (bl tp ++ bl hp)
def OA (H : Heap) (b : Nat) (L : List Nat) (s : OB) : Prop := ∃ tp tc hp hc, OAt H b tp tc hp hc s ∧ L = fpO b tp hp
theorem OA.step {H H' : Heap} {b : Nat} {L M M' : List Nat} {s : OB} (h : OA H b L s) (hs : Step M H M' H') (hn : ∀ k ∈ L, k ∉ M) : OA H' b L s := by
  obtain ⟨tp, tc, hp, hc, h, rfl⟩ := h
  obtain ⟨⟨e, he⟩, ht, hh, d1, d2, d3⟩ := h
  exact ⟨tp, tc, hp, hc, ⟨⟨e, (hs b _ he (hn b (by simp [fpO]))).1⟩, ht.step hs fun k hk => hn k (by simp [fpO, hk]), hh.step hs fun k hk => hn k (by simp [fpO, hk]), d1, d2, d3⟩, rfl⟩
theorem OA.le {H H' : Heap} {b : Nat} {L : List Nat} {s : OB} (h : OA H b L s) (hl : Heap.Le H H') : OA H' b L s := h.step (Step.of_le (L := []) hl) (by simp)
theorem OA.live {H : Heap} {b : Nat} {L : List Nat} {s : OB} (h : OA H b L s) : ∀ k ∈ L, H k ≠ none := by
  obtain ⟨tp, tc, hp, hc, h, rfl⟩ := h
  intro k hk
  simp only [fpO, List.mem_cons, List.mem_append] at hk
  rcases hk with rfl | hk | hk
  · obtain ⟨e, he⟩ := h.box
    rw [he]; simp
  · exact h.t.live k hk
  · exact h.h.live k hk
theorem OAt.cell {H : Heap} {b : Nat} {tp hp : Option Addr} {tc hc : Nat} {s : OB} (h : OAt H b tp tc hp hc s) {o : Nat} {v : Value} (hv : (s.cells tp tc hp hc)[o]? = some v) : H.cell? ((⟨b, 0, none⟩ : Addr).add o) = some v := by
  obtain ⟨e, he⟩ := h.box
  exact loc he hv
theorem OAt.set {H : Heap} {b : Nat} {tp hp : Option Addr} {tc hc : Nat} {s s' : OB} (h : OAt H b tp tc hp hc s) {o : Nat} {v : Value} {K : Heap → Prop} (hs : (s.cells tp tc hp hc).setIfInBounds o v = s'.cells tp tc hp hc) (h1 : s'.text = s.text) (h2 : s'.how = s.how) (ho : o < 5)
    (hk : ∀ H', OAt H' b tp tc hp hc s' → Step (fpO b tp hp) H (fpO b tp hp) H' → K H') : stc H ((⟨b, 0, none⟩ : Addr).add o) v K := by
  obtain ⟨⟨e, he⟩, ht, hh, d1, d2, d3⟩ := h
  have hst : Step [b] H [b] (H.set b (.cells ((s.cells tp tc hp hc).setIfInBounds o v) e)) := Step.set _ _ _
  refine stc_loc he (by simpa [OB.cells] using ho) (hk _ ⟨⟨e, by rw [set_self, hs]⟩, ?_, ?_, d1, d2, d3⟩ (hst.frame (fun k hk => by simp only [fpO, List.mem_cons, not_or] at hk; simpa using hk.1) fun k hk _ => hk))
  · rw [h1]; exact ht.step hst fun k hk => not_one d1 hk
  · rw [h2]; exact hh.step hst fun k hk => not_one d2 hk
theorem OAt.setHow {H : Heap} {b : Nat} {tp hp : Option Addr} {tc hc : Nat} {s : OB} (h : OAt H b tp tc hp hc s) {i : Nat} (hi : i < s.how.length) {x : UInt8} {K : Heap → Prop} {a : Addr} (ha : hp = some a)
    (hk : ∀ H', OAt H' b tp tc hp hc { s with how := s.how.set i x } → Step (fpO b tp hp) H (fpO b tp hp) H' → K H') : stc H (a.add (i * 1)) (byV x) K := by
  obtain ⟨⟨e, he⟩, ht, hh, d1, d2, d3⟩ := h
  refine own_set hh hi ha fun H' h1 h2 => hk H' ⟨⟨e, ?_⟩, ht.step h2 d3, ?_, d1, d2, d3⟩ (h2.frame (fun k hk => by simp only [fpO, List.mem_cons, List.mem_append, not_or] at hk; exact hk.2.2) fun k hk _ => hk)
  · rw [(h2 b _ he d2).1]
    simp [OB.cells]
  · simpa using h1
def ob0 : OB := ⟨[], [], 3, 4096, 0⟩
theorem outbox_New.run {H : Heap} {K : Option Addr → Heap → Prop} {E : Value → Heap → Prop} (h : ∀ b H', OA H' b [b] ob0 → H b = none → Heap.Le H H' → K (some ⟨b, 0, none⟩) H') : outbox_New.c K E H := by
  refine ⟨?_⟩
  unfold outbox_New.vc
  intro b hb
  refine ⟨_, Heap.Le.refl _, h b _ ⟨none, 0, none, 0, ⟨⟨_, by rw [set_self]; rfl⟩, ⟨rfl, vrow_len _, Nat.le_refl _, .inl ⟨rfl, rfl⟩⟩, ⟨rfl, vrow_len _, Nat.le_refl _, .inl ⟨rfl, rfl⟩⟩, by simp [bl], by simp [bl], by simp [bl]⟩, rfl⟩ hb (Le_set hb _)⟩
theorem outbox_Box_Allow.run {H : Heap} {b : Nat} {L : List Nat} {s : OB} (hb : OA H b L s) {n : Int} {K : Heap → Prop} {E : Value → Heap → Prop}
    (h : ∀ H', OA H' b L { s with limit := if n > s.limit then n else s.limit } → Step L H L H' → K H') : outbox_Box_Allow.c (some ⟨b, 0, none⟩) n K E H := by
  obtain ⟨tp, tc, hp, hc, hb, rfl⟩ := hb
  refine ⟨?_⟩
  unfold outbox_Box_Allow.vc
  refine ⟨_, rfl, s.limit, hb.cell rfl, _, rfl, ?_⟩
  exact hb.set (s' := { s with limit := if n > s.limit then n else s.limit }) rfl rfl rfl (by decide) fun H' h1 h2 => ⟨H', Heap.Le.refl _, h H' ⟨tp, tc, hp, hc, h1, rfl⟩ h2⟩
def OB.writeE (s : OB) (d : ByteArray) : Int := if s.fin ≠ 3 then 7 else if (d.size : Int) > IntKind.i64.wrap (16384 - s.kept) then 4 else 0
def OB.writeS (s : OB) (d : ByteArray) (fin : Bool) : OB :=
  if s.writeE d = 0 then { text := s.text ++ d.data.toList, how := s.how ++ List.replicate d.size 0, fin := if fin = true then 0 else s.fin, limit := s.limit, kept := IntKind.i64.wrap (s.kept + d.size) } else s
theorem byteVals_flat (d : ByteArray) : byteVals d = (vrow d.data.toList).flatten := by rw [vrow_flat]; rfl
theorem zerosOf_flat (n : Nat) : zerosOf (.int .u8 0) n = (vrow (List.replicate n 0)).flatten := by
  rw [vrow_flat]
  unfold zerosOf Builtin.zeroCells
  have hs : (Value.int IntKind.u8 0).cells.size = 1 := rfl
  rw [hs, Nat.mul_one, List.map_replicate]
  apply List.ext_getElem?
  intro i
  rw [Array.getElem?_toList, Array.getElem?_map, Array.getElem?_range, List.getElem?_replicate]
  split
  · simp only [Option.map_some, Nat.mod_one]; rfl
  · rfl
theorem plain_vrow {l : List UInt8} : ∀ v ∈ (vrow l).flatten, plainCell1 v = true := by
  intro v hv
  rw [vrow_flat] at hv
  obtain ⟨x, _, rfl⟩ := List.mem_map.1 hv
  rfl
theorem byV_ne {x : UInt8} {n : Nat} (hn : n < 256) : (((x.toNat : Int) != (n : Int)) = true) ↔ x ≠ UInt8.ofNat n := by
  rw [bne_iff_ne]
  constructor
  · intro h e; subst e
    apply h
    rw [UInt8.toNat_ofNat_of_lt' hn]
  · intro h e
    apply h
    apply UInt8.toNat_inj.1
    rw [UInt8.toNat_ofNat_of_lt' hn]
    omega
theorem byV_eq {x : UInt8} {n : Nat} (hn : n < 256) : (((x.toNat : Int) == (n : Int)) = true) ↔ x = UInt8.ofNat n := by
  have := byV_ne (x := x) hn
  rw [beq_iff_eq]
  rw [bne_iff_ne] at this
  constructor
  · intro h
    by_cases he : x = UInt8.ofNat n
    · exact he
    · exact absurd h (this.2 he)
  · intro h
    by_cases he : ((x.toNat : Int)) = n
    · exact he
    · exact absurd h (this.1 he)
theorem outbox_Box_Write.run {H : Heap} {b : Nat} {L : List Nat} {s : OB} (hb : OA H b L s) {d : ByteArray} {fin : Bool} (hl : s.text.length + d.size ≤ 1000000) (hh : s.how.length + d.size ≤ 1000000) {K : Int → Heap → Prop} {E : Value → Heap → Prop}
    (h : ∀ L' H', OA H' b L' (s.writeS d fin) → Step L H L' H' → K (s.writeE d) H') : outbox_Box_Write.c (some ⟨b, 0, none⟩) d fin K E H := by
  have hb0 := hb
  obtain ⟨tp, tc, hp, hc, hb, rfl⟩ := hb
  refine ⟨?_⟩
  unfold outbox_Box_Write.vc
  refine ⟨_, rfl, (s.fin.toNat : Int), hb.cell rfl, ?_⟩
  by_cases h1 : s.fin = 3
  · refine (if_neg (fun c => (byV_ne (n := 3) (by decide)).1 c h1)).mpr ⟨_, rfl, s.kept, hb.cell rfl, ?_⟩
    by_cases h2 : (d.size : Int) > IntKind.i64.wrap (16384 - s.kept)
    · refine (if_pos (by simpa using h2)).mpr ⟨H, Heap.Le.refl H, ?_⟩
      have he : s.writeE d = 4 := by unfold OB.writeE; rw [if_neg (by simp [h1]), if_pos h2]
      have := h _ H (by unfold OB.writeS; rw [if_neg (by rw [he]; decide)]; exact hb0) (Step.refl _ _)
      rwa [he] at this
    · refine (if_neg (by simpa using h2)).mpr ?_
      have he : s.writeE d = 0 := by unfold OB.writeE; rw [if_neg (by simp [h1]), if_neg h2]
      rw [he] at h
      unfold OB.writeS at h
      rw [if_pos he] at h
      have hdl : d.data.toList.length = d.size := by rw [Array.length_toList]; rfl
      refine ⟨_, rfl, tp, s.text.length, tc, hb.cell rfl, ?_⟩
      obtain ⟨⟨e, hbx⟩, ht, hho, d1, d2, d3⟩ := hb
      refine appT_step (xs := vrow d.data.toList) ht (by decide) rfl (byteVals_flat d) (by simp [vrow, hdl]) (vrow_len _) (by rw [byteVals_flat]; exact plain_vrow) (by omega) (by omega) fun tp' tc' H1 ht1 hs1 => ?_
      have hbx1 := hs1 b _ hbx d1
      have hho1 := hho.step hs1 fun k hk hk2 => d3 k hk2 hk
      have d31 : ∀ k ∈ bl tp', k ∉ bl hp := fun k hk hk2 => by
        have := hho.live k hk2
        cases ho : H k with
        | none => exact this ho
        | some o => exact (hs1 k o ho fun hk3 => d3 k hk3 hk2).2 hk
      refine ⟨_, rfl, stc_loc hbx1.1 (by simp [OB.cells]) ?_⟩
      have hst2 := Step.set H1 b (.cells ((s.cells tp tc hp hc).setIfInBounds 0 (.slice tp' (s.text.length + d.size) tc')) e)
      have hbx2 := set_self H1 b (.cells ((s.cells tp tc hp hc).setIfInBounds 0 (.slice tp' (s.text.length + d.size) tc')) e)
      generalize H1.set b (.cells ((s.cells tp tc hp hc).setIfInBounds 0 (.slice tp' (s.text.length + d.size) tc')) e) = H2 at hst2 hbx2 ⊢
      have ht2 := ht1.step hst2 fun k hk => not_one hbx1.2 hk
      have hho2 := hho1.step hst2 fun k hk => not_one d2 hk
      refine ⟨?_⟩
      unfold outbox_Box_Write.J1.vc
      refine ⟨_, rfl, hp, s.how.length, hc, loc hbx2 rfl, by omega, by omega, by omega, ?_⟩
      rw [Int.toNat_natCast]
      refine appT_step (xs := vrow (List.replicate d.size 0)) hho2 (by decide) rfl (zerosOf_flat _) (by simp [vrow]) (vrow_len _) (by rw [zerosOf_flat]; exact plain_vrow) (by omega) (by omega) fun hp' hc' H3 hho3 hs3 => ?_
      have hbx3 := hs3 b _ hbx2 d2
      have ht3 := ht2.step hs3 d31
      have d33 : ∀ k ∈ bl tp', k ∉ bl hp' := fun k hk hk2 => by
        have := ht2.live k hk
        cases ho : H2 k with
        | none => exact this ho
        | some o => exact (hs3 k o ho fun hk3 => d31 k hk hk3).2 hk2
      refine ⟨_, rfl, stc_loc hbx3.1 (by simp [OB.cells]) ?_⟩
      generalize hC : ((s.cells tp tc hp hc).setIfInBounds 0 (.slice tp' (s.text.length + d.size) tc')).setIfInBounds 1 (.slice hp' (s.how.length + d.size) hc') = C
      have hst4 := Step.set H3 b (.cells C e)
      have hbx4 := set_self H3 b (.cells C e)
      generalize H3.set b (.cells C e) = H4 at hst4 hbx4 ⊢
      subst hC
      have ht4 := ht3.step hst4 fun k hk => not_one hbx1.2 hk
      have hho4 := hho3.step hst4 fun k hk => not_one hbx3.2 hk
      have hall : OAt H4 b tp' tc' hp' hc' { s with text := s.text ++ d.data.toList, how := s.how ++ List.replicate d.size 0 } := by
        refine ⟨⟨e, ?_⟩, ?_, ?_, hbx1.2, hbx3.2, d33⟩
        · rw [hbx4]
          simp [OB.cells, hdl]
        · simpa [vrow, hdl] using ht4
        · simpa [vrow, hdl] using hho4
      have hst : Step (fpO b tp hp) H (fpO b tp' hp') H4 := by
        intro k o hk hn
        simp only [fpO, List.mem_cons, List.mem_append, not_or] at hn ⊢
        have k1 := hs1 k o hk hn.2.1
        have k2 := hst2 k o k1.1 (by simpa using hn.1)
        have k3 := hs3 k o k2.1 hn.2.2
        have k4 := hst4 k o k3.1 (by simpa using hn.1)
        exact ⟨k4.1, hn.1, k1.2, k3.2⟩
      refine ⟨?_⟩
      unfold outbox_Box_Write.J2.vc
      refine ⟨_, rfl, s.kept, hall.cell rfl, _, rfl, ?_⟩
      refine hall.set (s' := { s with text := s.text ++ d.data.toList, how := s.how ++ List.replicate d.size 0, kept := IntKind.i64.wrap (s.kept + d.size) }) rfl rfl rfl (by decide) fun H5 h5 hs5 => ?_
      cases fin with
      | true =>
        rw [if_pos rfl]
        refine ⟨_, rfl, ?_⟩
        refine h5.set (s' := { s with text := s.text ++ d.data.toList, how := s.how ++ List.replicate d.size 0, kept := IntKind.i64.wrap (s.kept + d.size), fin := 0 }) rfl rfl rfl (by decide) fun H6 h6 hs6 => ?_
        exact ⟨H6, Heap.Le.refl _, h _ H6 ⟨_, _, _, _, h6, rfl⟩ ((hst.trans hs5).trans hs6)⟩
      | false =>
        rw [if_neg (by simp)]
        exact ⟨H5, Heap.Le.refl _, h _ H5 ⟨_, _, _, _, h5, rfl⟩ (hst.trans hs5)⟩
  · refine (if_pos ((byV_ne (n := 3) (by decide)).2 h1)).mpr ⟨H, Heap.Le.refl H, ?_⟩
    have he : s.writeE d = 7 := by unfold OB.writeE; rw [if_pos h1]
    have := h _ H (by unfold OB.writeS; rw [if_neg (by rw [he]; decide)]; exact hb0) (Step.refl _ _)
    rwa [he] at this
end Go.Sh
