/- A sealing key: its parts, hiding, marks, Seal, Open. -/
import Derived.Test.YtkfkkkalcchpkaaGreatDoorSeaB
namespace Go.Sh
set_option maxRecDepth 8000
def cipherB : ByteArray := ⟨#[99, 105, 112, 104, 101, 114]⟩
def tagB : ByteArray := ⟨#[116, 97, 103]⟩
def keyC (s : List UInt8) : List UInt8 := derive s [99, 105, 112, 104, 101, 114] []
def keyT (s : List UInt8) : List UInt8 := derive s [116, 97, 103] []
theorem keyC_len (s : List UInt8) : (keyC s).length = 32 := hmac_len _ _
theorem keyT_len (s : List UInt8) : (keyT s).length = 32 := hmac_len _ _
def headR (s : ByteArray) (d m : Int) : List Value := [.string s, .int .u32 d, .int .i32 m, .int .u32 0]
def zeroR : List Value := [(.int .u32 0), (.int .u32 0), (.int .u32 0), (.int .u32 0), (.int .u32 0), (.int .u32 0), (.int .u32 0), (.int .u32 0), (.slice none 0 0), (.int .u64 0), (.int .u32 0), (.int .u32 0), (.int .u32 0), (.int .u32 0), (.int .u32 0), (.int .u32 0), (.int .u32 0), (.int .u32 0), (.slice none 0 0), (.int .u64 0)]
def endR (a o : Int) : List Value := [.int .i64 a, .int .i64 o]
def keyR (d m : Int) (s : ByteArray) (c t : List Value) (a o : Int) : List Value := headR s d m ++ c ++ (t ++ endR a o)
theorem macRow_len (k : List UInt8) : (macRow k).length = 20 := rfl
/-- A key that stands in a block: made, or not yet. -/
def KeyDone (H : Heap) (b : Nat) (s : ByteArray) (a o : Int) : Prop := 1 < b ∧ H b = some (.cells (keyR 1 0 s (macRow (keyC s.data.toList)) (macRow (keyT s.data.toList)) a o).toArray 216)
def KeyAt (H : Heap) (b : Nat) (s : ByteArray) (a o : Int) : Prop := KeyDone H b s a o ∨ (1 < b ∧ H b = some (.cells (keyR 0 0 s zeroR zeroR a o).toArray 216))
/-- Nothing else that is known has turned. -/
def Only (b : Nat) (H H' : Heap) : Prop := ∀ k o, H k = some o → k ≠ b → H' k = some o
theorem Only.of_le {b : Nat} {H H' : Heap} (h : Heap.Le H H') : Only b H H' := fun k o hk _ => h k o hk
theorem Only.trans {b : Nat} {H H1 H2 : Heap} (h : Only b H H1) (g : Only b H1 H2) : Only b H H2 := fun k o hk hn => g k o (h k o hk hn) hn
theorem Only.set {b : Nat} {H : Heap} (o : Obj) : Only b H (H.set b o) := fun k o' hk hn => by rw [set_ne _ _ hn]; exact hk
theorem Only.cell {b : Nat} {H H' : Heap} (h : Only b H H') {a : Addr} {v : Value} (hc : H.cell? a = some v) (hn : a.block ≠ b) : H'.cell? a = some v := by
  unfold Heap.cell? at hc ⊢
  cases hb : H a.block with
  | none => rw [hb] at hc; cases hc
  | some o => rw [h _ _ hb hn]; rw [hb] at hc; exact hc
theorem Tabs.only {b : Nat} {H H' : Heap} (h : Tabs H) (ho : Only b H H') (hb : 1 < b) : Tabs H' :=
  ⟨fun i x hi => ho.cell (h.k i x hi) (by show (1 : Nat) ≠ b; omega), fun i x hi => ho.cell (h.s i x hi) (by show (0 : Nat) ≠ b; omega)⟩
theorem KeyDone.le {H H' : Heap} {b : Nat} {s : ByteArray} {a o : Int} (h : KeyDone H b s a o) (hl : Heap.Le H H') : KeyDone H' b s a o := ⟨h.1, hl _ _ h.2⟩
theorem KeyAt.le {H H' : Heap} {b : Nat} {s : ByteArray} {a o : Int} (h : KeyAt H b s a o) (hl : Heap.Le H H') : KeyAt H' b s a o := h.elim (fun h => .inl (h.le hl)) (fun h => .inr ⟨h.1, hl _ _ h.2⟩)
theorem KeyAt.only {H H' : Heap} {b c : Nat} {s : ByteArray} {a o : Int} (h : KeyAt H b s a o) (ho : Only c H H') (hn : b ≠ c) : KeyAt H' b s a o := h.elim (fun h => .inl ⟨h.1, ho _ _ h.2 hn⟩) (fun h => .inr ⟨h.1, ho _ _ h.2 hn⟩)
theorem KeyAt.lt {H : Heap} {b : Nat} {s : ByteArray} {a o : Int} (h : KeyAt H b s a o) : 1 < b := h.elim (·.1) (·.1)
theorem KeyDone.rowC {H : Heap} {b : Nat} {s : ByteArray} {a o : Int} (h : KeyDone H b s a o) : RowO H b (headR s 1 0) (macRow (keyC s.data.toList)) (macRow (keyT s.data.toList) ++ endR a o) 216 := h.2
theorem KeyDone.rowT {H : Heap} {b : Nat} {s : ByteArray} {a o : Int} (h : KeyDone H b s a o) : RowO H b (headR s 1 0 ++ macRow (keyC s.data.toList)) (macRow (keyT s.data.toList)) (endR a o) 216 := by
  unfold RowO
  rw [h.2]
  unfold keyR
  simp only [List.append_assoc]
theorem KeyDone.ldC {H : Heap} {b : Nat} {s : ByteArray} {a o : Int} (h : KeyDone H b s a o) : ∀ (i : Nat) (v : Value), (macRow (keyC s.data.toList))[i]? = some v → H.cell? (((⟨b, 0, none⟩ : Addr).add 4).add i) = some v := fun i v hi => h.rowC.get hi
theorem KeyDone.ldT {H : Heap} {b : Nat} {s : ByteArray} {a o : Int} (h : KeyDone H b s a o) : ∀ (i : Nat) (v : Value), (macRow (keyT s.data.toList))[i]? = some v → H.cell? (((⟨b, 0, none⟩ : Addr).add 24).add i) = some v := fun i v hi => h.rowT.get hi
theorem mac_code {k : List UInt8} (hk : k.length ≤ 64) {H : Heap} {s : ByteArray} (hs : s.size ≤ 100000000000) (ht : IntsIn H 1 .u32 kTab) {K : ByteArray → Heap → Prop} {E : Value → Heap → Prop} (h : ∀ H', Heap.Le H H' → K ⟨(hmac k s.data.toList).toArray⟩ H') :
    seal_mac_code.c (wv (padS k 0x36).a) (wv (padS k 0x36).b) (wv (padS k 0x36).c) (wv (padS k 0x36).d) (wv (padS k 0x36).e) (wv (padS k 0x36).f) (wv (padS k 0x36).g) (wv (padS k 0x36).h) none 0 0 64 (wv (padS k 0x5C).a) (wv (padS k 0x5C).b) (wv (padS k 0x5C).c) (wv (padS k 0x5C).d) (wv (padS k 0x5C).e) (wv (padS k 0x5C).f) (wv (padS k 0x5C).g) (wv (padS k 0x5C).h) none 0 0 64 s K E H := by
  have := seal_mac_code.run (key := ⟨k.toArray⟩) (s := s) (by rw [ba_size]; omega) hs ht (K := K) (E := E)
  rw [ba_list k] at this
  exact this h
theorem keyed_list {k : List UInt8} (hk : k.length ≤ 64) {H : Heap} (ht : IntsIn H 1 .u32 kTab) {K : Int → Int → Int → Int → Int → Int → Int → Int → Option Addr → Nat → Nat → Int → Int → Int → Int → Int → Int → Int → Int → Int → Option Addr → Nat → Nat → Int → Heap → Prop} {E : Value → Heap → Prop}
    (h : ∀ H', Heap.Le H H' → K (wv (padS k 0x36).a) (wv (padS k 0x36).b) (wv (padS k 0x36).c) (wv (padS k 0x36).d) (wv (padS k 0x36).e) (wv (padS k 0x36).f) (wv (padS k 0x36).g) (wv (padS k 0x36).h) none 0 0 64 (wv (padS k 0x5C).a) (wv (padS k 0x5C).b) (wv (padS k 0x5C).c) (wv (padS k 0x5C).d) (wv (padS k 0x5C).e) (wv (padS k 0x5C).f) (wv (padS k 0x5C).g) (wv (padS k 0x5C).h) none 0 0 64 H') : seal_keyed.c ⟨k.toArray⟩ K E H := by
  have := seal_keyed.run (key := ⟨k.toArray⟩) (H := H) (by rw [ba_size]; omega) ht (K := K) (E := E)
  rw [ba_list k] at this
  exact this h
theorem RowO.le {H H' : Heap} {b : Nat} {hd row tl : List Value} {e : TypeId} (h : RowO H b hd row tl e) (hl : Heap.Le H H') : RowO H' b hd row tl e := hl _ _ h
theorem seal_Key_parts.run {H : Heap} {b : Nat} {s : ByteArray} {a o : Int} (hs : s.size ≤ 100000) (h : KeyAt H b s a o) (ht : Tabs H) {K : Heap → Prop} {E : Value → Heap → Prop} (hk : ∀ H', KeyDone H' b s a o → Only b H H' → K H') : seal_Key_parts.c (some ⟨b, 0, none⟩) K E H := by
  refine ⟨?_⟩
  unfold seal_Key_parts.vc
  refine newB_le fun p H1 hn1 hl1 hle1 => ?_
  have gp0 : H1.cell? (⟨p, 0, none⟩ : Addr) = some (.pointer (some ⟨b, 0, none⟩)) := loc (o := 0) hl1 rfl
  refine ⟨_, gp0, _, rfl, ⟨?_⟩⟩
  rcases h with h | ⟨hb, h⟩
  · have h1 := h.le hle1
    exact ⟨b, 1, _, 216, rfl, h1.2, .inl ⟨1, by decide, rfl, H1, Heap.Le.refl _, hk H1 h1 (Only.of_le hle1)⟩⟩
  · have h1 := hle1 _ _ h
    refine ⟨b, 1, _, 216, rfl, h1, .inr ⟨rfl, rfl, ⟨p, 0, none⟩, rfl, ?_⟩⟩
    have npb : p ≠ b := fun e => by subst e; rw [h] at hn1; cases hn1
    have e0 : (keyR 0 0 s zeroR zeroR a o).toArray.setIfInBounds (1 + 1) (.int .i32 1) = (keyR 0 1 s zeroR zeroR a o).toArray := rfl
    rw [e0]
    have hk1 := set_self H1 b (.cells (keyR 0 1 s zeroR zeroR a o).toArray 216)
    have o1 : Only b H (H1.set b (.cells (keyR 0 1 s zeroR zeroR a o).toArray 216)) := (Only.of_le hle1).trans (Only.set _)
    have gp : (H1.set b (.cells (keyR 0 1 s zeroR zeroR a o).toArray 216)).cell? (⟨p, 0, none⟩ : Addr) = some (.pointer (some ⟨b, 0, none⟩)) := (Only.set _).cell gp0 npb
    generalize H1.set b (.cells (keyR 0 1 s zeroR zeroR a o).toArray 216) = H2 at hk1 o1 gp ⊢
    have t2 := ht.only o1 hb
    show seal_Key_parts_1.c _ _ _ _
    refine ⟨?_⟩
    unfold seal_Key_parts_1.vc
    have gs : ∀ {H' : Heap} {c : List Value} {t : List Value}, H' b = some (.cells (keyR 0 1 s c t a o).toArray 216) → H'.cell? ((⟨b, 0, none⟩ : Addr).add 0) = some (.string s) := fun h' => loc h' rfl
    refine ⟨_, gp, _, gp, _, rfl, _, gs hk1, ?_⟩
    refine sha_Derive.run hs (by decide) (by decide) t2 fun H3 hle3 => ?_
    have gp3 := Le_cell hle3 gp
    refine ⟨⟨_, gp3, rfl, rfl⟩, ?_⟩
    refine keyed_list (k := keyC s.data.toList) (by rw [keyC_len]; decide) (t2.up hle3).k fun H4 hle4 => ?_
    have gp4 := Le_cell hle4 gp3
    have hk4 := (hle3.trans hle4) _ _ hk1
    refine ⟨⟨_, gp4, rfl, rfl⟩, _, rfl, ?_⟩
    have r4 : RowO H4 b (headR s 0 1) zeroR (zeroR ++ endR a o) 216 := hk4
    refine put20 r4 rfl rfl fun H5 h5 s5 => ?_
    have hk5 : H5 b = some (.cells (keyR 0 1 s (macRow (keyC s.data.toList)) zeroR a o).toArray 216) := h5
    have o5 : Only b H H5 := (o1.trans (Only.of_le (hle3.trans hle4))).trans fun k ob hk hn => (s5 k ob hk (by simpa using hn)).1
    have gp5 : H5.cell? (⟨p, 0, none⟩ : Addr) = some (.pointer (some ⟨b, 0, none⟩)) := s5.cell gp4 (by simpa using npb)
    refine ⟨_, gp5, _, gp5, _, rfl, _, gs hk5, ?_⟩
    have t5 := ht.only o5 hb
    refine sha_Derive.run hs (by decide) (by decide) t5 fun H6 hle6 => ?_
    have gp6 := Le_cell hle6 gp5
    refine ⟨⟨_, gp6, rfl, rfl⟩, ?_⟩
    refine keyed_list (k := keyT s.data.toList) (by rw [keyT_len]; decide) (t5.up hle6).k fun H7 hle7 => ?_
    have gp7 := Le_cell hle7 gp6
    refine ⟨⟨_, gp7, rfl, rfl⟩, _, rfl, ?_⟩
    have r7 : RowO H7 b (headR s 0 1 ++ macRow (keyC s.data.toList)) zeroR (endR a o) 216 := by
      unfold RowO
      rw [(hle6.trans hle7) _ _ hk5]
      unfold keyR
      simp only [List.append_assoc]
    refine put20 r7 rfl rfl fun H8 h8 s8 => ?_
    have hk8 : H8 b = some (.cells (keyR 0 1 s (macRow (keyC s.data.toList)) (macRow (keyT s.data.toList)) a o).toArray 216) := by
      unfold RowO at h8
      rw [h8]
      unfold keyR
      simp only [List.append_assoc]
      rfl
    have o8 : Only b H H8 := (o5.trans (Only.of_le (hle6.trans hle7))).trans fun k ob hk hn => (s8 k ob hk (by simpa using hn)).1
    refine ⟨H8, Heap.Le.refl _, rfl, _, hk8, ⟨_, rfl⟩, rfl, _, Heap.Le.refl _, hk _ ⟨hb, ?_⟩ (o8.trans (Only.set _))⟩
    rw [set_self]
    rfl
end Go.Sh
