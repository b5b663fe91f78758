/- The document's connections: made, dialled, accepted, the first packet; ConnHello. -/
import Derived.Test.YtkfkkkalcchpkaaGreatDoorCoB
import Derived.ChangeArms
namespace Go.Sh
open Go.Proofs Go.RowKit
set_option maxRecDepth 8000
/-- A connection's cells, by the document. -/
def rfX (psk cid : ByteArray) (srv : Bool) (theirs ours : ByteArray) (ph : Int) (hl : Bool) (ha : Int) (wel : Bool) (x0 x1 x2 p : Option Addr) (n c m : Nat) : Array Value :=
  #[.string psk, .string cid, .bool srv, .string theirs, .string ours, .int .i64 ph, .int .i64 0, .bool false, .bool hl, .int .i64 ha, .bool wel, .bool false, .int .i64 0, .pointer x0, .pointer x1, .pointer x2, .slice p n c, .map (some m), .slice none 0 0, .slice none 0 0]
section
variable {H : Heap} {E : Value → Heap → Prop}
/-- What is kept while the streams are made. -/
structure FI (H : Heap) (b : Nat) (psk cid theirs ours : ByteArray) (x0 x1 x2 : Option Addr) (m : Nat) (n : Nat) (H' : Heap) : Prop where
  h : ∃ p c rows, H' b = some (.cells (rfX psk cid false theirs ours 0 false 0 false x0 x1 x2 p n c m) 77) ∧ OwnRows H' 140 1 p n c rows ∧ b ∉ bl p ∧ Step [] H (bl p) H'
theorem FI.add {b : Nat} {psk cid theirs ours : ByteArray} {x0 x1 x2 : Option Addr} {m n : Nat} {Hc Hd : Heap} (hbH : H b = none) {p : Option Addr} {c : Nat} {rows : List (List Value)} (hb : Hc b = some (.cells (rfX psk cid false theirs ours 0 false 0 false x0 x1 x2 p n c m) 77)) (ho : OwnRows Hc 140 1 p n c rows) (hbp : b ∉ bl p) (hst : Step [] H (bl p) Hc) (hle : Heap.Le Hc Hd) (hn : n ≤ 1000)
    {v : Option Addr} {K : Heap → Prop} (hk : ∀ H', FI H b psk cid theirs ours x0 x1 x2 m (n + 1) H' → K H') :
    appT 140 (.pointer none) p n 1 c 1 8 [.pointer v] (fun p0 n0 c1 h5 => nilc (some ⟨b, 0, none⟩) fun a1 => stc h5 (a1.add 16) (.slice p0 n0 c1) fun h6 => K h6) Hd := by
  refine appT_step (xs := [[.pointer v]]) (ho.le hle) (by decide) rfl rfl rfl (by simp) (by simp [plainCell1]) (by omega) (by omega) fun p' c' H2 h1 h2 => ?_
  have hbd := hle _ _ hb
  obtain ⟨hb2, hbp2⟩ := h2 b _ hbd hbp
  refine ⟨_, rfl, stc_to (o := 16) (arr' := rfX psk cid false theirs ours 0 false 0 false x0 x1 x2 p' (n + 1) c' m) hb2 (show 16 < 20 by decide) rfl (hk _ ⟨p', c', _, set_self _ _ _, h1.keep (fun ob o hp hob => ?_), hbp2, fun k o hk0 _ => ?_⟩)⟩
  · rw [set_ne _ _ (fun e => hbp2 (by rw [hp, ← e]; simp [bl]))]
    exact hob
  · obtain ⟨k1, k2⟩ := hst k o hk0 (by simp)
    obtain ⟨k3, k4⟩ := h2 k o (hle _ _ k1) k2
    exact ⟨by rw [set_ne _ _ (fun e => by rw [e, hbH] at hk0; cases hk0)]; exact k3, k4⟩
theorem vizardref13_fresh.J2.run {b : Nat} {psk cid theirs ours : ByteArray} {x0 x1 x2 : Option Addr} {m n : Nat} {i : Int} {x : Bool} {Hc : Heap} (hbH : H b = none) (hf : FI H b psk cid theirs ours x0 x1 x2 m n Hc) (hn : n ≤ 1000) {Kn : Heap → Prop} (hk : ∀ H', FI H b psk cid theirs ours x0 x1 x2 m (n + 1) H' → Kn H') :
    vizardref13_fresh.J2 ⟨b, 0, none⟩ i x Kn E Hc := by
  obtain ⟨p, c, rows, hb, ho, hbp, hst⟩ := hf.h
  refine ⟨?_⟩
  unfold vizardref13_fresh.J2.vc
  cases x with
  | true =>
    rw [if_pos rfl]
    refine ⟨_, rfl, _, _, _, loc (o := 16) hb rfl, ?_⟩
    refine vizardref11_New.run fun y1 H1 hle1 => ⟨⟨_, _, _, loc (o := 16) (hle1 _ _ hb) rfl, rfl, rfl⟩, ?_⟩
    refine vizardref12_Make.run fun y2 H2 hle2 => ⟨⟨_, _, _, loc (o := 16) (hle2 _ _ (hle1 _ _ hb)) rfl, rfl, rfl⟩, ?_⟩
    refine newB_le fun b3 H3 hn3 hl3 hle3 => ⟨⟨_, _, _, loc (o := 16) (hle3 _ _ (hle2 _ _ (hle1 _ _ hb))) rfl, rfl, rfl⟩, ?_⟩
    refine newB_le fun b4 H4 hn4 hl4 hle4 => ⟨⟨_, _, _, loc (o := 16) (hle4 _ _ (hle3 _ _ (hle2 _ _ (hle1 _ _ hb)))) rfl, rfl, rfl⟩, ?_⟩
    have l4 := ((hle1.trans hle2).trans hle3).trans hle4
    refine ⟨[.pointer (some ⟨b3, 0, none⟩)], rfl, (fun ad ha i v hi => ?_), (fun hh => by cases hh), FI.add hbH hb ho hbp hst l4 hn hk⟩
    cases ha
    cases i with
    | zero =>
      have : Value.pointer (some ⟨b3, 0, none⟩) = v := by simpa using hi
      subst this
      exact loc hl4 rfl
    | succ i => simp at hi
  | false =>
    rw [if_neg (by simp)]
    refine ⟨_, rfl, _, _, _, loc (o := 16) hb rfl, ?_⟩
    refine newB_le fun b4 H4 hn4 hl4 hle4 => ?_
    refine ⟨[.pointer none], rfl, (fun ad ha i v hi => ?_), (fun hh => by cases hh), FI.add hbH hb ho hbp hst hle4 hn hk⟩
    cases ha
    cases i with
    | zero =>
      have : Value.pointer none = v := by simpa using hi
      subst this
      exact loc hl4 rfl
    | succ i => simp at hi
theorem vizardref13_fresh.run {psk cid theirs ours : ByteArray} {K : Option Addr → Heap → Prop} (h : ∀ b H' x0 x1 x2 p n c m, H b = none → Heap.Le H H' → H' b = some (.cells (rfX psk cid false theirs ours 0 false 0 false x0 x1 x2 p n c m) 77) → K (some ⟨b, 0, none⟩) H') : vizardref13_fresh.c psk cid theirs ours K E H := by
  refine ⟨newB_le fun a0 H1 hn1 hl1 hle1 => newB_le fun a1 H2 hn2 hl2 hle2 => ?_⟩
  refine vizardref10_New.run fun x2 H3 hle3 => ?_
  refine newB_le fun m H4 hn4 hl4 hle4 => newB_le fun b H5 hn5 hl5 hle5 => ?_
  have l4 := ((hle1.trans hle2).trans hle3).trans hle4
  have hbH : H b = none := by
    cases hh : H b with
    | none => rfl
    | some o => rw [l4 _ _ hh] at hn5; cases hn5
  have l5 := l4.trans hle5
  refine ⟨Loop.of (I := fun st H' mm => ∃ i : Nat, st = (i : Int) ∧ i ≤ 32 ∧ mm = 32 - i ∧ FI H b psk cid theirs ours (some ⟨a0, 0, none⟩) (some ⟨a1, 0, none⟩) x2 m i H') ?_ ⟨0, rfl, by decide, rfl, ⟨none, 0, [], hl5, ⟨rfl, by simp, Nat.le_refl _, .inl ⟨rfl, rfl⟩⟩, by simp [bl], fun k o hk _ => ⟨l5 _ _ hk, by simp [bl]⟩⟩⟩⟩
  rintro mm st H' ⟨i, rfl, hi, rfl, hf⟩ RR hRR
  unfold vizardref13_fresh.W1.vc
  by_cases hlt : i < 32
  · rw [if_pos (by rw [decide_eq_true_eq]; omega)]
    have next : ∀ {H'' : Heap}, FI H b psk cid theirs ours (some ⟨a0, 0, none⟩) (some ⟨a1, 0, none⟩) x2 m (i + 1) H'' → vizardref13_fresh.J3 ⟨b, 0, none⟩ (i : Int) (fun s H => RR s H) E H'' := fun hf2 => ⟨by
      unfold vizardref13_fresh.J3.vc
      rw [w_i64 (by omega) (by omega)]
      exact hRR _ _ (32 - (i + 1)) (by omega) ⟨i + 1, by simp, by omega, rfl, hf2⟩⟩
    refine ⟨by decide, ?_⟩
    split
    · exact vizardref13_fresh.J2.run hbH hf (by omega) fun H'' hf2 => next hf2
    · split
      · exact vizardref13_fresh.J2.run hbH hf (by omega) fun H'' hf2 => next hf2
      · exact vizardref13_fresh.J2.run hbH hf (by omega) fun H'' hf2 => next hf2
  · rw [if_neg (by rw [decide_eq_true_eq]; omega)]
    obtain ⟨p, c, rows, hb, _, _, hst⟩ := hf.h
    exact ⟨H', Heap.Le.refl _, h b H' _ _ _ p i c m hbH (fun k o hk => (hst k o hk (by simp)).1) hb⟩
theorem vizardref13_Dial.J1.run {a b c : ByteArray} {x : Bool} {Kn : Heap → Prop} {Kr : Option Addr → Int → Heap → Prop} (h1 : x = true → Kr none 3 H) (h0 : x = false → Kn H) : vizardref13_Dial.J1 a b c x Kn Kr E H := by
  refine ⟨?_⟩
  unfold vizardref13_Dial.J1.vc
  cases x with
  | true => rw [if_pos rfl]; exact h1 rfl
  | false => rw [if_neg (by simp)]; exact h0 rfl
theorem vizardref13_Dial.run {psk cid nonce : ByteArray} {K : Option Addr → Int → Heap → Prop} (h1 : cid.size = 8 → nonce.size = 16 → ∀ b H' x0 x1 x2 p n c m, H b = none → Heap.Le H H' → H' b = some (.cells (rfX psk cid false nonce ⟨#[]⟩ 1 false 0 false x0 x1 x2 p n c m) 77) → K (some ⟨b, 0, none⟩) 0 H') (h0 : ¬ (cid.size = 8 ∧ nonce.size = 16) → K none 3 H) : vizardref13_Dial.c psk cid nonce K E H := by
  refine ⟨?_⟩
  unfold vizardref13_Dial.vc
  by_cases hc : cid.size = 8
  · rw [if_neg (by simp [hc])]
    refine vizardref13_Dial.J1.run (fun hx => ⟨H, Heap.Le.refl _, h0 fun hn => ?_⟩) (fun hx => ⟨?_⟩)
    · rw [bne_iff_ne] at hx
      exact hx (by rw [hn.2]; rfl)
    · have hn : nonce.size = 16 := by rw [bne_eq_false_iff_eq] at hx; omega
      unfold vizardref13_Dial.J2.vc
      refine vizardref13_fresh.run fun b H1 x0 x1 x2 p n c m hn0 hle hb => ⟨_, rfl, ?_⟩
      refine stc_to (o := 5) (arr' := rfX psk cid false nonce ⟨#[]⟩ 1 false 0 false x0 x1 x2 p n c m) hb (show 5 < 20 by decide) rfl ⟨_, Heap.Le.refl _, h1 hc hn b _ x0 x1 x2 p n c m hn0 (fun k o hk => ?_) (set_self _ _ _)⟩
      rw [set_ne _ _ (fun e => by rw [e, hn0] at hk; cases hk)]
      exact hle _ _ hk
  · rw [if_pos (by simp; omega)]
    exact vizardref13_Dial.J1.run (fun _ => ⟨H, Heap.Le.refl _, h0 fun hn => hc hn.1⟩) (fun e => by cases e)
theorem vizardref13_Accept.J1.run {a b c d : ByteArray} {x : Bool} {Kn : Heap → Prop} {Kr : Option Addr → Int → Heap → Prop} (h1 : x = true → Kr none 3 H) (h0 : x = false → Kn H) : vizardref13_Accept.J1 a b c d x Kn Kr E H := by
  refine ⟨?_⟩
  unfold vizardref13_Accept.J1.vc
  cases x with
  | true => rw [if_pos rfl]; exact h1 rfl
  | false => rw [if_neg (by simp)]; exact h0 rfl
theorem vizardref13_Accept.run {psk cid theirs nonce : ByteArray} {K : Option Addr → Int → Heap → Prop} (h1 : (cid.size = 8 ∧ theirs.size = 16 ∧ nonce.size = 16) → ∀ x H', Heap.Le H H' → K (some x) 0 H') (h0 : ¬ (cid.size = 8 ∧ theirs.size = 16 ∧ nonce.size = 16) → K none 3 H) : vizardref13_Accept.c psk cid theirs nonce K E H := by
  refine ⟨?_⟩
  unfold vizardref13_Accept.vc
  by_cases hc : cid.size = 8
  · rw [if_neg (by simp [hc])]
    by_cases hth : theirs.size = 16
    · rw [if_neg (by simp [hth])]
      refine vizardref13_Accept.J1.run (fun hx => ⟨H, Heap.Le.refl _, h0 fun hn => ?_⟩) (fun hx => ⟨?_⟩)
      · rw [bne_iff_ne] at hx
        exact hx (by rw [hn.2.2]; rfl)
      · have hn : nonce.size = 16 := by rw [bne_eq_false_iff_eq] at hx; omega
        unfold vizardref13_Accept.J2.vc
        refine vizardref13_fresh.run fun b H1 x0 x1 x2 p n c m hn0 hle hb => ⟨_, rfl, ?_⟩
        refine stc_to (o := 2) (arr' := rfX psk cid true theirs nonce 0 false 0 false x0 x1 x2 p n c m) hb (show 2 < 20 by decide) rfl ⟨_, rfl, ?_⟩
        refine stc_to (o := 5) (arr' := rfX psk cid true theirs nonce 2 false 0 false x0 x1 x2 p n c m) (set_self _ _ _) (show 5 < 20 by decide) rfl ⟨_, rfl, ?_⟩
        refine stc_to (o := 10) (arr' := rfX psk cid true theirs nonce 2 false 0 true x0 x1 x2 p n c m) (set_self _ _ _) (show 10 < 20 by decide) rfl ?_
        rw [set_set, set_set]
        refine ⟨_, Heap.Le.refl _, h1 ⟨hc, hth, hn⟩ _ _ fun k o hk => ?_⟩
        rw [set_ne _ _ (fun e => by rw [e, hn0] at hk; cases hk)]
        exact hle _ _ hk
    · rw [if_pos (by simp; omega)]
      exact vizardref13_Accept.J1.run (fun _ => ⟨H, Heap.Le.refl _, h0 fun hn => hth hn.2.1⟩) (fun e => by cases e)
  · rw [if_pos (by simp; omega)]
    exact vizardref13_Accept.J1.run (fun _ => ⟨H, Heap.Le.refl _, h0 fun hn => hc hn.1⟩) (fun e => by cases e)
theorem vizardref13_head.run {cid : ByteArray} (hc : cid.size ≤ 1000) {K : ByteArray → Heap → Prop} (h : ∀ H', Heap.Le H H' → K (headB 1 cid) H') : vizardref13_head.c 1 cid 0 K E H := by
  have hz1 : ((⟨#[1]⟩ : ByteArray) ++ cid).size = cid.size + 1 := by rw [ByteArray.size_append]; have : (⟨#[1]⟩ : ByteArray).size = 1 := rfl; omega
  have hb0 : (⟨(beN 0 4).toArray⟩ : ByteArray) = ⟨#[0, 0, 0, 0]⟩ := rfl
  have hz4 : (⟨#[0, 0, 0, 0]⟩ : ByteArray).size = 4 := rfl
  have e1 : (⟨#[1]⟩ : ByteArray).size = 1 := rfl
  refine ⟨⟨?_, ?_⟩⟩
  · refine newB_le fun b1 H1 hn1 hl1 hle1 => ?_
    refine one_bytes (x := 1) hl1 ⟨by omega, ?_⟩
    refine vizardref01_Bytes.run (n := 0) (k := 4) (by decide) (by decide) fun H2 hle2 => ?_
    rw [hb0]
    exact ⟨one_bytes (x := 1) (hle2 _ _ hl1) ⟨rfl, rfl⟩, by omega, H2, Heap.Le.refl _, h H2 (hle1.trans hle2)⟩
  · refine vizardref01_Bytes.run (n := 0) (k := 4) (by decide) (by decide) fun H2 hle2 => ?_
    rw [hb0]
    refine newB_le fun b1 H1 hn1 hl1 hle1 => ?_
    exact one_bytes (x := 1) hl1 ⟨by omega, by omega, H1, Heap.Le.refl _, h H1 (hle2.trans hle1)⟩
theorem vizardref13_Pack.run {s cid data : ByteArray} (hs : s.size ≤ 100000) (hc : cid.size ≤ 1000) (hd : data.size ≤ 1000) {K : ByteArray → Heap → Prop} (h : ∀ H', Heap.Le H H' → K (pktB s.data.toList 1 cid data) H') : vizardref13_Pack.c s 1 cid 0 data K E H := by
  have hz := head_size 1 cid
  refine ⟨vizardref13_head.run hc fun H1 hle1 => ?_⟩
  refine vizardref06_Seal.run hs (by omega) (by omega) fun H2 hle2 => ?_
  have hsl : (sealL s.data.toList (un 0) (headB 1 cid).data.toList data.data.toList).length = data.size + 16 := by rw [sealL_len, size_listB]
  have e : (⟨(sealL s.data.toList (un 0) (headB 1 cid).data.toList data.data.toList).toArray⟩ : ByteArray).size = (sealL s.data.toList (un 0) (headB 1 cid).data.toList data.data.toList).length := ba_size _
  refine ⟨?_, H2, Heap.Le.refl _, h H2 (hle1.trans hle2)⟩
  rw [hz, e, hsl]
  omega
theorem vizardref13_Conn_Send.run {b : Nat} {psk cid nonce o0 : ByteArray} {srv wel : Bool} {x0 x1 x2 p : Option Addr} {n c m : Nat} (hp : psk.size ≤ 100000) (hc : cid.size ≤ 1000) (hd : nonce.size ≤ 1000)
    (hb : H b = some (.cells (rfX psk cid srv nonce o0 1 false 0 wel x0 x1 x2 p n c m) 77)) {K : ByteArray → Bool → Heap → Prop} (h : ∀ H', Only b H H' → K (pktB (deriveB psk helloB ⟨#[]⟩).data.toList 1 cid nonce) true H') : vizardref13_Conn_Send.c (some ⟨b, 0, none⟩) 0 128 K E H := by
  refine ⟨?_⟩
  unfold vizardref13_Conn_Send.vc
  rw [if_neg (by decide)]
  refine ⟨?_⟩
  unfold vizardref13_Conn_Send.J1.vc
  rw [if_neg (by decide)]
  refine ⟨_, rfl, _, loc (o := 5) hb rfl, ?_⟩
  dsimp only
  rw [if_pos (by rfl)]
  refine ⟨_, rfl, _, loc (o := 8) hb rfl, ?_⟩
  dsimp only
  rw [if_neg (by simp)]
  refine ⟨?_⟩
  unfold vizardref13_Conn_Send.J3.vc
  rw [if_neg (by simp)]
  refine ⟨?_⟩
  unfold vizardref13_Conn_Send.J4.vc
  refine ⟨_, rfl, stc_to (o := 8) (arr' := rfX psk cid srv nonce o0 1 true 0 wel x0 x1 x2 p n c m) hb (show 8 < 20 by decide) rfl ?_⟩
  refine ⟨_, rfl, stc_to (o := 9) (arr' := rfX psk cid srv nonce o0 1 true 0 wel x0 x1 x2 p n c m) (set_self _ _ _) (show 9 < 20 by decide) rfl ?_⟩
  rw [set_set]
  obtain ⟨H2, hH2⟩ : ∃ H2, H2 = H.set b (.cells (rfX psk cid srv nonce o0 1 true 0 wel x0 x1 x2 p n c m) 77) := ⟨_, rfl⟩
  rw [← hH2]
  have hb2 : H2 b = some (.cells (rfX psk cid srv nonce o0 1 true 0 wel x0 x1 x2 p n c m) 77) := by rw [hH2]; exact set_self _ _ _
  have o2 : Only b H H2 := by rw [hH2]; exact Only.set _
  refine ⟨_, rfl, _, loc (o := 0) hb2 rfl, _, rfl, _, loc (o := 1) hb2 rfl, _, rfl, _, loc (o := 3) hb2 rfl, ?_⟩
  refine vizardref05_Derive.run hp (by decide) (by decide) fun H3 hle3 => ?_
  have hb3 := hle3 _ _ hb2
  refine ⟨⟨_, loc (o := 3) hb3 rfl, rfl, rfl⟩, ⟨_, loc (o := 1) hb3 rfl, rfl, rfl⟩, ?_⟩
  show vizardref13_Pack.c (deriveB psk helloB ⟨#[]⟩) 1 cid 0 nonce _ E H3
  refine vizardref13_Pack.run (derive_size _ _ _) hc hd fun H5 hle5 => ?_
  exact ⟨_, Heap.Le.refl _, h H5 (o2.trans (Only.of_le (hle3.trans hle5)))⟩
/-! ### A hello is read as it was written -/
theorem ba_app2 (x y : ByteArray) : (x ++ y).data.toList = x.data.toList ++ y.data.toList := by rw [ByteArray.data_append, Array.toList_append]
theorem hello_back {psk cid nonce : ByteArray} (hc : cid.size = 8) (hn : nonce.size = 16) : helloL psk (pktB (deriveB psk helloB ⟨#[]⟩).data.toList 1 cid nonce) = (cid, nonce, 0) := by
  obtain ⟨S, hS⟩ : ∃ S, S = (deriveB psk helloB ⟨#[]⟩).data.toList := ⟨_, rfl⟩
  obtain ⟨P, hP⟩ : ∃ P, P = pktB S 1 cid nonce := ⟨_, rfl⟩
  rw [← hS, ← hP]
  have hl : P.data.toList = 1 :: (cid.data.toList ++ ([0, 0, 0, 0] ++ sealL S (un 0) (headB 1 cid).data.toList nonce.data.toList)) := by
    rw [hP]
    unfold pktB
    rw [ba_app2]
    conv => lhs; lhs; unfold headB
    rw [ba_app2, ba_app2]
    simp
  have hcl : cid.data.toList.length = 8 := by rw [size_listB]; exact hc
  have hsl : (sealL S (un 0) (headB 1 cid).data.toList nonce.data.toList).length = 32 := by rw [sealL_len, size_listB]; omega
  have hsz : P.size = 45 := by
    rw [← size_listB, hl]
    simp only [List.length_cons, List.length_append, List.length_nil, hcl, hsl]
  have hb0 : bt P 0 = 1 := bt_some (i := 0) (c := 1) (by rw [hl]; rfl)
  have e13 : (P.extract 0 13).data.toList = (headB 1 cid).data.toList := by
    have hh : (headB 1 cid).data.toList = ([1] ++ cid.data.toList) ++ [0, 0, 0, 0] := by
      unfold headB
      rw [ba_app2, ba_app2]
    have hgen : ∀ Z : List UInt8, List.take 13 (1 :: (cid.data.toList ++ ([0, 0, 0, 0] ++ Z))) = ([1] ++ cid.data.toList) ++ [0, 0, 0, 0] := by
      intro Z
      rw [show (1 : UInt8) :: (cid.data.toList ++ ([0, 0, 0, 0] ++ Z)) = (([1] ++ cid.data.toList) ++ [0, 0, 0, 0]) ++ Z by simp]
      exact List.take_left' (by simp [hcl])
    rw [ext_list, hl]
    exact (hgen _).trans hh.symm
  have e45 : (P.extract 13 P.size).data.toList = sealL S (un 0) (headB 1 cid).data.toList nonce.data.toList := by
    rw [ext_list, hl, hsz]
    rw [show (1 : UInt8) :: (cid.data.toList ++ ([0, 0, 0, 0] ++ sealL S (un 0) (headB 1 cid).data.toList nonce.data.toList)) = (([1] ++ cid.data.toList) ++ [0, 0, 0, 0]) ++ sealL S (un 0) (headB 1 cid).data.toList nonce.data.toList by simp]
    rw [List.drop_left' (by simp [hcl])]
    exact List.take_of_length_le (by rw [hsl]; decide)
  have e9 : (P.extract 9 13).data.toList = [0, 0, 0, 0] := by
    rw [ext_list, hl]
    rw [show (1 : UInt8) :: (cid.data.toList ++ ([0, 0, 0, 0] ++ sealL S (un 0) (headB 1 cid).data.toList nonce.data.toList)) = ([1] ++ cid.data.toList) ++ ([0, 0, 0, 0] ++ sealL S (un 0) (headB 1 cid).data.toList nonce.data.toList) by simp]
    rw [List.drop_left' (by simp [hcl])]
    rfl
  have e19 : P.extract 1 9 = cid := by
    have e : (P.extract 1 9).data.toList = cid.data.toList := by
      rw [ext_list, hl]
      show List.take 8 (cid.data.toList ++ _) = _
      exact List.take_left' hcl
    rw [ba_eq e, ba_mk]
  have hnum : numP P = 0 := by unfold numP; rw [e9]; rfl
  have hopen : openP S P = (nonce.data.toList, 0) := by
    unfold openP
    rw [hnum, e13, e45]
    exact open_seal
  have hg : greetL S P = (nonce, 0) := by
    unfold greetL
    rw [hopen]
    rw [if_neg (by simp), if_neg (by rw [hnum, size_listB]; omega), ba_mk]
  unfold helloL
  rw [if_neg (by omega), if_neg (by rw [hb0]; simp), ← hS, hg, if_neg (by simp), e19]
/-! ### The law -/
theorem vizardlaw13_ConnHello.J1.run {a b c d e : ByteArray} {x : Bool} {Kn : Heap → Prop} {Kr : Bool → Heap → Prop} (h1 : x = true → Kr true H) (h0 : x = false → Kn H) : vizardlaw13_ConnHello.J1 a b c d e x Kn Kr E H := by
  refine ⟨?_⟩
  unfold vizardlaw13_ConnHello.J1.vc
  cases x with
  | true => rw [if_pos rfl]; exact h1 rfl
  | false => rw [if_neg (by simp)]; exact h0 rfl
theorem vizardlaw13_ConnHello.J3.run {a b c : ByteArray} {p q : Option Addr} {Kn : Heap → Prop} {Kr : Bool → Heap → Prop} (h0 : Kn H) : vizardlaw13_ConnHello.J3 a b c p q false Kn Kr E H := by
  refine ⟨?_⟩
  unfold vizardlaw13_ConnHello.J3.vc
  rw [if_neg (by simp)]
  exact h0
theorem ba_same (x : ByteArray) : (x.toList == x.toList) = true := by simp
theorem vizardlaw13_ConnHello.run (ht : Tabs H) {key name nonce other p : ByteArray} (_ : key.size ≤ reachBytes) (_ : name.size ≤ reachBytes) (_ : nonce.size ≤ reachBytes) (_ : other.size ≤ reachBytes) (_ : p.size ≤ reachBytes) {K : Bool → Heap → Prop} (h : K true H) : vizardlaw13_ConnHello.c key name nonce other p K E H := by
  refine ⟨?_⟩
  unfold vizardlaw13_ConnHello.vc
  have fin : ∀ {H' : Heap}, Heap.Le H H' → ∃ H'', Heap.Le H'' H' ∧ K true H'' := fun hl => ⟨H, hl, h⟩
  by_cases hk : key.size ≤ 300
  rotate_left
  · rw [if_pos (by rw [decide_eq_true_eq]; omega)]
    exact vizardlaw13_ConnHello.J1.run (fun _ => fin (Heap.Le.refl _)) (fun e => by cases e)
  rw [if_neg (by rw [decide_eq_true_eq]; omega)]
  refine vizardlaw13_ConnHello.J1.run (fun _ => fin (Heap.Le.refl _)) (fun hp => ⟨?_⟩)
  have hp : p.size ≤ 2000 := by rw [decide_eq_false_iff_not] at hp; omega
  unfold vizardlaw13_ConnHello.J2.vc
  refine conn_Hello.run ht (by omega) (by omega) fun H1 hle1 => ?_
  refine vizardref13_Hello.run (by omega) (by omega) fun H2 hle2 => ?_
  have l2 := hle1.trans hle2
  -- behind all of it
  have tail : ∀ {x6 x8 x10 x12 : Option Addr} {e7 e11 : Int} {H6 : Heap}, Option.isNone x6 = Option.isNone x8 → Option.isNone x10 = Option.isNone x12 →
      vizardlaw13_ConnHello.J4 key name nonce x6 x8 (fun r0_0 H => ∃ H', Heap.Le H' H ∧ K r0_0 H') E H6 →
      (if (!((helloL key p).1.toList == (helloL key p).1.toList)) = true then
      vizardlaw13_ConnHello.J3 key name nonce x6 x8 true (fun h7 => vizardlaw13_ConnHello.J4 key name nonce x6 x8 (fun r0_0 H => ∃ H', Heap.Le H' H ∧ K r0_0 H') E h7) (fun r0_0 H => ∃ H', Heap.Le H' H ∧ K r0_0 H') E H6
      else
      (if (!((helloL key p).2.1.toList == (helloL key p).2.1.toList)) = true then
      vizardlaw13_ConnHello.J3 key name nonce x6 x8 true (fun h10 => vizardlaw13_ConnHello.J4 key name nonce x6 x8 (fun r0_0 H => ∃ H', Heap.Le H' H ∧ K r0_0 H') E h10) (fun r0_0 H => ∃ H', Heap.Le H' H ∧ K r0_0 H') E H6
      else
      (if ((helloL key p).2.2 != (helloL key p).2.2) = true then
      vizardlaw13_ConnHello.J3 key name nonce x6 x8 true (fun h13 => vizardlaw13_ConnHello.J4 key name nonce x6 x8 (fun r0_0 H => ∃ H', Heap.Le H' H ∧ K r0_0 H') E h13) (fun r0_0 H => ∃ H', Heap.Le H' H ∧ K r0_0 H') E H6
      else
      (if (e7 != e7) = true then
      vizardlaw13_ConnHello.J3 key name nonce x6 x8 true (fun h16 => vizardlaw13_ConnHello.J4 key name nonce x6 x8 (fun r0_0 H => ∃ H', Heap.Le H' H ∧ K r0_0 H') E h16) (fun r0_0 H => ∃ H', Heap.Le H' H ∧ K r0_0 H') E H6
      else
      (if (e11 != e11) = true then
      vizardlaw13_ConnHello.J3 key name nonce x6 x8 true (fun h19 => vizardlaw13_ConnHello.J4 key name nonce x6 x8 (fun r0_0 H => ∃ H', Heap.Le H' H ∧ K r0_0 H') E h19) (fun r0_0 H => ∃ H', Heap.Le H' H ∧ K r0_0 H') E H6
      else
      (if (!((Option.isNone x6) == (Option.isNone x8))) = true then
      vizardlaw13_ConnHello.J3 key name nonce x6 x8 true (fun h22 => vizardlaw13_ConnHello.J4 key name nonce x6 x8 (fun r0_0 H => ∃ H', Heap.Le H' H ∧ K r0_0 H') E h22) (fun r0_0 H => ∃ H', Heap.Le H' H ∧ K r0_0 H') E H6
      else
      vizardlaw13_ConnHello.J3 key name nonce x6 x8 (!((Option.isNone x10) == (Option.isNone x12))) (fun h25 => vizardlaw13_ConnHello.J4 key name nonce x6 x8 (fun r0_0 H => ∃ H', Heap.Le H' H ∧ K r0_0 H') E h25) (fun r0_0 H => ∃ H', Heap.Le H' H ∧ K r0_0 H') E H6)))))) := by
    intro x6 x8 x10 x12 e7 e11 H6 n1 n2 hj
    rw [if_neg (by simp), if_neg (by simp), if_neg (by simp), if_neg (by simp), if_neg (by simp), if_neg (by rw [n1]; simp)]
    rw [n2, show (!(Option.isNone x12 == Option.isNone x12)) = false by simp]
    exact vizardlaw13_ConnHello.J3.run hj
  by_cases hsz : name.size = 8 ∧ nonce.size = 16
  · obtain ⟨s8, s16⟩ := hsz
    refine conn_Dial.run (fun _ _ b H3 x0 x1 x2 m0 m1 hnb hle3 hb3 => ?_) (fun hno => absurd ⟨s8, s16⟩ hno)
    refine vizardref13_Dial.run (fun _ _ rb H4 y0 y1 y2 q n c m hnr hle4 hr4 => ?_) (fun hno => absurd ⟨s8, s16⟩ hno)
    have l3 := l2.trans hle3
    have l4 := l3.trans hle4
    have hb1 : 1 < b := (ht.up l2).lt hnb
    have hbr : b ≠ rb := fun e => by rw [← e, hb3] at hnr; cases hnr
    -- the two sends
    have sends : ∀ {H6 : Heap}, Heap.Le H4 H6 → vizardlaw13_ConnHello.J4 key name nonce (some ⟨b, 0, none⟩) (some ⟨rb, 0, none⟩) (fun r0_0 H => ∃ H', Heap.Le H' H ∧ K r0_0 H') E H6 := fun {H6} hle6 => ⟨by
      unfold vizardlaw13_ConnHello.J4.vc
      rw [if_neg (by simp)]
      have l6 := l4.trans hle6
      refine conn_Conn_Send.run (ht.up l6) hb1 (by omega) (by omega) (by omega) (hle6 _ _ (hle4 _ _ hb3)) fun H7 o7 => ?_
      have hr7 := o7 rb _ (hle6 _ _ hr4) (Ne.symm hbr)
      have bH : H b = none := by
        cases hh : H b with
        | none => rfl
        | some o => rw [l2 _ _ hh] at hnb; cases hnb
      have rH : H rb = none := by
        cases hh : H rb with
        | none => rfl
        | some o => rw [l3 _ _ hh] at hnr; cases hnr
      have l7 : Heap.Le H H7 := o7.le l6 bH
      refine vizardref13_Conn_Send.run (by omega) (by omega) (by omega) hr7 fun H8 o8 => ?_
      have l8 : Heap.Le H H8 := o8.le l7 rH
      have hps : (pktB (deriveB key helloB ⟨#[]⟩).data.toList 1 name nonce).size ≤ 100000 := by
        unfold pktB
        have e := fun h n => ba_size (sealL (deriveB key helloB ⟨#[]⟩).data.toList (un 0) h n)
        rw [ByteArray.size_append, head_size, e, sealL_len, size_listB]
        omega
      refine conn_Hello.run (ht.up l8) (by omega) hps fun H9 hle9 => ?_
      rw [hello_back s8 s16]
      rw [if_pos (ba_same _), if_pos (by rfl), if_pos (ba_same _), if_pos (ba_same _)]
      exact fin (l8.trans hle9)⟩
    by_cases ho : other.size = 16
    · refine conn_Accept.run (ht.up l4) (by omega) (fun _ x10 H5 hle5 => ?_) (fun hno => absurd ⟨s8, s16, ho⟩ hno)
      refine vizardref13_Accept.run (fun _ x12 H6 hle6 => ?_) (fun hno => absurd ⟨s8, s16, ho⟩ hno)
      exact tail rfl rfl (sends (hle5.trans hle6))
    · refine conn_Accept.run (ht.up l4) (by omega) (fun hy => absurd hy.2.2 ho) (fun _ => ?_)
      refine vizardref13_Accept.run (fun hy => absurd hy.2.2 ho) (fun _ => ?_)
      exact tail rfl rfl (sends (Heap.Le.refl _))
  · refine conn_Dial.run (fun s8 s16 => absurd ⟨s8, s16⟩ hsz) (fun _ => ?_)
    refine vizardref13_Dial.run (fun s8 s16 => absurd ⟨s8, s16⟩ hsz) (fun _ => ?_)
    refine conn_Accept.run (ht.up l2) (by omega) (fun hy => absurd ⟨hy.1, hy.2.1⟩ hsz) (fun _ => ?_)
    refine vizardref13_Accept.run (fun hy => absurd ⟨hy.1, hy.2.1⟩ hsz) (fun _ => ?_)
    refine tail rfl rfl ⟨?_⟩
    unfold vizardlaw13_ConnHello.J4.vc
    rw [if_pos (by rfl)]
    exact fin l2
end
theorem vizardlaw13_ConnHello.laid {W : World} (h : laidMetH Go.Proofs.Tryz.prog [("vizard/varint.sizes", (.agg (szTab.map fun x => .lit (.int .i64 x)) : DataW Unit)), ("vizard/sha.constants", (.agg (kTab.map fun x => .lit (.int .u32 x)) : DataW Unit))] W) : Tabs (heapOf W) := by
  obtain ⟨ps, h⟩ := laid_plain rfl h
  obtain ⟨h1, q, h2⟩ := laid_ints (t := 268) (e := 3) (n := 4) (by kernel_rfl) (by kernel_rfl) (by kernel_rfl) (by kernel_rfl) (by kernel_rfl) h
  exact ⟨(laid_ints (t := 312) (e := 197) (n := 64) (by kernel_rfl) (by kernel_rfl) (by kernel_rfl) (by kernel_rfl) (by kernel_rfl) h2).1, h1⟩
end Go.Sh
