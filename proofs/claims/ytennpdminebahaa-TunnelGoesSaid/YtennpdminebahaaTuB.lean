/- Packets, a hop further; ports. -/
import Derived.Test.YtennpdminebahaaTuA
namespace Go.Sh
open Go.Proofs
set_option maxRecDepth 8000
section
variable {H : Heap} {s : ByteArray} {b0 : Nat} {Kr : Int → Heap → Prop} {E : Value → Heap → Prop}
theorem vizardref02_Parse.J3.run {bx : Nat} (h0 : 20 ≤ s.size) (hz : s.data.toList.getD 0 0 = 69) (hn : num (sl s.data.toList 2 4) = s.data.toList.length) (hb : ∃ v, H b0 = some (.cells (hcells v) 58)) (hx : H bx = some (.cells (hcells (hdOf s.data.toList)) 58))
    (hE : sumOk s.data.toList = false → ∀ H', H' b0 = some (.cells (hcells Hd.zero) 58) → Leaves1 [b0] H H' → Kr 9 H') (hK : sumOk s.data.toList = true → ∀ H', H' b0 = some (.cells (hcells (hdOf s.data.toList)) 58) → Leaves1 [b0] H H' → Kr 0 H') :
    vizardref02_Parse.J3 s ⟨b0, 0, none⟩ ⟨bx, 0, none⟩ Kr E H := by
  refine ⟨?_⟩
  unfold vizardref02_Parse.J3.vc
  have hl := size_list s
  have h20 : 20 ≤ s.data.toList.length := by omega
  refine ld8 hx (vizardref02_Build.run (hdOf_in h20 hn) fun H2 hle2 => ?_)
  obtain ⟨v, hb⟩ := hb
  have hb2 := hle2 _ _ hb
  have hx2 := hle2 _ _ hx
  have heq : (buildB (hdOf s.data.toList) = s) ↔ sumOk s.data.toList = true := by
    rw [← build_hdOf h20 hz hn]
    constructor
    · intro e
      have := congrArg (fun x : ByteArray => x.data.toList) e
      simpa [buildB] using this
    · intro e
      apply ByteArray.ext
      apply Array.toList_inj.1
      simpa [buildB] using e
  cases hc : sumOk s.data.toList with
  | false =>
    rw [if_pos (by
      cases hq : ((buildB (hdOf s.data.toList)).toList == s.toList) with
      | false => rfl
      | true => have := heq.1 ((str_eq _ _).1 hq); rw [hc] at this; cases this)]
    refine st8 hb2 fun H3 k1 k2 => hE hc H3 k1 fun c o hc ho => ?_
    simp only [List.mem_cons, List.not_mem_nil, or_false] at hc
    rw [k2 c hc]
    exact hle2 _ _ ho
  | true =>
    rw [if_neg (by rw [heq.2 hc]; simp)]
    refine ld8 hx2 (st8 hb2 fun H3 k1 k2 => hK hc H3 k1 fun c o hc ho => ?_)
    simp only [List.mem_cons, List.not_mem_nil, or_false] at hc
    rw [k2 c hc]
    exact hle2 _ _ ho
set_option maxHeartbeats 1000000 in
theorem vizardref02_Parse.J2.run (h0 : 20 ≤ s.size) (hz : s.data.toList.getD 0 0 = 69) (hn : num (sl s.data.toList 2 4) = s.data.toList.length) (hb : ∃ v, H b0 = some (.cells (hcells v) 58))
    (hE : sumOk s.data.toList = false → ∀ H', H' b0 = some (.cells (hcells Hd.zero) 58) → Leaves1 [b0] H H' → Kr 9 H') (hK : sumOk s.data.toList = true → ∀ H', H' b0 = some (.cells (hcells (hdOf s.data.toList)) 58) → Leaves1 [b0] H H' → Kr 0 H') :
    vizardref02_Parse.J2 s ⟨b0, 0, none⟩ Kr E H := by
  refine ⟨?_⟩
  unfold vizardref02_Parse.J2.vc
  have q1 : IntKind.i64.wrap (bt s 1) = ((s.data.toList.getD 1 0).toNat : Int) := by
    rw [show (1 : Int) = ((1 : Nat) : Int) from rfl, bt_lit]; have := (s.data.toList.getD 1 0).toNat_lt; exact w_i64 (by omega) (by omega)
  have q8 : IntKind.i64.wrap (bt s 8) = ((s.data.toList.getD 8 0).toNat : Int) := by
    rw [show (8 : Int) = ((8 : Nat) : Int) from rfl, bt_lit]; have := (s.data.toList.getD 8 0).toNat_lt; exact w_i64 (by omega) (by omega)
  have q9 : IntKind.i64.wrap (bt s 9) = ((s.data.toList.getD 9 0).toNat : Int) := by
    rw [show (9 : Int) = ((9 : Nat) : Int) from rfl, bt_lit]; have := (s.data.toList.getD 9 0).toNat_lt; exact w_i64 (by omega) (by omega)
  have n4 : ∀ i, num (sl s.data.toList i (i + 4)) < 4294967296 := fun i => by
    have hle : (sl s.data.toList i (i + 4)).length ≤ 4 := by unfold sl; rw [List.length_take]; omega
    exact Nat.lt_of_lt_of_le (num_lt _) (Nat.pow_le_pow_right (by decide) hle)
  have q12 : IntKind.u32.wrap (num (s.extract 12 16).data.toList : Int) = (num (sl s.data.toList 12 16) : Int) := by
    rw [ext_sl]; have : num (sl s.data.toList 12 16) < 4294967296 := n4 12; exact w_u32 (by omega) (by omega)
  have q16 : IntKind.u32.wrap (num (s.extract 16 20).data.toList : Int) = (num (sl s.data.toList 16 20) : Int) := by
    rw [ext_sl]; have : num (sl s.data.toList 16 20) < 4294967296 := n4 16; exact w_u32 (by omega) (by omega)
  have q20 : s.extract 20 s.size = (⟨(s.data.toList.drop 20).toArray⟩ : ByteArray) := by
    apply ByteArray.ext
    apply Array.toList_inj.1
    rw [ext_sl]
    unfold sl
    rw [List.take_of_length_le (by rw [List.length_drop, size_list]; omega)]
  refine ⟨by omega, by omega, by omega, by omega, by omega, by omega, by omega, by omega, by omega, by omega, by omega, by omega, by omega, by omega, by omega, by omega, by omega, by omega, by omega, by omega, Nat.le_refl _, ?_⟩
  rw [q1, q8, q9, q20]
  have fin : ∀ bx, H bx = none → ∀ H', H' bx = some (.cells #[.int .i64 ((s.data.toList.getD 1 0).toNat : Int), .int .i64 (num (s.extract 4 6).data.toList : Int), .int .i64 (num (s.extract 6 8).data.toList : Int), .int .i64 ((s.data.toList.getD 8 0).toNat : Int), .int .i64 ((s.data.toList.getD 9 0).toNat : Int), .int .u32 (IntKind.u32.wrap (num (s.extract 12 16).data.toList : Int)), .int .u32 (IntKind.u32.wrap (num (s.extract 16 20).data.toList : Int)), .string ⟨(s.data.toList.drop 20).toArray⟩] 58) →
      (∀ c, c ≠ bx → H' c = (H.set bx (.cells #[(.int .i64 0), (.int .i64 0), (.int .i64 0), (.int .i64 0), (.int .i64 0), (.int .u32 0), (.int .u32 0), (.string (⟨#[]⟩ : ByteArray))] 58)) c) → vizardref02_Parse.J3 s ⟨b0, 0, none⟩ ⟨bx, 0, none⟩ Kr E H' := by
    intro bx hbx H' hx hr
    rw [q12, q16, ext_sl, ext_sl] at hx
    have hle : Heap.Le H H' := fun c o hc => by
      have hcb : c ≠ bx := fun e => by rw [e, hbx] at hc; cases hc
      rw [hr c hcb, set_ne _ _ hcb]; exact hc
    obtain ⟨v, hb⟩ := hb
    exact vizardref02_Parse.J3.run h0 hz hn ⟨v, hle _ _ hb⟩ hx (fun hc H2 g1 g2 => hE hc H2 g1 fun c o hc ho => g2 c o hc (hle _ _ ho)) (fun hc H2 g1 g2 => hK hc H2 g1 fun c o hc ho => g2 c o hc (hle _ _ ho))
  repeat' first
    | refine vizardref01_Number.run ?_ ?_
    | (rw [ByteArray.size_extract]; omega)
    | (refine st8 (set_self _ _ _) fun H' k1 k2 => fin _ ?_ H' k1 k2; assumption)
    | with_reducible refine And.intro ?_ ?_
    | exact ⟨rfl, rfl⟩
    | intro bx hbx
end
theorem vizardref02_Parse.run {H : Heap} {s : ByteArray} (hs : s.size ≤ 281474976710656) {K : Int → Int → Int → Int → Int → Int → Int → ByteArray → Int → Heap → Prop} {E : Value → Heap → Prop}
    (hK : ∀ H', Heap.Le H H' → K (hdL s.data.toList).tos (hdL s.data.toList).id (hdL s.data.toList).frag (hdL s.data.toList).ttl (hdL s.data.toList).proto (hdL s.data.toList).src (hdL s.data.toList).dst (hdL s.data.toList).data (errL s.data.toList : Int) H') : vizardref02_Parse.c s K E H := by
  have hl := size_list s
  refine ⟨?_⟩
  unfold vizardref02_Parse.vc
  refine newB_le fun b0 H1 hn0 hl0 hle0 => ?_
  have hl0 : H1 b0 = some (.cells (hcells Hd.zero) 58) := hl0
  have fin : ∀ (x : Nat) H' H2 (v : Hd), Leaves1 [b0] H2 H' → Heap.Le H H2 → H' b0 = some (.cells (hcells v) 58) → errL s.data.toList = x → hdL s.data.toList = v →
      (ldI H' .i64 ((⟨b0, 0, none⟩ : Addr).add 0) fun x0 => ldI H' .i64 ((⟨b0, 0, none⟩ : Addr).add 1) fun x1 => ldI H' .i64 ((⟨b0, 0, none⟩ : Addr).add 2) fun x2 => ldI H' .i64 ((⟨b0, 0, none⟩ : Addr).add 3) fun x3 => ldI H' .i64 ((⟨b0, 0, none⟩ : Addr).add 4) fun x4 => ldI H' .u32 ((⟨b0, 0, none⟩ : Addr).add 5) fun x5 => ldI H' .u32 ((⟨b0, 0, none⟩ : Addr).add 6) fun x6 => ldS H' ((⟨b0, 0, none⟩ : Addr).add 7) fun x7 => ∃ H3, Heap.Le H3 H' ∧ K x0 x1 x2 x3 x4 x5 x6 x7 (x : Int) H3) := by
    rintro x H' H2 v hl2 hle hb rfl rfl
    exact ld8 hb ⟨H', Heap.Le.refl _, hK H' (hl2.le hle fun b hb => by simp only [List.mem_cons, List.not_mem_nil, or_false] at hb; subst hb; exact hn0)⟩
  have lv : ∀ {H2 H' : Heap}, (∀ c, c ≠ b0 → H' c = H2 c) → Leaves1 [b0] H2 H' := fun h c o hc ho => by
    simp only [List.mem_cons, List.not_mem_nil, or_false] at hc
    rw [h c hc]; exact ho
  have zr : errL s.data.toList ≠ 0 → hdL s.data.toList = Hd.zero := fun h => by unfold hdL; rw [if_neg h]
  by_cases c0 : 20 ≤ s.size
  · rw [if_neg (by rw [decide_eq_true_eq]; omega)]
    have b0e : bt s 0 = ((s.data.toList.getD 0 0).toNat : Int) := bt_lit s 0
    refine ⟨by omega, by omega, ?_⟩
    rw [b0e]
    by_cases c1 : s.data.toList.getD 0 0 = 69
    · rw [if_neg (by rw [c1]; simp)]
      have z2 : (s.extract 2 4).size ≤ 7 := by rw [ByteArray.size_extract]; omega
      refine ⟨by omega, by omega, by omega, vizardref01_Number.run z2 ?_⟩
      rw [ext_sl]
      by_cases c2 : num (sl s.data.toList 2 4) < 20
      · rw [if_pos (by rw [decide_eq_true_eq]; omega)]
        refine ⟨?_⟩
        unfold vizardref02_Parse.J1.vc
        rw [if_pos rfl]
        have he : errL s.data.toList = 1 := by unfold errL; rw [if_neg (by omega), if_neg (fun h => h c1), if_pos (by omega)]
        exact st8 hl0 fun H' k1 k2 => fin 1 H' H1 Hd.zero (lv k2) hle0 k1 he (zr (by omega))
      · rw [if_neg (by rw [decide_eq_true_eq]; omega)]
        refine ⟨?_⟩
        unfold vizardref02_Parse.J1.vc
        by_cases c3 : s.size < num (sl s.data.toList 2 4)
        · rw [if_pos (by rw [decide_eq_true_eq]; omega)]
          have he : errL s.data.toList = 1 := by unfold errL; rw [if_neg (by omega), if_neg (fun h => h c1), if_pos (by omega)]
          exact st8 hl0 fun H' k1 k2 => fin 1 H' H1 Hd.zero (lv k2) hle0 k1 he (zr (by omega))
        · rw [if_neg (by rw [decide_eq_true_eq]; omega)]
          by_cases c4 : num (sl s.data.toList 2 4) < s.size
          · rw [if_pos (by rw [decide_eq_true_eq]; omega)]
            have he : errL s.data.toList = 6 := by unfold errL; rw [if_neg (by omega), if_neg (fun h => h c1), if_neg (by omega), if_pos (by omega)]
            exact st8 hl0 fun H' k1 k2 => fin 6 H' H1 Hd.zero (lv k2) hle0 k1 he (zr (by omega))
          · rw [if_neg (by rw [decide_eq_true_eq]; omega)]
            refine vizardref02_Parse.J2.run c0 c1 (by omega) ⟨_, hl0⟩ (fun hc H' k1 k2 => ?_) (fun hc H' k1 k2 => ?_)
            · have he : errL s.data.toList = 9 := by unfold errL; rw [if_neg (by omega), if_neg (fun h => h c1), if_neg (by omega), if_neg (by omega), if_neg (by rw [hc]; simp)]
              exact fin 9 H' H1 Hd.zero k2 hle0 k1 he (zr (by omega))
            · have he : errL s.data.toList = 0 := by unfold errL; rw [if_neg (by omega), if_neg (fun h => h c1), if_neg (by omega), if_neg (by omega), if_pos hc]
              exact fin 0 H' H1 (hdOf s.data.toList) k2 hle0 k1 he (by unfold hdL; rw [if_pos he])
    · rw [if_pos (by
        rw [bne_iff_ne]
        intro hb
        exact c1 (UInt8.toNat_inj.1 (by show (s.data.toList.getD 0 0).toNat = 69; omega)))]
      have he : errL s.data.toList = 3 := by unfold errL; rw [if_neg (by omega), if_pos c1]
      exact st8 hl0 fun H' k1 k2 => fin 3 H' H1 Hd.zero (lv k2) hle0 k1 he (zr (by omega))
  · rw [if_pos (by rw [decide_eq_true_eq]; omega)]
    have he : errL s.data.toList = 1 := by unfold errL; rw [if_pos (by omega)]
    exact st8 hl0 fun H' k1 k2 => fin 1 H' H1 Hd.zero (lv k2) hle0 k1 he (zr (by omega))
theorem ipv4_Parse.run {H : Heap} {s : ByteArray} (hs : s.size ≤ 281474976710656) {K : Int → Int → Int → Int → Int → Int → Int → ByteArray → Int → Heap → Prop} {E : Value → Heap → Prop}
    (hK : K (hdL s.data.toList).tos (hdL s.data.toList).id (hdL s.data.toList).frag (hdL s.data.toList).ttl (hdL s.data.toList).proto (hdL s.data.toList).src (hdL s.data.toList).dst (hdL s.data.toList).data (errL s.data.toList : Int) H) : ipv4_Parse.c s K E H := ⟨⟨hs, hK⟩⟩
theorem ipv4_Build.run {H : Heap} {h : Hd} (hi : h.In) {K : ByteArray → Int → Heap → Prop} {E : Value → Heap → Prop} (hK : K (buildB h) 0 H) : ipv4_Build.c h.tos h.id h.frag h.ttl h.proto h.src h.dst h.data K E H := ⟨⟨h, hi, rfl, rfl, rfl, rfl, rfl, rfl, rfl, rfl, hK⟩⟩
theorem le_of_set {H H1 H2 : Heap} {b : Nat} (hn : H b = none) (hl : Heap.Le H H1) (h : ∀ c, c ≠ b → H2 c = H1 c) : Heap.Le H H2 := fun c o hc => by
  rw [h c (fun e => by subst e; rw [hn] at hc; cases hc)]
  exact hl c o hc
/-! ### A hop further -/
def Hd.less (h : Hd) : Hd := { h with ttl := h.ttl - 1 }
theorem Hd.less_in {h : Hd} (hi : h.In) : h.less.In := ⟨hi.tos, hi.id, hi.frag, by have := hi.ttl; show h.ttl - 1 ≤ 255; omega, hi.proto, hi.src, hi.dst, hi.data⟩
def hopE (l : List UInt8) : Nat := if errL l ≠ 0 then errL l else if (hdL l).ttl < 2 then 2 else 0
def hopB (l : List UInt8) : ByteArray := if hopE l = 0 then buildB (hdL l).less else ⟨#[]⟩
/-- A header is laid in a new box. -/
theorem new8 {H : Heap} {h : Hd} {z0 z1 z2 z3 z4 z5 z6 z7 : Value} {e : TypeId} {K : Nat → Heap → Prop} (hk : ∀ b H', H b = none → H' b = some (.cells (hcells h) e) → Heap.Le H H' → K b H') :
    newB (.cells #[z0, z1, z2, z3, z4, z5, z6, z7] e) (fun b h1 => stc h1 ((⟨b, 0, none⟩ : Addr).add 0) (.int .i64 (h.tos : Int)) fun h2 => stc h2 ((⟨b, 0, none⟩ : Addr).add 1) (.int .i64 (h.id : Int)) fun h3 => stc h3 ((⟨b, 0, none⟩ : Addr).add 2) (.int .i64 (h.frag : Int)) fun h4 => stc h4 ((⟨b, 0, none⟩ : Addr).add 3) (.int .i64 (h.ttl : Int)) fun h5 => stc h5 ((⟨b, 0, none⟩ : Addr).add 4) (.int .i64 (h.proto : Int)) fun h6 => stc h6 ((⟨b, 0, none⟩ : Addr).add 5) (.int .u32 (h.src : Int)) fun h7 => stc h7 ((⟨b, 0, none⟩ : Addr).add 6) (.int .u32 (h.dst : Int)) fun h8 => stc h8 ((⟨b, 0, none⟩ : Addr).add 7) (.string h.data) fun h9 => K b h9) H := by
  intro b hb
  refine st8 (set_self _ _ _) fun H' k1 k2 => hk b H' hb k1 fun c o hc => ?_
  have hcb : c ≠ b := fun e => by rw [e, hb] at hc; cases hc
  rw [k2 c hcb, set_ne _ _ hcb]
  exact hc
/-- One hop less is laid. -/
theorem st_less {H : Heap} {b : Nat} {h : Hd} {e : TypeId} {K : Heap → Prop} (hi : h.In) (ht : 1 ≤ h.ttl) (hl : H b = some (.cells (hcells h) e)) (hk : ∀ H', H' b = some (.cells (hcells h.less) e) → (∀ c, c ≠ b → H' c = H c) → K H') :
    ldI H .i64 ((⟨b, 0, none⟩ : Addr).add 3) fun x => stc H ((⟨b, 0, none⟩ : Addr).add 3) (.int .i64 (IntKind.i64.wrap (x - 1))) K := by
  refine ⟨_, loc (o := 3) hl rfl, ?_⟩
  have ht2 := hi.ttl
  dsimp only
  have e : IntKind.i64.wrap ((h.ttl : Int) - 1) = (h.less.ttl : Int) := by
    rw [w_i64 (by omega) (by omega)]
    show _ = ((h.ttl - 1 : Nat) : Int)
    omega
  rw [e]
  exact stc_to (o := 3) (arr' := hcells h.less) hl (by simp [hcells]) rfl (hk _ (set_self _ _ _) fun c hc => set_ne _ _ hc)
theorem ipv4_Hop.run {H : Heap} {s : ByteArray} (hs : s.size ≤ 281474976710656) {K : ByteArray → Int → Heap → Prop} {E : Value → Heap → Prop} (hK : ∀ H', Heap.Le H H' → K (hopB s.data.toList) (hopE s.data.toList : Int) H') : ipv4_Hop.c s K E H := by
  refine ⟨?_⟩
  unfold ipv4_Hop.vc
  refine ipv4_Parse.run hs ?_
  refine new8 fun b H1 hb hl hle => ?_
  by_cases he : errL s.data.toList = 0
  · have hi := (parse_in he).1
    rw [if_neg (by rw [he]; simp)]
    refine ⟨_, loc (o := 3) hl rfl, ?_⟩
    dsimp only
    by_cases ht : (hdL s.data.toList).ttl < 2
    · rw [if_pos (by rw [decide_eq_true_eq]; omega)]
      have e1 : hopE s.data.toList = 2 := by unfold hopE; rw [if_neg (by omega), if_pos ht]
      have e2 : hopB s.data.toList = ⟨#[]⟩ := by unfold hopB; rw [if_neg (by omega)]
      have := hK H1 hle
      rw [e1, e2] at this
      exact ⟨H1, Heap.Le.refl _, this⟩
    · rw [if_neg (by rw [decide_eq_true_eq]; omega)]
      refine st_less hi (by omega) hl fun H2 k1 k2 => ld8 k1 (ipv4_Build.run (Hd.less_in hi) ?_)
      have e1 : hopE s.data.toList = 0 := by unfold hopE; rw [if_neg (by omega), if_neg ht]
      have e2 : hopB s.data.toList = buildB (hdL s.data.toList).less := by unfold hopB; rw [if_pos e1]
      have := hK H2 (le_of_set hb hle k2)
      rw [e1, e2] at this
      exact ⟨H2, Heap.Le.refl _, this⟩
  · rw [if_pos (by rw [bne_iff_ne]; omega)]
    have e1 : hopE s.data.toList = errL s.data.toList := by unfold hopE; rw [if_pos he]
    have e2 : hopB s.data.toList = ⟨#[]⟩ := by unfold hopB; rw [if_neg (by omega)]
    have := hK H1 hle
    rw [e1, e2] at this
    exact ⟨H1, Heap.Le.refl _, this⟩
theorem vizardref02_Hop.run {H : Heap} {s : ByteArray} (hs : s.size ≤ 281474976710656) {K : ByteArray → Int → Heap → Prop} {E : Value → Heap → Prop} (hK : ∀ H', Heap.Le H H' → K (hopB s.data.toList) (hopE s.data.toList : Int) H') : vizardref02_Hop.c s K E H := by
  refine ⟨?_⟩
  unfold vizardref02_Hop.vc
  refine vizardref02_Parse.run hs fun H0 hle0 => ?_
  refine new8 fun b H1 hb hl hle => ?_
  have hb : H b = none := by
    cases hh : H b with
    | none => rfl
    | some o => rw [hle0 _ _ hh] at hb; cases hb
  have hle := hle0.trans hle
  by_cases he : errL s.data.toList = 0
  · have hi := (parse_in he).1
    rw [if_neg (by rw [he]; simp)]
    refine ⟨_, loc (o := 3) hl rfl, ?_⟩
    dsimp only
    by_cases ht : (hdL s.data.toList).ttl < 2
    · rw [if_pos (by rw [decide_eq_true_eq]; omega)]
      have e1 : hopE s.data.toList = 2 := by unfold hopE; rw [if_neg (by omega), if_pos ht]
      have e2 : hopB s.data.toList = ⟨#[]⟩ := by unfold hopB; rw [if_neg (by omega)]
      have := hK H1 hle
      rw [e1, e2] at this
      exact ⟨H1, Heap.Le.refl _, this⟩
    · rw [if_neg (by rw [decide_eq_true_eq]; omega)]
      refine st_less hi (by omega) hl fun H2 k1 k2 => ld8 k1 (vizardref02_Build.run (Hd.less_in hi) fun H3 hle3 => ?_)
      have e1 : hopE s.data.toList = 0 := by unfold hopE; rw [if_neg (by omega), if_neg ht]
      have e2 : hopB s.data.toList = buildB (hdL s.data.toList).less := by unfold hopB; rw [if_pos e1]
      have := hK H3 ((le_of_set hb hle k2).trans hle3)
      rw [e1, e2] at this
      exact ⟨H3, Heap.Le.refl _, this⟩
  · rw [if_pos (by rw [bne_iff_ne]; omega)]
    have e1 : hopE s.data.toList = errL s.data.toList := by unfold hopE; rw [if_pos he]
    have e2 : hopB s.data.toList = ⟨#[]⟩ := by unfold hopB; rw [if_neg (by omega)]
    have := hK H1 hle
    rw [e1, e2] at this
    exact ⟨H1, Heap.Le.refl _, this⟩
/-- What further compares is always alike. -/
theorem hop_parse {l : List UInt8} (h : hopE l = 0) : errL (hopB l).data.toList = 0 ∧ hdL (hopB l).data.toList = (hdL l).less ∧ errL l = 0 ∧ 2 ≤ (hdL l).ttl := by
  have he : errL l = 0 := by
    unfold hopE at h
    split at h
    · rename_i h1; exact absurd h h1
    · omega
  have ht : 2 ≤ (hdL l).ttl := by
    unfold hopE at h
    rw [if_neg (by omega)] at h
    split at h
    · cases h
    · omega
  have hi := (parse_in he).1
  have hb : (hopB l).data.toList = buildL (hdL l).less := by
    unfold hopB
    rw [if_pos h]
    simp [buildB]
  rw [hb]
  obtain ⟨h1, h2⟩ := parse_build (Hd.less_in hi)
  exact ⟨h1, h2, he, ht⟩
theorem build_size (h : Hd) : (buildB h).size = 20 + h.data.size := by
  show (buildL h).toArray.size = _
  simp [buildL, hd20_len]
theorem tunnel_further.run {H : Heap} {s : ByteArray} (hs : s.size ≤ 281474976710656) {K : ByteArray → Int → Heap → Prop} {E : Value → Heap → Prop} (hK : ∀ H', Heap.Le H H' → K (hopB s.data.toList) (hopE s.data.toList : Int) H') : tunnel_further.c s K E H := by
  refine ⟨?_⟩
  unfold tunnel_further.vc
  refine ipv4_Hop.run hs fun H1 hle1 => ?_
  have hk := hK
  by_cases he : hopE s.data.toList = 0
  · rw [if_neg (by rw [he]; simp)]
    obtain ⟨p1, p2, p3, p4⟩ := hop_parse he
    have hi := (parse_in p3).1
    refine ipv4_Parse.run hs (new8 fun b0 H2 hb0 hl0 hle2 => ?_)
    have hsz : (hopB s.data.toList).size ≤ 281474976710656 := by
      unfold hopB
      rw [if_pos he, build_size]
      have := (Hd.less_in hi).data
      omega
    refine ipv4_Parse.run hsz ?_
    rw [p1, p2]
    refine new8 fun b1 H3 hb1 hl1 hle3 => ?_
    have hb01 : b0 ≠ b1 := fun e => by rw [e] at hl0; rw [hl0] at hb1; cases hb1
    refine st_less hi (by omega) (hle3 _ _ hl0) fun H4 k1 k2 => ?_
    have l1 : H4 b1 = some (.cells (hcells (hdL s.data.toList).less) 58) := by rw [k2 b1 (Ne.symm hb01)]; exact hl1
    refine ld8 l1 (ld8 k1 ?_)
    rw [if_neg (by simp [ba_beq])]
    have hn0 : H b0 = none := by
      cases hh : H b0 with
      | none => rfl
      | some o => rw [hle1 _ _ hh] at hb0; cases hb0
    have := hK H4 (le_of_set hn0 ((hle1.trans hle2).trans hle3) k2)
    rw [he] at this
    exact ⟨H4, Heap.Le.refl _, this⟩
  · rw [if_pos (by rw [bne_iff_ne]; omega)]
    have e2 : hopB s.data.toList = ⟨#[]⟩ := by unfold hopB; rw [if_neg he]
    have := hK H1 hle1
    rw [e2] at this
    exact ⟨H1, Heap.Le.refl _, this⟩
end Go.Sh
/-! ### From here: XTuC.lean -/
namespace Go.Sh
open Go.Proofs
set_option maxRecDepth 8000
theorem loc2 {H : Heap} {b o j : Nat} {arr : Array Value} {e : TypeId} {v : Value} (h : H b = some (.cells arr e)) (hv : arr[o + j]? = some v) : H.cell? (((⟨b, 0, none⟩ : Addr).add o).add j) = some v := by
  rw [add_add]; exact loc h hv
/-! ### Ports -/
def portOf (h : Hd) : Nat := if (h.proto = 17 ∨ h.proto = 6) ∧ h.frag % 8192 = 0 ∧ 4 ≤ h.data.size then num (sl h.data.data.toList 2 4) else 0
theorem or_i64 (a b : Nat) (ha : a < 4294967296) (hb : b < 4294967296) : bits .or .i64 (a : Int) (b : Int) = ((a ||| b : Nat) : Int) := by
  have hx : a ||| b < 2 ^ 32 := Nat.or_lt_two_pow (by omega) (by omega)
  show IntKind.i64.wrap ((BitVec.ofInt 64 (a : Int) ||| BitVec.ofInt 64 (b : Int)).toNat : Int) = _
  rw [BitVec.toNat_or, ofInt_i64 a (by omega), ofInt_i64 b (by omega), w_i64 (by omega) (by omega)]
theorem udp_word.run {s : ByteArray} (hs : 2 ≤ s.size) {K : Int → Heap → Prop} {E : Value → Heap → Prop} {H : Heap} (h : K (num (s.data.toList.take 2) : Int) H) : udp_word.c s K E H := by
  refine ⟨?_⟩
  unfold udp_word.vc
  have hl := size_list s
  obtain ⟨a, ha⟩ : ∃ a, s.data.toList[0]? = some a := ⟨_, List.getElem?_eq_getElem (by omega)⟩
  obtain ⟨b, hb⟩ : ∃ b, s.data.toList[1]? = some b := ⟨_, List.getElem?_eq_getElem (by omega)⟩
  have t1 := a.toNat_lt
  have t2 := b.toNat_lt
  have e : s.data.toList.take 2 = [a, b] := by
    rw [show 2 = 0 + 1 + 1 from rfl, List.take_add_one, List.take_add_one, ha, hb]
    rfl
  rw [e, num2] at h
  have e0 : bt s 0 = (a.toNat : Int) := bt_get (k := 0) ha
  have e1 : bt s 1 = (b.toNat : Int) := bt_get (k := 1) hb
  rw [e0, e1, w_i64 (n := (a.toNat : Int)) (by omega) (by omega), w_i64 (n := (b.toNat : Int)) (by omega) (by omega)]
  have e2 : shlI .i64 (a.toNat : Int) 8 = ((a.toNat * 256 : Nat) : Int) := by
    show IntKind.i64.wrap ((a.toNat : Int) * 2 ^ 8) = _
    rw [w_i64 (by omega) (by omega)]; omega
  have e3 : a.toNat * 256 ||| b.toNat = a.toNat * 256 + b.toNat := by
    have : 2 ^ 8 * a.toNat + b.toNat = 2 ^ 8 * a.toNat ||| b.toNat := Nat.two_pow_add_eq_or_of_lt (by omega) _
    rw [show a.toNat * 256 = 2 ^ 8 * a.toNat by omega, ← this]
  rw [e2, or_i64 _ _ (by omega) (by omega), e3]
  exact ⟨by omega, by omega, by decide, by omega, by omega, H, Heap.Le.refl _, h⟩
theorem and8191 {n : Nat} (h : n ≤ 65535) : bits .and .i64 (n : Int) 8191 = ((n % 8192 : Nat) : Int) := by
  rw [show (8191 : Int) = ((8191 : Nat) : Int) from rfl, and_i64 _ _ (by omega) (by omega), show 8191 = 2 ^ 13 - 1 from rfl, Nat.and_two_pow_sub_one_eq_mod]
theorem udp_Ports.run {h : Hd} (hi : h.In) {K : Int → Int → Bool → Heap → Prop} {E : Value → Heap → Prop} {H : Heap} (hK : ∀ a ok H', Heap.Le H H' → K a (portOf h : Int) ok H') : udp_Ports.c h.tos h.id h.frag h.ttl h.proto h.src h.dst h.data K E H := by
  refine ⟨?_⟩
  unfold udp_Ports.vc
  refine newB_le fun b0 H1 hn0 hl0 hle0 => ?_
  have hl0 : H1 b0 = some (.cells (hcells h) 58) := hl0
  have no : portOf h = 0 → ∀ (Kn : Heap → Prop), udp_Ports.J1 ⟨b0, 0, none⟩ true Kn (fun r0_0 r1_0 r2_0 H => ∃ H', Heap.Le H' H ∧ K r0_0 r1_0 r2_0 H') E H1 := fun hz Kn => by
    refine ⟨?_⟩
    unfold udp_Ports.J1.vc
    rw [if_pos rfl]
    have := hK 0 false H1 hle0
    rw [hz] at this
    exact ⟨H1, Heap.Le.refl _, this⟩
  have tail : (h.proto = 17 ∨ h.proto = 6) → (ldI H1 .i64 ((⟨b0, 0, none⟩ : Addr).add 2) fun x8 => if ((bits .and .i64 x8 8191) != 0) = true then udp_Ports.J1 (⟨b0, 0, none⟩ : Addr) true (fun h13 => udp_Ports.J2 (⟨b0, 0, none⟩ : Addr) (fun r0_0 r1_0 r2_0 H => ∃ H', Heap.Le H' H ∧ K r0_0 r1_0 r2_0 H') E h13) (fun r0_0 r1_0 r2_0 H => ∃ H', Heap.Le H' H ∧ K r0_0 r1_0 r2_0 H') E H1
      else ldS H1 ((⟨b0, 0, none⟩ : Addr).add 7) fun x15 => udp_Ports.J1 (⟨b0, 0, none⟩ : Addr) (decide ((x15.size : Int) < 4)) (fun h16 => udp_Ports.J2 (⟨b0, 0, none⟩ : Addr) (fun r0_0 r1_0 r2_0 H => ∃ H', Heap.Le H' H ∧ K r0_0 r1_0 r2_0 H') E h16) (fun r0_0 r1_0 r2_0 H => ∃ H', Heap.Le H' H ∧ K r0_0 r1_0 r2_0 H') E H1) := by
    intro hp
    refine ⟨_, loc (o := 2) hl0 rfl, ?_⟩
    dsimp only
    rw [and8191 hi.frag]
    by_cases hf : h.frag % 8192 = 0
    · rw [if_neg (by rw [hf]; simp)]
      refine ⟨_, loc (o := 7) hl0 rfl, ?_⟩
      dsimp only
      by_cases hs : h.data.size < 4
      · rw [decide_eq_true (by omega)]
        exact no (by unfold portOf; rw [if_neg (by omega)]) _
      · rw [decide_eq_false (by omega)]
        refine ⟨?_⟩
        unfold udp_Ports.J1.vc
        rw [if_neg (by simp)]
        refine ⟨?_⟩
        unfold udp_Ports.J2.vc
        have hd := hi.data
        refine ⟨_, loc (o := 7) hl0 rfl, _, loc (o := 7) hl0 rfl, by omega, by omega, Nat.le_refl _, udp_word.run (by omega) ⟨⟨_, loc (o := 7) hl0 rfl, rfl, rfl⟩, ?_⟩⟩
        refine udp_word.run (by rw [ByteArray.size_extract]; omega) ?_
        have e : portOf h = num ((h.data.extract 2 h.data.size).data.toList.take 2) := by
          unfold portOf
          rw [if_pos ⟨hp, hf, by omega⟩, ext_sl]
          congr 1
          unfold sl
          rw [List.take_take, Nat.min_eq_left (by omega)]
        have := hK (num (h.data.data.toList.take 2) : Int) true H1 hle0
        rw [e] at this
        exact ⟨H1, Heap.Le.refl _, this⟩
    · rw [if_pos (by rw [bne_iff_ne]; omega)]
      exact no (by unfold portOf; rw [if_neg (by omega)]) _
  refine ⟨_, loc (o := 4) hl0 rfl, ?_⟩
  dsimp only
  by_cases h17 : h.proto = 17
  · rw [if_neg (by rw [h17]; simp)]
    exact tail (.inl h17)
  · rw [if_pos (by rw [bne_iff_ne]; omega)]
    refine ⟨_, loc (o := 4) hl0 rfl, ?_⟩
    dsimp only
    by_cases h6 : h.proto = 6
    · rw [if_neg (by rw [h6]; simp)]
      exact tail (.inr h6)
    · rw [if_pos (by rw [bne_iff_ne]; omega)]
      exact no (by unfold portOf; rw [if_neg (by omega)]) _
theorem vizardref22_Port.run {h : Hd} (hi : h.In) {K : Int → Heap → Prop} {E : Value → Heap → Prop} {H : Heap} (hK : ∀ H', Heap.Le H H' → K (portOf h : Int) H') : vizardref22_Port.c h.tos h.id h.frag h.ttl h.proto h.src h.dst h.data K E H := by
  refine ⟨?_⟩
  unfold vizardref22_Port.vc
  refine newB_le fun bb Hb hnb hlb hleb => ?_
  have hlb : Hb bb = some (.cells (hcells h) 58) := hlb
  refine ld8 hlb ⟨?_⟩
  unfold vizardref03_Ports.vc
  refine newB_le fun b0 H1 hn0 hl0 hle0 => ?_
  have hl0 : H1 b0 = some (.cells (hcells h) 58) := hl0
  have hle1 := hleb.trans hle0
  have no : portOf h = 0 → ∀ (Kn : Heap → Prop) (Kr : Int → Int → Bool → Heap → Prop), (∀ a ok, Kr a 0 ok H1) → vizardref03_Ports.J1 ⟨b0, 0, none⟩ true Kn Kr E H1 := fun hz Kn Kr hr => by
    refine ⟨?_⟩
    unfold vizardref03_Ports.J1.vc
    rw [if_pos rfl]
    exact hr 0 false
  have fin : ∀ (a : Int) (ok : Bool), ∃ H', Heap.Le H' H1 ∧ ∃ H'', Heap.Le H'' H' ∧ K (portOf h : Int) H'' := fun a ok => ⟨H1, Heap.Le.refl _, H1, Heap.Le.refl _, hK H1 hle1⟩
  have tail : (h.proto = 17 ∨ h.proto = 6) → (ldI H1 .i64 ((⟨b0, 0, none⟩ : Addr).add 2) fun x8 => 8192 ≠ (0 : Int) ∧ if ((Int.tmod x8 8192) != 0) = true then vizardref03_Ports.J1 (⟨b0, 0, none⟩ : Addr) true (fun h13 => vizardref03_Ports.J2 (⟨b0, 0, none⟩ : Addr) (fun _ r1_0 _ H => ∃ H', Heap.Le H' H ∧ ∃ H'', Heap.Le H'' H' ∧ K r1_0 H'') E h13) (fun _ r1_0 _ H => ∃ H', Heap.Le H' H ∧ ∃ H'', Heap.Le H'' H' ∧ K r1_0 H'') E H1
      else ldS H1 ((⟨b0, 0, none⟩ : Addr).add 7) fun x15 => vizardref03_Ports.J1 (⟨b0, 0, none⟩ : Addr) (decide ((x15.size : Int) < 4)) (fun h16 => vizardref03_Ports.J2 (⟨b0, 0, none⟩ : Addr) (fun _ r1_0 _ H => ∃ H', Heap.Le H' H ∧ ∃ H'', Heap.Le H'' H' ∧ K r1_0 H'') E h16) (fun _ r1_0 _ H => ∃ H', Heap.Le H' H ∧ ∃ H'', Heap.Le H'' H' ∧ K r1_0 H'') E H1) := by
    intro hp
    refine ⟨_, loc (o := 2) hl0 rfl, by decide, ?_⟩
    rw [Int.tmod_eq_emod_of_nonneg (by omega)]
    by_cases hf : h.frag % 8192 = 0
    · rw [if_neg (by rw [bne_iff_ne]; omega)]
      refine ⟨_, loc (o := 7) hl0 rfl, ?_⟩
      dsimp only
      by_cases hs : h.data.size < 4
      · rw [decide_eq_true (by omega)]
        have hz : portOf h = 0 := by unfold portOf; rw [if_neg (by omega)]
        exact no hz _ _ (fun a ok => by have := fin a ok; rw [hz] at this; exact this)
      · rw [decide_eq_false (by omega)]
        refine ⟨?_⟩
        unfold vizardref03_Ports.J1.vc
        rw [if_neg (by simp)]
        refine ⟨?_⟩
        unfold vizardref03_Ports.J2.vc
        have hd := hi.data
        refine ⟨_, loc (o := 7) hl0 rfl, by omega, by omega, _, loc (o := 7) hl0 rfl, by omega, by omega, by omega, vizardref01_Number.run (by rw [ByteArray.size_extract]; omega) ⟨⟨_, loc (o := 7) hl0 rfl, rfl, rfl⟩, ?_⟩⟩
        refine vizardref01_Number.run (by rw [ByteArray.size_extract]; omega) ?_
        have e : portOf h = num (h.data.extract 2 4).data.toList := by
          unfold portOf
          rw [if_pos ⟨hp, hf, by omega⟩, ext_sl]
        have := fin 0 true
        rw [e] at this
        exact this
    · rw [if_pos (by rw [bne_iff_ne]; omega)]
      have hz : portOf h = 0 := by unfold portOf; rw [if_neg (by omega)]
      exact no hz _ _ (fun a ok => by have := fin a ok; rw [hz] at this; exact this)
  refine ⟨_, loc (o := 4) hl0 rfl, ?_⟩
  dsimp only
  by_cases h17 : h.proto = 17
  · rw [if_neg (by rw [h17]; simp)]
    exact tail (.inl h17)
  · rw [if_pos (by rw [bne_iff_ne]; omega)]
    refine ⟨_, loc (o := 4) hl0 rfl, ?_⟩
    dsimp only
    by_cases h6 : h.proto = 6
    · rw [if_neg (by rw [h6]; simp)]
      exact tail (.inr h6)
    · rw [if_pos (by rw [bne_iff_ne]; omega)]
      have hz : portOf h = 0 := by unfold portOf; rw [if_neg (by omega)]
      exact no hz _ _ (fun a ok => by have := fin a ok; rw [hz] at this; exact this)
end Go.Sh
