/- Connections that are made, dialled, accepted; the first packet of a client. -/
import Derived.Test.YtkfkkkalcchpkaaGreatDoorCoA
import Derived.Test.YtkfkkkalcchpkaaGreatDoorShU
namespace Go.Sh
open Go.Proofs
set_option maxRecDepth 8000
theorem stc_to {H : Heap} {b o : Nat} {arr arr' : Array Value} {e : TypeId} {v : Value} {K : Heap → Prop} (hb : H b = some (.cells arr e)) (ho : o < arr.size) (ha : arr.setIfInBounds o v = arr') (h : K (H.set b (.cells arr' e))) : stc H ((⟨b, 0, none⟩ : Addr).add o) v K :=
  stc_loc hb ho (by rw [ha]; exact h)
theorem MapOf.le {H H' : Heap} {r : Nat} {k : IntKind} {f : Int → Option Value} (h : MapOf H r k f) (hl : Heap.Le H H') : MapOf H' r k f := by
  obtain ⟨es, clk, h1, h2⟩ := h
  exact ⟨es, clk, hl _ _ h1, h2⟩
/-- A connection's cells. -/
def cnX (psk cid : ByteArray) (srv : Bool) (nonce : ByteArray) (ph : Int) (hl : Bool) (ha : Int) (gr : Bool) (rx tx x0 x1 x2 : Option Addr) (m0 m1 : Nat) (ours : ByteArray) : Array Value :=
  #[.string psk, .string cid, .bool srv, .string nonce, .int .i64 ph, .int .i64 0, .bool false, .bool hl, .int .i64 ha, .bool gr, .bool false, .int .i64 0, .pointer rx, .pointer tx, .pointer x0, .pointer x1, .pointer x2, .map (some m0), .map (some m1), .slice none 0 0, .slice none 0 0, .string ours]
def idsA : Array Value := #[(.int .i64 0), (.int .i64 2), (.int .i64 3), (.int .i64 4), (.int .i64 8), (.int .i64 12), (.int .i64 16), (.int .i64 20), (.int .i64 24), (.int .i64 28)]
theorem ids_get : ∀ i, i < 10 → ∃ v : Int, idsA[i]? = some (.int .i64 v)
  | 0, _ => ⟨_, rfl⟩
  | 1, _ => ⟨_, rfl⟩
  | 2, _ => ⟨_, rfl⟩
  | 3, _ => ⟨_, rfl⟩
  | 4, _ => ⟨_, rfl⟩
  | 5, _ => ⟨_, rfl⟩
  | 6, _ => ⟨_, rfl⟩
  | 7, _ => ⟨_, rfl⟩
  | 8, _ => ⟨_, rfl⟩
  | 9, _ => ⟨_, rfl⟩
  | i + 10, h => by omega
section
variable {H : Heap} {E : Value → Heap → Prop} {K : Option Addr → Heap → Prop}
theorem replay_New.run (h : ∀ x H', Heap.Le H H' → K x H') : replay_New.c K E H := ⟨newB_le fun _ H1 _ _ hle => ⟨H1, Heap.Le.refl _, h _ H1 hle⟩⟩
theorem acks_New.run (h : ∀ x H', Heap.Le H H' → K x H') : acks_New.c K E H := ⟨newB_le fun _ H1 _ _ hle => ⟨H1, Heap.Le.refl _, h _ H1 hle⟩⟩
theorem ledger_New.run (h : ∀ x H', Heap.Le H H' → K x H') : ledger_New.c K E H := ⟨newB_le fun _ H1 _ _ hle => ⟨H1, Heap.Le.refl _, h _ H1 hle⟩⟩
theorem inbox_New.run (h : ∀ x H', Heap.Le H H' → K x H') : inbox_New.c K E H := ⟨newB_le fun _ H1 _ _ hle => newB_le fun _ H2 _ _ hle2 => ⟨H2, Heap.Le.refl _, h _ H2 (hle.trans hle2)⟩⟩
theorem outbox_New.run (h : ∀ x H', Heap.Le H H' → K x H') : outbox_New.c K E H := ⟨newB_le fun _ H1 _ _ hle => ⟨H1, Heap.Le.refl _, h _ H1 hle⟩⟩
theorem vizardref10_New.run (h : ∀ x H', Heap.Le H H' → K x H') : vizardref10_New.c K E H := ⟨newB_le fun _ H1 _ _ hle => ⟨H1, Heap.Le.refl _, h _ H1 hle⟩⟩
theorem vizardref11_New.run (h : ∀ x H', Heap.Le H H' → K x H') : vizardref11_New.c K E H := ⟨newB_le fun _ H1 _ _ hle => newB_le fun _ H2 _ _ hle2 => ⟨H2, Heap.Le.refl _, h _ H2 (hle.trans hle2)⟩⟩
theorem vizardref12_Make.run (h : ∀ x H', Heap.Le H H' → K x H') : vizardref12_Make.c K E H := ⟨newB_le fun _ H1 _ _ hle => ⟨H1, Heap.Le.refl _, h _ H1 hle⟩⟩
theorem conn_made.run {psk cid nonce : ByteArray} (h : ∀ b H' x0 x1 x2 m0 m1, H b = none → Heap.Le H H' → H' b = some (.cells (cnX psk cid false nonce 0 false 0 false none none x0 x1 x2 m0 m1 ⟨#[]⟩) 70) → K (some ⟨b, 0, none⟩) H') : conn_made.c psk cid nonce K E H := by
  refine ⟨replay_New.run fun x0 H1 hle1 => acks_New.run fun x1 H2 hle2 => ledger_New.run fun x2 H3 hle3 => ?_⟩
  refine newB_le fun m0 H4 hn4 hl4 hle4 => newB_le fun m1 H5 hn5 hl5 hle5 => newB_le fun b H6 hn6 hl6 hle6 => ?_
  refine ⟨newB_le fun bi H7 hn7 hl7 hle7 => ⟨H7, Heap.Le.refl _, ?_⟩⟩
  have l3 := (hle1.trans hle2).trans hle3
  have l6 := ((l3.trans hle4).trans hle5).trans hle6
  have hb7 : H7 b = some (.cells (cnX psk cid false nonce 0 false 0 false none none x0 x1 x2 m0 m1 ⟨#[]⟩) 70) := hle7 _ _ hl6
  have hm7 : H7 m0 = some (.map #[] 0) := hle7 _ _ (hle6 _ _ (hle5 _ _ hl4))
  have nbm : b ≠ m0 := fun e => by rw [e, hm7] at hb7; cases hb7
  have nim : bi ≠ m0 := fun e => by rw [e, hm7] at hl7; cases hl7
  have fresh : ∀ {k : Nat} {Hc : Heap}, Heap.Le H Hc → Hc k = none → H k = none := fun {k Hc} hl hk => by
    cases hh : H k with
    | none => rfl
    | some o => rw [hl _ _ hh] at hk; cases hk
  have hmH := fresh l3 hn4
  have hbH := fresh ((l3.trans hle4).trans hle5) hn6
  refine ⟨Loop.of (I := fun st H' m => ∃ i : Nat, st = (i : Int) ∧ i ≤ 10 ∧ m = 10 - i ∧ H' b = some (.cells (cnX psk cid false nonce 0 false 0 false none none x0 x1 x2 m0 m1 ⟨#[]⟩) 70) ∧ H' bi = some (.cells idsA 2) ∧ (∃ f, MapOf H' m0 .i64 f) ∧ Heap.Le H H') ?_ ⟨0, rfl, by decide, rfl, hb7, hl7, ⟨fun _ => none, #[], 0, hm7, by simp, by simp, fun _ => rfl⟩, l6.trans hle7⟩⟩
  rintro m st H' ⟨i, rfl, hi, rfl, hb, hbi, ⟨f, hm⟩, hle⟩ RR hRR
  unfold conn_made.W1.vc
  by_cases hlt : i < 10
  · rw [if_pos (by rw [decide_eq_true_eq]; omega)]
    obtain ⟨v, hv⟩ := ids_get i hlt
    refine ⟨_, rfl, by omega, by omega, v, by rw [Int.toNat_natCast, Nat.mul_one]; exact loc hbi hv, _, rfl, _, loc (o := 17) hb rfl, ?_⟩
    refine inbox_New.run fun y1 H8 hle8 => ⟨⟨_, loc (o := 17) (hle8 _ _ hb) rfl, rfl, rfl⟩, ?_⟩
    refine outbox_New.run fun y2 H9 hle9 => ⟨⟨_, loc (o := 17) (hle9 _ _ (hle8 _ _ hb)) rfl, rfl, rfl⟩, ?_⟩
    refine newB_le fun b9 H10 hn10 hl10 hle10 => ⟨⟨_, loc (o := 17) (hle10 _ _ (hle9 _ _ (hle8 _ _ hb))) rfl, rfl, rfl⟩, ?_⟩
    have l10 := (hle8.trans hle9).trans hle10
    refine (hm.le l10).put fun o hm2 => ?_
    rw [w_i64 (by omega) (by omega)]
    refine hRR _ _ (10 - (i + 1)) (by omega) ⟨i + 1, by simp, by omega, rfl, ?_, ?_, ⟨_, hm2⟩, ?_⟩
    · rw [set_ne _ _ nbm]; exact l10 _ _ hb
    · rw [set_ne _ _ nim]; exact l10 _ _ hbi
    · intro k o' hk
      rw [set_ne _ _ (fun e => by rw [e, hmH] at hk; cases hk)]
      exact l10 _ _ (hle _ _ hk)
  · rw [if_neg (by rw [decide_eq_true_eq]; omega)]
    exact ⟨H', Heap.Le.refl _, h b H' x0 x1 x2 m0 m1 hbH hle hb⟩
end
section
variable {H : Heap} {E : Value → Heap → Prop}
theorem conn_Dial.J1.run {a b c : ByteArray} {x : Bool} {Kn : Heap → Prop} {Kr : Option Addr → Int → Heap → Prop} (h1 : x = true → Kr none 3 H) (h0 : x = false → Kn H) : conn_Dial.J1 a b c x Kn Kr E H := by
  refine ⟨?_⟩
  unfold conn_Dial.J1.vc
  cases x with
  | true => rw [if_pos rfl]; exact h1 rfl
  | false => rw [if_neg (by simp)]; exact h0 rfl
theorem conn_Dial.run {psk cid nonce : ByteArray} {K : Option Addr → Int → Heap → Prop} (h1 : cid.size = 8 → nonce.size = 16 → ∀ b H' x0 x1 x2 m0 m1, H b = none → Heap.Le H H' → H' b = some (.cells (cnX psk cid false nonce 1 false 0 false none none x0 x1 x2 m0 m1 ⟨#[]⟩) 70) → K (some ⟨b, 0, none⟩) 0 H') (h0 : ¬ (cid.size = 8 ∧ nonce.size = 16) → K none 3 H) : conn_Dial.c psk cid nonce K E H := by
  refine ⟨?_⟩
  unfold conn_Dial.vc
  by_cases hc : cid.size = 8
  · rw [if_neg (by simp [hc])]
    refine conn_Dial.J1.run (fun hx => ⟨H, Heap.Le.refl _, h0 fun hn => ?_⟩) (fun hx => ⟨?_⟩)
    · rw [bne_iff_ne] at hx
      exact hx (by rw [hn.2]; rfl)
    · have hn : nonce.size = 16 := by rw [bne_eq_false_iff_eq] at hx; omega
      unfold conn_Dial.J2.vc
      refine conn_made.run fun b H1 x0 x1 x2 m0 m1 hn0 hle hb => ⟨_, rfl, ?_⟩
      refine stc_to (o := 4) (arr' := cnX psk cid false nonce 1 false 0 false none none x0 x1 x2 m0 m1 ⟨#[]⟩) hb (show _ < 22 by decide) rfl ⟨_, Heap.Le.refl _, h1 hc hn b _ x0 x1 x2 m0 m1 hn0 (fun k o hk => ?_) (set_self _ _ _)⟩
      rw [set_ne _ _ (fun e => by rw [e, hn0] at hk; cases hk)]
      exact hle _ _ hk
  · rw [if_pos (by simp; omega)]
    exact conn_Dial.J1.run (fun _ => ⟨H, Heap.Le.refl _, h0 fun hn => hc hn.1⟩) (fun e => by cases e)
def upB : ByteArray := ⟨#[117, 112]⟩
def downB : ByteArray := ⟨#[100, 111, 119, 110]⟩
theorem conn_Conn_agree.run (ht : Tabs H) {b : Nat} (hb1 : 1 < b) {psk cid nonce ours o0 : ByteArray} {ph ha : Int} {hl gr : Bool} {rx tx x0 x1 x2 : Option Addr} {m0 m1 : Nat} (hp : psk.size ≤ 100000) (hs : nonce.size + ours.size ≤ 100000)
    (hb : H b = some (.cells (cnX psk cid true nonce ph hl ha gr rx tx x0 x1 x2 m0 m1 o0) 70)) {K : Heap → Prop} (h : ∀ H', Only b H H' → K H') : conn_Conn_agree.c (some ⟨b, 0, none⟩) ours K E H := by
  refine ⟨⟨_, rfl, ?_⟩⟩
  refine stc_to (o := 21) (arr' := cnX psk cid true nonce ph hl ha gr rx tx x0 x1 x2 m0 m1 ours) hb (show _ < 22 by decide) rfl ⟨_, rfl, ?_⟩
  refine stc_to (o := 4) (arr' := cnX psk cid true nonce 2 hl ha gr rx tx x0 x1 x2 m0 m1 ours) (set_self _ _ _) (show _ < 22 by decide) rfl ?_
  rw [set_set]
  obtain ⟨H2, hH2⟩ : ∃ H2, H2 = H.set b (.cells (cnX psk cid true nonce 2 hl ha gr rx tx x0 x1 x2 m0 m1 ours) 70) := ⟨_, rfl⟩
  rw [← hH2]
  have hb2 : H2 b = some (.cells (cnX psk cid true nonce 2 hl ha gr rx tx x0 x1 x2 m0 m1 ours) 70) := by rw [hH2]; exact set_self _ _ _
  have o2 : Only b H H2 := by rw [hH2]; exact Only.set _
  have ht2 : Tabs H2 := ht.only o2 hb1
  have sz : (nonce ++ ours).size ≤ 100000 := by rw [ByteArray.size_append]; exact hs
  refine ⟨_, rfl, _, loc (o := 0) hb2 rfl, _, rfl, _, loc (o := 3) hb2 rfl, by omega, _, rfl, _, loc (o := 0) hb2 rfl, _, rfl, _, loc (o := 3) hb2 rfl, by omega, ?_⟩
  refine sha_Derive.run hp (by decide) sz ht2 fun H3 hle3 => ?_
  have hb3 := hle3 _ _ hb2
  refine ⟨⟨_, loc (o := 3) hb3 rfl, rfl, rfl⟩, ⟨_, loc (o := 0) hb3 rfl, rfl, rfl⟩, ?_⟩
  refine seal_New.run (ht2.up hle3) fun k1 H4 _ _ hle4 => ?_
  have hb4 := hle4 _ _ hb3
  refine ⟨⟨_, loc (o := 3) hb4 rfl, rfl, rfl⟩, ⟨_, loc (o := 0) hb4 rfl, rfl, rfl⟩, ?_⟩
  refine sha_Derive.run hp (by decide) sz ((ht2.up hle3).up hle4) fun H5 hle5 => ?_
  refine seal_New.run (((ht2.up hle3).up hle4).up hle5) fun k2 H6 _ _ hle6 => ?_
  have l26 := ((hle3.trans hle4).trans hle5).trans hle6
  have hb6 := l26 _ _ hb2
  refine ⟨_, rfl, stc_to (o := 12) (arr' := cnX psk cid true nonce 2 hl ha gr (some ⟨k2, 0, none⟩) tx x0 x1 x2 m0 m1 ours) hb6 (show _ < 22 by decide) rfl ?_⟩
  refine ⟨_, rfl, stc_to (o := 13) (arr' := cnX psk cid true nonce 2 hl ha gr (some ⟨k2, 0, none⟩) (some ⟨k1, 0, none⟩) x0 x1 x2 m0 m1 ours) (set_self _ _ _) (show _ < 22 by decide) rfl ?_⟩
  refine ⟨_, rfl, _, loc (o := 2) (set_self _ _ _) rfl, ?_⟩
  dsimp only
  rw [if_pos rfl]
  refine ⟨_, rfl, stc_to (o := 12) (arr' := cnX psk cid true nonce 2 hl ha gr (some ⟨k1, 0, none⟩) (some ⟨k1, 0, none⟩) x0 x1 x2 m0 m1 ours) (set_self _ _ _) (show _ < 22 by decide) rfl ?_⟩
  refine ⟨_, rfl, stc_to (o := 13) (arr' := cnX psk cid true nonce 2 hl ha gr (some ⟨k1, 0, none⟩) (some ⟨k2, 0, none⟩) x0 x1 x2 m0 m1 ours) (set_self _ _ _) (show _ < 22 by decide) rfl ?_⟩
  rw [set_set, set_set, set_set]
  exact ⟨_, Heap.Le.refl _, h _ ((o2.trans (Only.of_le l26)).trans (Only.set _))⟩
theorem conn_Accept.J1.run {a b c d : ByteArray} {x : Bool} {Kn : Heap → Prop} {Kr : Option Addr → Int → Heap → Prop} (h1 : x = true → Kr none 3 H) (h0 : x = false → Kn H) : conn_Accept.J1 a b c d x Kn Kr E H := by
  refine ⟨?_⟩
  unfold conn_Accept.J1.vc
  cases x with
  | true => rw [if_pos rfl]; exact h1 rfl
  | false => rw [if_neg (by simp)]; exact h0 rfl
theorem Tabs.lt (ht : Tabs H) {b : Nat} (hn : H b = none) : 1 < b := by
  have h0 := IntsIn.some0 ht.k
  have h1 := IntsIn.some0 ht.s
  rcases b with _ | _ | b
  · exact absurd hn h1
  · exact absurd hn h0
  · omega
theorem conn_Accept.run (ht : Tabs H) {psk cid theirs nonce : ByteArray} (hp : psk.size ≤ 100000) {K : Option Addr → Int → Heap → Prop} (h1 : (cid.size = 8 ∧ theirs.size = 16 ∧ nonce.size = 16) → ∀ x H', Heap.Le H H' → K (some x) 0 H') (h0 : ¬ (cid.size = 8 ∧ theirs.size = 16 ∧ nonce.size = 16) → K none 3 H) : conn_Accept.c psk cid theirs nonce K E H := by
  refine ⟨?_⟩
  unfold conn_Accept.vc
  by_cases hc : cid.size = 8
  · rw [if_neg (by simp [hc])]
    by_cases hth : theirs.size = 16
    · rw [if_neg (by simp [hth])]
      refine conn_Accept.J1.run (fun hx => ⟨H, Heap.Le.refl _, h0 fun hn => ?_⟩) (fun hx => ⟨?_⟩)
      · rw [bne_iff_ne] at hx
        exact hx (by rw [hn.2.2]; rfl)
      · have hn : nonce.size = 16 := by rw [bne_eq_false_iff_eq] at hx; omega
        unfold conn_Accept.J2.vc
        refine conn_made.run fun b H1 x0 x1 x2 m0 m1 hn0 hle hb => ⟨_, rfl, ?_⟩
        refine stc_to (o := 2) (arr' := cnX psk cid true theirs 0 false 0 false none none x0 x1 x2 m0 m1 ⟨#[]⟩) hb (show _ < 22 by decide) rfl ⟨_, rfl, ?_⟩
        refine stc_to (o := 9) (arr' := cnX psk cid true theirs 0 false 0 true none none x0 x1 x2 m0 m1 ⟨#[]⟩) (set_self _ _ _) (show _ < 22 by decide) rfl ?_
        rw [set_set]
        have o2 : Only b H1 (H1.set b (.cells (cnX psk cid true theirs 0 false 0 true none none x0 x1 x2 m0 m1 ⟨#[]⟩) 70)) := Only.set _
        have hb1 := ht.lt hn0
        refine conn_Conn_agree.run ((ht.up hle).only o2 hb1) hb1 hp (by omega) (set_self _ _ _) fun H3 o3 => ?_
        exact ⟨H3, Heap.Le.refl _, h1 ⟨hc, hth, hn⟩ _ H3 ((o2.trans o3).le hle hn0)⟩
    · rw [if_pos (by simp; omega)]
      exact conn_Accept.J1.run (fun _ => ⟨H, Heap.Le.refl _, h0 fun hn => hth hn.2.1⟩) (fun e => by cases e)
  · rw [if_pos (by simp; omega)]
    exact conn_Accept.J1.run (fun _ => ⟨H, Heap.Le.refl _, h0 fun hn => hc hn.1⟩) (fun e => by cases e)
/-! ### The first packet -/
def headB (kind : UInt8) (cid : ByteArray) : ByteArray := ((⟨#[kind]⟩ : ByteArray) ++ cid) ++ (⟨#[0, 0, 0, 0]⟩ : ByteArray)
def pktB (secret : List UInt8) (kind : UInt8) (cid data : ByteArray) : ByteArray := headB kind cid ++ (⟨(sealL secret (un 0) (headB kind cid).data.toList data.data.toList).toArray⟩ : ByteArray)
theorem head_size (kind : UInt8) (cid : ByteArray) : (headB kind cid).size = cid.size + 5 := by
  unfold headB
  rw [ByteArray.size_append, ByteArray.size_append]
  have e1 : (⟨#[kind]⟩ : ByteArray).size = 1 := rfl
  have e2 : (⟨#[0, 0, 0, 0]⟩ : ByteArray).size = 4 := rfl
  omega
theorem zero4 : ∀ (i : Nat) (x : UInt8), ([0, 0, 0, 0] : List UInt8)[i]? = some x → (#[(.int .u8 (IntKind.u8.wrap (shrI .i64 0 24))), (.int .u8 (IntKind.u8.wrap (shrI .i64 0 16))), (.int .u8 (IntKind.u8.wrap (shrI .i64 0 8))), (.int .u8 (IntKind.u8.wrap 0))] : Array Value)[i]? = some (.int .u8 (x.toNat : Int))
  | 0, _, h => by cases h; rfl
  | 1, _, h => by cases h; rfl
  | 2, _, h => by cases h; rfl
  | 3, _, h => by cases h; rfl
  | i + 4, _, h => by cases h
theorem conn_pack.run (ht : Tabs H) {b : Nat} {s cid data : ByteArray} (hs : s.size ≤ 100000) (hc : cid.size ≤ 1000) (hd : data.size ≤ 1000) (hk : KeyAt H b s 0 0) {K : ByteArray → Heap → Prop} (h : ∀ H', Only b H H' → K (pktB s.data.toList 1 cid data) H') : conn_pack.c (some ⟨b, 0, none⟩) 1 cid 0 data K E H := by
  refine ⟨newB_le fun b1 H1 hn1 hl1 hle1 => ?_⟩
  refine one_bytes (x := 1) hl1 ⟨?_, by decide, by decide, by decide, ?_⟩
  · have : (⟨#[1]⟩ : ByteArray).size = 1 := rfl
    omega
  refine newB_le fun b2 H2 hn2 hl2 hle2 => ?_
  refine rdBytes_of (bs := [0, 0, 0, 0]) hl2 rfl zero4 ?_
  have hz := head_size 1 cid
  have hz1 : ((⟨#[1]⟩ : ByteArray) ++ cid).size = cid.size + 1 := by rw [ByteArray.size_append]; have : (⟨#[1]⟩ : ByteArray).size = 1 := rfl; omega
  refine ⟨by rw [hz1]; have : (⟨([0, 0, 0, 0] : List UInt8).toArray⟩ : ByteArray).size = 4 := rfl; omega, ?_⟩
  show seal_Key_Seal.c (some ⟨b, 0, none⟩) 0 (headB 1 cid) data _ E H2
  have hle := hle1.trans hle2
  refine seal_Key_Seal.run hs (by omega) (by omega) (hk.le hle) (by decide) (by decide) (ht.up hle) fun H3 _ ho => ?_
  have hsl : (sealL s.data.toList (un 0) (headB 1 cid).data.toList data.data.toList).length = data.size + 16 := by rw [sealL_len, size_listB]
  refine ⟨?_, H3, Heap.Le.refl _, h H3 ((Only.of_le hle).trans ho)⟩
  show (headB 1 cid).size + _ ≤ _
  have e : (⟨(sealL s.data.toList (un 0) (headB 1 cid).data.toList data.data.toList).toArray⟩ : ByteArray).size = (sealL s.data.toList (un 0) (headB 1 cid).data.toList data.data.toList).length := ba_size _
  rw [hz, e, hsl]
  omega
theorem conn_Conn_greetings.J1.run {c : Option Addr} {now : Int} {Kn : Heap → Prop} {Kr : ByteArray → Bool → Heap → Prop} (h0 : Kn H) : conn_Conn_greetings.J1 c now false Kn Kr E H := by
  refine ⟨?_⟩
  unfold conn_Conn_greetings.J1.vc
  rw [if_neg (by simp)]
  exact h0
theorem conn_Conn_Send.run (ht : Tabs H) {b : Nat} (hb1 : 1 < b) {psk cid nonce o0 : ByteArray} {srv gr : Bool} {rx tx x0 x1 x2 : Option Addr} {m0 m1 : Nat} (hp : psk.size ≤ 100000) (hc : cid.size ≤ 1000) (hd : nonce.size ≤ 1000)
    (hb : H b = some (.cells (cnX psk cid srv nonce 1 false 0 gr rx tx x0 x1 x2 m0 m1 o0) 70)) {K : ByteArray → Bool → Heap → Prop} (h : ∀ H', Only b H H' → K (pktB (deriveB psk helloB ⟨#[]⟩).data.toList 1 cid nonce) true H') : conn_Conn_Send.c (some ⟨b, 0, none⟩) 0 128 K E H := by
  refine ⟨?_⟩
  unfold conn_Conn_Send.vc
  rw [if_neg (by decide)]
  refine ⟨?_⟩
  unfold conn_Conn_Send.J1.vc
  rw [if_neg (by decide)]
  refine ⟨_, rfl, _, loc (o := 4) hb rfl, ?_⟩
  dsimp only
  rw [if_pos (by rfl)]
  refine ⟨?_⟩
  unfold conn_Conn_Send.J2.vc
  rw [if_pos (by rfl)]
  refine ⟨?_⟩
  unfold conn_Conn_greetings.vc
  refine ⟨_, rfl, _, loc (o := 4) hb rfl, ?_⟩
  dsimp only
  rw [if_pos (by rfl)]
  refine ⟨_, rfl, _, loc (o := 7) hb rfl, ?_⟩
  dsimp only
  rw [if_neg (by simp)]
  refine conn_Conn_greetings.J1.run ⟨?_⟩
  unfold conn_Conn_greetings.J2.vc
  refine ⟨_, rfl, stc_to (o := 7) (arr' := cnX psk cid srv nonce 1 true 0 gr rx tx x0 x1 x2 m0 m1 o0) hb (show _ < 22 by decide) rfl ?_⟩
  refine ⟨_, rfl, stc_to (o := 8) (arr' := cnX psk cid srv nonce 1 true 0 gr rx tx x0 x1 x2 m0 m1 o0) (set_self _ _ _) (show _ < 22 by decide) rfl ?_⟩
  rw [set_set]
  obtain ⟨H2, hH2⟩ : ∃ H2, H2 = H.set b (.cells (cnX psk cid srv nonce 1 true 0 gr rx tx x0 x1 x2 m0 m1 o0) 70) := ⟨_, rfl⟩
  rw [← hH2]
  have hb2 : H2 b = some (.cells (cnX psk cid srv nonce 1 true 0 gr rx tx x0 x1 x2 m0 m1 o0) 70) := by rw [hH2]; exact set_self _ _ _
  have o2 : Only b H H2 := by rw [hH2]; exact Only.set _
  have ht2 : Tabs H2 := ht.only o2 hb1
  refine ⟨_, rfl, _, loc (o := 0) hb2 rfl, _, rfl, _, loc (o := 1) hb2 rfl, _, rfl, _, loc (o := 3) hb2 rfl, ?_⟩
  refine sha_Derive.run hp (by decide) (by decide) ht2 fun H3 hle3 => ?_
  have hb3 := hle3 _ _ hb2
  refine ⟨⟨_, loc (o := 3) hb3 rfl, rfl, rfl⟩, ⟨_, loc (o := 1) hb3 rfl, rfl, rfl⟩, ?_⟩
  show seal_New.c (deriveB psk helloB ⟨#[]⟩) _ E H3
  refine seal_New.run (ht2.up hle3) fun kb H4 hk hkn hle4 => ?_
  have hb4 := hle4 _ _ hb3
  refine ⟨⟨_, loc (o := 3) hb4 rfl, rfl, rfl⟩, ⟨_, loc (o := 1) hb4 rfl, rfl, rfl⟩, ?_⟩
  refine conn_pack.run ((ht2.up hle3).up hle4) (derive_size _ _ _) hc hd hk fun H5 ho5 => ?_
  have l25 : Heap.Le H2 H5 := by
    intro k o hk2
    refine ho5 k o (hle4 _ _ (hle3 _ _ hk2)) fun e => ?_
    subst e
    rw [hle3 _ _ hk2] at hkn
    cases hkn
  exact ⟨_, Heap.Le.refl _, _, Heap.Le.refl _, h H5 (o2.trans (Only.of_le l25))⟩
end
end Go.Sh
