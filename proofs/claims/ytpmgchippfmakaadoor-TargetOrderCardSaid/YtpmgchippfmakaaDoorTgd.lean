/- The laws of targets: one thing that is changed; any order. -/
import Derived.Test.YtpmgchippfmakaaDoorTgc
namespace Go.Sh
open Go.Proofs Num Go.ChangeShapes Go.WideShapes Go.RowKit
set_option maxRecDepth 8000
/-! ### One thing that is changed -/
def chgB (k : Nat) : ByteArray := match k with
  | 0 => ⟨#[71, 69, 84]⟩ | 1 => ⟨#[99, 111, 110, 110, 101, 99, 116, 45, 116, 99, 112]⟩ | 2 => ⟨#[104, 116, 116, 112]⟩ | 3 => ⟨#[]⟩ | 4 => ⟨#[47]⟩ | _ => ⟨#[63, 48]⟩
def wantN (k : Nat) : Nat := match k with
  | 0 => 405 | 1 => 501 | 2 => 400 | 3 => 400 | 4 => 404 | _ => 400
def nmB (k : Nat) : ByteArray := match k with
  | 0 => mNm | 1 => pNm | 2 => sNm | 3 => aNm | 4 => hNm | _ => cNm
def sixL (v0 v1 v2 v3 v4 v5 : ByteArray) : FL := [(mNm, v0), (pNm, v1), (sNm, v2), (aNm, v3), (hNm, v4), (cNm, v5)]
theorem six_get {v0 v1 v2 v3 v4 v5 : ByteArray} : Six (sixL v0 v1 v2 v3 v4 v5) v0 v1 v2 v3 v4 ∧ getF (sixL v0 v1 v2 v3 v4 v5) cNm = some v5 :=
  ⟨⟨getF_one (f := (mNm, v0)) (by kernel_rfl), getF_one (f := (pNm, v1)) (by kernel_rfl), getF_one (f := (sNm, v2)) (by kernel_rfl), getF_one (f := (aNm, v3)) (by kernel_rfl), getF_one (f := (hNm, v4)) (by kernel_rfl)⟩, getF_one (f := (cNm, v5)) (by kernel_rfl)⟩
theorem six_shape {v0 v1 v2 v3 v4 v5 : ByteArray} : shapeGo (sixL v0 v1 v2 v3 v4 v5) false (sixL v0 v1 v2 v3 v4 v5) = true := by kernel_rfl
theorem six_parse {v0 v1 v2 v3 v4 v5 : ByteArray} (hk : chkL (sixL v0 v1 v2 v3 v4 v5) = true) : parseL (sixL v0 v1 v2 v3 v4 v5) = restA (sixL v0 v1 v2 v3 v4 v5) v0 v2 v3 v4 := parse_six six_get.1 (by rw [hk, six_shape]; rfl)
section
variable {ip : Bool} {a : Nat} {p : Int}
theorem six_ok (ha : a < 4294967296) (hr : rightB ip a p = true) : ∀ f ∈ fieldsL proxyB ip a p, fieldOk f = true := fields_ok ha hr (by decide) (by decide)
theorem chk_set (ha : a < 4294967296) (hr : rightB ip a p = true) (k : Nat) {x : ByteArray × ByteArray} (hx : fieldOk x = true) : chkL ((fieldsL proxyB ip a p).set k x) = true := by
  refine chk_of (by rw [List.length_set]; exact (show 6 ≤ 16 by decide)) fun f hf => ?_
  rcases List.mem_or_eq_of_mem_set hf with h | h
  · exact six_ok ha hr f h
  · rw [h]; exact hx
theorem slash_none : udpV (⟨#[47]⟩ : ByteArray) = none := udpV_none fun x ⟨h1, h2, h3, h4⟩ => by
  have := congrArg (fun b : ByteArray => b.data.toList.length) h4
  dsimp only at this
  rw [path_list h1, List.length_append] at this
  have e : frontB.data.toList.length = 24 := rfl
  rw [e] at this
  have e1 : ((⟨#[47]⟩ : ByteArray).data.toList).length = 1 := rfl
  rw [e1] at this
  omega
theorem proto_two (ip : Bool) : some (protoB ip) = some udpB ∨ some (protoB ip) = some ipB := by cases ip <;> simp [protoB]
theorem status_set (ha : a < 4294967296) (hr : rightB ip a p = true) : ∀ k, k < 6 → parseL ((fieldsL proxyB ip a p).set k (nmB k, chgB k)) = badA (wantN k) := by
  intro k hk
  match k, hk with
  | 0, _ =>
    have h := chk_set ha hr 0 (x := (nmB 0, chgB 0)) (by decide)
    have e : (fieldsL proxyB ip a p).set 0 (nmB 0, chgB 0) = sixL (chgB 0) (protoB ip) httpsB proxyB (pathB ip a p) oneB := rfl
    rw [e] at h ⊢
    rw [six_parse h]
    unfold restA
    rw [six_get.1.p, if_neg (by simp), if_pos (by decide)]
    rfl
  | 1, _ =>
    have h := chk_set ha hr 1 (x := (nmB 1, chgB 1)) (by decide)
    have e : (fieldsL proxyB ip a p).set 1 (nmB 1, chgB 1) = sixL connB (chgB 1) httpsB proxyB (pathB ip a p) oneB := rfl
    rw [e] at h ⊢
    rw [six_parse h]
    unfold restA
    rw [six_get.1.p, if_neg (by simp), if_neg (by simp), if_pos (by simp only [Option.some.injEq]; decide)]
    rfl
  | 2, _ =>
    have h := chk_set ha hr 2 (x := (nmB 2, chgB 2)) (by decide)
    have e : (fieldsL proxyB ip a p).set 2 (nmB 2, chgB 2) = sixL connB (protoB ip) (chgB 2) proxyB (pathB ip a p) oneB := rfl
    rw [e] at h ⊢
    rw [six_parse h]
    unfold restA
    rw [six_get.1.p, if_neg (by simp), if_neg (by simp), if_neg (fun hn => hn (proto_two ip)), if_pos (fun hn => absurd hn.1 (by decide))]
    rfl
  | 3, _ =>
    have h := chk_set ha hr 3 (x := (nmB 3, chgB 3)) (by decide)
    have e : (fieldsL proxyB ip a p).set 3 (nmB 3, chgB 3) = sixL connB (protoB ip) httpsB (chgB 3) (pathB ip a p) oneB := rfl
    rw [e] at h ⊢
    rw [six_parse h]
    unfold restA
    rw [six_get.1.p, if_neg (by simp), if_neg (by simp), if_neg (fun hn => hn (proto_two ip)), if_pos (fun hn => hn.2.1 rfl)]
    rfl
  | 4, _ =>
    have h := chk_set ha hr 4 (x := (nmB 4, chgB 4)) (by decide)
    have e : (fieldsL proxyB ip a p).set 4 (nmB 4, chgB 4) = sixL connB (protoB ip) httpsB proxyB (chgB 4) oneB := rfl
    rw [e] at h ⊢
    rw [six_parse h]
    unfold restA
    rw [six_get.1.p, six_get.2, if_neg (by simp), if_neg (by simp), if_neg (fun hn => hn (proto_two ip)), if_neg (fun hn => hn ⟨rfl, by decide, rfl⟩)]
    cases ip with
    | true => rw [if_pos (show some (protoB true) = some ipB from rfl), if_neg (by decide)]; rfl
    | false =>
      rw [if_neg (by intro h; exact proto_ne (Option.some.inj h))]
      show (match udpV (⟨#[47]⟩ : ByteArray) with | some x => (false, x.1, x.2, 200) | none => badA 404) = badA 404
      rw [slash_none]
  | 5, _ =>
    have h := chk_set ha hr 5 (x := (nmB 5, chgB 5)) (by decide)
    have e : (fieldsL proxyB ip a p).set 5 (nmB 5, chgB 5) = sixL connB (protoB ip) httpsB proxyB (pathB ip a p) (chgB 5) := rfl
    rw [e] at h ⊢
    rw [six_parse h]
    unfold restA
    rw [six_get.1.p, six_get.2, if_neg (by simp), if_neg (by simp), if_neg (fun hn => hn (proto_two ip)), if_pos (fun hn => absurd (Option.some.inj hn.2.2) (by decide))]
    rfl
  | k + 6, hk => omega
theorem status_del : ∀ k, k < 6 → parseL ((fieldsL proxyB ip a p).take k ++ (fieldsL proxyB ip a p).drop (k + 1)) = badA 400 := by
  intro k hk
  match k, hk with
  | 0, _ => exact parse_lack (n := mNm) (by simp [namesL]) (getF_none (by kernel_rfl))
  | 1, _ =>
    obtain ⟨L, hL⟩ : ∃ L, L = (fieldsL proxyB ip a p).take 1 ++ (fieldsL proxyB ip a p).drop 2 := ⟨_, rfl⟩
    have e1 : getF L mNm = some connB := by rw [hL]; exact getF_one (f := (mNm, connB)) (by kernel_rfl)
    have e0 : getF L pNm = none := by rw [hL]; exact getF_none (by kernel_rfl)
    show parseL ((fieldsL proxyB ip a p).take 1 ++ (fieldsL proxyB ip a p).drop 2) = _
    rw [← hL]
    unfold parseL
    split
    · split
      · rename_i m s a h q1 q2 q3 q4
        rw [e1] at q1
        cases q1
        unfold restA
        rw [if_pos (by rw [e0]; simp)]
      · rfl
    · rfl
  | 2, _ => exact parse_lack (n := sNm) (by simp [namesL]) (getF_none (by kernel_rfl))
  | 3, _ => exact parse_lack (n := aNm) (by simp [namesL]) (getF_none (by kernel_rfl))
  | 4, _ => exact parse_lack (n := hNm) (by simp [namesL]) (getF_none (by kernel_rfl))
  | 5, _ =>
    obtain ⟨L, hL⟩ : ∃ L, L = (fieldsL proxyB ip a p).take 5 ++ (fieldsL proxyB ip a p).drop 6 := ⟨_, rfl⟩
    have e1 : getF L mNm = some connB := by rw [hL]; exact getF_one (f := (mNm, connB)) (by kernel_rfl)
    have e2 : getF L pNm = some (protoB ip) := by rw [hL]; exact getF_one (f := (pNm, protoB ip)) (by kernel_rfl)
    have e0 : getF L cNm = none := by rw [hL]; exact getF_none (by kernel_rfl)
    show parseL ((fieldsL proxyB ip a p).take 5 ++ (fieldsL proxyB ip a p).drop 6) = _
    rw [← hL]
    unfold parseL
    split
    · split
      · rename_i m s a h q1 q2 q3 q4
        rw [e1] at q1
        cases q1
        unfold restA
        rw [if_neg (by rw [e2]; simp), if_neg (by simp), if_neg (fun hn => hn (by rw [e2]; exact proto_two ip)), if_pos (fun hn => by rw [e0] at hn; exact absurd hn.2.2 (by simp))]
      · rfl
    · rfl
  | k + 6, hk => omega
theorem nm_get : ∀ k, k < 6 → ∃ v, (fieldsL proxyB ip a p)[k]? = some (nmB k, v)
  | 0, _ => ⟨_, rfl⟩
  | 1, _ => ⟨_, rfl⟩
  | 2, _ => ⟨_, rfl⟩
  | 3, _ => ⟨_, rfl⟩
  | 4, _ => ⟨_, rfl⟩
  | 5, _ => ⟨_, rfl⟩
  | k + 6, h => by omega
/-- As 'target_Fields.run'; the row is new. -/
theorem target_Fields.run2 {auth : ByteArray} {ip : Bool} {a : Nat} {p : Int} (ha : a < 4294967296) {H : Heap} (ht : powH H) {K : Option Addr → Nat → Nat → Heap → Prop} {E : Value → Heap → Prop} (h : ∀ q n c H', Heap.Le H H' → FieldsAt H' auth ip a p q n c → (∀ b, q = some ⟨b, 0, none⟩ → H b = none) → K q n c H') : target_Fields.c auth ip a p K E H := by
  refine ⟨?_⟩
  unfold target_Fields.vc
  refine newB_le fun b H1 hn hl hle => ?_
  have g0 := loc (o := 0) hl rfl
  have g1 := loc (o := 1) hl rfl
  have g2 := loc (o := 2) hl rfl
  refine ⟨_, g0, _, g1, _, g2, target_right.run ?_⟩
  cases hr : rightB ip a p with
  | false =>
    rw [if_pos (by simp)]
    refine ⟨H1, Heap.Le.refl _, h _ _ _ H1 hle ?_ ?_⟩
    · unfold FieldsAt
      rw [hr, if_neg (by simp)]
      exact ⟨rfl, rfl, rfl⟩
    · intro b hb; cases hb
  | true =>
    rw [if_neg (by simp)]
    have tail : ∀ {Kr : Option Addr → Nat → Nat → Heap → Prop}, (∀ q n c H', Heap.Le H H' → FieldsAt H' auth ip a p q n c → (∀ b, q = some ⟨b, 0, none⟩ → H b = none) → Kr q n c H') → target_Fields.J1 auth ⟨b, 0, none⟩ (protoB ip) Kr E H1 := fun {Kr} hk => by
      refine ⟨?_⟩
      unfold target_Fields.J1.vc
      refine ⟨_, g0, _, g1, _, g2, target_Path.run ha (ht.le hle) fun H2 hle2 => ?_⟩
      refine newB_le fun b2 H3 hn3 hl3 hle3 => hk _ _ _ H3 ((hle.trans hle2).trans hle3) ?_ ?_
      · unfold FieldsAt
        rw [if_pos hr]
        exact ⟨b2, rfl, rfl, rfl, hl3⟩
      · intro b' hb'
        cases hb'
        cases hh : H b2 with
        | none => rfl
        | some o => rw [(hle.trans hle2) _ _ hh] at hn3; cases hn3
    have fin := tail (Kr := fun q n c H' => ∃ H'', Heap.Le H'' H' ∧ K q n c H'') fun q n c H' hl' hf hb => ⟨H', Heap.Le.refl _, h q n c H' hl' hf hb⟩
    refine ⟨_, g0, ?_⟩; dsimp only
    cases ip with
    | true => rw [if_pos rfl]; exact fin
    | false => rw [if_neg (by simp)]; exact fin
/-! ### Any order -/
def sw (i k j : Nat) : Nat := if j = k then i else if j = i then k else j
def atF (ip : Bool) (a : Nat) (p : Int) (j : Nat) : ByteArray × ByteArray := (fieldsL proxyB ip a p).getD j (⟨#[]⟩, ⟨#[]⟩)
def swL (ip : Bool) (a : Nat) (p : Int) (i k : Nat) : FL := (List.range 6).map fun j => atF ip a p (sw i k j)
theorem sw_lt {i k j : Nat} (hi : i < 6) (hk : k < 6) (hj : j < 6) : sw i k j < 6 := by
  unfold sw
  split
  · exact hi
  · split
    · exact hk
    · exact hj
theorem sw_perm : ∀ i k : Fin 6, ((List.range 6).map (sw i.val k.val)).Perm (List.range 6) := by decide
theorem sw_ord : ∀ i k : Fin 6, ordB false ((List.range 6).map fun j => decide (sw i.val k.val j < 5)) = (decide (i.val = 5) == decide (k.val = 5)) := by decide
theorem atF_get : ∀ j, j < 6 → (fieldsL proxyB ip a p)[j]? = some (atF ip a p j)
  | 0, _ => rfl
  | 1, _ => rfl
  | 2, _ => rfl
  | 3, _ => rfl
  | 4, _ => rfl
  | 5, _ => rfl
  | j + 6, h => by omega
theorem atF_colon : ∀ j, j < 6 → colonB (atF ip a p j).1 = decide (j < 5)
  | 0, _ => colon_m
  | 1, _ => colon_p
  | 2, _ => colon_s
  | 3, _ => colon_a
  | 4, _ => colon_h
  | 5, _ => colon_c
  | j + 6, h => by omega
theorem swL_perm {i k : Nat} (hi : i < 6) (hk : k < 6) : (swL ip a p i k).Perm (fieldsL proxyB ip a p) := by
  have h := (sw_perm ⟨i, hi⟩ ⟨k, hk⟩).map (atF ip a p)
  rw [List.map_map] at h
  exact h
theorem sw_parse (ha : a < 4294967296) (hr : rightB ip a p = true) {i k : Nat} (hi : i < 6) (hk : k < 6) : parseL (swL ip a p i k) = if (decide (i = 5) == decide (k = 5)) = true then (ip, a, p.toNat, 200) else badA 400 := by
  have hp := swL_perm (ip := ip) (a := a) (p := p) hi hk
  obtain ⟨x, hc⟩ := six_get (v0 := connB) (v1 := protoB ip) (v2 := httpsB) (v3 := proxyB) (v4 := pathB ip a p) (v5 := oneB)
  have eL : sixL connB (protoB ip) httpsB proxyB (pathB ip a p) oneB = fieldsL proxyB ip a p := rfl
  rw [eL] at x hc
  have hs : shapeGo (swL ip a p i k) false (swL ip a p i k) = (decide (i = 5) == decide (k = 5)) := by
    rw [shape_ord]
    · rw [← sw_ord ⟨i, hi⟩ ⟨k, hk⟩]
      unfold swL
      rw [List.map_map]
      congr 1
      apply List.map_congr_left
      intro j hj
      rw [List.mem_range] at hj
      exact atF_colon _ (sw_lt hi hk hj)
    · intro f hf hcol
      rw [getF_perm hp]
      have hm := hp.subset hf
      simp only [fieldsL, List.mem_cons, List.not_mem_nil, or_false] at hm
      rcases hm with rfl | rfl | rfl | rfl | rfl | rfl
      · exact ⟨by rw [x.m]; rfl, pseudo_m⟩
      · exact ⟨by rw [x.p]; rfl, pseudo_p⟩
      · exact ⟨by rw [x.s]; rfl, pseudo_s⟩
      · exact ⟨by rw [x.a]; rfl, pseudo_a⟩
      · exact ⟨by rw [x.h]; rfl, pseudo_h⟩
      · rw [colon_c] at hcol; cases hcol
  have hck : chkL (swL ip a p i k) = true := by
    rw [chkL_perm hp]
    exact chk_of (show 6 ≤ 16 by decide) (six_ok ha hr)
  cases hb : (decide (i = 5) == decide (k = 5)) with
  | false => rw [if_neg (by simp), parse_bad (by rw [hs, hb, Bool.and_false])]
  | true =>
    rw [if_pos rfl]
    have x2 : Six (swL ip a p i k) connB (protoB ip) httpsB proxyB (pathB ip a p) := ⟨by rw [getF_perm hp]; exact x.m, by rw [getF_perm hp]; exact x.p, by rw [getF_perm hp]; exact x.s, by rw [getF_perm hp]; exact x.a, by rw [getF_perm hp]; exact x.h⟩
    rw [parse_six x2 (by rw [hck, hs, hb]; rfl)]
    exact rest_ok ha hr x2.p (by rw [getF_perm hp]; exact hc) (by decide)
end
/-! ### The laws -/
section
variable {H : Heap} {K : Bool → Heap → Prop} {E : Value → Heap → Prop} {ip : Bool} {A : Nat} {q : Int}
theorem rows_off {H : Heap} {b : Nat} {arr : Array Value} {e : TypeId} {l : FL} (o : Nat) (hb : H b = some (.cells arr e)) (h : ∀ i f, l[i]? = some f → arr[(o + i) * 2]? = some (.string f.1) ∧ arr[(o + i) * 2 + 1]? = some (.string f.2)) : RowsAt H (some ⟨b, o * 2, none⟩) l.length 2 (rF l) := by
  refine ⟨rF_length l, (fun e => by cases e), fun a ha i es hi => ?_⟩
  cases ha
  unfold rF at hi
  rw [List.getElem?_map] at hi
  obtain ⟨f, hf, rfl⟩ := Option.map_eq_some_iff.1 hi
  obtain ⟨h0, h1⟩ := h i f hf
  have e0 : o * 2 + i * 2 = (o + i) * 2 := by omega
  refine ⟨rfl, fun j v hj => ?_⟩
  rw [add_mk, add_mk]
  match j, hj with
  | 0, hj => cases hj; exact cellN hb (by rw [e0]; exact h0)
  | 1, hj => cases hj; exact cellN hb (by rw [e0]; exact h1)
theorem rows_none {H : Heap} {p : Option Addr} : RowsAt H p 0 2 (rF []) := ⟨rfl, fun _ => rfl, fun a _ i es h => by simp [rF] at h⟩
theorem chg_cell : ∀ k, k < 6 → (#[(.string (⟨#[71, 69, 84]⟩ : ByteArray)), (.string (⟨#[99, 111, 110, 110, 101, 99, 116, 45, 116, 99, 112]⟩ : ByteArray)), (.string (⟨#[104, 116, 116, 112]⟩ : ByteArray)), (.string (⟨#[]⟩ : ByteArray)), (.string (⟨#[47]⟩ : ByteArray)), (.string (⟨#[63, 48]⟩ : ByteArray))] : Array Value)[k]? = some (.string (chgB k))
  | 0, _ => rfl
  | 1, _ => rfl
  | 2, _ => rfl
  | 3, _ => rfl
  | 4, _ => rfl
  | 5, _ => rfl
  | k + 6, h => by omega
theorem want_cell : ∀ k, k < 6 → (#[(.int .i64 405), (.int .i64 501), (.int .i64 400), (.int .i64 400), (.int .i64 404), (.int .i64 400)] : Array Value)[k]? = some (.int .i64 (wantN k : Int))
  | 0, _ => rfl
  | 1, _ => rfl
  | 2, _ => rfl
  | 3, _ => rfl
  | 4, _ => rfl
  | 5, _ => rfl
  | k + 6, h => by omega
/-- A request of which one thing is changed. -/
theorem vizardlaw17_TargetStatus.run (g : GH H) {a w : Int} (ha : IntKind.u32.has a) (_ : IntKind.i64.has q) (_ : IntKind.i64.has w) (h : K true H) : vizardlaw17_TargetStatus.c ip a q w K E H := by
  obtain ⟨A, rfl, hA⟩ := nat_of_u32 ha
  refine ⟨?_⟩
  unfold vizardlaw17_TargetStatus.vc
  refine newB_le fun b0 H1 hn0 hl0 hle0 => ?_
  have fin : ∀ {H' : Heap}, Heap.Le H H' → ∃ H'', Heap.Le H'' H' ∧ K true H'' := fun hl => ⟨H, hl, h⟩
  refine vizardlaw17_works.run (g.le hle0) ?_
  rw [if_neg (by simp)]
  refine ⟨_, loc (o := 0) hl0 rfl, _, loc (o := 1) hl0 rfl, _, loc (o := 2) hl0 rfl, ?_⟩
  dsimp only
  refine target_Fields.run hA (g.tab.le hle0) fun p6 n6 c6 H2 hle1 hf => ?_
  have hle2 := hle0.trans hle1
  rcases fields_cases hf with ⟨hR, b, rfl, rfl, rfl, hb⟩ | ⟨hR, rfl⟩
  rotate_left
  · rw [if_pos (by decide)]
    exact fin hle2
  rw [if_neg (by decide)]
  refine newB_le fun b1 H3 hn3 hl3 hle3 => newB_le fun b2 H4 hn4 hl4 hle4 => ⟨by decide, ?_⟩
  refine newB_le fun b5 H5 hn5 hl5 hle5 => ?_
  have h25 := (hle3.trans hle4).trans hle5
  obtain ⟨k, hk, hk6⟩ := u64_small (x := w) (m := 6) (by decide) (by decide)
  have hk6 : k < 6 := by omega
  rw [hk]
  refine rdRow_of (m := 6 * 2) ((fields_rows hb).mono h25) (by decide) rfl ?_
  refine app_one hl5 rfl (by decide) fun p6 c6 H6 ho6 hs6 => ⟨?_⟩
  have h46 : Heap.Le H4 H6 := new_le hn5 hle5 hs6
  have h26 : Heap.Le H2 H6 := (hle3.trans hle4).trans h46
  unfold vizardlaw17_TargetStatus.J1.vc
  refine ⟨_, rfl, by omega, by omega, _, by rw [Int.toNat_natCast, Nat.mul_one]; exact loc (h46 _ _ (hle4 _ _ hl3)) (chg_cell k hk6), ?_⟩
  dsimp only
  -- the own copy
  rcases ho6.2.2.2 with ⟨rfl, h0⟩ | ⟨ob, arr, rfl, hob, hosz, htk⟩
  · have := ho6.2.2.1; omega
  have hc6 := ho6.2.2.1
  have hob2 : H2 ob = none := by
    cases hh : H2 ob with
    | none => rfl
    | some o =>
      exfalso
      have h5 := h25 _ _ hh
      exact (hs6 ob o h5 (by simp only [List.mem_singleton]; intro e; rw [e] at hh; have := (hle3.trans hle4) _ _ hh; rw [this] at hn5; cases hn5)).2 (by simp [bl])
  have hobn : ∀ {c : Nat} {o : Obj}, H4 c = some o → c ≠ ob := fun {c o} hc e => by
    subst e
    have h5 := hle5 _ _ hc
    exact (hs6 c o h5 (by simp only [List.mem_singleton]; intro e; rw [e, hn5] at hc; cases hc)).2 (by simp [bl])
  refine ⟨_, rfl, by omega, by omega, ?_⟩
  have hidx : k * 2 + 1 < arr.size := by omega
  have hst : ∀ {K0 : Heap → Prop}, K0 (H6.set ob (.cells (arr.setIfInBounds (k * 2 + 1) (.string (chgB k))) 35)) → stc H6 (((⟨ob, 0, none⟩ : Addr).add ((k : Int).toNat * 2)).add 1) (.string (chgB k)) K0 := fun hk0 => by
    have := stc_loc (o := k * 2 + 1) hob hidx hk0
    rw [add_mk] at this
    rw [Int.toNat_natCast, add_mk, add_mk]
    simpa [Nat.add_assoc] using this
  refine hst ?_
  obtain ⟨H7, hH7⟩ : ∃ H7, H7 = H6.set ob (.cells (arr.setIfInBounds (k * 2 + 1) (.string (chgB k))) 35) := ⟨_, rfl⟩
  rw [← hH7]
  have h7ob : H7 ob = some (.cells (arr.setIfInBounds (k * 2 + 1) (.string (chgB k))) 35) := by rw [hH7]; exact set_self _ _ _
  have h47 : Heap.Le H4 H7 := fun c o hc => by
    rw [hH7, set_ne _ _ (hobn hc)]
    exact h46 c o hc
  have h27 : Heap.Le H2 H7 := (hle3.trans hle4).trans h47
  have hle7 := hle2.trans h27
  obtain ⟨v, hv⟩ := nm_get (ip := ip) (a := A) (p := q) k hk6
  -- what lies in the copy
  have hcell : ∀ i f, (fieldsL proxyB ip A q)[i]? = some f → arr[i * 2]? = some (.string f.1) ∧ arr[i * 2 + 1]? = some (.string f.2) := fun i f hi => by
    have hi6 : i < 6 := by
      have := (List.getElem?_eq_some_iff.1 hi).1
      exact this
    have hat := ho6.at
    obtain ⟨a', ha', d0, d1⟩ := fcell hat hi
    cases ha'
    rw [add_mk, add_mk] at d0 d1
    have rd : ∀ {o : Nat} {x : Value}, H6.cell? ⟨ob, 0 + i * 2 + o, none⟩ = some x → arr[i * 2 + o]? = some x := fun {o x} hx => by
      simp only [Heap.cell?, hob, Nat.zero_add] at hx
      simpa using hx
    exact ⟨by simpa using rd d0, rd d1⟩
  have hrows : RowsAt H7 (some ⟨ob, 0, none⟩) 6 2 (rF ((fieldsL proxyB ip A q).set k (nmB k, chgB k))) := by
    have := rows_arr (l := (fieldsL proxyB ip A q).set k (nmB k, chgB k)) h7ob fun i f hi => ?_
    · rw [List.length_set] at this
      exact this
    · by_cases e : k = i
      · subst e
        rw [List.getElem?_set_self (by exact hk6)] at hi
        cases hi
        obtain ⟨d0, d1⟩ := hcell k _ hv
        constructor
        · rw [Array.getElem?_setIfInBounds_ne (by omega)]; exact d0
        · rw [Array.getElem?_setIfInBounds_self_of_lt hidx]
      · rw [List.getElem?_set_ne e] at hi
        obtain ⟨d0, d1⟩ := hcell i _ hi
        constructor
        · rw [Array.getElem?_setIfInBounds_ne (by omega)]; exact d0
        · rw [Array.getElem?_setIfInBounds_ne (by omega)]; exact d1
  refine target_Parse.run (g.le hle7) hrows (by decide) ?_
  rw [status_set hA hR k hk6]
  refine new3_le fun b8 H8 hn8 hl8 hle8 => ⟨by omega, by omega, by rw [w_i64 (by omega) (by omega)]; omega, by rw [w_i64 (by omega) (by omega)]; omega, Nat.le_refl _, ?_⟩
  refine newB_le fun b9 H9 hn9 hl9 hle9 => ?_
  have h29 := (h27.trans hle8).trans hle9
  have hb9 := h29 _ _ hb
  have etk : ((fieldsL proxyB ip A q).take k).length = k := by rw [List.length_take]; exact Nat.min_eq_left (by exact Nat.le_of_lt hk6)
  have r1 : RowsAt H9 (slA (some ⟨b, 0, none⟩) 6 0 2) k 2 (rF ((fieldsL proxyB ip A q).take k)) := by
    have := rows_arr (l := (fieldsL proxyB ip A q).take k) hb9 fun i f hi => fieldArr_get i f (by
      have hik : i < k := by have := (List.getElem?_eq_some_iff.1 hi).1; omega
      rwa [List.getElem?_take_of_lt hik] at hi)
    rw [etk] at this
    exact this
  rw [show (k : Int).toNat = k from Int.toNat_natCast k]
  refine rdRow_of r1 (by decide) rfl ?_
  refine app_one hl9 etk (by unfold reachBytes; omega) fun p10 c10 H10 ho10 hs10 => ?_
  have h810 : Heap.Le H8 H10 := new_le hn9 hle9 hs10
  have hb10 := ((h27.trans hle8).trans h810) _ _ hb
  have ek1 : (IntKind.i64.wrap ((k : Int) + 1)).toNat = k + 1 := by rw [w_i64 (by omega) (by omega)]; omega
  rw [ek1]
  have hdl : ((fieldsL proxyB ip A q).drop (k + 1)).length = 6 - (k + 1) := by rw [List.length_drop]; rfl
  have r2 : RowsAt H10 (slA (some ⟨b, 0, none⟩) 6 (k + 1) 2) (6 - (k + 1)) 2 (rF ((fieldsL proxyB ip A q).drop (k + 1))) := by
    by_cases h5 : k = 5
    · subst h5
      exact rows_none
    · have := rows_off (l := (fieldsL proxyB ip A q).drop (k + 1)) (k + 1) hb10 fun i f hi => fieldArr_get (k + 1 + i) f (by rwa [List.getElem?_drop] at hi)
      rw [hdl] at this
      have es : slA (some (⟨b, 0, none⟩ : Addr)) 6 (k + 1) 2 = some ⟨b, (k + 1) * 2, none⟩ := by
        unfold slA
        rw [if_neg (by omega), Option.map_some, add_mk, Nat.zero_add]
      rw [es]
      exact this
  refine rdRow_of r2 (by decide) rfl ?_
  refine app_more ho10 hdl (by omega) fun p11 c11 H11 ho11 hs11 => ⟨?_⟩
  have h811 : Heap.Le H8 H11 := fun c o hc => (hs11 c o (h810 c o hc) fun hm => by
    by_cases e : c = b9
    · rw [e, hn9] at hc; cases hc
    · exact (hs10 c o (hle9 _ _ hc) (by simpa using e)).2 hm).1
  have hle11 := (hle7.trans hle8).trans h811
  unfold vizardlaw17_TargetStatus.J2.vc
  refine target_Parse.run (g.le hle11) ho11.at (by omega) ?_
  rw [status_del k hk6]
  refine new3_le fun b12 H12 hn12 hl12 hle12 => ?_
  have hw := (((h47.trans hle8).trans h811).trans hle12) _ _ hl4
  have h8 := (h811.trans hle12) _ _ hl8
  refine ⟨_, rfl, by omega, by omega, _, by rw [Int.toNat_natCast, Nat.mul_one]; exact loc hw (want_cell k hk6), ?_⟩
  dsimp only
  rw [if_pos (by show ((wantN k : Int) == (wantN k : Int)) = true; simp)]
  refine ⟨_, loc (o := 0) h8 rfl, _, loc (o := 1) h8 rfl, _, loc (o := 2) h8 rfl, ?_⟩
  dsimp only
  rw [if_pos (by rfl)]
  exact fin (hle11.trans hle12)
theorem vizardlaw17_TargetStatus.laid {W : World} {l0 l1 l2 l3 D1 D2 : List (DataW Unit)} (h : laidMetH Go.Proofs.Tryd.prog [("math/bits.deBruijn32tab", .agg l0), ("math/bits.deBruijn64tab", .agg l1), ("internal/strconv.uint64pow10", (.agg (powTab.map fun x => .lit (.int .u64 x)) : DataW Unit)), ("unicode/utf8.acceptRanges", .agg l2),
    ("strconv.ErrRange", .iface "*errors.errorString" (.ptr (.agg D1))), ("strconv.ErrSyntax", .iface "*errors.errorString" (.ptr (.agg D2))), ("unicode/utf8.first", .agg l3)] W) : GH (heapOf W) := target_laid h
/-- Fields in any order. -/
theorem vizardlaw17_TargetOrder.run (g : GH H) {a x y : Int} (ha : IntKind.u32.has a) (_ : IntKind.i64.has q) (_ : IntKind.i64.has x) (_ : IntKind.i64.has y) (h : K true H) : vizardlaw17_TargetOrder.c ip a q x y K E H := by
  obtain ⟨A, rfl, hA⟩ := nat_of_u32 ha
  refine ⟨?_⟩
  unfold vizardlaw17_TargetOrder.vc
  refine newB_le fun b0 H1 hn0 hl0 hle0 => ?_
  have fin : ∀ {H' : Heap}, Heap.Le H H' → ∃ H'', Heap.Le H'' H' ∧ K true H'' := fun hl => ⟨H, hl, h⟩
  refine vizardlaw17_works.run (g.le hle0) ?_
  rw [if_neg (by simp)]
  refine ⟨_, loc (o := 0) hl0 rfl, _, loc (o := 1) hl0 rfl, _, loc (o := 2) hl0 rfl, ?_⟩
  dsimp only
  refine target_Fields.run2 hA (g.tab.le hle0) fun p6 n6 c6 H2 hle1 hf hnew => ?_
  have hle2 := hle0.trans hle1
  rcases fields_cases hf with ⟨hR, b, rfl, rfl, rfl, hb⟩ | ⟨hR, rfl⟩
  rotate_left
  · rw [if_pos (by decide)]
    exact fin hle2
  rw [if_neg (by decide)]
  obtain ⟨i, hi, hi6⟩ := u64_small (x := x) (m := 6) (by decide) (by decide)
  obtain ⟨k, hk, hk6⟩ := u64_small (x := y) (m := 6) (by decide) (by decide)
  have hi6 : i < 6 := by omega
  have hk6 : k < 6 := by omega
  rw [hi, hk]
  have gi := atF_get (ip := ip) (a := A) (p := q) i hi6
  have gk := atF_get (ip := ip) (a := A) (p := q) k hk6
  obtain ⟨ai, hai, i0, i1⟩ := fcell (fields_rows hb) gi
  obtain ⟨ak, hak, k0, k1⟩ := fcell (fields_rows hb) gk
  cases hai
  cases hak
  rw [show (i : Int).toNat = i from Int.toNat_natCast i, show (k : Int).toNat = k from Int.toNat_natCast k]
  refine ⟨by decide, by decide, _, rfl, by omega, by omega, _, k0, _, k1, _, rfl, by omega, by omega, _, i0, _, i1, _, rfl, by omega, by omega, ?_⟩
  obtain ⟨arr, harr⟩ : ∃ arr, arr = fieldArr proxyB (protoB ip) (pathB ip A q) := ⟨_, rfl⟩
  rw [← harr] at hb
  have hsz : arr.size = 12 := by rw [harr]; rfl
  -- a store into the row's cells
  have st : ∀ {Hc : Heap} {B : Array Value} {j o : Nat} {v : Value} {K0 : Heap → Prop}, Hc b = some (.cells B 35) → j * 2 + o < B.size → K0 (Hc.set b (.cells (B.setIfInBounds (j * 2 + o) v) 35)) → stc Hc (((⟨b, 0, none⟩ : Addr).add (j * 2)).add o) v K0 := fun {Hc B j o v K0} h1 h2 h3 => by
    have := stc_loc (o := j * 2 + o) h1 h2 h3
    rw [add_mk] at this
    rw [add_mk, add_mk]
    simpa [Nat.add_assoc] using this
  refine st (o := 0) hb (by omega) ?_
  refine st (o := 1) (set_self _ _ _) (by simp only [Array.size_setIfInBounds]; omega) ?_
  rw [set_set]
  refine ⟨_, rfl, by omega, by omega, ?_⟩
  refine st (o := 0) (set_self _ _ _) (by simp only [Array.size_setIfInBounds]; omega) ?_
  rw [set_set]
  refine st (o := 1) (set_self _ _ _) (by simp only [Array.size_setIfInBounds]; omega) ?_
  rw [set_set]
  obtain ⟨B4, hB4⟩ : ∃ B4, B4 = (((arr.setIfInBounds (i * 2 + 0) (.string (atF ip A q k).1)).setIfInBounds (i * 2 + 1) (.string (atF ip A q k).2)).setIfInBounds (k * 2 + 0) (.string (atF ip A q i).1)).setIfInBounds (k * 2 + 1) (.string (atF ip A q i).2) := ⟨_, rfl⟩
  rw [← hB4]
  have hrows : RowsAt (H2.set b (.cells B4 35)) (some ⟨b, 0, none⟩) 6 2 (rF (swL ip A q i k)) := by
    have := rows_arr (l := swL ip A q i k) (set_self H2 b (.cells B4 35)) fun j f hj => ?_
    · unfold swL at this ⊢
      rw [List.length_map, List.length_range] at this
      exact this
    · unfold swL at hj
      rw [List.getElem?_map] at hj
      obtain ⟨j', hj', rfl⟩ := Option.map_eq_some_iff.1 hj
      have hj6 : j < 6 := by
        have := (List.getElem?_eq_some_iff.1 hj').1
        simpa using this
      have : j' = j := by
        rw [List.getElem?_range hj6] at hj'
        exact (Option.some.inj hj').symm
      subst this
      obtain ⟨d0, d1⟩ := fieldArr_get (auth := proxyB) (ip := ip) (a := A) (p := q) j' _ (atF_get j' hj6)
      rw [← harr] at d0 d1
      rw [hB4]
      unfold sw
      simp only [Array.getElem?_setIfInBounds, Array.size_setIfInBounds, hsz, Nat.add_zero]
      by_cases e1 : j' = k
      · subst e1
        simp only [if_true]
        constructor
        · rw [if_neg (by omega), if_pos (by omega)]
        · rw [if_pos (by omega)]
      · rw [if_neg e1]
        by_cases e2 : j' = i
        · subst e2
          simp only [if_true]
          constructor
          · rw [if_neg (by omega), if_neg (by omega), if_neg (by omega), if_pos (by omega)]
          · rw [if_neg (by omega), if_neg (by omega), if_pos (by omega)]
        · rw [if_neg e2]
          constructor
          · rw [if_neg (by omega), if_neg (by omega), if_neg (by omega), if_neg (by omega)]; exact d0
          · rw [if_neg (by omega), if_neg (by omega), if_neg (by omega), if_neg (by omega)]; exact d1
  -- the slice is new: what was there first is there still
  have hb1 : H1 b = none := hnew b rfl
  obtain ⟨H3, hH3⟩ : ∃ H3, H3 = H2.set b (.cells B4 35) := ⟨_, rfl⟩
  rw [← hH3] at hrows ⊢
  have h13 : Heap.Le H1 H3 := fun c o hc => by
    rw [hH3, set_ne _ _ (fun e => by rw [e, hb1] at hc; cases hc)]
    exact hle1 c o hc
  have hle3 := hle0.trans h13
  refine target_Parse.run (g.le hle3) hrows (by decide) ?_
  rw [sw_parse hA hR hi6 hk6]
  refine new3_le fun b9 H9 hn9 hl9 hle9 => ?_
  have h0 := (h13.trans hle9) _ _ hl0
  have e5 : ∀ j : Nat, ((j : Int) == 5) = decide (j = 5) := fun j => by rw [Bool.eq_iff_iff, beq_iff_eq, decide_eq_true_eq]; omega
  rw [e5, e5]
  cases hbb : (decide (i = 5) == decide (k = 5)) with
  | false =>
    rw [if_pos (by simp)]
    exact fin (hle3.trans hle9)
  | true =>
    rw [hbb, if_pos rfl] at hl9
    rw [if_neg (by simp), if_pos (by simp)]
    refine ⟨_, loc (o := 0) hl9 rfl, _, loc (o := 1) hl9 rfl, _, loc (o := 2) hl9 rfl, _, loc (o := 0) h0 rfl, _, loc (o := 1) h0 rfl, _, loc (o := 2) h0 rfl, ?_⟩
    dsimp only
    have hq : ((q.toNat : Nat) : Int) = q := by
      cases ip with
      | true => rw [(right_ip hR).2]; rfl
      | false => have := right_port hR; omega
    rw [hq]
    have e : ((ip == ip) && (((A : Int) == (A : Int)) && ((q == q) && true))) = true := by simp
    rw [e]
    exact fin (hle3.trans hle9)
theorem vizardlaw17_TargetOrder.laid {W : World} {l0 l1 l2 l3 D1 D2 : List (DataW Unit)} (h : laidMetH Go.Proofs.Tryd.prog [("math/bits.deBruijn32tab", .agg l0), ("math/bits.deBruijn64tab", .agg l1), ("internal/strconv.uint64pow10", (.agg (powTab.map fun x => .lit (.int .u64 x)) : DataW Unit)), ("unicode/utf8.acceptRanges", .agg l2),
    ("strconv.ErrRange", .iface "*errors.errorString" (.ptr (.agg D1))), ("strconv.ErrSyntax", .iface "*errors.errorString" (.ptr (.agg D2))), ("unicode/utf8.first", .agg l3)] W) : GH (heapOf W) := target_laid h
end
end Go.Sh
