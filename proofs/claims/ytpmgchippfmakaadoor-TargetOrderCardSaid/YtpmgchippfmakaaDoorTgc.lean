/- The laws of targets: what is written is read. -/
import Derived.Test.YtpmgchippfmakaaDoorTgb
namespace Go.Sh
open Go.Proofs Num Go.ChangeShapes Go.WideShapes Go.RowKit
set_option maxRecDepth 8000
abbrev proxyB : ByteArray := ⟨#[112, 114, 111, 120, 121]⟩
theorem fieldArr_get {auth : ByteArray} {ip : Bool} {a : Nat} {p : Int} : ∀ i f, (fieldsL auth ip a p)[i]? = some f → (fieldArr auth (protoB ip) (pathB ip a p))[i * 2]? = some (.string f.1) ∧ (fieldArr auth (protoB ip) (pathB ip a p))[i * 2 + 1]? = some (.string f.2)
  | 0, f, h => by cases h; exact ⟨rfl, rfl⟩
  | 1, f, h => by cases h; exact ⟨rfl, rfl⟩
  | 2, f, h => by cases h; exact ⟨rfl, rfl⟩
  | 3, f, h => by cases h; exact ⟨rfl, rfl⟩
  | 4, f, h => by cases h; exact ⟨rfl, rfl⟩
  | 5, f, h => by cases h; exact ⟨rfl, rfl⟩
  | i + 6, f, h => by cases h
theorem fields_cases {H : Heap} {auth : ByteArray} {ip : Bool} {a : Nat} {port : Int} {p : Option Addr} {n c : Nat} (h : FieldsAt H auth ip a port p n c) : (rightB ip a port = true ∧ ∃ b, p = some ⟨b, 0, none⟩ ∧ n = 6 ∧ c = 6 ∧ H b = some (.cells (fieldArr auth (protoB ip) (pathB ip a port)) 35)) ∨ (rightB ip a port = false ∧ n = 0) := by
  unfold FieldsAt at h
  split at h
  · rename_i hr; exact .inl ⟨hr, h⟩
  · rename_i hr; exact .inr ⟨by simpa using hr, h.2.1⟩
theorem fields_rows {H : Heap} {auth : ByteArray} {ip : Bool} {a : Nat} {port : Int} {b : Nat} (h : H b = some (.cells (fieldArr auth (protoB ip) (pathB ip a port)) 35)) : RowsAt H (some ⟨b, 0, none⟩) 6 2 (rF (fieldsL auth ip a port)) := rows_arr h fieldArr_get
theorem chk_of {l : FL} (h : l.length ≤ 16) (hf : ∀ f ∈ l, fieldOk f = true) : chkL l = true := by
  unfold chkL
  rw [decide_eq_true h, Bool.true_and, List.all_eq_true]
  exact hf
theorem more_nil : MoreOk [] := fun f hf => by cases hf
theorem parse_fields {auth : ByteArray} {ip : Bool} {a : Nat} {p : Int} (ha : a < 4294967296) (hr : rightB ip a p = true) (h1 : auth.size ≤ 256) (h2 : auth.data.toList.all seeB = true) (h0 : auth.size ≠ 0) : parseL (fieldsL auth ip a p) = (ip, a, p.toNat, 200) := by
  have h := parse_back (auth := auth) ha hr more_nil
  rw [List.append_nil] at h
  rw [h, if_pos ⟨chk_of (show 6 ≤ 16 by decide) (fields_ok ha hr h1 h2), h0⟩]
theorem u64_small {x m : Int} (hm : 0 < m) (hm2 : m ≤ 100000) : ∃ k : Nat, IntKind.i64.wrap (Int.tmod (IntKind.u64.wrap x) m) = (k : Int) ∧ (k : Int) < m := by
  have h0 : 0 ≤ IntKind.u64.wrap x := by
    simp only [IntKind.wrap, IntKind.bits, IntKind.signed, Bool.false_and, Bool.false_eq_true, if_false]
    exact Int.emod_nonneg _ (by decide)
  rw [Int.tmod_eq_emod_of_nonneg h0]
  have h1 := Int.emod_nonneg (IntKind.u64.wrap x) (show m ≠ 0 by omega)
  have h2 := Int.emod_lt_of_pos (IntKind.u64.wrap x) hm
  rw [w_i64 (by omega) (by omega)]
  exact ⟨(IntKind.u64.wrap x % m).toNat, by omega, by omega⟩
section
variable {H : Heap} {K : Bool → Heap → Prop} {E : Value → Heap → Prop}
theorem works_path : pathB false 3221225990 443 = (⟨#[47, 46, 119, 101, 108, 108, 45, 107, 110, 111, 119, 110, 47, 109, 97, 115, 113, 117, 101, 47, 117, 100, 112, 47, 49, 57, 50, 46, 48, 46, 50, 46, 54, 47, 52, 52, 51, 47]⟩ : ByteArray) := by
  have hr : rightB false ((3221225990 : Nat) : Int) 443 = true := by decide
  unfold pathB
  rw [hr, if_pos rfl, if_neg (by simp)]
  apply ba_ext
  rw [show (443 : Int).toNat = 443 from rfl, path_list (by decide), dg_eq (by decide)]
  decide +kernel
theorem vizardlaw17_works.run (g : GH H) (h : K true H) : vizardlaw17_works.c K E H := by
  refine ⟨?_⟩
  unfold vizardlaw17_works.vc
  refine target_Fields.run (a := 3221225990) (by decide) g.tab fun q n c H1 hle hf => ?_
  have hr : rightB false ((3221225990 : Nat) : Int) 443 = true := by decide
  rcases fields_cases hf with ⟨_, b, rfl, rfl, rfl, hb⟩ | ⟨hno, _⟩
  rotate_left
  · rw [hr] at hno; cases hno
  refine target_Parse.run (g.le hle) (fields_rows hb) (by decide) ?_
  rw [parse_fields (by decide) hr (by decide) (by decide) (by decide)]
  refine new3_le fun b2 H2 hbn hb2 hle2 => ?_
  have g0 := loc (o := 0) hb2 rfl
  have g1 := loc (o := 1) hb2 rfl
  have g2 := loc (o := 2) hb2 rfl
  refine ⟨_, g0, _, g1, _, g2, ?_⟩
  dsimp only
  rw [if_pos (by decide), if_pos (by decide)]
  refine ⟨_, g0, _, g1, _, g2, ?_⟩
  dsimp only
  refine target_Path.run (a := 3221225990) (p := ((443 : Int).toNat : Int)) (by decide) (g.tab.le (hle.trans hle2)) fun H3 hle3 => ?_
  rw [show (((443 : Int).toNat : Nat) : Int) = 443 from rfl, works_path, ba_eq, decide_eq_true rfl]
  exact ⟨H, (hle.trans hle2).trans hle3, h⟩
theorem not_right {ip : Bool} {a p : Int} (h : rightB ip a p = false) : (ip = true → a ≠ 0 ∨ p ≠ 0) ∧ (ip = false → p < 1 ∨ p > 65535) := by
  unfold rightB at h
  constructor
  · rintro rfl
    rw [if_pos rfl] at h
    simp only [Bool.and_eq_false_iff, beq_eq_false_iff_ne] at h
    exact h
  · rintro rfl
    rw [if_neg (by simp)] at h
    simp only [Bool.and_eq_false_iff, decide_eq_false_iff_not] at h
    omega
theorem nat_of_u32 {a : Int} (h : IntKind.u32.has a) : ∃ A : Nat, a = (A : Int) ∧ A < 4294967296 := by
  have := has_u32 h
  exact ⟨a.toNat, by omega, by omega⟩
theorem vizardlaw17_TargetBack.J2.run {auth : ByteArray} {m0 : Option Addr} {m1 m2 : Nat} {t0 : Addr} {l0 : Option Addr} {l1 l2 : Nat} {i0 : Int} {x : Bool} {Kn : Heap → Prop} {Kr : Bool → Heap → Prop} (h1 : x = true → Kr true H) (h0 : x = false → Kn H) : vizardlaw17_TargetBack.J2 auth m0 m1 m2 t0 l0 l1 l2 i0 x Kn Kr E H := by
  refine ⟨?_⟩
  unfold vizardlaw17_TargetBack.J2.vc
  cases x with
  | true => rw [if_pos rfl]; exact h1 rfl
  | false => rw [if_neg (by simp)]; exact h0 rfl
theorem colon_bt2 {x : ByteArray} (h : x.size ≠ 0) : (bt x 0 == 58) = colonB x := by
  have := colon_bt h
  unfold bne at this
  have e : (!!(bt x 0 == 58)) = (!!colonB x) := by rw [this]
  simpa using e
/-- Is there a name behind that may not be there? -/
theorem vizardlaw17_TargetBack.W1.run {auth : ByteArray} {p : Option Addr} {n c : Nat} {more : FL} {t0 : Addr} {l0 : Option Addr} {l1 l2 : Nat} {Kx0 : Heap → Prop} {Kr : Bool → Heap → Prop} (hr : RowsAt H p n 2 (rF more)) (hn : n ≤ 4611686018427387904) (h1 : Kr true H) (h0 : MoreOk more → Kx0 H) :
    vizardlaw17_TargetBack.W1 auth p n c t0 l0 l1 l2 0 Kx0 Kr E H := by
  have hlen := rF_len hr
  refine ⟨Loop.of (I := fun st H' m => ∃ i : Nat, st = (i : Int) ∧ i ≤ n ∧ m = n - i ∧ H' = H ∧ MoreOk (more.take i)) ?_ ⟨0, rfl, Nat.zero_le _, rfl, rfl, fun f hf => by simp at hf⟩⟩
  rintro m st H' ⟨i, rfl, hi, rfl, rfl, hall⟩ RR hRR
  unfold vizardlaw17_TargetBack.W1.vc
  by_cases hlt : i < n
  · rw [if_pos (by rw [decide_eq_true_eq]; omega)]
    obtain ⟨f, hf⟩ : ∃ f, more[i]? = some f := ⟨_, List.getElem?_eq_getElem (by omega)⟩
    obtain ⟨a, ha, c0, c1⟩ := fcell hr hf
    have k0 : H'.cell? ((a.add ((i : Int).toNat * 2)).add 0) = some (.string f.1) := by rw [Int.toNat_natCast]; exact c0
    refine ⟨a, ha, by omega, by omega, _, k0, ?_⟩
    dsimp only
    rw [ba_eq]
    by_cases he : f.1 = (⟨#[]⟩ : ByteArray)
    · rw [if_pos (by rw [decide_eq_true_eq]; exact he)]
      exact vizardlaw17_TargetBack.J2.run (fun _ => h1) (fun e => by cases e)
    · rw [if_neg (by rw [decide_eq_true_eq]; exact he)]
      have hs : f.1.size ≠ 0 := fun e => he (size0.2 e)
      refine ⟨a, ha, by omega, by omega, _, k0, by omega, by omega, ?_⟩
      rw [colon_bt2 hs]
      cases hc : colonB f.1 with
      | true =>
        rw [if_pos rfl]
        exact vizardlaw17_TargetBack.J2.run (fun _ => h1) (fun e => by cases e)
      | false =>
        rw [if_neg (by simp)]
        refine ⟨a, ha, by omega, by omega, _, k0, ?_⟩
        dsimp only
        rw [ba_eq]
        refine vizardlaw17_TargetBack.J2.run (fun _ => h1) (fun hq => ⟨?_⟩)
        unfold vizardlaw17_TargetBack.J3.vc
        rw [decide_eq_false_iff_not] at hq
        rw [w_i64 (by omega) (by omega)]
        refine hRR _ _ (n - (i + 1)) (by omega) ⟨i + 1, by simp, by omega, rfl, rfl, fun x hx => ?_⟩
        rw [List.take_add_one, hf] at hx
        rcases List.mem_append.1 hx with hx | hx
        · exact hall x hx
        · have : x = f := by simpa using hx
          rw [this]; exact ⟨hc, hq⟩
  · rw [if_neg (by rw [decide_eq_true_eq]; omega)]
    rw [List.take_of_length_le (by omega)] at hall
    exact h0 hall
/-- A request for a target is one for it. -/
theorem vizardlaw17_TargetBack.run (g : GH H) {auth : ByteArray} {ip : Bool} {a q : Int} {p : Option Addr} {n c : Nat} (_ : auth.size ≤ reachBytes) (ha : IntKind.u32.has a) (_ : IntKind.i64.has q) (hnc : n ≤ c) (hc : c * 32 ≤ reachBytes)
    (hrows : ∃ rows, RowsAt H p n 2 rows ∧ ∀ es ∈ rows, ∃ y0 y1 : ByteArray, es = [(.string y0), (.string y1)] ∧ y0.size ≤ reachBytes ∧ y1.size ≤ reachBytes) (h : K true H) : vizardlaw17_TargetBack.c auth ip a q p n c K E H := by
  obtain ⟨rows, hr, hes⟩ := hrows
  obtain ⟨more, rfl⟩ := rows_fl hes
  obtain ⟨A, rfl, hA⟩ := nat_of_u32 ha
  have hlen := rF_len hr
  have hn : n ≤ 4611686018427387904 := by unfold reachBytes at hc; omega
  refine ⟨?_⟩
  unfold vizardlaw17_TargetBack.vc
  refine newB_le fun b0 H1 hn0 hl0 hle0 => ?_
  have fin : ∀ {H' : Heap}, Heap.Le H H' → ∃ H'', Heap.Le H'' H' ∧ K true H'' := fun hl => ⟨H, hl, h⟩
  refine vizardlaw17_works.run (g.le hle0) ?_
  rw [if_neg (by simp)]
  have g0 := loc (o := 0) hl0 rfl
  have g1 := loc (o := 1) hl0 rfl
  have g2 := loc (o := 2) hl0 rfl
  refine ⟨_, g0, _, g1, _, g2, ?_⟩
  dsimp only
  refine target_Fields.run hA (g.tab.le hle0) fun p6 n6 c6 H2 hle1 hf => ?_
  have hle2 := hle0.trans hle1
  have k0 := Le_cell hle1 g0
  have k1 := Le_cell hle1 g1
  have k2 := Le_cell hle1 g2
  rcases fields_cases hf with ⟨hR, b, rfl, rfl, rfl, hb⟩ | ⟨hR, rfl⟩
  · rw [if_neg (by decide)]
    refine vizardlaw17_TargetBack.W1.run (hr.mono hle2) hn (fin hle2) fun hmore => ?_
    refine newB_le fun b3 H3 hn3 hl3 hle3 => ?_
    refine rdRow_of (m := 6 * 2) ((fields_rows hb).mono hle3) (by decide) rfl ?_
    refine app_one hl3 rfl (by decide) fun p4 c4 H4 ho4 hs4 => ?_
    have hle4 : Heap.Le H H4 := new_le (by
      cases hh : H b3 with
      | none => rfl
      | some o => rw [hle2 _ _ hh] at hn3; cases hn3) (hle2.trans hle3) hs4
    have hl24 : Heap.Le H2 H4 := new_le hn3 hle3 hs4
    refine rdRow_of (hr.mono hle4) (by decide) rfl ?_
    refine app_more ho4 hlen (by unfold reachBytes at hc; omega) fun p5 c5 H5 ho5 hs5 => ⟨?_⟩
    -- what was there before the rows is there still
    have hl25 : Heap.Le H2 H5 := fun k o hk => (hs5 k o (hl24 k o hk) fun hm => by
      have hlive := hs4 k o (hle3 k o hk)
      by_cases e : k = b3
      · rw [e, hn3] at hk; cases hk
      · exact (hlive (by simpa using e)).2 hm).1
    have hle5 := hle2.trans hl25
    unfold vizardlaw17_TargetBack.J4.vc
    refine target_Parse.run (g.le hle5) ho5.at (by unfold reachBytes at hc; omega) ?_
    refine new3_le fun b6 H6 hn6 hl6 hle6 => ?_
    have hle7 := hle5.trans hle6
    have j0 := Le_cell (hl25.trans hle6) k0
    have j1 := Le_cell (hl25.trans hle6) k1
    have j2 := Le_cell (hl25.trans hle6) k2
    have hP := parse_back (auth := auth) hA hR hmore
    have bad : ¬ (chkL (fieldsL auth ip A q ++ more) = true ∧ auth.size ≠ 0) → ∀ Kn : Heap → Prop, vizardlaw17_TargetBack.J5 (⟨b0, 0, none⟩ : Addr) (⟨b6, 0, none⟩ : Addr) ((parseL (fieldsL auth ip A q ++ more)).2.2.2 : Int) true Kn (fun r0_0 H => ∃ H', Heap.Le H' H ∧ K r0_0 H') E H6 := fun hno Kn => ⟨by
      unfold vizardlaw17_TargetBack.J5.vc
      rw [if_neg hno] at hP
      rw [hP] at hl6 ⊢
      rw [if_pos rfl, if_pos (by rfl)]
      refine ⟨_, loc (o := 0) hl6 rfl, _, loc (o := 1) hl6 rfl, _, loc (o := 2) hl6 rfl, ?_⟩
      exact fin hle7⟩
    refine vizardref14_Check.run (ho5.at.mono hle6) (fun hk => ?_) (fun hk e he => ?_)
    · rw [if_neg (by simp), ba_eq]
      by_cases h0 : auth.size = 0
      · rw [decide_eq_true (size0.2 h0)]
        exact bad (fun hno => hno.2 h0) _
      · rw [decide_eq_false (fun e => h0 (size0.1 e))]
        refine ⟨?_⟩
        unfold vizardlaw17_TargetBack.J5.vc
        rw [if_neg (by simp)]
        refine ⟨?_⟩
        unfold vizardlaw17_TargetBack.J6.vc
        rw [if_pos ⟨hk, h0⟩] at hP
        rw [hP] at hl6 ⊢
        rw [if_pos (by rfl)]
        refine ⟨_, loc (o := 0) hl6 rfl, _, loc (o := 1) hl6 rfl, _, loc (o := 2) hl6 rfl, _, j0, _, j1, _, j2, ?_⟩
        dsimp only
        have hq : ((q.toNat : Nat) : Int) = q := by
          cases ip with
          | true => rw [(right_ip hR).2]; rfl
          | false => have := right_port hR; omega
        rw [hq]
        have e : ((ip == ip) && (((A : Int) == (A : Int)) && ((q == q) && true))) = true := by simp
        rw [e]
        exact fin hle7
    · rw [if_pos (by simpa using he)]
      exact bad (fun hno => by rw [hk] at hno; exact absurd hno.1 (by simp)) _
  · rw [if_pos (by decide)]
    obtain ⟨n1, n2⟩ := not_right hR
    refine ⟨_, k0, ?_⟩
    dsimp only
    cases ip with
    | true =>
      rw [if_pos rfl]
      refine ⟨_, k1, ?_⟩
      dsimp only
      by_cases h1 : (A : Int) = 0
      · rw [if_neg (by simpa using h1)]
        refine ⟨_, k2, ?_⟩
        dsimp only
        have h2 : q ≠ 0 := (n1 rfl).resolve_left (fun e => e h1)
        rw [if_pos (by simpa using h2)]
        exact fin hle2
      · rw [if_pos (by simpa using h1)]
        exact fin hle2
    | false =>
      rw [if_neg (by simp)]
      refine ⟨_, k0, ?_⟩
      dsimp only
      rw [if_pos (by simp)]
      refine ⟨_, k2, ?_⟩
      dsimp only
      by_cases h1 : q < 1
      · rw [if_pos (by rw [decide_eq_true_eq]; exact h1)]
        exact fin hle2
      · rw [if_neg (by rw [decide_eq_true_eq]; exact h1)]
        refine ⟨_, k2, ?_⟩
        dsimp only
        have h2 : q > 65535 := (n2 rfl).resolve_left h1
        rw [decide_eq_true h2]
        exact fin hle2
theorem vizardlaw17_TargetBack.laid {W : World} {l0 l1 l2 l3 D1 D2 : List (DataW Unit)} (h : laidMetH Go.Proofs.Tryd.prog [("math/bits.deBruijn32tab", .agg l0), ("math/bits.deBruijn64tab", .agg l1), ("internal/strconv.uint64pow10", (.agg (powTab.map fun x => .lit (.int .u64 x)) : DataW Unit)), ("unicode/utf8.acceptRanges", .agg l2),
    ("strconv.ErrRange", .iface "*errors.errorString" (.ptr (.agg D1))), ("strconv.ErrSyntax", .iface "*errors.errorString" (.ptr (.agg D2))), ("unicode/utf8.first", .agg l3)] W) : GH (heapOf W) := target_laid h
end
end Go.Sh
