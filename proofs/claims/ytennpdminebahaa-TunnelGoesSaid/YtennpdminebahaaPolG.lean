/- Routes: the program's and the reference's. -/
import Derived.Test.YtennpdminebahaaPolF
namespace Go.Sh
theorem bnds_snoc {l : List Rul} {k : Nat} {x : Rul} (h : l[k]? = some x) : bnds (l.take (k + 1)) = bnds (l.take k) ++ [ends1 x.addr x.bits, ends2 x.addr x.bits + 1] := by
  unfold bnds
  rw [List.take_add_one, h, List.flatMap_append]
  simp
theorem bnds_len (l : List Rul) : (bnds l).length = 2 * l.length := by
  unfold bnds
  induction l with
  | nil => rfl
  | cons r l ih => rw [List.flatMap_cons, List.length_append, ih]; simp; omega
theorem risen_len (l : List Rul) : (risen l).length ≤ 2 + 2 * l.length := by
  unfold risen Lib.compact
  refine Nat.le_trans (compactUpTo_len _ _) ?_
  rw [List.length_mergeSort]
  simp only [List.length_cons, bnds_len]
  omega
theorem policy_Routes.bounds {Hb H0 : Heap} {p p1 : Option Addr} {n c c1 : Nat} {l : List Rul} (hat : RulesAt Hb p n l) (hn : n ≤ 32) (hf : ∀ r ∈ l, r.fine) (ho : OwnRows H0 2 1 p1 2 c1 (irow [0, 4294967296])) (hst : Step [] Hb (bl p1) H0) {Kx : Option Addr → Nat → Nat → Heap → Prop} {E : Value → Heap → Prop}
    (h : ∀ p' c' H, OwnRows H 2 1 p' (2 + 2 * n) c' (irow (0 :: 4294967296 :: bnds l)) → Step [] Hb (bl p') H → Kx p' (2 + 2 * n) c' H) : policy_Routes.W1 p n c p1 2 c1 p n c (n : Int) 0 Kx E H0 := by
  have hlen := hat.len
  refine ⟨Loop.of (I := fun st H m => ∃ (k : Nat) (p' : Option Addr) (c' : Nat), st = (p', 2 + 2 * k, c', (k : Int)) ∧ k ≤ n ∧ m = n - k ∧ OwnRows H 2 1 p' (2 + 2 * k) c' (irow (0 :: 4294967296 :: bnds (l.take k))) ∧ Step [] Hb (bl p') H) ?_ ⟨0, p1, c1, rfl, Nat.zero_le _, rfl, ho, hst⟩⟩
  rintro m st H ⟨k, p', c', rfl, hk, rfl, hown, hst⟩ RR hRR
  unfold policy_Routes.W1.vc
  dsimp only
  by_cases hlt : k < n
  · rw [if_pos (by simp; omega)]
    obtain ⟨x, hget⟩ : ∃ x, l[k]? = some x := ⟨l[k]'(by omega), List.getElem?_eq_getElem (by omega)⟩
    have hfx := hf x (List.mem_of_getElem? hget)
    have hr := ends_range hfx
    obtain ⟨a, rfl, f0, f1, f2, f3, f4, f5⟩ := (hat.mono hst.le).get hget
    refine ⟨a, rfl, by omega, by omega, ?_⟩
    simp only [Int.toNat_natCast]
    refine ⟨_, f0, _, f1, _, f2, _, f3, _, f4, _, f5, ?_⟩
    refine new6_le fun b H1 hb hb1 hle1 => ?_
    refine ⟨x.addr, by rw [add_add]; exact loc hb1 rfl, x.bits, by rw [add_add]; exact loc hb1 rfl, ?_⟩
    refine prefix_Ends.run hfx.1 hfx.2 ?_
    have e1 : IntKind.i64.wrap (ends1 x.addr x.bits) = ends1 x.addr x.bits := w_i64 (by omega) (by omega)
    have e2 : IntKind.i64.wrap (ends2 x.addr x.bits) = ends2 x.addr x.bits := w_i64 (by omega) (by omega)
    have e3 : IntKind.i64.wrap (ends2 x.addr x.bits + 1) = ends2 x.addr x.bits + 1 := w_i64 (by omega) (by omega)
    rw [e1, e2, e3]
    refine push_ints (xs := [ends1 x.addr x.bits, ends2 x.addr x.bits + 1]) (hown.le hle1) (by omega) rfl (by decide) rfl fun p2 c2 H2 h1 h2 => ⟨?_⟩
    unfold policy_Routes.J2.vc
    have e4 : 2 + 2 * k + 2 = 2 + 2 * (k + 1) := by omega
    rw [e4] at h1 ⊢
    refine hRR _ _ (n - (k + 1)) (by omega) ⟨k + 1, p2, c2, by rw [w_i64 (by omega) (by omega)]; rfl, by omega, rfl, ?_, hst.trans ((Step.of_le hle1).trans h2)⟩
    rw [bnds_snoc hget]
    exact h1
  · rw [if_neg (by simp; omega)]
    have hkn : k = n := by omega
    subst hkn
    rw [List.take_of_length_le (by omega)] at hown
    exact h p' c' H hown hst
theorem getD_of {l : List Int} {k : Nat} {x : Int} (h : l[k]? = some x) : l.getD k 0 = x := by rw [List.getD_eq_getElem?_getD, h]; rfl
section
variable {Hb H0 : Heap} {p pb : Option Addr} {n c cb : Nat} {l : List Rul} {E : Value → Heap → Prop}
theorem policy_Routes.each (hat : RulesAt Hb p n l) (hf : ∀ r ∈ l, r.fine) (hc : checkL l = 0) (ho : OwnRows Hb 2 1 pb (risen l).length cb (irow (risen l))) {Kx : Option Addr → Nat → Nat → Heap → Prop}
    (h : ∀ p' c' H, OwnRows H 30 3 p' (rtsTo (canGo l) (risen l) ((risen l).length - 1)).length c' (rrow (rtsTo (canGo l) (risen l) ((risen l).length - 1))) → Step [] Hb (bl p') H → Kx p' (rtsTo (canGo l) (risen l) ((risen l).length - 1)).length c' H) :
    policy_Routes.W3 p n c pb (risen l).length cb none 0 0 pb ((risen l).length - 1) cb (((risen l).length - 1 : Nat) : Int) 0 Kx E Hb := by
  have hlen := hat.len
  have h32 := checkL_len hc
  have hl := right_all hc
  have hrl := risen_len l
  have h2 := risen_two l
  have hrs := risen_rises hf
  refine ⟨Loop.of (I := fun st H m => ∃ (k : Nat) (p' : Option Addr) (c' : Nat), st = (p', (rtsTo (canGo l) (risen l) k).length, c', (k : Int)) ∧ k ≤ (risen l).length - 1 ∧ m = (risen l).length - 1 - k ∧ OwnRows H 30 3 p' (rtsTo (canGo l) (risen l) k).length c' (rrow (rtsTo (canGo l) (risen l) k)) ∧ Step [] Hb (bl p') H) ?_
    ⟨0, none, 0, rfl, Nat.zero_le _, rfl, ⟨rfl, (fun es he => by cases he), Nat.le_refl _, .inl ⟨rfl, rfl⟩⟩, Step.refl _ _⟩⟩
  rintro m st H ⟨k, p', c', rfl, hk, rfl, hown, hst⟩ RR hRR
  unfold policy_Routes.W3.vc
  dsimp only
  by_cases hlt : k < (risen l).length - 1
  · rw [if_pos (by simp; omega)]
    obtain ⟨lo, hlo⟩ : ∃ x, (risen l)[k]? = some x := ⟨(risen l)[k]'(by omega), List.getElem?_eq_getElem (by omega)⟩
    obtain ⟨hi, hhi⟩ : ∃ x, (risen l)[k + 1]? = some x := ⟨(risen l)[k + 1]'(by omega), List.getElem?_eq_getElem (by omega)⟩
    have hlh := hrs.rise k (k + 1) lo hi hlo hhi (by omega)
    have hr0 := hrs.range lo (List.mem_of_getElem? hlo)
    have hr1 := hrs.range hi (List.mem_of_getElem? hhi)
    have hrt := rts_ok (g := canGo l) hrs k (by omega)
    have hrn := rtsTo_len (canGo l) (risen l) k
    obtain ⟨a, ha, hca⟩ := int_get (ho.step hst (by simp)) hlo
    subst ha
    refine ⟨a, rfl, by omega, by omega, lo, by simpa using hca, ?_⟩
    dsimp only
    rw [w_u32 (n := lo) (by omega) (by omega)]
    refine policy_reached.run (hat.mono hst.le) (by omega) hf hl ⟨by omega, by omega⟩ ?_
    have estep : rtsTo (canGo l) (risen l) (k + 1) = stepR (canGo l) (rtsTo (canGo l) (risen l) k) lo hi := by
      show stepR _ _ _ _ = _
      rw [getD_of hlo, getD_of hhi]
    have next : ∀ {p2 : Option Addr} {c2 : Nat} {H2 : Heap} {rs : List (Int × Int)}, rs = rtsTo (canGo l) (risen l) (k + 1) → OwnRows H2 30 3 p2 rs.length c2 (rrow rs) → Step [] Hb (bl p2) H2 → RR (p2, rs.length, c2, IntKind.i64.wrap ((k : Int) + 1)) H2 := by
      rintro p2 c2 H2 rs rfl q1 q2
      exact hRR _ _ ((risen l).length - 1 - (k + 1)) (by omega) ⟨k + 1, p2, c2, by rw [w_i64 (by omega) (by omega)]; rfl, by omega, rfl, q1, q2⟩
    cases hg : canGo l lo with
    | false =>
      rw [if_pos (by simp)]
      refine ⟨?_⟩
      unfold policy_Routes.J4.vc
      exact next (by rw [estep, stepR_no hg]) hown hst
    | true =>
      rw [if_neg (by simp)]
      obtain ⟨a2, ha2, hca2⟩ := int_get (ho.step hst (by simp)) hhi
      cases ha2
      have ek : IntKind.i64.wrap ((k : Int) + 1) = ((k + 1 : Nat) : Int) := by rw [w_i64 (by omega) (by omega)]; rfl
      refine ⟨a, rfl, by rw [ek]; omega, by rw [ek]; omega, hi, by rw [ek, Int.toNat_natCast]; exact hca2, ?_⟩
      have eh : IntKind.u32.wrap (IntKind.i64.wrap (hi - 1)) = hi - 1 := by rw [w_i64 (by omega) (by omega), w_u32 (by omega) (by omega)]
      dsimp only
      rw [eh]
      -- a route is put behind, or the last one is made longer
      have fresh : ∀ {rs : List (Int × Int)} {nn : Int} {b : Bool}, b = false → rs = rtsTo (canGo l) (risen l) k → rs ++ [(lo, hi - 1)] = rtsTo (canGo l) (risen l) (k + 1) →
          policy_Routes.J5 p n c (some a) (risen l).length cb p' rs.length c' lo (hi - 1) nn (some a) ((risen l).length - 1) cb (((risen l).length - 1 : Nat) : Int) (k : Int) b (fun o3 o4 o5 h3 => policy_Routes.J4 p n c (some a) (risen l).length cb o3 o4 o5 (some a) ((risen l).length - 1) cb (((risen l).length - 1 : Nat) : Int) (k : Int) (fun x h4 => RR (o3, o4, o5, x) h4) E h3) E H := by
        rintro rs nn b rfl rfl er
        refine ⟨?_⟩
        unfold policy_Routes.J5.vc
        rw [if_neg (by simp), w_u32 (n := lo) (by omega) (by omega)]
        refine push_route hown (by omega) fun p2 c2 H2 q1 q2 => ⟨?_⟩
        unfold policy_Routes.J4.vc
        have := next er (p2 := p2) (c2 := c2) (H2 := H2) (by simpa using q1) (hst.trans q2)
        simpa using this
      rcases snoc_cases (rtsTo (canGo l) (risen l) k) with hnil | ⟨acc, x, hacc⟩
      · rw [if_neg (by rw [hnil]; simp)]
        exact fresh rfl rfl (by rw [estep, hnil, stepR_nil hg]; rfl)
      · have hnl : (rtsTo (canGo l) (risen l) k).length = acc.length + 1 := by rw [hacc]; simp
        rw [if_pos (by simp only [decide_eq_true_eq]; omega)]
        obtain ⟨a3, ha3, g1, g2, g3⟩ := route_get hown (i := acc.length) (x := x) (by rw [hacc]; simp)
        have hx := hrt.each x (by rw [hacc]; simp)
        have hxlo := hx.2.2 lo hlo
        have en : IntKind.i64.wrap (((rtsTo (canGo l) (risen l) k).length : Int) - 1) = (acc.length : Int) := by rw [hnl, w_i64 (by omega) (by omega)]; omega
        refine ⟨a3, ha3, by rw [en]; omega, by rw [en, hnl]; omega, x.2, by rw [en, Int.toNat_natCast]; exact g2, ?_⟩
        dsimp only
        have ew : IntKind.i64.wrap (IntKind.i64.wrap x.2 + 1) = x.2 + 1 := by rw [w_i64 (n := x.2) (by omega) (by omega), w_i64 (by omega) (by omega)]
        rw [ew]
        by_cases hj : x.2 + 1 = lo
        · refine ⟨?_⟩
          unfold policy_Routes.J5.vc
          rw [if_pos (by simpa using hj)]
          refine ⟨a3, ha3, by rw [en]; omega, by rw [en, hnl]; omega, ?_⟩
          rw [en, Int.toNat_natCast]
          rw [hacc] at hown
          refine set_route (x := x.1) (y := x.2) hown ha3 fun H2 q1 q2 => ⟨?_⟩
          unfold policy_Routes.J4.vc
          have := next (rs := acc ++ [(x.1, hi - 1)]) (by rw [estep, hacc, stepR_join hg hj]) (p2 := p') (c2 := c') (H2 := H2) (by simpa using q1) (hst.trans q2)
          rw [hnl]
          simpa using this
        · refine fresh (by simpa using hj) rfl ?_
          rw [estep, hacc, stepR_new hg hj]
  · rw [if_neg (by simp; omega)]
    have hkn : k = (risen l).length - 1 := by omega
    subst hkn
    exact h p' c' H hown hst
theorem policy_Routes.run (hat : RulesAt Hb p n l) (hf : ∀ r ∈ l, r.fine) {K : Option Addr → Nat → Nat → Heap → Prop}
    (h : ∀ p' c' H, Heap.Le Hb H → RowsAt H p' (routes l).length 3 (rrow (routes l)) → K p' (routes l).length c' H) : policy_Routes.c p n c K E Hb := by
  refine ⟨?_⟩
  unfold policy_Routes.vc
  refine policy_Check.run hat hf ?_
  have hlen := hat.len
  by_cases hc : checkL l = 0
  · rw [if_neg (by simpa using hc)]
    have h32 := checkL_len hc
    have h2 := risen_two l
    have hrl := risen_len l
    intro b hb
    refine policy_Routes.bounds hat (by omega) hf ⟨rfl, irow_len _, Nat.le_refl _, .inr ⟨b, _, rfl, set_self _ _ _, rfl, rfl⟩⟩ (Step.new hb _ []) fun p1 c1 H1 q1 q2 => ?_
    refine slices_Sort.run q1 (by omega) (by omega) fun H2 s1 s2 => ?_
    refine slices_Compact.run s1 (by omega) (by omega) fun H3 t1 t2 => ?_
    have hst3 : Step [] Hb (bl p1) H3 := (q2.trans s2).trans t2
    have t3 : OwnRows H3 2 1 p1 (risen l).length c1 (irow (risen l)) := t1
    rw [show Lib.compact ((0 :: 4294967296 :: bnds l).mergeSort fun x y => decide (x ≤ y)) = risen l from rfl]
    have el : IntKind.i64.wrap (((risen l).length : Int) - 1) = (((risen l).length - 1 : Nat) : Int) := by rw [w_i64 (by omega) (by omega)]; omega
    have hcap := t3.2.2.1
    rw [el]
    refine ⟨by omega, by omega, ?_⟩
    rw [slA_nul, Int.toNat_natCast]
    refine policy_Routes.each (hat.mono hst3.le) hf hc t3 fun p' c' H4 u1 u2 => ?_
    have er : routes l = (rtsTo (canGo l) (risen l) ((risen l).length - 1)).take 16 := by unfold routes; rw [if_pos hc]; rfl
    have hlr : (routes l).length = min 16 (rtsTo (canGo l) (risen l) ((risen l).length - 1)).length := by rw [er, List.length_take]
    have hcap2 := u1.2.2.1
    have em : (if (16 : Int) < ((rtsTo (canGo l) (risen l) ((risen l).length - 1)).length : Int) then (16 : Int) else ((rtsTo (canGo l) (risen l) ((risen l).length - 1)).length : Int)) = ((routes l).length : Int) := by
      rw [hlr]; split <;> omega
    rw [em]
    refine ⟨by omega, by omega, ?_⟩
    rw [slA_nul, Int.toNat_natCast]
    refine ⟨H4, Heap.Le.refl _, h p' c' H4 (hst3.le.trans u2.le) ?_⟩
    have := u1.at.take (m := (routes l).length) (by omega)
    have ex : rrow (routes l) = (rrow (rtsTo (canGo l) (risen l) ((risen l).length - 1))).take (routes l).length := by
      rw [hlr, er]
      unfold rrow
      rw [← List.map_take]
      congr 1
      rw [List.take_eq_take_iff]
      omega
    rw [ex]
    exact this
  · rw [if_pos (by simpa using hc)]
    have e : routes l = [] := by unfold routes; rw [if_neg hc]
    rw [e] at h
    exact ⟨Hb, Heap.Le.refl _, h none 0 Hb (Heap.Le.refl _) ⟨rfl, fun _ => rfl, fun a ha => by cases ha⟩⟩
end
end Go.Sh
