/- A block is mixed in. -/
import Derived.Test.YtkfkkkalcchpkaaGreatDoorShW
import Derived.Test.YtkfkkkalcchpkaaGreatDoorBv
import Derived.Test.YtkfkkkalcchpkaaGreatDoorGsha
namespace Go.Sh
set_option maxRecDepth 8000
theorem shr3 (x : W) : shrI .u32 (wv x) 3 = wv (x >>> 3) := shr_w x (by decide) (by decide)
theorem shr10 (x : W) : shrI .u32 (wv x) 10 = wv (x >>> 10) := shr_w x (by decide) (by decide)
theorem rot_amount : ∀ n : Fin 32, n.val ≠ 0 → bits .and .u64 (IntKind.u64.wrap (IntKind.i64.wrap (0 - (n.val : Int)))) 31 = ((32 - n.val : Nat) : Int) ∧ IntKind.u64.wrap (32 - ((32 - n.val : Nat) : Int)) = (n.val : Int) := by decide +kernel
theorem sha_turn.run {x : W} {n : Nat} (h0 : n ≠ 0) (h1 : n < 32) {K : Int → Heap → Prop} {E : Value → Heap → Prop} {H : Heap} (h : K (wv (rotr x n)) H) : sha_turn.c (wv x) n K E H := by
  refine ⟨?_⟩
  unfold sha_turn.vc
  refine ⟨?_⟩
  unfold math_bits_RotateLeft32.vc
  obtain ⟨e1, e2⟩ := rot_amount ⟨n, h1⟩ h0
  dsimp only at e1 e2
  rw [e1, e2]
  refine ⟨by omega, by omega, H, Heap.Le.refl _, H, Heap.Le.refl _, ?_⟩
  rw [shl_w x (by omega) (by omega), shr_w x (by omega) (by omega), or_w, Int.toNat_natCast, Int.toNat_natCast, BitVec.or_comm]
  exact h
/-! ### The words of a block -/
def wArr (xs : List W) : Array Value := (xs.map wV ++ List.replicate (64 - xs.length) (Value.int .u32 0)).toArray
theorem wArr_size {xs : List W} (h : xs.length ≤ 64) : (wArr xs).size = 64 := by
  unfold wArr
  simp
  omega
theorem wArr_set {xs : List W} {x : W} (h : xs.length < 64) : (wArr xs).setIfInBounds xs.length (wV x) = wArr (xs ++ [x]) := by
  unfold wArr
  apply Array.toList_inj.1
  obtain ⟨k, hk⟩ : ∃ k, 64 - xs.length = k + 1 := ⟨64 - xs.length - 1, by omega⟩
  have hk2 : 64 - (xs ++ [x]).length = k := by rw [List.length_append]; simp; omega
  rw [Array.toList_setIfInBounds, List.toList_toArray, List.toList_toArray, hk, hk2, List.replicate_succ, List.map_append]
  rw [List.set_append_right _ _ (by simp), List.length_map, Nat.sub_self]
  simp
theorem wArr_get {xs : List W} {i : Nat} (h : i < xs.length) : (wArr xs)[i]? = some (wV (xs.getD i 0)) := by
  unfold wArr
  have hx : xs[i]? = some (xs[i]) := List.getElem?_eq_getElem h
  rw [List.getElem?_toArray, List.getElem?_append_left (by simpa using h), List.getElem?_map, List.getD_eq_getElem?_getD, hx]
  rfl
theorem u8_w (x : UInt8) : IntKind.u32.wrap (x.toNat : Int) = wv (BitVec.ofNat 32 x.toNat) := by
  have := x.toNat_lt
  unfold wv
  rw [wrap_nat, BitVec.toNat_ofNat]
theorem loc0 {H : Heap} {b i : Nat} {arr : Array Value} {e : TypeId} {v : Value} (h : H b = some (.cells arr e)) (hv : arr[i]? = some v) : H.cell? ((⟨b, 0, none⟩ : Addr).add (i * 1)) = some v := by
  rw [Nat.mul_one]
  exact loc h hv
theorem words_take {l : List UInt8} {k : Nat} : (List.range k).map (wordAt l) ++ [wordAt l k] = (List.range (k + 1)).map (wordAt l) := by
  rw [List.range_succ, List.map_append]
  rfl
theorem sha_state_mix.loop1 {H0 : Heap} {b3 : Nat} {l : List UInt8} {p hp : Option Addr} {c : Nat} (hb : BytesAt H0 p 64 l) (hne : ∀ k ∈ bl p, k ≠ b3) (hw : H0 b3 = some (.cells (wArr []) 312)) {Kx : Heap → Prop} {E : Value → Heap → Prop}
    (hx : ∀ H, H b3 = some (.cells (wArr (words16 l)) 312) → Step [b3] H0 [b3] H → Kx H) : sha_state_mix.W1 hp p 64 c ⟨b3, 0, none⟩ 0 Kx E H0 := by
  refine ⟨Loop.of (I := fun st H m => ∃ k : Nat, st = (k : Int) ∧ k ≤ 16 ∧ m = 16 - k ∧ H b3 = some (.cells (wArr ((List.range k).map (wordAt l))) 312) ∧ Step [b3] H0 [b3] H) ?_ ⟨0, rfl, by omega, rfl, hw, Step.refl _ _⟩⟩
  rintro m st H ⟨k, rfl, hk, rfl, hw, hst⟩ RR hRR
  unfold sha_state_mix.W1.vc
  by_cases hlt : k < 16
  · rw [if_pos (by rw [decide_eq_true_eq]; omega)]
    have hb2 : BytesAt H p 64 l := BytesAt.step hst hb fun k hk => by simpa using hne k hk
    have e0 : IntKind.i64.wrap (4 * (k : Int)) = ((4 * k : Nat) : Int) := by rw [w_i64 (by omega) (by omega)]; simp
    have e1 : ∀ j : Nat, j < 4 → IntKind.i64.wrap (((4 * k : Nat) : Int) + (j : Int)) = ((4 * k + j : Nat) : Int) := fun j hj => by rw [w_i64 (by omega) (by omega)]; simp
    rw [e0, show (1 : Int) = ((1 : Nat) : Int) from rfl, show (2 : Int) = ((2 : Nat) : Int) from rfl, show (3 : Int) = ((3 : Nat) : Int) from rfl, e1 1 (by decide), e1 2 (by decide), e1 3 (by decide)]
    obtain ⟨a, ha, c0⟩ := hb2.get (i := 4 * k) (by omega)
    obtain ⟨a1, ha1, c1⟩ := hb2.get (i := 4 * k + 1) (by omega)
    obtain ⟨a2, ha2, c2⟩ := hb2.get (i := 4 * k + 2) (by omega)
    obtain ⟨a3, ha3, c3⟩ := hb2.get (i := 4 * k + 3) (by omega)
    obtain rfl := Option.some.inj (ha.symm.trans ha1)
    obtain rfl := Option.some.inj (ha.symm.trans ha2)
    obtain rfl := Option.some.inj (ha.symm.trans ha3)
    refine ⟨a, ha, by omega, by omega, _, by rw [Int.toNat_natCast]; exact c0, by decide, a, ha, by omega, by omega, _, by rw [Int.toNat_natCast]; exact c1, by decide, a, ha, by omega, by omega, _, by rw [Int.toNat_natCast]; exact c2, by decide, a, ha, by omega, by omega, _, by rw [Int.toNat_natCast]; exact c3, by omega, by omega, ?_⟩
    dsimp only
    rw [u8_w, u8_w, u8_w, u8_w, shl_w _ (by decide) (by decide), shl_w _ (by decide) (by decide), shl_w _ (by decide) (by decide), or_w, or_w, or_w, Int.toNat_natCast, Nat.mul_one]
    have hlen : ((List.range k).map (wordAt l)).length = k := by simp
    refine stc_loc hw (by rw [wArr_size (by omega)]; omega) ?_
    have e3 : (wArr ((List.range k).map (wordAt l))).setIfInBounds k (wV (wordAt l k)) = wArr ((List.range (k + 1)).map (wordAt l)) := by
      have := wArr_set (xs := (List.range k).map (wordAt l)) (x := wordAt l k) (by omega)
      rw [hlen, words_take] at this
      exact this
    have hgoal := hRR ((k + 1 : Nat) : Int) (H.set b3 (.cells (wArr ((List.range (k + 1)).map (wordAt l))) 312)) (16 - (k + 1)) (by omega) ⟨k + 1, rfl, by omega, rfl, set_self _ _ _, hst.trans (Step.set _ _ _)⟩
    rw [← e3] at hgoal
    rw [show IntKind.i64.wrap ((k : Int) + ((1 : Nat) : Int)) = ((k + 1 : Nat) : Int) by rw [w_i64 (by omega) (by omega)]; simp]
    exact hgoal
  · rw [if_neg (by rw [decide_eq_true_eq]; omega)]
    have : k = 16 := by omega
    subst this
    exact hx H hw hst
theorem wNxt_eq {xs : List W} {t : Nat} (h : xs.length = t) : wNxt xs = ((xs.getD (t - 16) 0 + xs.getD (t - 7) 0) + ((rotr (xs.getD (t - 15) 0) 7 ^^^ rotr (xs.getD (t - 15) 0) 18) ^^^ (xs.getD (t - 15) 0 >>> 3))) + ((rotr (xs.getD (t - 2) 0) 17 ^^^ rotr (xs.getD (t - 2) 0) 19) ^^^ (xs.getD (t - 2) 0 >>> 10)) := by
  subst h; rfl
theorem sha_state_mix.loop2 {H0 : Heap} {b3 : Nat} {l : List UInt8} {hp : Option Addr} (hw : H0 b3 = some (.cells (wArr (words16 l)) 312)) {Kx : Heap → Prop} {E : Value → Heap → Prop}
    (hx : ∀ H, H b3 = some (.cells (wArr (sched l)) 312) → Step [b3] H0 [b3] H → Kx H) : sha_state_mix.W2 hp ⟨b3, 0, none⟩ 16 Kx E H0 := by
  refine ⟨Loop.of (I := fun st H m => ∃ k : Nat, st = ((16 + k : Nat) : Int) ∧ k ≤ 48 ∧ m = 48 - k ∧ H b3 = some (.cells (wArr (wExt k (words16 l))) 312) ∧ Step [b3] H0 [b3] H) ?_ ⟨0, rfl, by omega, rfl, hw, Step.refl _ _⟩⟩
  rintro m st H ⟨k, rfl, hk, rfl, hw, hst⟩ RR hRR
  unfold sha_state_mix.W2.vc
  have hlen : (wExt k (words16 l)).length = 16 + k := by rw [wExt_len]; simp [words16]
  by_cases hlt : k < 48
  · rw [if_pos (by rw [decide_eq_true_eq]; omega)]
    have e15 : IntKind.i64.wrap (((16 + k : Nat) : Int) - 15) = ((16 + k - 15 : Nat) : Int) := by rw [w_i64 (by omega) (by omega)]; omega
    have e2 : IntKind.i64.wrap (((16 + k : Nat) : Int) - 2) = ((16 + k - 2 : Nat) : Int) := by rw [w_i64 (by omega) (by omega)]; omega
    have e16 : IntKind.i64.wrap (((16 + k : Nat) : Int) - 16) = ((16 + k - 16 : Nat) : Int) := by rw [w_i64 (by omega) (by omega)]; omega
    have e7 : IntKind.i64.wrap (((16 + k : Nat) : Int) - 7) = ((16 + k - 7 : Nat) : Int) := by rw [w_i64 (by omega) (by omega)]; omega
    rw [e15, e2, e16, e7]
    simp only [Int.toNat_natCast]
    have g : ∀ i, i < 16 + k → H.cell? ((⟨b3, 0, none⟩ : Addr).add (i * 1)) = some (wV ((wExt k (words16 l)).getD i 0)) := fun i hi => loc0 hw (wArr_get (by omega))
    have g16 := g (16 + k - 16) (by omega)
    have g7 := g (16 + k - 7) (by omega)
    refine ⟨by omega, by omega, _, g (16 + k - 15) (by omega), by omega, by omega, _, g (16 + k - 2) (by omega), by omega, by omega, _, g16, by omega, by omega, _, g7, by decide, by decide, ?_⟩
    refine sha_turn.run (n := 7) (by decide) (by decide) ⟨⟨_, g7, rfl, rfl⟩, ⟨_, g16, rfl, rfl⟩, ?_⟩
    refine sha_turn.run (n := 18) (by decide) (by decide) ⟨⟨_, g7, rfl, rfl⟩, ⟨_, g16, rfl, rfl⟩, ?_⟩
    refine sha_turn.run (n := 17) (by decide) (by decide) ⟨⟨_, g7, rfl, rfl⟩, ⟨_, g16, rfl, rfl⟩, ?_⟩
    refine sha_turn.run (n := 19) (by decide) (by decide) ⟨⟨_, g7, rfl, rfl⟩, ⟨_, g16, rfl, rfl⟩, by omega, by omega, ?_⟩
    simp only [add_w, xor_w, shr3, shr10]
    rw [← wNxt_eq hlen, Nat.mul_one]
    refine stc_loc hw (by rw [wArr_size (by omega)]; omega) ?_
    have e3 : (wArr (wExt k (words16 l))).setIfInBounds (16 + k) (.int .u32 (wv (wNxt (wExt k (words16 l))))) = wArr (wExt (k + 1) (words16 l)) := by
      have := wArr_set (xs := wExt k (words16 l)) (x := wNxt (wExt k (words16 l))) (by omega)
      rw [hlen, ← wExt_succ] at this
      exact this
    rw [e3, w_i64 (by omega) (by omega)]
    exact hRR _ _ (48 - (k + 1)) (by omega) ⟨k + 1, by omega, by omega, rfl, set_self _ _ _, hst.trans (Step.set _ _ _)⟩
  · rw [if_neg (by rw [decide_eq_true_eq]; omega)]
    have : k = 48 := by omega
    subst this
    exact hx H hw hst
/-! ### The rounds -/
def St.cells (s : St) : List Value := s.list.map wV
theorem stRow8 {H : Heap} {b : Nat} {e : TypeId} {old : Array Value} {new : List Value} {K : Heap → Prop} (hb : H b = some (.cells old e)) (ho : old.size = new.length) (hp : ∀ v ∈ new, (∀ x, v ≠ .agg x) ∧ (∀ x, v ≠ .tuple x)) (hk : K (H.set b (.cells new.toArray e))) : stRow ⟨b, 0, none⟩ new K H := by
  refine ⟨hp, stcs_at new 0 0 old H hb (by omega) (fun k _ _ h => by simp at h) ?_⟩
  have : putL old.toList (0 + 0) new = new := by
    unfold putL
    rw [List.take_zero, List.nil_append, List.drop_eq_nil_of_le (by rw [Array.length_toList]; omega), List.append_nil]
  rw [this]
  exact hk
theorem plain_cells (s : St) : ∀ v ∈ s.cells, (∀ x, v ≠ .agg x) ∧ (∀ x, v ≠ .tuple x) := by
  intro v hv
  obtain ⟨x, _, rfl⟩ := List.mem_map.1 hv
  exact ⟨fun _ h => (by cases h), fun _ h => (by cases h)⟩
theorem sha_state_mix.loop3 {H0 : Heap} {b3 b4 : Nat} {hp : Option Addr} {ws : List W} {s : St} (hws : ws.length = 64) (hw : H0 b3 = some (.cells (wArr ws) 312)) (hne : b3 ≠ b4) (hv : H0 b4 = some (.cells s.cells.toArray 207)) {Kx : Heap → Prop} {E : Value → Heap → Prop}
    (hx : ∀ H, H b4 = some (.cells (rnds ws 64 s).cells.toArray 207) → Step [b4] H0 [b4] H → Kx H) : sha_state_mix.W3 hp ⟨b3, 0, none⟩ ⟨b4, 0, none⟩ (kTab.map fun x => Value.int .u32 x).toArray 0 Kx E H0 := by
  refine ⟨Loop.of (I := fun st H m => ∃ k : Nat, st = (k : Int) ∧ k ≤ 64 ∧ m = 64 - k ∧ H b4 = some (.cells (rnds ws k s).cells.toArray 207) ∧ Step [b4] H0 [b4] H) ?_ ⟨0, rfl, by omega, rfl, hv, Step.refl _ _⟩⟩
  rintro m st H ⟨k, rfl, hk, rfl, hv, hst⟩ RR hRR
  unfold sha_state_mix.W3.vc
  by_cases hlt : k < 64
  · rw [if_pos (by rw [decide_eq_true_eq]; omega)]
    have hw := (hst b3 _ hw (by simpa using hne)).1
    simp only [Int.toNat_natCast]
    have hkt : ((kTab.map fun x => Value.int .u32 x).toArray)[k]? = some (.int .u32 (wv (kW k))) := by
      have := kW_at ⟨k, hlt⟩
      dsimp only at this
      rw [List.getElem?_toArray, List.getElem?_map, this]
      rfl
    have gw : H.cell? ((⟨b3, 0, none⟩ : Addr).add (k * 1)) = some (wV (ws.getD k 0)) := loc0 hw (wArr_get (by omega))
    have gv : ∀ (i : Nat) (x : W), (rnds ws k s).list[i]? = some x → H.cell? ((⟨b4, 0, none⟩ : Addr).add (i * 1)) = some (wV x) := fun i x hi => loc0 hv (by
      rw [List.getElem?_toArray]
      unfold St.cells
      rw [List.getElem?_map, hi]
      rfl)
    have g7 := gv 7 _ rfl
    refine ⟨by omega, by omega, _, hkt, _, rfl, by decide, by decide, _, gv 0 _ rfl, by decide, by decide, _, gv 1 _ rfl, by decide, by decide, _, gv 2 _ rfl, by decide, by decide, _, gv 4 _ rfl, by decide, by decide, _, gv 5 _ rfl, by decide, by decide, _, gv 6 _ rfl, by decide, by decide, _, g7, by omega, by omega, _, gw, ?_⟩
    refine sha_turn.run (n := 6) (by decide) (by decide) ⟨⟨_, gw, rfl, rfl⟩, ⟨_, g7, rfl, rfl⟩, ?_⟩
    refine sha_turn.run (n := 11) (by decide) (by decide) ⟨⟨_, gw, rfl, rfl⟩, ⟨_, g7, rfl, rfl⟩, ?_⟩
    refine sha_turn.run (n := 25) (by decide) (by decide) ⟨⟨_, gw, rfl, rfl⟩, ⟨_, g7, rfl, rfl⟩, ?_⟩
    refine sha_turn.run (n := 2) (by decide) (by decide) ?_
    refine sha_turn.run (n := 13) (by decide) (by decide) ?_
    refine sha_turn.run (n := 22) (by decide) (by decide) ⟨by decide, by decide, _, gv 3 _ rfl, rfl, ?_⟩
    simp only [add_w, xor_w, and_w, or_w, not_w]
    refine stRow8 (new := ((rnds ws k s).round (kW k) (ws.getD k 0)).cells) hv rfl (plain_cells _) ?_
    rw [w_i64 (by omega) (by omega)]
    exact hRR _ _ (64 - (k + 1)) (by omega) ⟨k + 1, by simp, by omega, rfl, set_self _ _ _, hst.trans (Step.set _ _ _)⟩
  · rw [if_neg (by rw [decide_eq_true_eq]; omega)]
    have : k = 64 := by omega
    subst this
    exact hx H hv hst
/-- The state lies ahead of other cells in its block. -/
def StAt (H : Heap) (b : Nat) (s : St) (tl : List Value) (e : TypeId) : Prop := H b = some (.cells (s.cells ++ tl).toArray e)
def mixL (a v : List W) (i : Nat) : List W := (a.zipWith (· + ·) v).take i ++ a.drop i
theorem mixL_set {a v : List W} {i : Nat} (hv : v.length = a.length) (hi : i < a.length) : (mixL a v i).set i (a.getD i 0 + v.getD i 0) = mixL a v (i + 1) := by
  unfold mixL
  have hz : (a.zipWith (· + ·) v).length = a.length := by rw [List.length_zipWith, hv, Nat.min_self]
  have ha : a[i]? = some a[i] := List.getElem?_eq_getElem hi
  have hvv : v[i]? = some (v[i]'(by omega)) := List.getElem?_eq_getElem (by omega)
  rw [List.set_append_right _ _ (by rw [List.length_take]; omega), List.length_take, hz, Nat.min_eq_left (by omega), Nat.sub_self, List.drop_eq_getElem_cons hi, List.set_cons_zero, List.take_succ_eq_append_getElem (by omega), List.append_assoc]
  congr 2
  rw [List.getD_eq_getElem?_getD, List.getD_eq_getElem?_getD, ha, hvv, List.getElem_zipWith]
  rfl
theorem mixL_get {a v : List W} {i : Nat} (hv : v.length = a.length) (hi : i < a.length) : (mixL a v i)[i]? = some (a.getD i 0) := by
  unfold mixL
  have hz : (a.zipWith (· + ·) v).length = a.length := by rw [List.length_zipWith, hv, Nat.min_self]
  rw [List.getElem?_append_right (by rw [List.length_take]; omega), List.length_take, hz, Nat.min_eq_left (by omega), Nat.sub_self, List.getElem?_drop, Nat.add_zero, List.getD_eq_getElem?_getD, List.getElem?_eq_getElem hi]
  rfl
theorem mixL_len {a v : List W} {i : Nat} (hv : v.length = a.length) (hi : i ≤ a.length) : (mixL a v i).length = a.length := by
  unfold mixL
  rw [List.length_append, List.length_take, List.length_drop, List.length_zipWith]
  omega
theorem sha_state_mix.loop4 {H0 : Heap} {sb b4 : Nat} {s v : St} {tl : List Value} {e : TypeId} (hs : StAt H0 sb s tl e) (hne : sb ≠ b4) (hv : H0 b4 = some (.cells v.cells.toArray 207)) {Kx : Heap → Prop} {E : Value → Heap → Prop}
    (hx : ∀ H, StAt H sb (s.plus v) tl e → Step [sb] H0 [sb] H → Kx H) : sha_state_mix.W4 (some ⟨sb, 0, none⟩) ⟨b4, 0, none⟩ 0 Kx E H0 := by
  have hll : v.list.length = s.list.length := rfl
  have hl8 : s.list.length = 8 := rfl
  refine ⟨Loop.of (I := fun st H m => ∃ k : Nat, st = (k : Int) ∧ k ≤ 8 ∧ m = 8 - k ∧ H sb = some (.cells ((mixL s.list v.list k).map wV ++ tl).toArray e) ∧ Step [sb] H0 [sb] H) ?_ ⟨0, rfl, by omega, rfl, hs, Step.refl _ _⟩⟩
  rintro m st H ⟨k, rfl, hk, rfl, hs, hst⟩ RR hRR
  unfold sha_state_mix.W4.vc
  by_cases hlt : k < 8
  · rw [if_pos (by rw [decide_eq_true_eq]; omega)]
    have hv := (hst b4 _ hv (by simpa using fun e => hne e.symm)).1
    simp only [Int.toNat_natCast]
    have hml : (mixL s.list v.list k).length = 8 := mixL_len hll (by omega)
    have g1 : H.cell? ((⟨sb, 0, none⟩ : Addr).add (k * 1)) = some (wV (s.list.getD k 0)) := loc0 hs (by
      rw [List.getElem?_toArray, List.getElem?_append_left (by rw [List.length_map, hml]; omega), List.getElem?_map, mixL_get hll (by omega)]
      rfl)
    have g2 : H.cell? ((⟨b4, 0, none⟩ : Addr).add (k * 1)) = some (wV (v.list.getD k 0)) := loc0 hv (by
      have hx : v.list[k]? = some (v.list[k]'(by omega)) := List.getElem?_eq_getElem (by omega)
      unfold St.cells
      rw [List.getElem?_toArray, List.getElem?_map, List.getD_eq_getElem?_getD, hx]
      rfl)
    refine ⟨_, rfl, by omega, by omega, _, g1, by omega, by omega, _, g2, _, rfl, by omega, by omega, ?_⟩
    rw [add_w, Nat.mul_one]
    refine stc_loc hs (by rw [List.size_toArray, List.length_append, List.length_map, hml]; omega) ?_
    have e3 : ((mixL s.list v.list k).map wV ++ tl).toArray.setIfInBounds k (wV (s.list.getD k 0 + v.list.getD k 0)) = ((mixL s.list v.list (k + 1)).map wV ++ tl).toArray := by
      apply Array.toList_inj.1
      rw [Array.toList_setIfInBounds, List.toList_toArray, List.toList_toArray, List.set_append_left _ _ (by rw [List.length_map, hml]; omega), ← List.map_set, mixL_set hll (by omega)]
    have e4 : Value.int .u32 (wv (s.list.getD k 0 + v.list.getD k 0)) = wV (s.list.getD k 0 + v.list.getD k 0) := rfl
    rw [e4, e3, w_i64 (by omega) (by omega)]
    exact hRR _ _ (8 - (k + 1)) (by omega) ⟨k + 1, by simp, by omega, rfl, set_self _ _ _, hst.trans (Step.set _ _ _)⟩
  · rw [if_neg (by rw [decide_eq_true_eq]; omega)]
    have : k = 8 := by omega
    subst this
    exact hx H hs hst
theorem IntsIn.step {L L' : List Nat} {H H' : Heap} {g : Nat} {k : IntKind} {xs : List Int} (h : IntsIn H g k xs) (hs : Step L H L' H') (hg : g ∉ L) : IntsIn H' g k xs := fun i x hi => hs.cell (h i x hi) hg
theorem IntsIn.some0 {H : Heap} {g : Nat} {k : IntKind} {x : Int} {xs : List Int} (h : IntsIn H g k (x :: xs)) : H g ≠ none := fun hn => by
  have := h 0 x rfl
  unfold Heap.cell? at this
  rw [show (⟨g, 0, none⟩ : Addr).block = g from rfl, hn] at this
  cases this
theorem sha_state_mix.run {H : Heap} {sb : Nat} {s : St} {tl : List Value} {e : TypeId} {p : Option Addr} {c : Nat} {l : List UInt8} (hs : StAt H sb s tl e) (hk0 : IntsIn H 1 .u32 kTab) (hb : BytesAt H p 64 l) {K : Heap → Prop} {E : Value → Heap → Prop}
    (h : ∀ H', StAt H' sb (s.block l) tl e → Step [sb] H [sb] H' → K H') : sha_state_mix.c (some ⟨sb, 0, none⟩) p 64 c K E H := by
  have hk00 : H 1 ≠ none := IntsIn.some0 hk0
  refine ⟨?_⟩
  unfold sha_state_mix.vc
  refine newB_le fun b3 H1 hn3 hl3 hle1 => ?_
  have hpb : ∀ k ∈ bl p, k ≠ b3 := fun k hk e => by
    subst e
    cases p with
    | none => simp [bl] at hk
    | some a =>
      simp only [bl, List.mem_singleton] at hk
      subst hk
      have hx : l[0]? = some (l[0]'(by rw [hb.1]; omega)) := List.getElem?_eq_getElem (by rw [hb.1]; omega)
      have := hb.2.2 a rfl 0 _ hx
      exact some_ne_none_block this hn3 (add_block _ _)
  have hb1 : BytesAt H1 p 64 l := BytesAt.step (Step.of_le (L := []) hle1) hb (by simp)
  refine sha_state_mix.loop1 hb1 hpb (hl3.trans (by kernel_rfl)) fun H2 hw2 hs2 => ?_
  refine sha_state_mix.loop2 hw2 fun H3 hw3 hs3 => ?_
  have nsb : sb ≠ b3 := fun e => by
    subst e
    unfold StAt at hs
    rw [hn3] at hs; cases hs
  have hs23 := hs2.trans hs3
  have hst3 : StAt H3 sb s tl e := (hs23 sb _ (hle1 _ _ hs) (by simpa using nsb)).1
  have gs : ∀ (i : Nat) (x : W), s.list[i]? = some x → H3.cell? ((⟨sb, 0, none⟩ : Addr).add i) = some (wV x) := fun i x hi => loc hst3 (by
    have hi8 : i < s.cells.length := by
      unfold St.cells
      rw [List.length_map]
      exact (List.getElem?_eq_some_iff.1 hi).1
    rw [List.getElem?_toArray, List.getElem?_append_left hi8]
    unfold St.cells
    rw [List.getElem?_map, hi]
    rfl)
  refine ⟨_, rfl, _, gs 0 _ rfl, _, gs 1 _ rfl, _, gs 2 _ rfl, _, gs 3 _ rfl, _, gs 4 _ rfl, _, gs 5 _ rfl, _, gs 6 _ rfl, _, gs 7 _ rfl, ?_⟩
  refine newB_le fun b4 H4 hn4 hl4 hle4 => ⟨rfl, ?_⟩
  refine stRow8 (new := s.cells) hl4 rfl (plain_cells _) ?_
  have hl5 := set_self H4 b4 (.cells s.cells.toArray 207)
  have hs5 : ∀ k o, H3 k = some o → (H4.set b4 (.cells s.cells.toArray 207)) k = some o := fun k o hk => by
    have : k ≠ b4 := fun e => by subst e; rw [hn4] at hk; cases hk
    rw [set_ne _ _ this]; exact hle4 _ _ hk
  generalize H4.set b4 (.cells s.cells.toArray 207) = H5 at hl5 hs5 ⊢
  have hle5 : Heap.Le H3 H5 := hs5
  have n03 : 1 ≠ b3 := fun e => hk00 (e ▸ hn3)
  have hk1 : IntsIn H1 1 .u32 kTab := fun i x hi => Le_cell hle1 (hk0 i x hi)
  have hk3 : IntsIn H3 1 .u32 kTab := IntsIn.step hk1 hs23 (by simpa using n03)
  have hk5 : IntsIn H5 1 .u32 kTab := fun i x hi => Le_cell hle5 (hk3 i x hi)
  refine ⟨kTab.map fun x => Value.int .u32 x, rfl, fun i v hv => ?_, ?_⟩
  · rw [List.getElem?_map, Option.map_eq_some_iff] at hv
    obtain ⟨x, hx, rfl⟩ := hv
    rw [add_mk, Nat.zero_add]
    exact hk5 i x hx
  have n34 : b3 ≠ b4 := fun e => by subst e; rw [hn4] at hw3; cases hw3
  refine sha_state_mix.loop3 (sched_len l) (hs5 _ _ hw3) n34 hl5 fun H6 hv6 hs6 => ?_
  have ns4 : sb ≠ b4 := fun e => by
    subst e
    unfold StAt at hst3
    rw [hn4] at hst3; cases hst3
  have hst6 : StAt H6 sb s tl e := (hs6 sb _ (hs5 _ _ hst3) (by simpa using ns4)).1
  refine sha_state_mix.loop4 hst6 ns4 hv6 fun H7 h7 hs7 => ⟨H7, Heap.Le.refl _, h H7 h7 ?_⟩
  intro k o hk hn
  have n3 : k ≠ b3 := fun e => by subst e; rw [hn3] at hk; cases hk
  have k3 := (hs23 k o (hle1 k o hk) (by simpa using n3)).1
  have n4 : k ≠ b4 := fun e => by subst e; rw [hn4] at k3; cases k3
  exact ⟨(hs7 k o (hs6 k o (hs5 k o k3) (by simpa using n4)).1 hn).1, hn⟩
end Go.Sh
