/- Fields and targets: what the functions do. -/
import Derived.Test.YtpmgchippfmakaaDoorTgQ
import Derived.Test.YtpmgchippfmakaaDoorGtq
import Derived.Test.YtpmgchippfmakaaDoorShY
namespace Go.Sh
open Go.Proofs Num
set_option maxRecDepth 8000
def rF (l : FL) : List (List Value) := l.map fun f => [.string f.1, .string f.2]
theorem rF_get {l : FL} {i : Nat} {f : ByteArray × ByteArray} (h : l[i]? = some f) : (rF l)[i]? = some [.string f.1, .string f.2] := by unfold rF; rw [List.getElem?_map, h]; rfl
theorem rF_len {H : Heap} {p : Option Addr} {n : Nat} {l : FL} (h : RowsAt H p n 2 (rF l)) : l.length = n := by have := h.1; unfold rF at this; rwa [List.length_map] at this
theorem fcell {H : Heap} {p : Option Addr} {n : Nat} {l : FL} (h : RowsAt H p n 2 (rF l)) {i : Nat} {f : ByteArray × ByteArray} (hi : l[i]? = some f) : ∃ a, p = some a ∧ H.cell? ((a.add (i * 2)).add 0) = some (.string f.1) ∧ H.cell? ((a.add (i * 2)).add 1) = some (.string f.2) := by
  obtain ⟨a, ha, hc⟩ := h.cell (rF_get hi)
  exact ⟨a, ha, hc 0 _ rfl, hc 1 _ rfl⟩
theorem ba_eq (x y : ByteArray) : (x.toList == y.toList) = decide (x = y) := by
  rw [Bool.eq_iff_iff, beq_iff_eq, decide_eq_true_eq]
  constructor
  · intro h
    rw [Lib.toList_data, Lib.toList_data] at h
    exact ba_ext h
  · rintro rfl; rfl
theorem size0 {x : ByteArray} : x = (⟨#[]⟩ : ByteArray) ↔ x.size = 0 := by
  constructor
  · rintro rfl; rfl
  · intro h
    apply ba_ext
    apply List.eq_nil_of_length_eq_zero
    rw [list_sizeB]; exact h
/-! ### Are fields well formed -/
theorem fields_letter.run {c : UInt8} {K : Bool → Heap → Prop} {E : Value → Heap → Prop} {H : Heap} (h : K (letB c) H) : fields_letter.c (c.toNat : Int) K E H := by
  refine ⟨?_⟩
  unfold fields_letter.vc
  unfold letB at h
  have e1 : decide ((c.toNat : Int) ≥ 97) = decide (97 ≤ c.toNat) := by rw [decide_eq_decide]; omega
  have e2 : decide ((c.toNat : Int) ≤ 122) = decide (c.toNat ≤ 122) := by rw [decide_eq_decide]; omega
  have e3 : decide ((c.toNat : Int) ≥ 48) = decide (48 ≤ c.toNat) := by rw [decide_eq_decide]; omega
  have e4 : decide ((c.toNat : Int) ≤ 57) = decide (c.toNat ≤ 57) := by rw [decide_eq_decide]; omega
  have e5 : ((c.toNat : Int) == 45) = decide (c.toNat = 45) := by rw [Bool.eq_iff_iff, beq_iff_eq, decide_eq_true_eq]; omega
  have e6 : ((c.toNat : Int) == 58) = decide (c.toNat = 58) := by rw [Bool.eq_iff_iff, beq_iff_eq, decide_eq_true_eq]; omega
  rw [e1, e2, e3, e4, e5, e6]
  generalize decide (97 ≤ c.toNat) = b1 at h ⊢
  generalize decide (c.toNat ≤ 122) = b2 at h ⊢
  generalize decide (48 ≤ c.toNat) = b3 at h ⊢
  generalize decide (c.toNat ≤ 57) = b4 at h ⊢
  generalize decide (c.toNat = 45) = b5 at h ⊢
  generalize decide (c.toNat = 58) = b6 at h ⊢
  cases b1 <;> cases b2 <;> cases b3 <;> cases b4 <;> cases b5 <;> cases b6 <;> exact ⟨H, Heap.Le.refl _, h⟩
/-! ### Loops over fields -/
/-- A field that is copied. -/
theorem copyF {e : TypeId} {x y : ByteArray} {K : Nat → Heap → Prop} {H : Heap} (h : ∀ b H', H b = none → H' b = some (.cells #[.string x, .string y] e) → Heap.Le H H' → K b H') :
    newB (.cells #[(.string (⟨#[]⟩ : ByteArray)), (.string (⟨#[]⟩ : ByteArray))] e) (fun b h1 => stc h1 ((⟨b, 0, none⟩ : Addr).add 0) (.string x) fun h2 => stc h2 ((⟨b, 0, none⟩ : Addr).add 1) (.string y) fun h3 => K b h3) H := new2_le h
theorem locv {H : Heap} {b o : Nat} {arr : Array Value} {e : TypeId} {f : Nat × Nat} {v : Value} (h : H b = some (.cells arr e f)) (hv : arr[o]? = some v) : H.cell? ((⟨b, 0, none⟩ : Addr).add o) = some v := by
  rw [add_mk]
  simp [Heap.cell?, h, hv]
theorem bytes_get {s : ByteArray} {k : Nat} {x : UInt8} (h : s.data.toList[k]? = some x) (j : Nat) : ((byteVals s).toArray ++ Array.replicate j (.int .u8 0))[k]? = some (.int .u8 (x.toNat : Int)) := by
  have hk : k < s.data.toList.length := (List.getElem?_eq_some_iff.1 h).1
  have : (byteVals s)[k]? = some (.int .u8 (x.toNat : Int)) := by
    unfold byteVals
    first
      | (rw [List.getElem?_map, h]; rfl)
      | (rw [List.getElem?_map, Lib.toList_data, h]; rfl)
  rw [Array.getElem?_append_left (by have := (List.getElem?_eq_some_iff.1 this).1; simpa using this)]
  simpa using this
theorem fields_check.J6.run {x0 : Option Addr} {x1 x2 : Nat} {x3 x4 : Int} {Kn : Int → Heap → Prop} {E : Value → Heap → Prop} {H : Heap} (h : Kn (IntKind.i64.wrap (x4 + 1)) H) : fields_check.J6 x0 x1 x2 x3 x4 Kn E H := ⟨h⟩
theorem fields_check.J5.run {x0 : Option Addr} {x1 x2 : Nat} {x3 x4 : Int} {x5 : Bool} {Kn : Heap → Prop} {Kr : Int → Heap → Prop} {E : Value → Heap → Prop} {H : Heap} (h1 : x5 = true → Kr 3 H) (h0 : x5 = false → Kn H) : fields_check.J5 x0 x1 x2 x3 x4 x5 Kn Kr E H := by
  refine ⟨?_⟩
  unfold fields_check.J5.vc
  cases x5 with
  | true => rw [if_pos rfl]; exact h1 rfl
  | false => rw [if_neg (by simp)]; exact h0 rfl
/-- The names of a field, byte after byte. -/
theorem fields_check.W3.run {f0 : Addr} {b j : Nat} {s : ByteArray} {Kx1 : Heap → Prop} {Kr : Int → Heap → Prop} {E : Value → Heap → Prop} {H : Heap} (hs : s.size ≤ 256) (hb : H b = some (.cells ((byteVals s).toArray ++ Array.replicate j (.int .u8 0)) 5 (s.size + j, s.size + j + 1)))
    (h1 : s.data.toList.all letB = true → Kx1 H) (h0 : s.data.toList.all letB = false → Kr 3 H) : fields_check.W3 f0 (some (⟨b, 0, none⟩ : Addr)) s.size (s.size + j) (s.size : Int) 0 Kx1 Kr E H := by
  refine ⟨Loop.of (I := fun st H' m => ∃ k : Nat, st = (k : Int) ∧ k ≤ s.size ∧ m = s.size - k ∧ H' = H ∧ (s.data.toList.take k).all letB = true) ?_ ⟨0, rfl, Nat.zero_le _, rfl, rfl, by simp⟩⟩
  rintro m st H' ⟨k, rfl, hk, rfl, rfl, hall⟩ RR hRR
  have hl := list_sizeB s
  unfold fields_check.W3.vc
  by_cases hlt : k < s.size
  · rw [if_pos (by rw [decide_eq_true_eq]; omega)]
    obtain ⟨x, hx⟩ : ∃ x, s.data.toList[k]? = some x := ⟨_, List.getElem?_eq_getElem (by omega)⟩
    refine ⟨⟨b, 0, none⟩, rfl, by omega, by omega, (x.toNat : Int), ?_, ?_⟩
    · rw [Int.toNat_natCast, Nat.mul_one]
      exact locv hb (bytes_get hx j)
    · refine fields_letter.run ?_
      cases hx2 : letB x with
      | true =>
        rw [if_neg (by simp), w_i64 (by omega) (by omega)]
        refine hRR _ _ (s.size - (k + 1)) (by omega) ⟨k + 1, by simp, by omega, rfl, rfl, ?_⟩
        rw [List.take_add_one, hx, List.all_append, hall]
        simp [hx2]
      | false =>
        rw [if_pos (by simp)]
        refine h0 ?_
        rw [Bool.eq_false_iff]
        intro hh
        have := List.all_eq_true.1 hh x (List.mem_of_getElem? hx)
        rw [hx2] at this
        cases this
  · rw [if_neg (by rw [decide_eq_true_eq]; omega)]
    rw [List.take_of_length_le (by omega)] at hall
    exact h1 hall
theorem fields_check.W4.run {b j : Nat} {s : ByteArray} {Kx3 : Heap → Prop} {Kr : Int → Heap → Prop} {E : Value → Heap → Prop} {H : Heap} (hs : s.size ≤ 256) (hb : H b = some (.cells ((byteVals s).toArray ++ Array.replicate j (.int .u8 0)) 5 (s.size + j, s.size + j + 1)))
    (h1 : s.data.toList.all seeB = true → Kx3 H) (h0 : s.data.toList.all seeB = false → Kr 3 H) : fields_check.W4 (some (⟨b, 0, none⟩ : Addr)) s.size (s.size + j) (s.size : Int) 0 Kx3 Kr E H := by
  refine ⟨Loop.of (I := fun st H' m => ∃ k : Nat, st = (k : Int) ∧ k ≤ s.size ∧ m = s.size - k ∧ H' = H ∧ (s.data.toList.take k).all seeB = true) ?_ ⟨0, rfl, Nat.zero_le _, rfl, rfl, by simp⟩⟩
  rintro m st H' ⟨k, rfl, hk, rfl, rfl, hall⟩ RR hRR
  have hl := list_sizeB s
  unfold fields_check.W4.vc
  by_cases hlt : k < s.size
  · rw [if_pos (by rw [decide_eq_true_eq]; omega)]
    obtain ⟨x, hx⟩ : ∃ x, s.data.toList[k]? = some x := ⟨_, List.getElem?_eq_getElem (by omega)⟩
    refine ⟨⟨b, 0, none⟩, rfl, by omega, by omega, (x.toNat : Int), ?_, ?_⟩
    · rw [Int.toNat_natCast, Nat.mul_one]
      exact locv hb (bytes_get hx j)
    · have bad : seeB x = false → Kr 3 H' := fun hx2 => h0 (by
        rw [Bool.eq_false_iff]
        intro hh
        have := List.all_eq_true.1 hh x (List.mem_of_getElem? hx)
        rw [hx2] at this
        cases this)
      have good : seeB x = true → RR (IntKind.i64.wrap ((k : Int) + 1)) H' := fun hx2 => by
        rw [w_i64 (by omega) (by omega)]
        refine hRR _ _ (s.size - (k + 1)) (by omega) ⟨k + 1, by simp, by omega, rfl, rfl, ?_⟩
        rw [List.take_add_one, hx, List.all_append, hall]
        simp [hx2]
      unfold seeB at bad good
      dsimp only
      by_cases h32 : x.toNat < 32
      · rw [if_pos (by rw [decide_eq_true_eq]; omega)]
        refine fields_check.J5.run (fun _ => bad ?_) (fun h => by cases h)
        simp; omega
      · rw [if_neg (by rw [decide_eq_true_eq]; omega)]
        refine fields_check.J5.run (fun h => bad ?_) (fun h => fields_check.J6.run (good ?_))
        · rw [decide_eq_true_eq] at h
          simp; omega
        · rw [decide_eq_false_iff_not] at h
          simp; omega
  · rw [if_neg (by rw [decide_eq_true_eq]; omega)]
    rw [List.take_of_length_le (by omega)] at hall
    exact h1 hall
/-- A field is well formed, or an error's number. -/
theorem fields_check.run {x y : ByteArray} {K : Int → Heap → Prop} {E : Value → Heap → Prop} {H : Heap} (h1 : fieldOk (x, y) = true → K 0 H) (h0 : fieldOk (x, y) = false → ∀ e, e ≠ 0 → K e H) : fields_check.c x y K E H := by
  refine ⟨?_⟩
  unfold fields_check.vc
  refine newB_le fun b0 H1 hn hl hle => ?_
  have g0 := loc (o := 0) hl rfl
  have g1 := loc (o := 1) hl rfl
  have bad : fieldOk (x, y) = false → ∀ (e : Int) H', e ≠ 0 → Heap.Le H H' → ∃ H'', Heap.Le H'' H' ∧ K e H'' := fun h e H' he hl => ⟨H, hl, h0 h e he⟩
  refine ⟨_, g0, ?_⟩; dsimp only
  unfold fieldOk at h1 bad
  dsimp only at h1 bad
  by_cases hx : x.size ≤ 256
  · rw [if_neg (by rw [decide_eq_true_eq]; omega)]
    refine ⟨_, g1, ⟨?_⟩⟩
    unfold fields_check.J1.vc
    by_cases hy : y.size ≤ 256
    · rw [if_neg (by rw [decide_eq_true_eq]; omega)]
      refine ⟨_, g0, ?_⟩; dsimp only
      rw [ba_eq]
      by_cases he : x = (⟨#[]⟩ : ByteArray)
      · rw [if_pos (by rw [decide_eq_true_eq]; exact he)]
        exact bad (by rw [size0.1 he]; simp) 3 _ (by decide) hle
      · rw [if_neg (by rw [decide_eq_true_eq]; exact he)]
        have hx0 : x.size ≠ 0 := fun h => he (size0.2 h)
        refine ⟨⟨_, g0, ?_⟩⟩; dsimp only
        intro j0
        refine newB_le fun b1 H2 hn2 hl2 hle2 => ?_
        refine fields_check.W3.run hx hl2 (fun hall => ?_) (fun hall => ?_)
        · refine ⟨_, Le_cell hle2 g1, ?_⟩; dsimp only
          intro j1
          refine newB_le fun b2 H3 hn3 hl3 hle3 => ?_
          refine fields_check.W4.run hy hl3 (fun hall2 => ?_) (fun hall2 => ?_)
          · refine ⟨H, (hle.trans hle2).trans hle3, h1 ?_⟩
            simp [hx, hy, hx0]
            exact ⟨by simpa using hall, by simpa using hall2⟩
          · refine bad ?_ 3 _ (by decide) ((hle.trans hle2).trans hle3)
            rw [hall2]; simp
        · refine bad ?_ 3 _ (by decide) (hle.trans hle2)
          rw [hall]; simp
    · rw [if_pos (by rw [decide_eq_true_eq]; omega)]
      exact bad (by simp [hy]) 8 _ (by decide) hle
  · rw [if_pos (by rw [decide_eq_true_eq]; omega)]
    refine ⟨?_⟩
    unfold fields_check.J1.vc
    rw [if_pos rfl]
    exact bad (by simp [hx]) 8 _ (by decide) hle
section
variable {H : Heap} {p : Option Addr} {n c : Nat} {l : FL} {E : Value → Heap → Prop}
theorem take_all {l : FL} {i : Nat} {f : ByteArray × ByteArray} {q : ByteArray × ByteArray → Bool} (hi : l[i]? = some f) (h : (l.take i).all q = true) (hf : q f = true) : (l.take (i + 1)).all q = true := by
  rw [List.take_add_one, hi, List.all_append, h]
  simp [hf]
theorem not_all {l : FL} {i : Nat} {f : ByteArray × ByteArray} {q : ByteArray × ByteArray → Bool} (hi : l[i]? = some f) (hf : q f = false) : l.all q = false := by
  rw [Bool.eq_false_iff]
  intro hh
  have := List.all_eq_true.1 hh f (List.mem_of_getElem? hi)
  rw [hf] at this
  cases this
theorem fields_Check.run {K : Int → Heap → Prop} (hr : RowsAt H p n 2 (rF l)) (h1 : chkL l = true → K 0 H) (h0 : chkL l = false → ∀ e, e ≠ 0 → K e H) : fields_Check.c p n c K E H := by
  have hlen := rF_len hr
  refine ⟨?_⟩
  unfold fields_Check.vc
  unfold chkL at h1 h0
  by_cases hn : n ≤ 16
  · rw [if_neg (by rw [decide_eq_true_eq]; omega)]
    have e16 : decide (l.length ≤ 16) = true := by rw [decide_eq_true_eq]; omega
    rw [e16, Bool.true_and] at h1 h0
    refine ⟨Loop.of (I := fun st H' m => ∃ i : Nat, st = (i : Int) ∧ i ≤ n ∧ m = n - i ∧ Heap.Le H H' ∧ (l.take i).all fieldOk = true) ?_ ⟨0, rfl, Nat.zero_le _, rfl, Heap.Le.refl _, by simp⟩⟩
    rintro m st H' ⟨i, rfl, hi, rfl, hle, hall⟩ RR hRR
    unfold fields_Check.W1.vc
    by_cases hlt : i < n
    · rw [if_pos (by rw [decide_eq_true_eq]; omega)]
      obtain ⟨f, hf⟩ : ∃ f, l[i]? = some f := ⟨_, List.getElem?_eq_getElem (by omega)⟩
      obtain ⟨a, ha, c0, c1⟩ := fcell (hr.mono hle) hf
      refine ⟨a, ha, by omega, by omega, _, by rw [Int.toNat_natCast]; exact c0, _, by rw [Int.toNat_natCast]; exact c1, ?_⟩
      refine new2_le fun b H2 hn2 hl2 hle2 => ?_
      refine ⟨_, loc (o := 0) hl2 rfl, _, loc (o := 1) hl2 rfl, ?_⟩; dsimp only
      refine fields_check.run (fun hk => ?_) (fun hk e he => ?_)
      · rw [if_neg (by simp), w_i64 (by omega) (by omega)]
        exact hRR _ _ (n - (i + 1)) (by omega) ⟨i + 1, by simp, by omega, rfl, hle.trans hle2, take_all hf hall hk⟩
      · rw [if_pos (by simpa using he)]
        exact ⟨H, hle.trans hle2, h0 (not_all hf hk) e he⟩
    · rw [if_neg (by rw [decide_eq_true_eq]; omega)]
      rw [List.take_of_length_le (by omega)] at hall
      exact ⟨H, hle, h1 hall⟩
  · rw [if_pos (by rw [decide_eq_true_eq]; omega)]
    exact ⟨H, Heap.Le.refl _, h0 (by rw [decide_eq_false (by omega)]; rfl) 8 (by decide)⟩
theorem getF_end {K : ByteArray → Bool → Heap → Prop} {nm : ByteArray} {H' : Heap} (hl : Heap.Le H H') (h : K ((getF l nm).getD ⟨#[]⟩) (getF l nm).isSome H) :
    (if (((hits l nm).length : Int) != 1) = true then (∃ H'', Heap.Le H'' H' ∧ K ⟨#[]⟩ false H'') else (∃ H'', Heap.Le H'' H' ∧ K (lastV l nm) true H'')) := by
  unfold getF at h
  by_cases h1 : (hits l nm).length = 1
  · rw [if_pos h1] at h
    rw [if_neg (by simp [h1])]
    exact ⟨H, hl, h⟩
  · rw [if_neg h1] at h
    rw [if_pos (by simp; omega)]
    exact ⟨H, hl, h⟩
theorem hits_le (l : FL) (nm : ByteArray) : (hits l nm).length ≤ l.length := List.length_filter_le _ _
theorem fields_Get.run {K : ByteArray → Bool → Heap → Prop} {nm : ByteArray} (hr : RowsAt H p n 2 (rF l)) (hn : n ≤ 4611686018427387904) (h : K ((getF l nm).getD ⟨#[]⟩) (getF l nm).isSome H) : fields_Get.c p n c nm K E H := by
  have hlen := rF_len hr
  refine ⟨?_⟩
  unfold fields_Get.vc
  refine ⟨Loop.of (I := fun st H' m => ∃ i : Nat, st = (lastV (l.take i) nm, ((hits (l.take i) nm).length : Int), (i : Int)) ∧ i ≤ n ∧ m = n - i ∧ Heap.Le H H') ?_ ⟨0, by simp [hits, lastV], Nat.zero_le _, rfl, Heap.Le.refl _⟩⟩
  rintro m st H' ⟨i, rfl, hi, rfl, hle⟩ RR hRR
  unfold fields_Get.W1.vc
  dsimp only
  by_cases hlt : i < n
  · rw [if_pos (by rw [decide_eq_true_eq]; omega)]
    obtain ⟨f, hf⟩ : ∃ f, l[i]? = some f := ⟨_, List.getElem?_eq_getElem (by omega)⟩
    obtain ⟨a, ha, c0, c1⟩ := fcell (hr.mono hle) hf
    refine ⟨a, ha, by omega, by omega, _, by rw [Int.toNat_natCast]; exact c0, _, by rw [Int.toNat_natCast]; exact c1, ?_⟩
    refine new2_le fun b H2 hn2 hl2 hle2 => ?_
    have hh := hits_le (l.take i) nm
    rw [List.length_take] at hh
    have e1 : l.take (i + 1) = l.take i ++ [f] := by rw [List.take_add_one, hf]; rfl
    refine ⟨_, loc (o := 0) hl2 rfl, ?_⟩; dsimp only
    rw [ba_eq]
    by_cases hq : f.1 = nm
    · rw [if_pos (by rw [decide_eq_true_eq]; exact hq)]
      refine ⟨_, loc (o := 1) hl2 rfl, ⟨?_⟩⟩
      unfold fields_Get.J2.vc
      rw [w_i64 (n := (i : Int) + 1) (by omega) (by omega), w_i64 (by omega) (by omega)]
      refine hRR (_, _, _) _ (n - (i + 1)) (by omega) ⟨i + 1, ?_, by omega, rfl, hle.trans hle2⟩
      rw [e1, lastV_snoc, hits_snoc, if_pos hq, if_pos hq]
      simp
    · rw [if_neg (by rw [decide_eq_true_eq]; exact hq)]
      refine ⟨?_⟩
      unfold fields_Get.J2.vc
      rw [w_i64 (n := (i : Int) + 1) (by omega) (by omega)]
      refine hRR (_, _, _) _ (n - (i + 1)) (by omega) ⟨i + 1, ?_, by omega, rfl, hle.trans hle2⟩
      rw [e1, lastV_snoc, hits_snoc, if_neg hq, if_neg hq]
      simp
  · rw [if_neg (by rw [decide_eq_true_eq]; omega)]
    rw [List.take_of_length_le (by omega)]
    exact getF_end hle h
theorem colon_prefix (x : ByteArray) : Lib.hasPrefix x.data.toList (⟨#[58]⟩ : ByteArray).data.toList = colonB x := by
  unfold colonB Lib.hasPrefix
  cases hx : x.data.toList with
  | nil => rfl
  | cons a t =>
    show ([58] : List UInt8).isPrefixOf (a :: t) = _
    simp [List.isPrefixOf]
    rw [Bool.eq_iff_iff, beq_iff_eq, decide_eq_true_eq]
    exact eq_comm
theorem target_check.run {ok : Bool} {x : Int} {K : Heap → Prop} (h1 : ok = true → K H) (h0 : ok = false → E (.iface 48 (.int .i64 x)) H) : target_check.c ok x K E H := by
  refine ⟨?_⟩
  cases ok with
  | true => rw [if_pos rfl]; exact h1 rfl
  | false => rw [if_neg (by simp)]; exact h0 rfl
theorem shape_take {l : FL} {b : Bool} {f : ByteArray × ByteArray} {t : FL} (h : shapeGo l b (f :: t) = true) : shapeGo l (b || !colonB f.1) t = true ∧ (colonB f.1 = true → (getF l f.1).isSome = true ∧ b = false ∧ pseudoB f.1 = true) := by
  unfold shapeGo at h
  by_cases hc : colonB f.1 = true
  · rw [if_pos hc] at h
    simp only [Bool.and_eq_true, Bool.not_eq_true'] at h
    obtain ⟨⟨⟨h1, h2⟩, h3⟩, h4⟩ := h
    rw [hc, h2]
    exact ⟨by rw [h2] at h4; exact h4, fun _ => ⟨h1, rfl, h3⟩⟩
  · rw [if_neg hc] at h
    have : colonB f.1 = false := by simpa using hc
    rw [this]
    simp only [Bool.not_false, Bool.or_true]
    exact ⟨h, fun h => by cases h⟩
theorem shape_back {l : FL} {b : Bool} {f : ByteArray × ByteArray} {t : FL} (h : shapeGo l (b || !colonB f.1) t = true) (hc : colonB f.1 = true → (getF l f.1).isSome = true ∧ b = false ∧ pseudoB f.1 = true) : shapeGo l b (f :: t) = true := by
  unfold shapeGo
  by_cases hk : colonB f.1 = true
  · obtain ⟨h1, h2, h3⟩ := hc hk
    rw [if_pos hk, h1, h3]
    rw [hk, h2] at h
    rw [h2]
    simpa using h
  · rw [if_neg hk]
    have : colonB f.1 = false := by simpa using hk
    rw [this] at h
    simpa using h
theorem drop_at {l : FL} {i : Nat} {f : ByteArray × ByteArray} (h : l[i]? = some f) : l.drop i = f :: l.drop (i + 1) := by
  obtain ⟨hl, rfl⟩ := List.getElem?_eq_some_iff.1 h
  exact List.drop_eq_getElem_cons hl
/-- What behind is as right as all. -/
theorem shape_iff {l : FL} {b : Bool} {f : ByteArray × ByteArray} {t : FL} : shapeGo l b (f :: t) = (shapeGo l (b || !colonB f.1) t && (!colonB f.1 || ((getF l f.1).isSome && !b && pseudoB f.1))) := by
  rw [Bool.eq_iff_iff]
  constructor
  · intro h
    obtain ⟨h1, h2⟩ := shape_take h
    rw [h1, Bool.true_and]
    cases hc : colonB f.1 with
    | false => rfl
    | true => obtain ⟨a, b, c⟩ := h2 hc; rw [a, b, c]; rfl
  · intro h
    rw [Bool.and_eq_true] at h
    refine shape_back h.1 fun hc => ?_
    have := h.2
    rw [hc] at this
    simpa [Bool.and_eq_true, and_assoc] using this
theorem target_shape.J4.run {l0 : Option Addr} {l1 l2 : Nat} {behind0 : Bool} {x0 : Option Addr} {x1 x2 : Nat} {x3 x4 : Int} {x5 : Bool} {Kn : Heap → Prop} (h1 : x5 = true → Kn H) (h0 : x5 = false → E (.iface 48 (.int .i64 400)) H) : target_shape.J4 l0 l1 l2 behind0 x0 x1 x2 x3 x4 x5 Kn E H := by
  refine ⟨?_⟩
  unfold target_shape.J4.vc
  cases x5 with
  | true => rw [if_pos rfl]; exact h1 rfl
  | false => rw [if_neg (by simp)]; exact target_check.run (fun h => by cases h) (fun _ => h0 rfl)
theorem target_shape.J3.run {l0 : Option Addr} {l1 l2 : Nat} {behind0 : Bool} {b : Nat} {e : TypeId} {f : ByteArray × ByteArray} {x0 : Option Addr} {x1 x2 : Nat} {x3 x4 : Int} {Kn : Heap → Prop} (hb : H b = some (.cells #[.string f.1, .string f.2] e)) (h1 : pseudoB f.1 = true → Kn H) (h0 : pseudoB f.1 = false → E (.iface 48 (.int .i64 400)) H) :
    target_shape.J3 l0 l1 l2 behind0 ⟨b, 0, none⟩ x0 x1 x2 x3 x4 Kn E H := by
  refine ⟨⟨_, loc (o := 0) hb rfl, ?_⟩⟩
  dsimp only
  unfold pseudoB at h1 h0
  rw [ba_eq, ba_eq, ba_eq, ba_eq, ba_eq]
  generalize decide (f.1 = mNm) = c1 at h1 h0 ⊢
  generalize decide (f.1 = sNm) = c2 at h1 h0 ⊢
  generalize decide (f.1 = aNm) = c3 at h1 h0 ⊢
  generalize decide (f.1 = hNm) = c4 at h1 h0 ⊢
  generalize decide (f.1 = pNm) = c5 at h1 h0 ⊢
  cases c1 with
  | true => rw [if_pos rfl]; exact target_shape.J4.run (fun _ => h1 (by simp)) (fun h => by cases h)
  | false =>
    rw [if_neg (by simp)]
    cases c2 with
    | true => rw [if_pos rfl]; exact target_shape.J4.run (fun _ => h1 (by simp)) (fun h => by cases h)
    | false =>
      rw [if_neg (by simp)]
      cases c3 with
      | true => rw [if_pos rfl]; exact target_shape.J4.run (fun _ => h1 (by simp)) (fun h => by cases h)
      | false =>
        rw [if_neg (by simp)]
        cases c4 with
        | true => rw [if_pos rfl]; exact target_shape.J4.run (fun _ => h1 (by simp)) (fun h => by cases h)
        | false =>
          rw [if_neg (by simp)]
          cases c5 with
          | true => exact target_shape.J4.run (fun _ => h1 (by simp)) (fun h => by cases h)
          | false => exact target_shape.J4.run (fun h => by cases h) (fun _ => h0 (by simp))
/-- Is the order right, and are the names: else the status 400 is thrown. -/
theorem target_shape.run {K : Heap → Prop} (hr : RowsAt H p n 2 (rF l)) (hn : n ≤ 4611686018427387904) (h1 : shapeGo l false l = true → K H) (h0 : shapeGo l false l = false → ∀ H', Heap.Le H H' → E (.iface 48 (.int .i64 400)) H') : target_shape.c p n c K E H := by
  have hlen := rF_len hr
  refine ⟨⟨Loop.of (I := fun st H' m => ∃ i : Nat, st.2 = (i : Int) ∧ i ≤ n ∧ m = n - i ∧ Heap.Le H H' ∧ shapeGo l st.1 (l.drop i) = shapeGo l false l) ?_ ⟨0, rfl, Nat.zero_le _, rfl, Heap.Le.refl _, by simp⟩⟩⟩
  rintro m ⟨bh, i'⟩ H' ⟨i, hi', hi, rfl, hle, hgo⟩ RR hRR
  dsimp only at hi' hgo
  subst hi'
  unfold target_shape.W1.vc
  dsimp only
  by_cases hlt : i < n
  · rw [if_pos (by rw [decide_eq_true_eq]; omega)]
    obtain ⟨f, hf⟩ : ∃ f, l[i]? = some f := ⟨_, List.getElem?_eq_getElem (by omega)⟩
    obtain ⟨a, ha, c0, c1⟩ := fcell (hr.mono hle) hf
    rw [drop_at hf, shape_iff] at hgo
    refine ⟨a, ha, by omega, by omega, _, by rw [Int.toNat_natCast]; exact c0, _, by rw [Int.toNat_natCast]; exact c1, ?_⟩
    refine new2_le fun b H2 hn2 hl2 hle2 => ?_
    have hle3 := hle.trans hle2
    refine ⟨_, loc (o := 0) hl2 rfl, ⟨?_⟩⟩; dsimp only
    rw [colon_prefix]
    have next : ∀ (b' : Bool), shapeGo l b' (l.drop (i + 1)) = shapeGo l false l → ∀ RRo : Int → Heap → Prop, (∀ s H', RR (b', s) H' → RRo s H') → RRo (IntKind.i64.wrap ((i : Int) + 1)) H2 := fun b' hb' RRo h => by
      rw [w_i64 (by omega) (by omega)]
      exact h _ _ (hRR (b', _) _ (n - (i + 1)) (by omega) ⟨i + 1, by simp, by omega, rfl, hle3, hb'⟩)
    cases hc : colonB f.1 with
    | false =>
      rw [if_pos (by simp)]
      refine ⟨next true ?_ _ fun s H' h => h⟩
      rw [hc] at hgo
      simpa using hgo
    | true =>
      rw [if_neg (by simp)]
      rw [hc] at hgo
      simp only [Bool.not_true, Bool.or_false, Bool.false_or] at hgo
      refine ⟨_, loc (o := 0) hl2 rfl, ?_⟩; dsimp only
      have fail : ((getF l f.1).isSome && !bh && pseudoB f.1) = false → E (.iface 48 (.int .i64 400)) H2 := fun h => h0 (by rw [← hgo, h, Bool.and_false]) H2 hle3
      refine fields_Get.run (hr.mono hle3) hn ?_
      cases hs : (getF l f.1).isSome with
      | false =>
        rw [if_neg (by simp)]
        exact target_check.run (fun h => by cases h) (fun _ => fail (by rw [hs]; rfl))
      | true =>
        rw [if_pos rfl]
        refine target_check.run (fun hb => ?_) (fun hb => fail (by rw [hs, hb]; rfl))
        refine target_shape.J3.run hl2 (fun hp => ?_) (fun hp => fail (by rw [hp, Bool.and_false]))
        refine ⟨next bh ?_ _ fun s H' h => h⟩
        rw [← hgo, hs, hb, hp]
        simp
  · rw [if_neg (by rw [decide_eq_true_eq]; omega)]
    rw [List.drop_of_length_le (by omega)] at hgo
    exact ⟨H, hle, h1 (by rw [← hgo]; rfl)⟩
end
end Go.Sh
