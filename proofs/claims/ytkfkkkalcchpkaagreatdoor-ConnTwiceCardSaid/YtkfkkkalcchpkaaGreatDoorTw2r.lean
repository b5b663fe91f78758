/- A packet that comes once more changes nothing (part 18 of the walk and its laws) -/
import Derived.Test.YtkfkkkalcchpkaaGreatDoorTw2q
import Derived.Laws.Entries
namespace Go.Sh
open Go.ChangeShapes Go.WideShapes Go.RowKit
@[simp] theorem newB_iff {o : Obj} {K : Nat → Heap → Prop} {H : Heap} : newB o K H ↔ ∀ b, H b = none → K b (H.set b o) := Iff.rfl
@[simp] theorem ldI_iff {H : Heap} {k : IntKind} {a : Addr} {K : Int → Prop} : ldI H k a K ↔ ∃ n, H.cell? a = some (.int k n) ∧ K n := Iff.rfl
@[simp] theorem ldB_iff {H : Heap} {a : Addr} {K : Bool → Prop} : ldB H a K ↔ ∃ n, H.cell? a = some (.bool n) ∧ K n := Iff.rfl
@[simp] theorem ldS_iff {H : Heap} {a : Addr} {K : ByteArray → Prop} : ldS H a K ↔ ∃ n, H.cell? a = some (.string n) ∧ K n := Iff.rfl
@[simp] theorem ldP_iff {H : Heap} {a : Addr} {K : Option Addr → Prop} : ldP H a K ↔ ∃ n, H.cell? a = some (.pointer n) ∧ K n := Iff.rfl
@[simp] theorem ldM_iff {H : Heap} {a : Addr} {K : Option Nat → Prop} : ldM H a K ↔ ∃ n, H.cell? a = some (.map n) ∧ K n := Iff.rfl
@[simp] theorem ldSl_iff {H : Heap} {a : Addr} {K : Option Addr → Nat → Nat → Prop} : ldSl H a K ↔ ∃ p n c, H.cell? a = some (.slice p n c) ∧ K p n c := Iff.rfl
@[simp] theorem ldV_iff {H : Heap} {a : Addr} {K : Value → Prop} : ldV H a K ↔ ∃ n, H.cell? a = some n ∧ K n := Iff.rfl
@[simp] theorem nilc_iff {p : Option Addr} {K : Addr → Prop} : nilc p K ↔ ∃ a, p = some a ∧ K a := Iff.rfl
@[simp] theorem eqv_iff {H H1 : Heap} {x : Option Value} {v : Value} : eqv H H1 x v ↔ H1 = H ∧ x = some v := Iff.rfl
@[simp] theorem add_mk (b o n : Nat) : Addr.add ⟨b, o, none⟩ n = ⟨b, o + n, none⟩ := by
  unfold Addr.add; split
  · rename_i h; subst h; rfl
  · rfl
@[simp] theorem add_block (a : Addr) (n : Nat) : (a.add n).block = a.block := by unfold Addr.add; split <;> rfl
@[simp] theorem cell_set_same (H : Heap) (b off : Nat) (c : Array Value) (e : TypeId) (f : Nat × Nat) : (H.set b (.cells c e f)).cell? ⟨b, off, none⟩ = c[off]? := by
  simp [Heap.cell?, Heap.set]
theorem set_ne (H : Heap) {b c : Nat} (o : Obj) (h : c ≠ b) : (H.set b o) c = H c := by simp [Heap.set, h]
@[simp] theorem set_self (H : Heap) (b : Nat) (o : Obj) : (H.set b o) b = some o := by simp [Heap.set]
@[simp] theorem stc_set_iff {H : Heap} {b o : Nat} {c : Array Value} {e : TypeId} {v : Value} {K : Heap → Prop} :
    stc (H.set b (.cells c e)) ⟨b, o, none⟩ v K ↔ o < c.size ∧ K (H.set b (.cells (c.setIfInBounds o v) e)) := by
  have h1 : ((H.set b (.cells c e)).cell? ⟨b, o, none⟩).isSome = true ↔ o < c.size := by rw [cell_set_same]; simp
  have h2 : (H.set b (.cells c e)).frozen? ⟨b, o, none⟩ = false := by simp [Heap.frozen?, Heap.set]
  have h3 : (H.set b (.cells c e)).setCell ⟨b, o, none⟩ v = H.set b (.cells (c.setIfInBounds o v) e) := by
    funext i
    by_cases hi : i = b <;> simp [Heap.setCell, Heap.upd, Heap.set, Heap.setObj, hi]
  unfold stc
  rw [h1, h2, h3]
  simp
theorem Le_set {H : Heap} {b : Nat} (h : H b = none) (o : Obj) : Heap.Le H (H.set b o) := by
  intro c x hx
  by_cases e : c = b
  · subst e; rw [h] at hx; cases hx
  · rw [set_ne _ _ e]; exact hx
theorem zcc {H H' : Heap} (h : Heap.Le H H') {a : Addr} {v : Value} (hc : H.cell? a = some v) : H'.cell? a = some v := by
  unfold Heap.cell? at hc ⊢
  cases hb : H a.block with
  | none => rw [hb] at hc; cases hc
  | some o => rw [h _ _ hb]; rw [hb] at hc; exact hc
theorem ztf {H : Heap} {a : Addr} {b : Nat} {v : Value} (hc : H.cell? a = some v) (h : H b = none) : a.block ≠ b := by
  intro e
  unfold Heap.cell? at hc
  rw [e, h] at hc
  cases hc
theorem w_i64 {n : Int} (h0 : -9223372036854775808 ≤ n) (h1 : n ≤ 9223372036854775807) : IntKind.i64.wrap n = n := by
  simp [IntKind.wrap, IntKind.bits, IntKind.signed]
  split <;> omega
theorem w_u32 {n : Int} (h0 : 0 ≤ n) (h1 : n ≤ 4294967295) : IntKind.u32.wrap n = n := by
  simp only [IntKind.wrap, IntKind.bits, IntKind.signed, Bool.false_and, Bool.false_eq_true, if_false]
  omega
theorem w_u64 {n : Int} (h0 : 0 ≤ n) (h1 : n ≤ 18446744073709551615) : IntKind.u64.wrap n = n := by
  simp only [IntKind.wrap, IntKind.bits, IntKind.signed, Bool.false_and, Bool.false_eq_true, if_false]
  omega
theorem w_u8 {n : Int} (h0 : 0 ≤ n) (h1 : n ≤ 255) : IntKind.u8.wrap n = n := by
  simp only [IntKind.wrap, IntKind.bits, IntKind.signed, Bool.false_and, Bool.false_eq_true, if_false]
  omega
theorem ofInt_u32 (a : Nat) (h : a < 4294967296) : (BitVec.ofInt 32 (a : Int)).toNat = a := by
  rw [BitVec.ofInt_natCast, BitVec.toNat_ofNat]; exact Nat.mod_eq_of_lt (by omega)
theorem and_u32 (a b : Nat) (ha : a < 4294967296) (hb : b < 4294967296) : bits .and .u32 (a : Int) (b : Int) = ((a &&& b : Nat) : Int) := by
  have hx : a &&& b < 2 ^ 32 := Nat.and_lt_two_pow _ (by omega)
  show IntKind.u32.wrap ((BitVec.ofInt 32 (a : Int) &&& BitVec.ofInt 32 (b : Int)).toNat : Int) = _
  rw [BitVec.toNat_and, ofInt_u32 a ha, ofInt_u32 b hb, w_u32 (by omega) (by omega)]
theorem or_u32 (a b : Nat) (ha : a < 4294967296) (hb : b < 4294967296) : bits .or .u32 (a : Int) (b : Int) = ((a ||| b : Nat) : Int) := by
  have hx : a ||| b < 2 ^ 32 := Nat.or_lt_two_pow (by omega) (by omega)
  show IntKind.u32.wrap ((BitVec.ofInt 32 (a : Int) ||| BitVec.ofInt 32 (b : Int)).toNat : Int) = _
  rw [BitVec.toNat_or, ofInt_u32 a ha, ofInt_u32 b hb, w_u32 (by omega) (by omega)]
section
variable {P : Program} {w : World} {r : Reach} {b0 : Nat} {t : TypeId} {v : Value}
theorem cell_int {k : IntKind} (ht : P.underlying t = some (.int k)) (h : Cell.okWide P w r b0 t v) : ∃ n, v = .int k n ∧ k.has n := by
  unfold Cell.okWide at h
  rw [ht] at h
  cases v <;> simp only [Cell.ok, ht] at h
  obtain ⟨rfl, h⟩ := h
  exact ⟨_, rfl, h⟩
theorem cell_string (ht : P.underlying t = some .string) (h : Cell.okWide P w r b0 t v) : ∃ n, v = .string n ∧ (n.size : Int) ≤ IntKind.i64.max := by
  unfold Cell.okWide at h
  rw [ht] at h
  cases v <;> simp only [Cell.ok, ht] at h
  exact ⟨_, rfl, h⟩
theorem ok_cell {d : TypeDesc} (ht : P.underlying t = some d) (hd : isAggD d = false) (h : Value.okWide P w r b0 t v) : Cell.okWide P w r b0 t v := by
  unfold Value.okWide at h
  rw [ht] at h
  cases d <;> first | exact h | cases hd
theorem trodAll_vlen {H : Type} {enc : TypeId × Value → H} {b : Nat} {sp : Nat → Bool} {hd : Bool} : ∀ {ts : List TypeId} {vs : List Value} {ds : List (DataW H)} {ps : List MemPlace}, DataW.TrodAll enc P w b sp hd ts vs ds ps → vs.length = ts.length
  | [], _, _, _, h => by
    obtain ⟨rfl, rfl, rfl⟩ := trodAll_nil h
    rfl
  | t :: ts, _, _, _, h => by
    obtain ⟨v, vs1, d, ds1, p, q, rfl, rfl, rfl, h1, h2⟩ := trodAll_cons h
    simp [trodAll_vlen h2]
end
end Go.Sh
