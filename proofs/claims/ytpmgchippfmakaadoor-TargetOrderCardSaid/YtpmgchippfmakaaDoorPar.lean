/- prefix.Parse: what it answers. -/
import Derived.Test.YtpmgchippfmakaaDoorRng
import Derived.Test.YtpmgchippfmakaaDoorGpp
import Derived.Test.YtpmgchippfmakaaDoorShV
namespace Go.Sh
open Go.Proofs Go.RowKit
set_option maxRecDepth 8000
/-! ### The law -/
def okPart (x : ByteArray) : Option Int := match Lib.atoiAll x.data.toList with
  | .ok v => if 0 ≤ v ∧ v ≤ 255 ∧ (⟨(Lib.itoa v).toArray⟩ : ByteArray) = x then some v else none
  | _ => none
def valP (ps : List ByteArray) : Int := ps.foldl (fun a x => (a * 256 + (okPart x).getD 0) % 4294967296) 0
def allOk (ps : List ByteArray) : Bool := ps.all fun x => (okPart x).isSome
def parseV (s : ByteArray) : Int × Bool := if allOk (partsB s.data.toList) = true ∧ (partsB s.data.toList).length = 4 then (valP (partsB s.data.toList), true) else (0, false)
theorem valP_snoc (ps : List ByteArray) (x : ByteArray) : valP (ps ++ [x]) = (valP ps * 256 + (okPart x).getD 0) % 4294967296 := by simp [valP]
theorem okPart_range {x : ByteArray} {d : Int} (h : okPart x = some d) : 0 ≤ d ∧ d ≤ 255 := by
  unfold okPart at h
  split at h
  · split at h
    · rename_i hc; cases h; exact ⟨hc.1, hc.2.1⟩
    · cases h
  · cases h
theorem okPart_some {x : ByteArray} {v : Int} (h : Lib.atoiAll x.data.toList = .ok v) (h0 : 0 ≤ v) (h1 : v ≤ 255) (h2 : (⟨(Lib.itoa v).toArray⟩ : ByteArray) = x) : okPart x = some v := by
  unfold okPart
  rw [h]
  dsimp only
  rw [if_pos ⟨h0, h1, h2⟩]
theorem okPart_none {x : ByteArray} {v : Int} (h : Lib.atoiAll x.data.toList = .ok v) (h0 : ¬ (0 ≤ v ∧ v ≤ 255 ∧ (⟨(Lib.itoa v).toArray⟩ : ByteArray) = x)) : okPart x = none := by
  unfold okPart
  rw [h]
  dsimp only
  rw [if_neg h0]
theorem okPart_err {x : ByteArray} (h : ∀ v, Lib.atoiAll x.data.toList ≠ .ok v) : okPart x = none := by
  unfold okPart
  split
  · rename_i v hv; exact absurd hv (h v)
  · rfl
theorem valP_range (ps : List ByteArray) : 0 ≤ valP ps ∧ valP ps < 4294967296 := by
  rcases List.eq_nil_or_concat ps with h | ⟨a, x, h⟩
  · subst h; exact ⟨by decide, by decide⟩
  · rw [h, List.concat_eq_append, valP_snoc]
    omega
theorem splitDot_len : ∀ l : List UInt8, (splitDot l).length ≤ l.length + 1 ∧ ∀ x ∈ splitDot l, x.length ≤ l.length
  | [] => by simp [splitDot]
  | c :: cs => by
    obtain ⟨h1, h2⟩ := splitDot_len cs
    unfold splitDot
    split
    · refine ⟨by simp; omega, fun x hx => ?_⟩
      rcases List.mem_cons.1 hx with rfl | hx
      · simp
      · have := h2 x hx; simp; omega
    · split
      · exact ⟨by simp, fun x hx => by simp at hx; subst hx; simp⟩
      · rename_i y ys he
        rw [he] at h1 h2
        refine ⟨by simp at h1 ⊢; omega, fun x hx => ?_⟩
        rcases List.mem_cons.1 hx with rfl | hx
        · have := h2 y (by simp); simp; omega
        · have := h2 x (by simp [hx]); simp; omega
theorem partsB_len (s : ByteArray) : (partsB s.data.toList).length ≤ s.size + 1 := by
  have := (splitDot_len s.data.toList).1
  rw [Array.length_toList] at this
  unfold partsB
  rw [List.length_map]
  exact this
theorem partsB_size {s x : ByteArray} (h : x ∈ partsB s.data.toList) : x.size ≤ s.size := by
  unfold partsB at h
  obtain ⟨y, hy, rfl⟩ := List.mem_map.1 h
  have := (splitDot_len s.data.toList).2 y hy
  rw [Array.length_toList] at this
  show y.toArray.size ≤ s.data.size
  simpa using this
theorem byte_in (v d : Int) (h0 : 0 ≤ v) (h1 : v < 4294967296) (d0 : 0 ≤ d) (d1 : d ≤ 255) : bits .or .u32 (shlI .u32 v 8) (IntKind.u32.wrap d) = (v * 256 + d) % 4294967296 := by
  obtain ⟨a, rfl⟩ := Int.eq_ofNat_of_zero_le h0
  obtain ⟨b, rfl⟩ := Int.eq_ofNat_of_zero_le d0
  have e1 : shlI .u32 (a : Int) 8 = ((a * 256 % 4294967296 : Nat) : Int) := by
    have e : (2 : Int) ^ (min (8 : Int).toNat IntKind.u32.bits) = 256 := by decide
    unfold shlI
    rw [e]
    simp only [IntKind.wrap, IntKind.bits, IntKind.signed, Bool.false_and, Bool.false_eq_true, if_false]
    omega
  rw [w_u32 (by omega) (by omega), e1, or_u32 _ _ (by omega) (by omega)]
  have e2 : a * 256 % 4294967296 ||| b = a * 256 % 4294967296 + b := by
    have : a * 256 % 4294967296 = 2 ^ 8 * (a % 16777216) := by omega
    rw [this]
    exact (Nat.two_pow_add_eq_or_of_lt (by omega) _).symm
  rw [e2]
  omega
/-! ### Memory -/
def HH (H : Heap) (b0 b1 b2 b3 : Nat) (r : Int) (ok : Bool) (v n : Int) : Heap := fun k => if k = b0 then some (.cells #[.int .u32 r] 22) else if k = b1 then some (.cells #[.bool ok] 4) else if k = b2 then some (.cells #[.int .u32 v] 22) else if k = b3 then some (.cells #[.int .i64 n] 3) else H k
structure Bx (H : Heap) (b0 b1 b2 b3 : Nat) : Prop where
  n0 : H b0 = none
  n1 : H b1 = none
  n2 : H b2 = none
  n3 : H b3 = none
  d01 : b1 ≠ b0
  d02 : b2 ≠ b0
  d03 : b3 ≠ b0
  d12 : b2 ≠ b1
  d13 : b3 ≠ b1
  d23 : b3 ≠ b2
section
variable {H : Heap} {b0 b1 b2 b3 : Nat} {r : Int} {ok : Bool} {v n : Int}
theorem HH.le (h : Bx H b0 b1 b2 b3) : Heap.Le H (HH H b0 b1 b2 b3 r ok v n) := fun k o hk => by
  have h0 := h.n0; have h1 := h.n1; have h2 := h.n2; have h3 := h.n3
  unfold HH
  rw [if_neg (fun e => by subst e; rw [h0] at hk; cases hk), if_neg (fun e => by subst e; rw [h1] at hk; cases hk), if_neg (fun e => by subst e; rw [h2] at hk; cases hk), if_neg (fun e => by subst e; rw [h3] at hk; cases hk)]
  exact hk
theorem HH.dom {r' : Int} {ok' : Bool} {v' n' : Int} (k : Nat) : HH H b0 b1 b2 b3 r ok v n k = none ↔ HH H b0 b1 b2 b3 r' ok' v' n' k = none := by
  unfold HH
  by_cases e0 : k = b0
  · rw [if_pos e0, if_pos e0]; simp
  rw [if_neg e0, if_neg e0]
  by_cases e1 : k = b1
  · rw [if_pos e1, if_pos e1]; simp
  rw [if_neg e1, if_neg e1]
  by_cases e2 : k = b2
  · rw [if_pos e2, if_pos e2]; simp
  rw [if_neg e2, if_neg e2]
  by_cases e3 : k = b3
  · rw [if_pos e3, if_pos e3]; simp
  rw [if_neg e3, if_neg e3]
theorem HH.at0 : HH H b0 b1 b2 b3 r ok v n b0 = some (.cells #[.int .u32 r] 22) := by simp [HH]
theorem HH.at1 (h : Bx H b0 b1 b2 b3) : HH H b0 b1 b2 b3 r ok v n b1 = some (.cells #[.bool ok] 4) := by simp [HH, h.d01]
theorem HH.at2 (h : Bx H b0 b1 b2 b3) : HH H b0 b1 b2 b3 r ok v n b2 = some (.cells #[.int .u32 v] 22) := by simp [HH, h.d02, h.d12]
theorem HH.at3 (h : Bx H b0 b1 b2 b3) : HH H b0 b1 b2 b3 r ok v n b3 = some (.cells #[.int .i64 n] 3) := by simp [HH, h.d03, h.d13, h.d23]
theorem HH.set0 (r' : Int) : (HH H b0 b1 b2 b3 r ok v n).set b0 (.cells #[.int .u32 r'] 22) = HH H b0 b1 b2 b3 r' ok v n := by
  funext k; unfold HH Heap.set; split <;> simp [*]
theorem HH.set1 (h : Bx H b0 b1 b2 b3) (ok' : Bool) : (HH H b0 b1 b2 b3 r ok v n).set b1 (.cells #[.bool ok'] 4) = HH H b0 b1 b2 b3 r ok' v n := by
  have := h.d01
  funext k; unfold HH Heap.set
  by_cases e : k = b1
  · subst e; simp [this]
  · simp [e]
theorem HH.set2 (h : Bx H b0 b1 b2 b3) (v' : Int) : (HH H b0 b1 b2 b3 r ok v n).set b2 (.cells #[.int .u32 v'] 22) = HH H b0 b1 b2 b3 r ok v' n := by
  have h1 := h.d02; have h2 := h.d12
  funext k; unfold HH Heap.set
  by_cases e : k = b2
  · subst e; simp [h1, h2]
  · simp [e]
theorem HH.set3 (h : Bx H b0 b1 b2 b3) (n' : Int) : (HH H b0 b1 b2 b3 r ok v n).set b3 (.cells #[.int .i64 n'] 3) = HH H b0 b1 b2 b3 r ok v n' := by
  have h1 := h.d03; have h2 := h.d13; have h3 := h.d23
  funext k; unfold HH Heap.set
  by_cases e : k = b3
  · subst e; simp [h1, h2, h3]
  · simp [e]
end
theorem stc0 {H : Heap} {b : Nat} {u v : Value} {e : TypeId} {K : Heap → Prop} (h : H b = some (.cells #[u] e)) (hk : K (H.set b (.cells #[v] e))) : stc H ⟨b, 0, none⟩ v K := by
  have := stc_loc (o := 0) (v := v) (K := K) h (by simp) (by simpa using hk)
  rwa [add_mk] at this
theorem loc0 {H : Heap} {b : Nat} {u : Value} {e : TypeId} (h : H b = some (.cells #[u] e)) : H.cell? ⟨b, 0, none⟩ = some u := by simp [Heap.cell?, h]
def NE : Value → Heap → Prop := fun _ _ => False
section
variable {H : Heap} {b0 b1 b2 b3 : Nat} {v n : Int}
theorem prefix_Parse.J5.run {h : Bx H b0 b1 b2 b3} {n0 : Int} {x2 : Bool} {Kn Kr : Heap → Prop} (h1 : x2 = true → Kr (HH H b0 b1 b2 b3 0 false v n)) (h0 : x2 = false → Kn (HH H b0 b1 b2 b3 0 false v n)) :
    prefix_Parse.J5 ⟨b0, 0, none⟩ ⟨b1, 0, none⟩ ⟨b2, 0, none⟩ ⟨b3, 0, none⟩ n0 x2 Kn Kr NE (HH H b0 b1 b2 b3 0 false v n) := by
  refine ⟨?_⟩
  unfold prefix_Parse.J5.vc
  cases x2 with
  | true =>
    rw [if_pos rfl]
    refine stc0 HH.at0 ?_
    rw [HH.set0]
    refine stc0 (HH.at1 h) ?_
    rw [HH.set1 h]
    exact h1 rfl
  | false => rw [if_neg (by simp)]; exact h0 rfl
theorem prefix_Parse.J6.run {h : Bx H b0 b1 b2 b3} {d : Int} {Kn : Heap → Prop} (hv : 0 ≤ v ∧ v < 4294967296) (hd : 0 ≤ d ∧ d ≤ 255) (hn : 0 ≤ n ∧ n < 9223372036854775807) (hk : Kn (HH H b0 b1 b2 b3 0 false ((v * 256 + d) % 4294967296) (n + 1))) :
    prefix_Parse.J6 ⟨b2, 0, none⟩ ⟨b3, 0, none⟩ d Kn NE (HH H b0 b1 b2 b3 0 false v n) := by
  refine ⟨?_⟩
  unfold prefix_Parse.J6.vc
  refine ⟨v, loc0 (HH.at2 h), by decide, n, loc0 (HH.at3 h), ?_⟩
  rw [byte_in v d hv.1 hv.2 hd.1 hd.2]
  refine stc0 (HH.at2 h) ?_
  rw [HH.set2 h]
  refine ⟨⟨n, loc0 (HH.at3 h), rfl, rfl⟩, ?_⟩
  rw [w_i64 (by omega) (by omega)]
  refine stc0 (HH.at3 h) ?_
  rw [HH.set3 h]
  exact hk
theorem prefix_Parse.J4.run {h : Bx H b0 b1 b2 b3} {part : ByteArray} {Kn Kr : Heap → Prop} (hs : part.size ≤ 281474976710656) (e1 : ErrIn H 1) (e2 : ErrIn H 2) (ht : TabIn H 0 .u64 powTab) (hv : 0 ≤ v ∧ v < 4294967296) (hn : 0 ≤ n ∧ n < 9223372036854775807)
    (h1 : ∀ d, okPart part = some d → Kn (HH H b0 b1 b2 b3 0 false ((v * 256 + d) % 4294967296) (n + 1))) (h0 : okPart part = none → Kr (HH H b0 b1 b2 b3 0 false v n)) :
    prefix_Parse.J4 ⟨b0, 0, none⟩ ⟨b1, 0, none⟩ ⟨b2, 0, none⟩ ⟨b3, 0, none⟩ part Kn Kr NE (HH H b0 b1 b2 b3 0 false v n) := by
  refine ⟨?_⟩
  unfold prefix_Parse.J4.vc
  have hle : Heap.Le H (HH H b0 b1 b2 b3 0 false v n) := HH.le h
  refine ⟨hs, e1.le hle, e2.le hle, fun w hw => nilV_no ?_, fun hno w x => nilV_err ?_⟩
  · by_cases c0 : w < 0
    · rw [if_pos (by simpa using c0)]
      exact prefix_Parse.J5.run (h := h) (fun _ => h0 (okPart_none hw (by omega))) (fun e => by cases e)
    · rw [if_neg (by simpa using c0)]
      by_cases c1 : w > 255
      · rw [if_pos (by simpa using c1)]
        exact prefix_Parse.J5.run (h := h) (fun _ => h0 (okPart_none hw (by omega))) (fun e => by cases e)
      · rw [if_neg (by simpa using c1)]
        refine ⟨by omega, by omega, ht.le hle, ?_⟩
        refine prefix_Parse.J5.run (h := h) (fun e => h0 (okPart_none hw fun hc => ?_)) (fun e => ?_)
        · have := (str_eq _ _).2 hc.2.2
          rw [this] at e
          simp at e
        · have e : (⟨(Lib.itoa w).toArray⟩ : ByteArray) = part := (str_eq _ _).1 (by simpa using e)
          exact prefix_Parse.J6.run (h := h) hv ⟨by omega, by omega⟩ hn (h1 w (okPart_some hw (by omega) (by omega) e))
  · exact prefix_Parse.J5.run (h := h) (fun _ => h0 (okPart_err hno)) (fun e => by cases e)
theorem prefix_Parse.J7.run {h : Bx H b0 b1 b2 b3} {Kr : Heap → Prop} (h1 : n = 4 → Kr (HH H b0 b1 b2 b3 v true v n)) (h0 : n ≠ 4 → Kr (HH H b0 b1 b2 b3 0 false v n)) :
    prefix_Parse.J7 ⟨b0, 0, none⟩ ⟨b1, 0, none⟩ ⟨b2, 0, none⟩ ⟨b3, 0, none⟩ Kr NE (HH H b0 b1 b2 b3 0 false v n) := by
  refine ⟨?_⟩
  unfold prefix_Parse.J7.vc
  refine ⟨n, loc0 (HH.at3 h), ?_⟩
  dsimp only
  by_cases e : n = 4
  · rw [if_neg (by simp [e])]
    refine ⟨v, loc0 (HH.at2 h), stc0 HH.at0 ?_⟩
    rw [HH.set0]
    refine stc0 (HH.at1 h) ?_
    rw [HH.set1 h]
    exact h1 e
  · rw [if_pos (by simpa using e)]
    refine stc0 HH.at0 ?_
    rw [HH.set0]
    refine stc0 (HH.at1 h) ?_
    rw [HH.set1 h]
    exact h0 e
end
end Go.Sh
