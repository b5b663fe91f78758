/- What strings.SplitSeq's iterator does: it hands the parts of a text between dots to the loop's rounds, one after the other. -/
import Derived.RangeFuncNested
import Derived.RangeFuncBound
import Derived.RangeFuncCalls
import Derived.RangeFuncLeaves
import Derived.Shelf.Abstract
import Derived.WalkKit
import Derived.OwnWalkIn
import Derived.TacticsInMore
import Derived.LoopNIn
import Derived.LoopIn
import Derived.Sort.Row
import Derived.Test.YtpmgchippfmakaaDoorShl
namespace Go.Proofs
open Go.RowKit Go.Shelf
attribute [local go_sem] Oper.semAt_some
def splitDot : List UInt8 → List (List UInt8)
  | [] => [[]]
  | c :: cs => if c = 46 then [] :: splitDot cs else match splitDot cs with
    | [] => [[c]]
    | x :: xs => (c :: x) :: xs
theorem splitDot_ne : ∀ l, splitDot l ≠ []
  | [] => by simp [splitDot]
  | c :: cs => by
    unfold splitDot
    split
    · simp
    · split <;> simp
theorem splitDot_none : ∀ {l : List UInt8}, (46 : UInt8) ∉ l → splitDot l = [l]
  | [], _ => rfl
  | c :: cs, h => by
    unfold splitDot
    rw [if_neg (fun e => h (by simp [e])), splitDot_none (fun hm => h (by simp [hm]))]
theorem splitDot_at : ∀ {a b : List UInt8}, (46 : UInt8) ∉ a → splitDot (a ++ 46 :: b) = a :: splitDot b
  | [], b, _ => by show splitDot (46 :: b) = _; conv => lhs; unfold splitDot
                   rw [if_pos rfl]
  | c :: cs, b, h => by
    show splitDot (c :: (cs ++ 46 :: b)) = _
    conv => lhs; unfold splitDot
    rw [if_neg (fun e => h (by simp [e])), splitDot_at (fun hm => h (by simp [hm]))]
theorem index_none {l : List UInt8} (h : Lib.indexByte l 46 = -1) : splitDot l = [l] :=
  splitDot_none fun hm => by
    obtain ⟨k, hk⟩ := List.getElem?_of_mem hm
    exact Lib.indexByte_none h k hk
theorem index_some {l : List UInt8} {o : Nat} (h : Lib.indexByte l 46 = o) : o < l.length ∧ splitDot l = l.take o :: splitDot (l.drop (o + 1)) := by
  obtain ⟨h1, h2⟩ := Lib.indexByte_some h
  have hlt : o < l.length := (List.getElem?_eq_some_iff.1 h1).1
  refine ⟨hlt, ?_⟩
  have e : l = l.take o ++ 46 :: l.drop (o + 1) := by
    have := List.take_append_drop o l
    rw [List.drop_eq_getElem_cons hlt] at this
    have h3 : l[o] = 46 := by rw [List.getElem?_eq_getElem hlt] at h1; exact Option.some.inj h1
    rw [h3] at this
    exact this.symm
  conv => lhs; rw [e]
  refine splitDot_at fun hm => ?_
  obtain ⟨k, hk⟩ := List.getElem?_of_mem hm
  rw [List.getElem?_take] at hk
  split at hk
  · rename_i hko; exact h2 k hko hk
  · cases hk
/-- The parts, as the rounds get them. -/
def partsB (l : List UInt8) : List ByteArray := (splitDot l).map fun x => ⟨x.toArray⟩
theorem setCell_ne (W : World) {B b : Nat} (v : Value) (h : b ≠ B) : (W.setCell ⟨B, 0, none⟩ v).heap[b]? = W.heap[b]? := by
  rw [Go.Sort.setCell_eq]
  show (W.heap.modify B (Go.Sort.onCells _))[b]? = _
  rw [Array.getElem?_modify, if_neg (fun e => h e.symm)]
theorem setCell_at {W : World} {B : Nat} {u : Value} {e : TypeId} (v : Value) (h : W.heap[B]? = some (.cells #[u] e)) : (W.setCell ⟨B, 0, none⟩ v).heap[B]? = some (.cells #[v] e) := by
  rw [Go.Sort.setCell_eq]
  show (W.heap.modify B (Go.Sort.onCells _))[B]? = _
  rw [Array.getElem?_modify, if_pos rfl, h]
  rfl
/-- How much text the box holds. -/
def lenAt (B : Nat) (w : World) : Nat := match w.heap[B]? with
  | some (.cells c _ _) => match c[0]? with
    | some (Value.string r) => r.size
    | _ => 0
  | _ => 0
set_option maxRecDepth 100000 in
set_option maxHeartbeats 2000000 in
/-- The iterator's closure: for every body that leaves its three boxes alone. -/
theorem Tryd.split_in (n : Nat) (s : ByteArray) (l B0 B1 B2 : Nat) (J Jx : List ByteArray → World → Prop) (hJ : ∀ pre W v, J pre W → J pre (W.setCell ⟨B1, 0, none⟩ v)) (h01 : B0 ≠ B1) (h21 : B2 ≠ B1)
    (Kp : World → World → Prop) (hKp : ∀ W W', Kp W W' → W'.heap[B0]? = W.heap[B0]? ∧ W'.heap[B1]? = W.heap[B1]? ∧ W'.heap[B2]? = W.heap[B2]?)
    (hY : ∀ pre x W, J pre W → pre ++ [x] <+: partsB s.data.toList → YieldAt Fence.wide n Tryd.prog l #[.string x] W fun e W' =>
      (e = .returned (.bool true) ∧ J (pre ++ [x]) W' ∧ Kp W W') ∨ (e = .returned (.bool false) ∧ Jx (pre ++ [x]) W'))
    (W : World) (hs : s.size ≤ 9223372036854775807) (e0 e1 e2 : TypeId) (b0 : W.heap[B0]? = some (.cells #[.string ⟨#[46]⟩] e0)) (b1 : W.heap[B1]? = some (.cells #[.string s] e1)) (b2 : W.heap[B2]? = some (.cells #[.int .i64 0] e2)) (h0 : J [] W) :
    CallsIn Fence.wide (n + 1) Tryd.prog 80 #[.func (.yield l) #[] #[], .pointer (some ⟨B0, 0, none⟩), .pointer (some ⟨B1, 0, none⟩), .pointer (some ⟨B2, 0, none⟩)] W fun e W' => (∃ v, e = .returned v) ∧
      (J (partsB s.data.toList) W' ∨ (∃ pre, pre <+: partsB s.data.toList ∧ Jx pre W')) := by
  refine callsIn_of_wp Tryd.func80 rfl trivial ?_ rfl
  simp only [Tryd.ntmps80, List.size_toArray, List.length_cons, List.length_nil, Nat.reduceAdd, Nat.reduceSub, Array.replicate_succ, Array.replicate_zero, List.push_toArray, List.append_toArray, List.nil_append, List.cons_append]
  have c0 : W.cell? ⟨B0, 0, none⟩ = some (.string ⟨#[46]⟩) := by simp [World.cell?, b0]
  gi_wp2
  gi_loopw [7] (fun _ wr => ∃ (r : ByteArray) (pre : List ByteArray), wr.heap[B0]? = some (.cells #[.string ⟨#[46]⟩] e0) ∧ wr.heap[B1]? = some (.cells #[.string r] e1) ∧ wr.heap[B2]? = some (.cells #[.int .i64 0] e2) ∧ J pre wr ∧ partsB s.data.toList = pre ++ partsB r.data.toList ∧ r.size ≤ s.size)
    (fun _ wr => lenAt B1 wr)
  case atStart => exact ⟨s, [], b0, b1, b2, h0, rfl, Nat.le_refl _⟩
  case round =>
    obtain ⟨r, pre, hb0, hb1, hb2, hj, hp, hsz⟩ := hrel
    have k0 : wr.cell? ⟨B0, 0, none⟩ = some (.string ⟨#[46]⟩) := by simp [World.cell?, hb0]
    have k1 : wr.cell? ⟨B1, 0, none⟩ = some (.string r) := by simp [World.cell?, hb1]
    have k2 : wr.cell? ⟨B2, 0, none⟩ = some (.int .i64 0) := by simp [World.cell?, hb2]
    have hf1 : wr.frozen? ⟨B1, 0, none⟩ = false := by simp [World.frozen?, hb1]
    have hidx := Tryd.strings_Index_one r 46 wr
    have hge := Lib.indexByte_ge r.data.toList 46
    generalize hi : Lib.indexByte r.data.toList 46 = i at hidx hge
    by_cases hneg : i < 0
    · have hi1 : i = -1 := by omega
      subst hi1
      have hpr : partsB r.data.toList = [r] := by unfold partsB; rw [index_none hi]; rfl
      obtain ⟨fn, tmps, assign, body, hy, hR⟩ := hY pre r wr hj (by rw [hp, hpr]; exact List.prefix_refl _)
      gi_wp2_with (refine ⟨trivial, ?_⟩; gi_at_call 62; refine (callsIn_wide.2 hidx).mono ?_; rintro e w' ⟨rfl, rfl⟩)
      refine hR.mono ?_
      rintro e W3 (⟨rfl, hJ3, hk3⟩ | ⟨rfl, hJx3⟩)
      · gi_wp2
        go_end0
        exact ⟨⟨_, rfl⟩, .inl (by rw [hp, hpr]; exact hJ3)⟩
      · gi_wp2
        go_end0
        exact ⟨⟨_, rfl⟩, .inr ⟨_, by rw [hp, hpr]; exact List.prefix_refl _, hJx3⟩⟩
    · obtain ⟨o, rfl⟩ : ∃ o : Nat, i = o := ⟨i.toNat, by omega⟩
      obtain ⟨holt, hsp⟩ := index_some hi
      have hol : o < r.size := by have h := holt; rw [Array.length_toList] at h; exact h
      have hps : partsB r.data.toList = r.extract 0 o :: partsB (r.extract (o + 1) r.size).data.toList := by
        unfold partsB
        rw [hsp, List.map_cons, Lib.extract_data]
        congr 1
        · refine ByteArray.ext (Array.toList_inj.1 ?_)
          rw [Lib.extract_data]
          simp
        · congr 2
          rw [List.take_of_length_le (by rw [List.length_drop, Array.length_toList]; exact Nat.le_refl _)]
      obtain ⟨fn, tmps, assign, body, hy, hR⟩ := hY pre (r.extract 0 o) wr hj ⟨partsB (r.extract (o + 1) r.size).data.toList, by rw [hp, hps]; simp⟩
      gi_wp2_with (refine ⟨trivial, ?_⟩; gi_at_call 62; refine (callsIn_wide.2 hidx).mono ?_; rintro e w' ⟨rfl, rfl⟩)
      refine hR.mono ?_
      rintro e W3 (⟨rfl, hJ3, hk3⟩ | ⟨rfl, hJx3⟩)
      · obtain ⟨g0, g1, g2⟩ := hKp _ _ hk3
        rw [hb0] at g0; rw [hb1] at g1; rw [hb2] at g2
        have k0' : W3.cell? ⟨B0, 0, none⟩ = some (.string ⟨#[46]⟩) := by simp [World.cell?, g0]
        have k1' : W3.cell? ⟨B1, 0, none⟩ = some (.string r) := by simp [World.cell?, g1]
        have hf1' : W3.frozen? ⟨B1, 0, none⟩ = false := by simp [World.frozen?, g1]
        gi_wp2
        have hd : (r.extract (o + 1) r.size).size = r.size - (o + 1) := by
          have h := congrArg List.length (Lib.extract_data r (o + 1) r.size)
          rw [List.length_take, List.length_drop, Array.length_toList, Array.length_toList] at h
          have h2 : (r.extract (o + 1) r.size).size = min (r.size - (o + 1)) (r.size - (o + 1)) := h
          omega
        have hl0 : lenAt B1 w' = r.size := by unfold lenAt; rw [hb1]; rfl
        refine ⟨⟨r.extract (o + 1) r.size, pre ++ [r.extract 0 o], by rw [setCell_ne _ _ h01]; exact g0, setCell_at _ g1, by rw [setCell_ne _ _ h21]; exact g2, hJ _ _ _ hJ3, by rw [hp, hps, List.append_assoc]; rfl, by omega⟩, ?_⟩
        rw [hl0]
        unfold lenAt
        rw [setCell_at _ g1]
        show (r.extract (o + 1) r.size).size < r.size
        omega
      · gi_wp2
        refine bodyPost_ret (results_none rfl _ _ _) rfl ?_
        exact ⟨⟨_, rfl⟩, .inr ⟨_, ⟨partsB (r.extract (o + 1) r.size).data.toList, by rw [hp, hps]; simp⟩, hJx3⟩⟩
end Go.Proofs
