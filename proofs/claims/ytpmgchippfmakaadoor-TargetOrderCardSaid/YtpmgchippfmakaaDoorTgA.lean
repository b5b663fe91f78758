/- Decimal digits, addresses in writing; paths and fields of a target. -/
import Derived.Test.YtpmgchippfmakaaDoorGtr
import Derived.Test.YtpmgchippfmakaaDoorShW
import Derived.Test.YtpmgchippfmakaaDoorShV
namespace Go.Sh
set_option maxRecDepth 8000
namespace Num
open Go.Lib
theorem ba_app (x y : ByteArray) : (x ++ y).data.toList = x.data.toList ++ y.data.toList := by rw [ByteArray.data_append, Array.toList_append]
theorem ba_list (l : List UInt8) : (⟨l.toArray⟩ : ByteArray).data.toList = l := by simp
theorem ba_size (l : List UInt8) : (⟨l.toArray⟩ : ByteArray).size = l.length := by show l.toArray.size = _; simp
theorem ba_ext {x y : ByteArray} (h : x.data.toList = y.data.toList) : x = y := ByteArray.ext (Array.toList_inj.1 h)
theorem one_bytes {H : Heap} {b : Nat} {x : UInt8} {e : TypeId} {K : ByteArray → Prop} (hb : H b = some (.cells #[(.int .u8 (x.toNat : Int))] e)) (hk : K ⟨#[x]⟩) : rdBytes H (some ⟨b, 0, none⟩) 1 K := by
  have : BytesAt H (some ⟨b, 0, none⟩) 1 [x] := ⟨rfl, (fun h => by cases h), fun a ha i y hi => by
    cases ha
    cases i with
    | zero =>
      have : x = y := by simpa using hi
      subst this
      exact loc hb rfl
    | succ i => simp at hi⟩
  exact this.rdBytes hk
def numB (n : Nat) : ByteArray := ⟨(decDigits n).toArray⟩
theorem digits_len (n : Nat) : (decDigits n).length ≤ n + 1 := by
  rw [decDigits_length]
  induction n using Nat.strongRecOn with
  | _ u ih =>
    rcases Nat.lt_or_ge u 10 with h | h
    · rw [nDigits_small h]; omega
    · rw [nDigits_big (by omega)]
      have := ih (u / 10) (by omega)
      omega
theorem digits_pos (n : Nat) : 1 ≤ (decDigits n).length := by rw [decDigits_length]; exact nDigits_pos n
theorem numB_size (n : Nat) : (numB n).size ≤ n + 1 := by unfold numB; rw [ba_size]; exact digits_len n
theorem dig8 (n : Nat) : IntKind.u8.wrap (IntKind.i64.wrap (48 + Int.tmod (n : Int) 10)) = ((UInt8.ofNat (48 + n % 10)).toNat : Int) := by
  rw [Int.tmod_eq_emod_of_nonneg (by omega), w_i64 (by omega) (by omega), w_u8 (by omega) (by omega), UInt8.toNat_ofNat']
  omega
def restD (n : Nat) : List UInt8 := if n = 0 then [] else decDigits n
theorem digits_rest (n : Nat) : decDigits n = restD (n / 10) ++ [UInt8.ofNat (48 + n % 10)] := by
  rw [decDigits]
  unfold restD
  rcases Nat.lt_or_ge n 10 with h | h
  · rw [dif_pos h, if_pos (by omega), Nat.mod_eq_of_lt h]
    rfl
  · rw [dif_neg (by omega), if_neg (by omega)]
theorem itoa_nat (n : Nat) : itoa (n : Int) = decDigits n := by
  unfold itoa
  rw [if_neg (by omega), Int.toNat_natCast]
end Num
open Num
theorem vizardref04_Number.run {n : Nat} (hn : n ≤ 4611686018427387904) {H : Heap} {K : ByteArray → Heap → Prop} {E : Value → Heap → Prop} (h : ∀ H', Heap.Le H H' → K (numB n) H') : vizardref04_Number.c n K E H := by
  refine ⟨?_⟩
  unfold vizardref04_Number.vc
  refine ⟨by decide, ?_⟩
  rw [dig8]
  refine newB_le fun b H1 hn1 hl1 hle1 => one_bytes hl1 ⟨by decide, ?_⟩
  have e1 : IntKind.i64.wrap (Int.tdiv (n : Int) 10) = ((n / 10 : Nat) : Int) := by
    rw [Int.tdiv_eq_ediv_of_nonneg (by omega), w_i64 (by omega) (by omega)]; omega
  rw [e1]
  have hlen := digits_len n
  refine ⟨Loop.of (I := fun st H' m => ∃ k : Nat, st.1 = (k : Int) ∧ k ≤ n ∧ m = k ∧ Lib.decDigits n = restD k ++ st.2.data.toList ∧ Heap.Le H H') ?_ ⟨n / 10, rfl, by omega, rfl, digits_rest n, hle1⟩⟩
  rintro k ⟨n0, s⟩ H' ⟨k', hk, hkn, rfl, hs, hle⟩ RR hRR
  dsimp only at hk hs
  subst hk
  unfold vizardref04_Number.W1.vc
  dsimp only
  by_cases hc : 0 < k
  · rw [if_pos (by rw [decide_eq_true_eq]; omega)]
    refine ⟨by decide, ?_⟩
    rw [dig8]
    have hs1 : s.size ≤ n + 1 := by
      have := congrArg List.length hs
      rw [List.length_append] at this
      have e : s.data.toList.length = s.size := by rw [Array.length_toList]; rfl
      omega
    have s1 : (⟨#[UInt8.ofNat (48 + k % 10)]⟩ : ByteArray).size = 1 := rfl
    refine newB_le fun b2 H2 hn2 hl2 hle2 => one_bytes hl2 ⟨by omega, by decide, ?_⟩
    have e2 : IntKind.i64.wrap (Int.tdiv (k : Int) 10) = ((k / 10 : Nat) : Int) := by
      rw [Int.tdiv_eq_ediv_of_nonneg (by omega), w_i64 (by omega) (by omega)]; omega
    rw [e2]
    refine hRR (_, _) H2 (k / 10) (by omega) ⟨k / 10, rfl, by omega, rfl, ?_, hle.trans hle2⟩
    rw [hs, ba_app]
    have e3 : restD k = restD (k / 10) ++ [UInt8.ofNat (48 + k % 10)] := by
      have : restD k = Lib.decDigits k := by unfold restD; rw [if_neg (by omega)]
      rw [this, digits_rest]
    rw [e3, List.append_assoc]
  · rw [if_neg (by rw [decide_eq_true_eq]; omega)]
    have : k = 0 := by omega
    subst this
    have e : s = numB n := by
      apply ba_ext
      unfold numB
      rw [ba_list, hs]
      rfl
    rw [e]
    exact ⟨H', Heap.Le.refl _, h H' hle⟩
def sep46 : ByteArray := ⟨#[46]⟩
def dotB (a : Nat) : ByteArray := (((((numB (a / 16777216) ++ sep46) ++ numB (a / 65536 % 256)) ++ sep46) ++ numB (a / 256 % 256)) ++ sep46) ++ numB (a % 256)
theorem sep_size : sep46.size = 1 := rfl
theorem dot_sizes (a : Nat) (ha : a < 4294967296) : (numB (a / 16777216)).size ≤ 256 ∧ (numB (a / 65536 % 256)).size ≤ 256 ∧ (numB (a / 256 % 256)).size ≤ 256 ∧ (numB (a % 256)).size ≤ 256 := by
  have h1 := numB_size (a / 16777216); have h2 := numB_size (a / 65536 % 256); have h3 := numB_size (a / 256 % 256); have h4 := numB_size (a % 256)
  omega
theorem dotB_size (a : Nat) (ha : a < 4294967296) : (dotB a).size ≤ 1100 := by
  obtain ⟨h1, h2, h3, h4⟩ := dot_sizes a ha
  unfold dotB
  simp only [ByteArray.size_append, sep_size]
  omega
theorem vizardref04_Text.run {a : Nat} (ha : a < 4294967296) {H : Heap} {K : ByteArray → Heap → Prop} {E : Value → Heap → Prop} (h : ∀ H', Heap.Le H H' → K (dotB a) H') : vizardref04_Text.c a K E H := by
  obtain ⟨h1, h2, h3, h4⟩ := dot_sizes a ha
  refine ⟨?_⟩
  unfold vizardref04_Text.vc
  have e1 : IntKind.i64.wrap (IntKind.u32.wrap (Int.tdiv (a : Int) 16777216)) = ((a / 16777216 : Nat) : Int) := by
    rw [Int.tdiv_eq_ediv_of_nonneg (by omega), w_u32 (by omega) (by omega), w_i64 (by omega) (by omega)]; omega
  have e2 : IntKind.i64.wrap (Int.tmod (IntKind.u32.wrap (Int.tdiv (a : Int) 65536)) 256) = ((a / 65536 % 256 : Nat) : Int) := by
    rw [Int.tdiv_eq_ediv_of_nonneg (by omega), w_u32 (by omega) (by omega), Int.tmod_eq_emod_of_nonneg (by omega), w_i64 (by omega) (by omega)]; omega
  have e3 : IntKind.i64.wrap (Int.tmod (IntKind.u32.wrap (Int.tdiv (a : Int) 256)) 256) = ((a / 256 % 256 : Nat) : Int) := by
    rw [Int.tdiv_eq_ediv_of_nonneg (by omega), w_u32 (by omega) (by omega), Int.tmod_eq_emod_of_nonneg (by omega), w_i64 (by omega) (by omega)]; omega
  have e4 : IntKind.i64.wrap (Int.tmod (a : Int) 256) = ((a % 256 : Nat) : Int) := by
    rw [Int.tmod_eq_emod_of_nonneg (by omega), w_i64 (by omega) (by omega)]; omega
  rw [e1, e2, e3, e4]
  have hs := sep_size
  unfold sep46 at hs
  refine ⟨by decide, vizardref04_Number.run (by omega) fun H1 hle1 => ⟨by omega, by decide, by decide, ?_⟩⟩
  refine vizardref04_Number.run (by omega) fun H2 hle2 => ?_
  simp only [ByteArray.size_append]
  refine ⟨by omega, by omega, by decide, by decide, ?_⟩
  refine vizardref04_Number.run (by omega) fun H3 hle3 => ⟨by omega, by omega, by decide, ?_⟩
  refine vizardref04_Number.run (by omega) fun H4 hle4 => ⟨by omega, H4, Heap.Le.refl _, h H4 (((hle1.trans hle2).trans hle3).trans hle4)⟩
/-- A text behind texts. -/
theorem push_str {H : Heap} {p : Option Addr} {n c : Nat} {l : List ByteArray} {x : ByteArray} {e1 : TypeId} {K : Option Addr → Nat → Nat → Heap → Prop} (h : OwnRows H 9 1 p n c (l.map fun s => [.string s])) (hn : n + 1 ≤ 1000000)
    (hk : ∀ p' c' H', OwnRows H' 9 1 p' (n + 1) c' ((l ++ [x]).map fun s => [.string s]) → Step (bl p) H (bl p') H' → K p' (n + 1) c' H') :
    newB (.cells #[(.string x)] e1) (fun b3 h2 => rdRow h2 (some (⟨b3, 0, none⟩ : Addr)) (1 * 1) fun cs0 => appT 9 (.string (⟨#[]⟩ : ByteArray)) p n 1 c 1 16 cs0 K h2) H := by
  refine newB_le fun b1 H1 hb1 hl1 hle1 => ?_
  refine ⟨[.string x], rfl, (fun ad ha i v hi => ?_), (fun hh => by cases hh), ?_⟩
  · cases ha
    cases i with
    | zero =>
      have : Value.string x = v := by simpa using hi
      subst this
      exact loc hl1 rfl
    | succ i => simp at hi
  · refine appT_step (xs := [[.string x]]) (h.le hle1) (by decide) rfl rfl rfl (by simp) (by simp [plainCell1]) (by omega) (by omega) fun p' c' H2 h1 h2 => hk p' c' H2 ?_ ((Step.of_le hle1).trans h2)
    simpa using h1
def byteAt (a j : Nat) : Nat := a / 2 ^ (24 - 8 * j) % 256
theorem byte_at {a j : Nat} (ha : a < 4294967296) (hj : j < 4) : IntKind.i64.wrap (bits .and .u32 (shrI .u32 (a : Int) (IntKind.i64.wrap (24 - (IntKind.i64.wrap (8 * (j : Int)))))) 255) = (byteAt a j : Int) := by
  have e1 : IntKind.i64.wrap (24 - (IntKind.i64.wrap (8 * (j : Int)))) = ((24 - 8 * j : Nat) : Int) := by
    rw [w_i64 (n := 8 * (j : Int)) (by omega) (by omega), w_i64 (by omega) (by omega)]; omega
  rw [e1]
  have e2 : shrI .u32 (a : Int) ((24 - 8 * j : Nat) : Int) = ((a / 2 ^ (24 - 8 * j) : Nat) : Int) := by
    unfold shrI
    have e3 : min (((24 - 8 * j : Nat) : Int)).toNat (IntKind.bits .u32) = 24 - 8 * j := by
      show min (((24 - 8 * j : Nat) : Int)).toNat 32 = _
      omega
    rw [e3, Int.fdiv_eq_ediv_of_nonneg _ (Int.le_of_lt (Int.pow_pos (by decide)))]
    simp
  have hd := Nat.div_le_self a (2 ^ (24 - 8 * j))
  rw [e2, show (255 : Int) = ((255 : Nat) : Int) from rfl, and_u32 _ _ (by omega) (by omega)]
  have e4 : a / 2 ^ (24 - 8 * j) &&& 255 = byteAt a j := by
    rw [show 255 = 2 ^ 8 - 1 from rfl, Nat.and_two_pow_sub_one_eq_mod]
    rfl
  have : byteAt a j < 256 := Nat.mod_lt _ (by decide)
  rw [e4, w_i64 (by omega) (by omega)]
theorem dot_join (a : Nat) (ha : a < 4294967296) : (⟨(Lib.join (((List.range 4).map fun j => numB (byteAt a j)).map (·.data.toList)) sep46.data.toList).toArray⟩ : ByteArray) = dotB a := by
  apply ba_ext
  have e0 : byteAt a 0 = a / 16777216 := by
    show a / 16777216 % 256 = _
    omega
  have e1 : byteAt a 1 = a / 65536 % 256 := rfl
  have e2 : byteAt a 2 = a / 256 % 256 := rfl
  have e3 : byteAt a 3 = a % 256 := by
    show a / 1 % 256 = _
    rw [Nat.div_one]
  have er : ((List.range 4).map fun j => numB (byteAt a j)) = [numB (a / 16777216), numB (a / 65536 % 256), numB (a / 256 % 256), numB (a % 256)] := by
    rw [← e0, ← e1, ← e2, ← e3]
    rfl
  rw [er, ba_list]
  simp only [List.map_cons, List.map_nil]
  rw [Lib.join_cons]
  unfold dotB Lib.joinTail
  simp only [ba_app, List.map_cons, List.map_nil, List.flatten_cons, List.flatten_nil, List.append_assoc, List.append_nil]
def powH (H : Heap) : Prop := TabIn H 0 .u64 powTab
theorem strconv_Itoa.run {n : Nat} (hn : n ≤ 9223372036854775807) {H : Heap} (ht : powH H) {K : ByteArray → Heap → Prop} {E : Value → Heap → Prop} (h : K (numB n) H) : strconv_Itoa.c n K E H := by
  refine ⟨⟨by omega, by omega, ht, ?_⟩⟩
  rw [itoa_nat]
  exact h
theorem prefix_Text.run {a : Nat} (ha : a < 4294967296) {H : Heap} (ht : powH H) {K : ByteArray → Heap → Prop} {E : Value → Heap → Prop} (h : ∀ H', Heap.Le H H' → K (dotB a) H') : prefix_Text.c a K E H := by
  refine ⟨?_⟩
  unfold prefix_Text.vc
  refine ⟨Loop.of (I := fun st H' m => ∃ i : Nat, st.2.2.2 = (i : Int) ∧ i ≤ 4 ∧ m = 4 - i ∧ st.2.1 = i ∧ OwnRows H' 9 1 st.1 st.2.1 st.2.2.1 (((List.range i).map fun j => numB (byteAt a j)).map fun s => [.string s]) ∧ Step [] H (bl st.1) H') ?_
    ⟨0, rfl, by omega, rfl, rfl, ⟨rfl, by simp, Nat.le_refl _, .inl ⟨rfl, rfl⟩⟩, Step.refl _ _⟩⟩
  rintro m ⟨p, n, c, i'⟩ H' ⟨i, hi', hi, rfl, hn, ho, hst⟩ RR hRR
  dsimp only at hi' hn ho hst
  subst hi'; subst hn
  unfold prefix_Text.W1.vc
  dsimp only
  by_cases hc : n < 4
  · rw [if_pos (by rw [decide_eq_true_eq]; omega)]
    have e0 : (0 : Int) ≤ IntKind.i64.wrap (24 - (IntKind.i64.wrap (8 * (n : Int)))) := by
      rw [w_i64 (n := 8 * (n : Int)) (by omega) (by omega), w_i64 (by omega) (by omega)]; omega
    refine ⟨e0, ?_⟩
    rw [byte_at ha hc]
    have hb : byteAt a n < 256 := Nat.mod_lt _ (by decide)
    refine strconv_Itoa.run (by omega) (ht.le hst.le) ?_
    refine push_str ho (by omega) fun p' c' H2 h1 h2 => ⟨?_⟩
    unfold prefix_Text.J2.vc
    rw [w_i64 (by omega) (by omega)]
    refine hRR (p', n + 1, c', _) H2 (4 - (n + 1)) (by omega) ⟨n + 1, rfl, by omega, rfl, rfl, ?_, hst.trans h2⟩
    rw [List.range_succ, List.map_append]
    exact h1
  · rw [if_neg (by rw [decide_eq_true_eq]; omega)]
    have : n = 4 := by omega
    subst this
    have hat := ho.at
    rcases ho.2.2.2 with ⟨rfl, h0⟩ | ⟨b, arr, rfl, hH, hsz, htk⟩
    · have := hat.2.1 rfl; omega
    · have hdj := dot_join a ha
      have hds := dotB_size a ha
      rw [← hdj, ba_size] at hds
      refine ⟨b, 0, (List.range 4).map fun j => numB (byteAt a j), rfl, rfl, by decide, ho.2.2.1, by decide, fun j x hj => ?_, by unfold sep46 at hds; omega, H', Heap.Le.refl _, ?_⟩
      · have h1 : (((List.range 4).map fun j => numB (byteAt a j)).map fun s => [Value.string s])[j]? = some [.string x] := by rw [List.getElem?_map, hj]; rfl
        have h2 := ((hat.2.2 _ rfl j _ h1).2 0 _ rfl)
        rw [add_mk, add_mk, Nat.mul_one, Nat.add_zero] at h2
        exact h2
      · unfold sep46 at hdj
        rw [hdj]
        exact h H' hst.le
def rightB (ip : Bool) (a p : Int) : Bool := if ip then a == 0 && p == 0 else decide (1 ≤ p) && decide (p ≤ 65535)
theorem target_right.run {ip : Bool} {a p : Int} {H : Heap} {K : Bool → Heap → Prop} {E : Value → Heap → Prop} (h : K (rightB ip a p) H) : target_right.c ip a p K E H := by
  refine ⟨?_⟩
  unfold target_right.vc
  refine newB_le fun b H1 hn hl hle => ?_
  have g0 := loc (o := 0) hl rfl
  have g1 := loc (o := 1) hl rfl
  have g2 := loc (o := 2) hl rfl
  refine ⟨_, g0, ?_⟩; dsimp only
  cases ip with
  | true =>
    rw [if_pos rfl]
    refine ⟨_, g0, _, g1, _, g2, H, hle, ?_⟩
    have e : ((true == true) && ((a == 0) && ((p == 0) && true))) = rightB true a p := by simp [rightB]
    rw [e]; exact h
  | false =>
    rw [if_neg (by simp)]
    refine ⟨_, g2, ?_⟩; dsimp only
    by_cases hp : 1 ≤ p
    · rw [if_pos (by rw [decide_eq_true_eq]; omega)]
      refine ⟨_, g2, H, hle, ?_⟩
      have e : decide (p ≤ 65535) = rightB false a p := by simp [rightB, hp]
      rw [e]; exact h
    · rw [if_neg (by rw [decide_eq_true_eq]; omega)]
      refine ⟨H, hle, ?_⟩
      have e : false = rightB false a p := by simp [rightB, hp]
      rw [e]; exact h
theorem vizardref17_Right.run {ip : Bool} {a p : Int} {H : Heap} {K : Bool → Heap → Prop} {E : Value → Heap → Prop} (h : K (rightB ip a p) H) : vizardref17_Right.c ip a p K E H := by
  refine ⟨?_⟩
  unfold vizardref17_Right.vc
  refine newB_le fun b H1 hn hl hle => ?_
  have g0 := loc (o := 0) hl rfl
  have g1 := loc (o := 1) hl rfl
  have g2 := loc (o := 2) hl rfl
  refine ⟨_, g0, ?_⟩; dsimp only
  cases ip with
  | true =>
    rw [if_pos rfl]
    refine ⟨_, g1, ?_⟩; dsimp only
    by_cases ha : a = 0
    · rw [if_pos (by rw [beq_iff_eq]; exact ha)]
      refine ⟨_, g2, H, hle, ?_⟩
      have e : (p == 0) = rightB true a p := by simp [rightB, ha]
      rw [e]; exact h
    · rw [if_neg (by rw [beq_iff_eq]; exact ha)]
      refine ⟨H, hle, ?_⟩
      have e : false = rightB true a p := by simp [rightB, ha]
      rw [e]; exact h
  | false =>
    rw [if_neg (by simp)]
    refine ⟨_, g2, ?_⟩; dsimp only
    by_cases hp : 1 ≤ p
    · rw [if_pos (by rw [decide_eq_true_eq]; omega)]
      refine ⟨_, g2, H, hle, ?_⟩
      have e : decide (p ≤ 65535) = rightB false a p := by simp [rightB, hp]
      rw [e]; exact h
    · rw [if_neg (by rw [decide_eq_true_eq]; omega)]
      refine ⟨H, hle, ?_⟩
      have e : false = rightB false a p := by simp [rightB, hp]
      rw [e]; exact h
theorem right_port {a p : Int} (h : rightB false a p = true) : 1 ≤ p ∧ p ≤ 65535 := by
  simp [rightB] at h
  omega
def pathUdp (a p : Nat) : ByteArray := (((((⟨#[47, 46, 119, 101, 108, 108, 45, 107, 110, 111, 119, 110, 47, 109, 97, 115, 113, 117, 101, 47, 117, 100, 112, 47]⟩ : ByteArray) ++ dotB a) ++ (⟨#[47]⟩ : ByteArray)) ++ numB p) ++ (⟨#[47]⟩ : ByteArray))
def pathB (ip : Bool) (a : Nat) (p : Int) : ByteArray := if rightB ip a p then (if ip then ⟨#[47, 46, 119, 101, 108, 108, 45, 107, 110, 111, 119, 110, 47, 109, 97, 115, 113, 117, 101, 47, 105, 112, 47, 42, 47, 42, 47]⟩ else pathUdp a p.toNat) else ⟨#[]⟩
theorem front_size : (⟨#[47, 46, 119, 101, 108, 108, 45, 107, 110, 111, 119, 110, 47, 109, 97, 115, 113, 117, 101, 47, 117, 100, 112, 47]⟩ : ByteArray).size = 24 := rfl
theorem slash_size : (⟨#[47]⟩ : ByteArray).size = 1 := rfl
theorem target_Path.run {ip : Bool} {a : Nat} {p : Int} (ha : a < 4294967296) {H : Heap} (ht : powH H) {K : ByteArray → Heap → Prop} {E : Value → Heap → Prop} (h : ∀ H', Heap.Le H H' → K (pathB ip a p) H') : target_Path.c ip a p K E H := by
  refine ⟨?_⟩
  unfold target_Path.vc
  refine newB_le fun b H1 hn hl hle => ?_
  have g0 := loc (o := 0) hl rfl
  have g1 := loc (o := 1) hl rfl
  have g2 := loc (o := 2) hl rfl
  refine ⟨_, g0, _, g1, _, g2, target_right.run ?_⟩
  unfold pathB at h
  cases hr : rightB ip a p with
  | false =>
    rw [if_pos (by simp)]
    rw [hr, if_neg (by simp)] at h
    exact ⟨H1, Heap.Le.refl _, h H1 hle⟩
  | true =>
    rw [if_neg (by simp)]
    rw [hr, if_pos rfl] at h
    refine ⟨_, g0, ?_⟩; dsimp only
    cases ip with
    | true =>
      rw [if_pos rfl]
      rw [if_pos rfl] at h
      exact ⟨H1, Heap.Le.refl _, h H1 hle⟩
    | false =>
      rw [if_neg (by simp)]
      rw [if_neg (by simp)] at h
      have hp := right_port hr
      refine ⟨_, g1, _, g2, prefix_Text.run ha (ht.le hle) fun H2 hle2 => ?_⟩
      have g2' := Le_cell hle2 g2
      have hd := dotB_size a ha
      have hq := numB_size p.toNat
      have hf := front_size
      have hs := slash_size
      refine ⟨⟨_, g2', rfl, rfl⟩, by omega, by rw [ByteArray.size_append]; omega, ?_⟩
      have ep : p = ((p.toNat : Nat) : Int) := by omega
      rw [ep]
      refine strconv_Itoa.run (by omega) ((ht.le hle).le hle2) ⟨?_, ?_, H2, Heap.Le.refl _, h H2 (hle.trans hle2)⟩
      · simp only [ByteArray.size_append]; omega
      · simp only [ByteArray.size_append]; omega
theorem vizardref17_Path.run {ip : Bool} {a : Nat} {p : Int} (ha : a < 4294967296) {H : Heap} {K : ByteArray → Heap → Prop} {E : Value → Heap → Prop} (h : ∀ H', Heap.Le H H' → K (pathB ip a p) H') : vizardref17_Path.c ip a p K E H := by
  refine ⟨?_⟩
  unfold vizardref17_Path.vc
  refine newB_le fun b H1 hn hl hle => ?_
  have g0 := loc (o := 0) hl rfl
  have g1 := loc (o := 1) hl rfl
  have g2 := loc (o := 2) hl rfl
  refine ⟨_, g0, _, g1, _, g2, vizardref17_Right.run ?_⟩
  unfold pathB at h
  cases hr : rightB ip a p with
  | false =>
    rw [if_pos (by simp)]
    rw [hr, if_neg (by simp)] at h
    exact ⟨H1, Heap.Le.refl _, h H1 hle⟩
  | true =>
    rw [if_neg (by simp)]
    rw [hr, if_pos rfl] at h
    refine ⟨_, g0, ?_⟩; dsimp only
    cases ip with
    | true =>
      rw [if_pos rfl]
      rw [if_pos rfl] at h
      exact ⟨H1, Heap.Le.refl _, h H1 hle⟩
    | false =>
      rw [if_neg (by simp)]
      rw [if_neg (by simp)] at h
      have hp := right_port hr
      refine ⟨_, g1, _, g2, vizardref04_Text.run ha fun H2 hle2 => ?_⟩
      have g2' := Le_cell hle2 g2
      have hd := dotB_size a ha
      have hq := numB_size p.toNat
      have hf := front_size
      have hs := slash_size
      refine ⟨⟨_, g2', rfl, rfl⟩, by omega, by rw [ByteArray.size_append]; omega, ?_⟩
      have ep : p = ((p.toNat : Nat) : Int) := by omega
      rw [ep]
      refine vizardref04_Number.run (by omega) fun H3 hle3 => ⟨?_, ?_, H3, Heap.Le.refl _, h H3 ((hle.trans hle2).trans hle3)⟩
      · simp only [ByteArray.size_append]; omega
      · simp only [ByteArray.size_append]; omega
def protoB (ip : Bool) : ByteArray := if ip then ⟨#[99, 111, 110, 110, 101, 99, 116, 45, 105, 112]⟩ else ⟨#[99, 111, 110, 110, 101, 99, 116, 45, 117, 100, 112]⟩
def fieldArr (auth proto path : ByteArray) : Array Value := #[(.string (⟨#[58, 109, 101, 116, 104, 111, 100]⟩ : ByteArray)), (.string (⟨#[67, 79, 78, 78, 69, 67, 84]⟩ : ByteArray)), (.string (⟨#[58, 112, 114, 111, 116, 111, 99, 111, 108]⟩ : ByteArray)), (.string proto), (.string (⟨#[58, 115, 99, 104, 101, 109, 101]⟩ : ByteArray)), (.string (⟨#[104, 116, 116, 112, 115]⟩ : ByteArray)), (.string (⟨#[58, 97, 117, 116, 104, 111, 114, 105, 116, 121]⟩ : ByteArray)), (.string auth), (.string (⟨#[58, 112, 97, 116, 104]⟩ : ByteArray)), (.string path), (.string (⟨#[99, 97, 112, 115, 117, 108, 101, 45, 112, 114, 111, 116, 111, 99, 111, 108]⟩ : ByteArray)), (.string (⟨#[63, 49]⟩ : ByteArray))]
/-- What a request for a target is. -/
def FieldsAt (H : Heap) (auth : ByteArray) (ip : Bool) (a : Nat) (port : Int) (p : Option Addr) (n c : Nat) : Prop :=
  if rightB ip a port then ∃ b, p = some ⟨b, 0, none⟩ ∧ n = 6 ∧ c = 6 ∧ H b = some (.cells (fieldArr auth (protoB ip) (pathB ip a port)) 35) else p = none ∧ n = 0 ∧ c = 0
theorem FieldsAt.le {H H' : Heap} {auth : ByteArray} {ip : Bool} {a : Nat} {port : Int} {p : Option Addr} {n c : Nat} (h : FieldsAt H auth ip a port p n c) (hl : Heap.Le H H') : FieldsAt H' auth ip a port p n c := by
  unfold FieldsAt at h ⊢
  split at h
  · rename_i hr
    rw [if_pos hr]
    obtain ⟨b, h1, h2, h3, h4⟩ := h
    exact ⟨b, h1, h2, h3, hl _ _ h4⟩
  · rename_i hr
    rw [if_neg hr]
    exact h
theorem target_Fields.run {auth : ByteArray} {ip : Bool} {a : Nat} {p : Int} (ha : a < 4294967296) {H : Heap} (ht : powH H) {K : Option Addr → Nat → Nat → Heap → Prop} {E : Value → Heap → Prop} (h : ∀ q n c H', Heap.Le H H' → FieldsAt H' auth ip a p q n c → K q n c H') : target_Fields.c auth ip a p K E H := by
  refine ⟨?_⟩
  unfold target_Fields.vc
  refine newB_le fun b H1 hn hl hle => ?_
  have g0 := loc (o := 0) hl rfl
  have g1 := loc (o := 1) hl rfl
  have g2 := loc (o := 2) hl rfl
  refine ⟨_, g0, _, g1, _, g2, target_right.run ?_⟩
  cases hr : rightB ip a p with
  | false =>
    rw [if_pos (by simp)]
    refine ⟨H1, Heap.Le.refl _, h _ _ _ H1 hle ?_⟩
    unfold FieldsAt
    rw [hr, if_neg (by simp)]
    exact ⟨rfl, rfl, rfl⟩
  | true =>
    rw [if_neg (by simp)]
    have tail : ∀ {Kr : Option Addr → Nat → Nat → Heap → Prop}, (∀ q n c H', Heap.Le H H' → FieldsAt H' auth ip a p q n c → Kr q n c H') → target_Fields.J1 auth ⟨b, 0, none⟩ (protoB ip) Kr E H1 := fun {Kr} hk => by
      refine ⟨?_⟩
      unfold target_Fields.J1.vc
      refine ⟨_, g0, _, g1, _, g2, target_Path.run ha (ht.le hle) fun H2 hle2 => ?_⟩
      refine newB_le fun b2 H3 hn3 hl3 hle3 => hk _ _ _ H3 ((hle.trans hle2).trans hle3) ?_
      unfold FieldsAt
      rw [if_pos hr]
      exact ⟨b2, rfl, rfl, rfl, hl3⟩
    have fin := tail (Kr := fun q n c H' => ∃ H'', Heap.Le H'' H' ∧ K q n c H'') fun q n c H' hl' hf => ⟨H', Heap.Le.refl _, h q n c H' hl' hf⟩
    refine ⟨_, g0, ?_⟩; dsimp only
    cases ip with
    | true => rw [if_pos rfl]; exact fin
    | false => rw [if_neg (by simp)]; exact fin
def SameRows (H : Heap) (p q : Option Addr) (n : Nat) : Prop := ∀ i, i < n → ∃ a b s t, p = some a ∧ q = some b ∧ H.cell? ((a.add (i * 2)).add 0) = some (.string s) ∧ H.cell? ((a.add (i * 2)).add 1) = some (.string t) ∧ H.cell? ((b.add (i * 2)).add 0) = some (.string s) ∧ H.cell? ((b.add (i * 2)).add 1) = some (.string t)
theorem vizardref14_Same.run {p q : Option Addr} {n c d : Nat} (hn : n ≤ 4611686018427387904) {H : Heap} (hr : SameRows H p q n) {K : Bool → Heap → Prop} {E : Value → Heap → Prop} (h : K true H) : vizardref14_Same.c p n c q n d K E H := by
  refine ⟨?_⟩
  unfold vizardref14_Same.vc
  rw [if_neg (by simp)]
  refine ⟨Loop.of (I := fun st H' m => ∃ i : Nat, st = (i : Int) ∧ i ≤ n ∧ m = n - i ∧ H' = H) ?_ ⟨0, rfl, Nat.zero_le _, rfl, rfl⟩⟩
  rintro m st H' ⟨i, rfl, hi, rfl, rfl⟩ RR hRR
  unfold vizardref14_Same.W1.vc
  by_cases hc : i < n
  · rw [if_pos (by rw [decide_eq_true_eq]; omega)]
    obtain ⟨a, b, s, t, rfl, rfl, h1, h2, h3, h4⟩ := hr i hc
    rw [Int.toNat_natCast]
    refine ⟨_, rfl, by omega, by omega, _, h1, _, h2, _, rfl, by omega, by omega, _, h3, _, h4, ?_⟩
    dsimp only
    rw [if_neg (by simp [ba_refl])]
    rw [w_i64 (by omega) (by omega)]
    exact hRR _ _ (n - (i + 1)) (by omega) ⟨i + 1, rfl, by omega, rfl, rfl⟩
  · rw [if_neg (by rw [decide_eq_true_eq]; omega)]
    exact ⟨H', Heap.Le.refl _, h⟩
end Go.Sh
