/- What the functions on packed emissions compute. -/
import Derived.Test.YtjbfpeeigjjbdaaShT
import Derived.Test.YtjbfpeeigjjbdaaGtun
namespace Go.Sh
/-! ### Bytes and numbers -/
def num (l : List UInt8) : Nat := l.foldl (fun a b => a * 256 + b.toNat) 0
def bbe : Nat → Nat → List UInt8
  | _, 0 => []
  | n, k + 1 => bbe (n / 256) k ++ [UInt8.ofNat (n % 256)]
theorem bbe_len (k : Nat) : ∀ n, (bbe n k).length = k := by
  induction k with
  | zero => intro n; rfl
  | succ k ih => intro n; simp [bbe, ih]
theorem num_snoc (l : List UInt8) (b : UInt8) : num (l ++ [b]) = num l * 256 + b.toNat := by simp [num]
theorem num_lt (l : List UInt8) : num l < 256 ^ l.length := by
  refine snoc_ind (Q := fun l => num l < 256 ^ l.length) (by simp [num]) (fun l b ih => ?_) l
  · rw [num_snoc, List.length_append, List.length_singleton, Nat.pow_succ]
    have := b.toNat_lt
    omega
theorem num_bbe (k : Nat) : ∀ n, n < 256 ^ k → num (bbe n k) = n := by
  induction k with
  | zero => intro n hn; simp at hn; subst hn; rfl
  | succ k ih =>
    intro n hn
    rw [Nat.pow_succ] at hn
    show num (bbe (n / 256) k ++ [UInt8.ofNat (n % 256)]) = n
    rw [num_snoc, ih (n / 256) (by omega), UInt8.toNat_ofNat']
    omega
theorem bbe_num (l : List UInt8) : bbe (num l) l.length = l := by
  refine snoc_ind (Q := fun l => bbe (num l) l.length = l) rfl (fun l b ih => ?_) l
  · rw [List.length_append, List.length_singleton]
    show bbe (num (l ++ [b]) / 256) l.length ++ [UInt8.ofNat (num (l ++ [b]) % 256)] = _
    have hb := b.toNat_lt
    rw [num_snoc, show (num l * 256 + b.toNat) / 256 = num l by omega, ih, show (num l * 256 + b.toNat) % 256 = b.toNat by omega]
    simp
/-- A text out of bytes that stand in a block. -/
theorem rdBytes_of {H : Heap} {b n : Nat} {arr : Array Value} {e : TypeId} {bs : List UInt8} {K : ByteArray → Prop} (hb : H b = some (.cells arr e)) (hn : bs.length = n) (hc : ∀ (i : Nat) (x : UInt8), bs[i]? = some x → arr[i]? = some (.int .u8 (x.toNat : Int))) (hk : K ⟨bs.toArray⟩) : rdBytes H (some ⟨b, 0, none⟩) n K := by
  refine ⟨⟨bs.toArray⟩, by simpa [ByteArray.size] using hn, fun _ => .inr (by simp), fun ad had i hi => ?_, (fun h => by cases h), hk⟩
  cases had
  have hx : bs[i]? = some (bs[i]'(by omega)) := List.getElem?_eq_getElem (by omega)
  have := hc i _ hx
  rw [add_mk, Nat.zero_add]
  unfold Heap.cell?
  rw [hb]
  simp only [Option.isSome_none, Bool.false_eq_true, if_false]
  rw [this]
  simp [hx, List.getD_eq_getElem?_getD]
theorem vizardref01_Bytes.steps {K : ByteArray → Heap → Prop} {E : Value → Heap → Prop} {H : Heap} : ∀ (k n : Nat), k ≤ 1000 → n ≤ 9223372036854775807 → K ⟨(bbe n k).toArray⟩ H → vizardref01_Bytes.cn (k + 1) (n : Int) (k : Int) K E H := by
  intro k
  induction k generalizing K H with
  | zero =>
    intro n _ _ h
    show vizardref01_Bytes.vc _ _ _ _ _ _
    unfold vizardref01_Bytes.vc
    rw [if_pos (by simp)]
    exact ⟨H, Heap.Le.refl H, h⟩
  | succ k ih =>
    intro n hk hn h
    show vizardref01_Bytes.vc _ _ _ _ _ _
    unfold vizardref01_Bytes.vc
    rw [if_neg (by simp; omega)]
    have e1 : IntKind.i64.wrap (Int.tdiv (n : Int) 256) = ((n / 256 : Nat) : Int) := by
      rw [Int.tdiv_eq_ediv_of_nonneg (by omega), w_i64 (by omega) (by omega)]; rfl
    have e2 : IntKind.i64.wrap (((k + 1 : Nat) : Int) - 1) = (k : Int) := by rw [w_i64 (by omega) (by omega)]; omega
    have e3 : IntKind.u8.wrap (Int.tmod (n : Int) 256) = ((UInt8.ofNat (n % 256)).toNat : Int) := by
      rw [Int.tmod_eq_emod_of_nonneg (by omega), w_u8 (by omega) (by omega), UInt8.toNat_ofNat']
      omega
    rw [e1, e2, e3]
    have fin : (⟨(bbe (n / 256) k).toArray⟩ : ByteArray) ++ (⟨[UInt8.ofNat (n % 256)].toArray⟩ : ByteArray) = ⟨(bbe n (k + 1)).toArray⟩ := by
      apply ByteArray.ext
      simp [bbe]
    have hsz : (⟨(bbe (n / 256) k).toArray⟩ : ByteArray).size = k := by simp [ByteArray.size, bbe_len]
    have hsz1 : (⟨[UInt8.ofNat (n % 256)].toArray⟩ : ByteArray).size = 1 := rfl
    have rd : ∀ {H' : Heap} {b : Nat} {Q : ByteArray → Prop}, H' b = some (.cells #[.int .u8 ((UInt8.ofNat (n % 256)).toNat : Int)] 5) → Q ⟨[UInt8.ofNat (n % 256)].toArray⟩ → rdBytes H' (some ⟨b, 0, none⟩) 1 Q := fun hb hq =>
      rdBytes_of (bs := [UInt8.ofNat (n % 256)]) hb rfl (fun i x hi => by
        cases i with
        | zero => simp at hi; subst hi; simp
        | succ i => simp at hi) hq
    refine ⟨by decide, by decide, ih (n / 256) (by omega) (by omega) ⟨⟨rfl, rfl⟩, fun b hb => ?_⟩, fun b hb => ?_⟩
    · refine rd (set_self _ _ _) ⟨by rw [hsz, hsz1]; omega, leave hb ?_⟩
      rw [fin]; exact h
    · refine rd (set_self _ _ _) ?_
      refine ih (n / 256) (by omega) (by omega) ?_
      refine ⟨?_, ⟨rfl, rfl⟩, by rw [hsz, hsz1]; omega, leave hb ?_⟩
      · exact rd (set_self _ _ _) ⟨rfl, rfl⟩
      · rw [fin]; exact h
theorem vizardref01_Bytes.run {K : ByteArray → Heap → Prop} {E : Value → Heap → Prop} {H : Heap} {n : Int} {k : Nat} (h0 : 0 ≤ n) (h1 : n ≤ 9223372036854775807) (hk : k ≤ 1000) (h : K ⟨(bbe n.toNat k).toArray⟩ H) : vizardref01_Bytes.c n (k : Int) K E H := by
  obtain ⟨m, rfl⟩ := Int.eq_ofNat_of_zero_le h0
  exact ⟨k + 1, vizardref01_Bytes.steps k m hk (by omega) h⟩
theorem bt_get {s : ByteArray} {k : Nat} {x : UInt8} (h : s.data.toList[k]? = some x) : bt s (k : Int) = (x.toNat : Int) := by
  unfold bt
  rw [Int.toNat_natCast, List.getD_eq_getElem?_getD, h]
  rfl
theorem num_take {l : List UInt8} {k : Nat} {x : UInt8} (h : l[k]? = some x) : num (l.take (k + 1)) = num (l.take k) * 256 + x.toNat := by
  rw [List.take_add_one, h]
  exact num_snoc _ _
theorem num_take_lt {l : List UInt8} {k : Nat} : num (l.take k) < 256 ^ k := by
  refine Nat.lt_of_lt_of_le (num_lt _) (Nat.pow_le_pow_right (by decide) ?_)
  rw [List.length_take]; omega
theorem size_list (s : ByteArray) : s.data.toList.length = s.size := by rw [Array.length_toList]; rfl
theorem vizardref01_Number.run {s : ByteArray} (hs : s.size ≤ 7) {K : Int → Heap → Prop} {E : Value → Heap → Prop} {H : Heap} (h : K (num s.data.toList : Int) H) : vizardref01_Number.c s K E H := by
  refine ⟨⟨Loop.of (I := fun st H' m => ∃ k : Nat, st = ((num (s.data.toList.take k) : Int), (k : Int)) ∧ k ≤ s.size ∧ m = s.size - k ∧ H' = H) ?_ ⟨0, rfl, Nat.zero_le _, rfl, rfl⟩⟩⟩
  rintro m st H' ⟨k, rfl, hk, rfl, rfl⟩ RR hRR
  have hl := size_list s
  unfold vizardref01_Number.W1.vc
  dsimp only
  by_cases hlt : k < s.size
  · rw [if_pos (by simp; omega)]
    obtain ⟨x, hx⟩ : ∃ x, s.data.toList[k]? = some x := ⟨_, List.getElem?_eq_getElem (by omega)⟩
    refine ⟨by omega, by omega, ?_⟩
    have h1 : num (s.data.toList.take k) < 256 ^ 6 := Nat.lt_of_lt_of_le num_take_lt (Nat.pow_le_pow_right (by decide) (by omega))
    have hb := x.toNat_lt
    have e6 : 256 ^ 6 = 281474976710656 := by decide
    rw [bt_get hx, w_i64 (n := (num (s.data.toList.take k) : Int) * 256) (by omega) (by omega), w_i64 (n := (x.toNat : Int)) (by omega) (by omega), w_i64 (by omega) (by omega), w_i64 (by omega) (by omega)]
    refine hRR _ _ (s.size - (k + 1)) (by omega) ⟨k + 1, ?_, by omega, rfl, rfl⟩
    rw [num_take hx, Prod.mk.injEq]
    exact ⟨by omega, by omega⟩
  · rw [if_neg (by simp; omega)]
    rw [List.take_of_length_le (by omega)]
    exact ⟨H', Heap.Le.refl H', h⟩
theorem ext_list (s : ByteArray) (f t : Nat) : (s.extract f t).data.toList = (s.data.toList.drop f).take (t - f) := by
  rw [ByteArray.data_extract, Array.toList_extract, List.extract_eq_take_drop]
theorem or_bytes {x b : Nat} (hx : x < 16777216) (hb : b < 256) : bits .or .u32 (shlI .u32 (x : Int) 8) (b : Int) = ((x * 256 + b : Nat) : Int) := by
  have e : shlI .u32 (x : Int) 8 = ((x * 256 : Nat) : Int) := by
    show IntKind.u32.wrap ((x : Int) * 2 ^ 8) = _
    rw [w_u32 (by omega) (by omega)]
    omega
  rw [e, or_u32 _ _ (by omega) (by omega)]
  have : 2 ^ 8 * x + b = 2 ^ 8 * x ||| b := Nat.two_pow_add_eq_or_of_lt (by omega) x
  rw [show x * 256 = 2 ^ 8 * x by omega, ← this]
theorem tunnel_Unpack_1.run {s : ByteArray} {f t : Nat} {a : Addr} (hft : f ≤ t) (ht : t ≤ s.size) (h4 : t ≤ f + 4) {K : Int → Heap → Prop} {E : Value → Heap → Prop} {H : Heap} (hc : H.cell? a = some (.string s)) (h : K (num ((s.data.toList.drop f).take (t - f)) : Int) H) : tunnel_Unpack_1.c (f : Int) (t : Int) a K E H := by
  refine ⟨?_⟩
  unfold tunnel_Unpack_1.vc
  refine ⟨s, hc, by omega, by omega, by omega, ?_⟩
  simp only [Int.toNat_natCast]
  intro j b hb
  have hxl := ext_list s f t
  have hlen : (s.extract f t).size = t - f := by rw [← size_list, hxl, List.length_take, List.length_drop, size_list]; omega
  rw [hlen]
  generalize hL : (s.data.toList.drop f).take (t - f) = L at h hxl
  have hLl : L.length = t - f := by rw [← hxl, size_list, hlen]
  generalize hH1 : H.set b (.cells ((byteVals (s.extract f t)).toArray ++ Array.replicate j (.int .u8 0)) 5 (t - f + j, t - f + j + 1)) = H1
  have hcell : ∀ (k : Nat) (x : UInt8), L[k]? = some x → H1.cell? ⟨b, k, none⟩ = some (.int .u8 (x.toNat : Int)) := by
    intro k x hx
    have e : byteVals (s.extract f t) = L.map fun b => .int .u8 b.toNat := by unfold byteVals; rw [hxl]
    have hlt := (List.getElem?_eq_some_iff.1 hx).1
    rw [← hH1, cell_set_same, e, Array.getElem?_append_left (by simpa using hlt)]
    simp [hx]
  refine ⟨Loop.of (I := fun st H' m => ∃ k : Nat, st = ((num (L.take k) : Int), (k : Int)) ∧ k ≤ t - f ∧ m = t - f - k ∧ H' = H1) ?_ ⟨0, rfl, Nat.zero_le _, rfl, rfl⟩⟩
  rintro m st H' ⟨k, rfl, hk, rfl, rfl⟩ RR hRR
  unfold tunnel_Unpack_1.W1.vc
  dsimp only
  by_cases hlt : k < t - f
  · rw [if_pos (by simp; omega)]
    obtain ⟨x, hx⟩ : ∃ x, L[k]? = some x := ⟨_, List.getElem?_eq_getElem (by omega)⟩
    refine ⟨_, rfl, by omega, by omega, (x.toNat : Int), ?_, by decide, ?_⟩
    · rw [Int.toNat_natCast, Nat.mul_one, add_mk, Nat.zero_add]; exact hcell k x hx
    have h1 : num (L.take k) < 256 ^ 3 := Nat.lt_of_lt_of_le num_take_lt (Nat.pow_le_pow_right (by decide) (by omega))
    have hb2 := x.toNat_lt
    have e6 : 256 ^ 3 = 16777216 := by decide
    rw [w_u32 (n := (x.toNat : Int)) (by omega) (by omega), or_bytes (by omega) (by omega), w_i64 (by omega) (by omega)]
    refine hRR _ _ (t - f - (k + 1)) (by omega) ⟨k + 1, ?_, by omega, rfl, rfl⟩
    rw [num_take hx, Prod.mk.injEq]
    exact ⟨by omega, by omega⟩
  · rw [if_neg (by simp; omega)]
    rw [List.take_of_length_le (by omega)]
    refine ⟨H, ?_, h⟩
    rw [← hH1]
    exact Le_set hb _
def portOk (n : Int) : Bool := decide (0 ≤ n ∧ n ≤ 65535)
def hdr (ip : Bool) (port addr to : Nat) : List UInt8 := (if ip = true then 1 else 0) :: (bbe port 2 ++ (bbe to 2 ++ bbe addr 4))
def packB (ip : Bool) (port addr to : Int) (data : ByteArray) : ByteArray :=
  if (portOk port && portOk to) = true then ⟨(hdr ip port.toNat addr.toNat to.toNat ++ data.data.toList).toArray⟩ else ⟨#[]⟩
theorem hdr_len (ip : Bool) (port addr to : Nat) : (hdr ip port addr to).length = 9 := by simp [hdr, bbe_len]
theorem u8w (z : Int) : IntKind.u8.wrap z = z % 256 := by
  simp only [IntKind.wrap, IntKind.bits, IntKind.signed, Bool.false_and, Bool.false_eq_true, if_false]
  rfl
theorem by8 {n : Nat} {z : Int} (h : z % 256 = ((n % 256 : Nat) : Int)) : IntKind.u8.wrap z = ((UInt8.ofNat (n % 256)).toNat : Int) := by
  rw [u8w, h, UInt8.toNat_ofNat']
  omega
theorem vizardref22_port.run {n : Int} {K : Bool → Heap → Prop} {E : Value → Heap → Prop} {H : Heap} (h : K (portOk n) H) : vizardref22_port.c n K E H := by
  refine ⟨?_⟩
  unfold vizardref22_port.vc
  by_cases h0 : n ≥ 0
  · rw [if_pos (by simpa using h0)]
    have h0' : 0 ≤ n := h0
    exact ⟨H, Heap.Le.refl H, by simpa [portOk, h0'] using h⟩
  · rw [if_neg (by simpa using h0)]
    have h0' : ¬ 0 ≤ n := h0
    exact ⟨H, Heap.Le.refl H, by simpa [portOk, h0'] using h⟩
theorem hdr_cells {ip : Bool} {port addr to : Nat} (hp : port < 65536) (ht : to < 65536) (ha : addr < 4294967296) :
    (#[.int .u8 (if ip = true then 1 else 0), .int .u8 (IntKind.u8.wrap (shrI .i64 (port : Int) 8)), .int .u8 (IntKind.u8.wrap (port : Int)), .int .u8 (IntKind.u8.wrap (shrI .i64 (to : Int) 8)), .int .u8 (IntKind.u8.wrap (to : Int)),
      .int .u8 (IntKind.u8.wrap (shrI .u32 (addr : Int) 24)), .int .u8 (IntKind.u8.wrap (shrI .u32 (addr : Int) 16)), .int .u8 (IntKind.u8.wrap (shrI .u32 (addr : Int) 8)), .int .u8 (IntKind.u8.wrap (addr : Int))] : Array Value)
    = ((hdr ip port addr to).map fun x => .int .u8 (x.toNat : Int)).toArray := by
  have s8 : ∀ (k : IntKind) (x : Nat), k = .i64 ∨ k = .u32 → shrI k (x : Int) 8 = ((x / 256 : Nat) : Int) := by
    rintro k x (rfl | rfl) <;> (show Int.fdiv (x : Int) (2 ^ 8) = _; rw [Int.fdiv_eq_ediv_of_nonneg _ (by decide)]; omega)
  have s16 : ∀ (x : Nat), shrI .u32 (x : Int) 16 = ((x / 256 / 256 : Nat) : Int) := by
    intro x; show Int.fdiv (x : Int) (2 ^ 16) = _; rw [Int.fdiv_eq_ediv_of_nonneg _ (by decide)]; omega
  have s24 : ∀ (x : Nat), shrI .u32 (x : Int) 24 = ((x / 256 / 256 / 256 : Nat) : Int) := by
    intro x; show Int.fdiv (x : Int) (2 ^ 24) = _; rw [Int.fdiv_eq_ediv_of_nonneg _ (by decide)]; omega
  rw [s8 _ port (.inl rfl), s8 _ to (.inl rfl), s8 _ addr (.inr rfl), s16, s24]
  have e : hdr ip port addr to = [if ip = true then 1 else 0, UInt8.ofNat (port / 256 % 256), UInt8.ofNat (port % 256), UInt8.ofNat (to / 256 % 256), UInt8.ofNat (to % 256), UInt8.ofNat (addr / 256 / 256 / 256 % 256), UInt8.ofNat (addr / 256 / 256 % 256), UInt8.ofNat (addr / 256 % 256), UInt8.ofNat (addr % 256)] := rfl
  rw [e, by8 (n := port / 256) (by omega), by8 (n := port) (by omega), by8 (n := to / 256) (by omega), by8 (n := to) (by omega), by8 (n := addr / 256 / 256 / 256) (by omega), by8 (n := addr / 256 / 256) (by omega), by8 (n := addr / 256) (by omega), by8 (n := addr) (by omega)]
  cases ip <;> rfl
theorem tunnel_Pack.J3.run {a : Addr} {b : Nat} {ip : Bool} {port addr to : Nat} {data : ByteArray} {H : Heap} {Kr : ByteArray → Heap → Prop} {E : Value → Heap → Prop}
    (hb : H b = some (.cells ((hdr ip port addr to).map fun x => .int .u8 (x.toNat : Int)).toArray 5)) (hd : H.cell? (a.add 4) = some (.string data)) (hs : data.size ≤ reachBytes)
    (h : Kr ⟨(hdr ip port addr to ++ data.data.toList).toArray⟩ H) : tunnel_Pack.J3 a (some ⟨b, 0, none⟩) 9 9 Kr E H := by
  refine ⟨?_⟩
  unfold tunnel_Pack.J3.vc
  refine rdBytes_of (bs := hdr ip port addr to) hb (hdr_len _ _ _ _) (fun i x hx => by simp [hx]) ⟨data, hd, ?_, ?_⟩
  · have : (⟨(hdr ip port addr to).toArray⟩ : ByteArray).size = 9 := by show (hdr ip port addr to).toArray.size = 9; rw [List.size_toArray, hdr_len]
    rw [this]
    have hr : reachBytes = 140737488351232 := rfl
    omega
  · have e : (⟨(hdr ip port addr to).toArray⟩ : ByteArray) ++ data = ⟨(hdr ip port addr to ++ data.data.toList).toArray⟩ := by
      apply ByteArray.ext
      simp
    rw [e]
    exact h
theorem tunnel_Pack.run {ip : Bool} {port addr to : Int} {data : ByteArray} (ha : 0 ≤ addr ∧ addr ≤ 4294967295) (hs : data.size ≤ reachBytes) {K : ByteArray → Heap → Prop} {E : Value → Heap → Prop} {H : Heap} (h : K (packB ip port addr to data) H) : tunnel_Pack.c ip port addr to data K E H := by
  refine ⟨?_⟩
  unfold tunnel_Pack.vc
  intro c hc
  have no : ∀ {K2 : Heap → Prop} {H1 : Heap}, (portOk port && portOk to) = false → Heap.Le H H1 → tunnel_Pack.J1 ⟨c, 0, none⟩ true K2 (fun r H => ∃ H', Heap.Le H' H ∧ K r H') E H1 := fun e hle => ⟨by
    unfold tunnel_Pack.J1.vc
    rw [if_pos rfl]
    refine ⟨H, hle, ?_⟩
    simpa [packB, e] using h⟩
  simp only [ldI_iff, add_mk, cell_set_same]
  refine ⟨port, by simp, ?_⟩
  by_cases h1 : port < 0
  · rw [if_pos (by simpa using h1)]
    exact no (by have : ¬ 0 ≤ port := by omega
                 simp [portOk, this]) (Le_set hc _)
  · rw [if_neg (by simpa using h1)]
    refine ⟨port, by simp, ?_⟩
    by_cases h2 : port > 65535
    · rw [if_pos (by simpa using h2)]
      exact no (by have : ¬ port ≤ 65535 := by omega
                   simp [portOk, this]) (Le_set hc _)
    · rw [if_neg (by simpa using h2)]
      refine ⟨to, by simp, ?_⟩
      by_cases h3 : to < 0
      · rw [if_pos (by simpa using h3)]
        exact no (by have : ¬ 0 ≤ to := by omega
                     simp [portOk, this]) (Le_set hc _)
      · rw [if_neg (by simpa using h3)]
        refine ⟨to, by simp, ?_⟩
        by_cases h4 : to > 65535
        · rw [decide_eq_true h4]
          exact no (by have : ¬ to ≤ 65535 := by omega
                       simp [portOk, this]) (Le_set hc _)
        · rw [decide_eq_false h4]
          refine ⟨?_⟩
          unfold tunnel_Pack.J1.vc
          rw [if_neg (by simp)]
          refine ⟨?_⟩
          unfold tunnel_Pack.J2.vc
          obtain ⟨p, rfl⟩ := Int.eq_ofNat_of_zero_le (show 0 ≤ port by omega)
          obtain ⟨q, rfl⟩ := Int.eq_ofNat_of_zero_le (show 0 ≤ to by omega)
          obtain ⟨r, rfl⟩ := Int.eq_ofNat_of_zero_le ha.1
          have hk : K ⟨(hdr ip p r q ++ data.data.toList).toArray⟩ H := by
            have e : (portOk (p : Int) && portOk (q : Int)) = true := by simp [portOk]; omega
            simpa [packB, e] using h
          simp only [ldI_iff, ldB_iff, add_mk, cell_set_same]
          refine ⟨p, by simp, by decide, p, by simp, q, by simp, by decide, q, by simp, r, by simp, by decide, r, by simp, by decide, r, by simp, by decide, r, by simp, ?_⟩
          intro b hb
          have hbc : b ≠ c := fun e => by subst e; rw [set_self] at hb; cases hb
          have hHb : H b = none := by rw [set_ne _ _ hbc] at hb; exact hb
          have hcb : ∀ (o : Obj) (i : Nat), ((H.set c (.cells #[.bool ip, .int .i64 (p : Int), .int .u32 (r : Int), .int .i64 (q : Int), .string data] 30)).set b o).cell? ⟨c, i, none⟩ = (#[.bool ip, .int .i64 (p : Int), .int .u32 (r : Int), .int .i64 (q : Int), .string data] : Array Value)[i]? := fun o i => by
            rw [cell_set_ne _ _ (by show c ≠ b; exact fun e => hbc e.symm), cell_set_same]
          refine ⟨ip, by rw [hcb]; rfl, ?_⟩
          have hle : ∀ o, Heap.Le H ((H.set c (.cells #[.bool ip, .int .i64 (p : Int), .int .u32 (r : Int), .int .i64 (q : Int), .string data] 30)).set b o) := fun o => (Le_set hc _).trans (Le_set hb _)
          have hcl := hdr_cells (ip := ip) (port := p) (addr := r) (to := q) (by omega) (by omega) (by omega)
          cases ip with
          | true =>
            rw [if_pos rfl]
            refine ⟨_, rfl, by decide, by decide, ?_⟩
            simp only [add_mk, stc_set_iff]
            refine ⟨by simp, tunnel_Pack.J3.run (ip := true) (port := p) (addr := r) (to := q) (data := data) ?_ (by rw [add_mk, hcb]; rfl) hs ⟨H, hle _, hk⟩⟩
            rw [set_self, ← hcl]
            rfl
          | false =>
            rw [if_neg (by simp)]
            refine tunnel_Pack.J3.run (ip := false) (port := p) (addr := r) (to := q) (data := data) ?_ (by rw [add_mk, hcb]; rfl) hs ⟨H, hle _, hk⟩
            rw [set_self, ← hcl]
            rfl
theorem vizardref22_Pack.J3.run {a : Addr} {ip : Bool} {port addr to : Nat} {data : ByteArray} {H : Heap} {Kr : ByteArray → Heap → Prop} {E : Value → Heap → Prop} (hp : port < 65536) (ht : to < 65536) (ha : addr < 4294967296)
    (c1 : H.cell? (a.add 1) = some (.int .i64 (port : Int))) (c2 : H.cell? (a.add 2) = some (.int .u32 (addr : Int))) (c3 : H.cell? (a.add 3) = some (.int .i64 (to : Int))) (c4 : H.cell? (a.add 4) = some (.string data)) (hs : data.size ≤ reachBytes)
    (h : Kr ⟨(hdr ip port addr to ++ data.data.toList).toArray⟩ H) : vizardref22_Pack.J3 a (⟨#[if ip = true then 1 else 0]⟩ : ByteArray) Kr E H := by
  refine ⟨?_⟩
  unfold vizardref22_Pack.J3.vc
  have hr : reachBytes = 140737488351232 := rfl
  have z1 : (⟨#[if ip = true then 1 else 0]⟩ : ByteArray).size = 1 := rfl
  have zk : ∀ n k, (⟨(bbe n k).toArray⟩ : ByteArray).size = k := fun n k => by show (bbe n k).toArray.size = k; rw [List.size_toArray, bbe_len]
  refine ⟨_, c1, _, c3, _, c2, _, c4, vizardref01_Bytes.run (k := 2) (by omega) (by omega) (by decide) ⟨⟨_, c4, rfl, rfl⟩, ⟨rfl, rfl⟩, ⟨_, c2, rfl, rfl⟩, ⟨_, c3, rfl, rfl⟩, by rw [z1, zk]; decide, vizardref01_Bytes.run (k := 2) (by omega) (by omega) (by decide) ⟨⟨_, c4, rfl, rfl⟩, ⟨rfl, rfl⟩, ⟨_, c2, rfl, rfl⟩, by rw [ByteArray.size_append, z1, zk, zk]; decide, ?_⟩⟩⟩
  rw [w_i64 (n := (addr : Int)) (by omega) (by omega)]
  refine vizardref01_Bytes.run (k := 4) (by omega) (by omega) (by decide) ⟨⟨_, c4, rfl, rfl⟩, by rw [ByteArray.size_append, ByteArray.size_append, z1, zk, zk, zk]; decide, by rw [ByteArray.size_append, ByteArray.size_append, ByteArray.size_append, z1, zk, zk, zk]; omega, ?_⟩
  have e : ((((⟨#[if ip = true then 1 else 0]⟩ : ByteArray) ++ ⟨(bbe (port : Int).toNat 2).toArray⟩) ++ ⟨(bbe (to : Int).toNat 2).toArray⟩) ++ ⟨(bbe (addr : Int).toNat 4).toArray⟩) ++ data = ⟨(hdr ip port addr to ++ data.data.toList).toArray⟩ := by
    apply ByteArray.ext
    simp [hdr]
  rw [e]
  exact h
theorem vizardref22_Pack.run {ip : Bool} {port addr to : Int} {data : ByteArray} (ha : 0 ≤ addr ∧ addr ≤ 4294967295) (hs : data.size ≤ reachBytes) {K : ByteArray → Heap → Prop} {E : Value → Heap → Prop} {H : Heap} (h : K (packB ip port addr to data) H) : vizardref22_Pack.c ip port addr to data K E H := by
  refine ⟨?_⟩
  unfold vizardref22_Pack.vc
  intro c hc
  have no : ∀ {K2 : Heap → Prop} {H1 : Heap}, (portOk port && portOk to) = false → Heap.Le H H1 → vizardref22_Pack.J1 ⟨c, 0, none⟩ true K2 (fun r H => ∃ H', Heap.Le H' H ∧ K r H') E H1 := fun e hle => ⟨by
    unfold vizardref22_Pack.J1.vc
    rw [if_pos rfl]
    refine ⟨H, hle, ?_⟩
    simpa [packB, e] using h⟩
  simp only [ldI_iff, ldB_iff, add_mk, cell_set_same]
  refine ⟨port, by simp, vizardref22_port.run ?_⟩
  cases hp : portOk port with
  | false => rw [if_pos (by simp)]; exact no (by simp [hp]) (Le_set hc _)
  | true =>
    rw [if_neg (by simp)]
    refine ⟨to, by simp, vizardref22_port.run ?_⟩
    cases ht : portOk to with
    | false => exact no (by simp [ht]) (Le_set hc _)
    | true =>
      refine ⟨?_⟩
      unfold vizardref22_Pack.J1.vc
      rw [if_neg (by simp)]
      refine ⟨?_⟩
      unfold vizardref22_Pack.J2.vc
      have hp' : 0 ≤ port ∧ port ≤ 65535 := by simpa [portOk] using hp
      have ht' : 0 ≤ to ∧ to ≤ 65535 := by simpa [portOk] using ht
      obtain ⟨p, rfl⟩ := Int.eq_ofNat_of_zero_le hp'.1
      obtain ⟨q, rfl⟩ := Int.eq_ofNat_of_zero_le ht'.1
      obtain ⟨r, rfl⟩ := Int.eq_ofNat_of_zero_le ha.1
      have hk : K ⟨(hdr ip p r q ++ data.data.toList).toArray⟩ H := by simpa [packB, hp, ht] using h
      simp only [ldI_iff, ldB_iff, add_mk, cell_set_same]
      refine ⟨ip, by simp, ?_⟩
      cases ip with
      | true =>
        rw [if_pos rfl]
        exact vizardref22_Pack.J3.run (ip := true) (by omega) (by omega) (by omega) (by simp) (by simp) (by simp) (by simp) hs (leave hc hk)
      | false =>
        rw [if_neg (by simp)]
        exact vizardref22_Pack.J3.run (ip := false) (by omega) (by omega) (by omega) (by simp) (by simp) (by simp) (by simp) hs (leave hc hk)
def upCode (s : ByteArray) : Int := if (s.size : Int) < 9 then 1 else if bt s 0 > 1 then 3 else 0
def upIp (s : ByteArray) : Bool := if upCode s = 0 then bt s 0 == 1 else false
def cut (s : ByteArray) (f n : Nat) : List UInt8 := (s.data.toList.drop f).take n
def upNum (s : ByteArray) (f n : Nat) : Int := if upCode s = 0 then (num (cut s f n) : Int) else 0
def upData (s : ByteArray) : ByteArray := if upCode s = 0 then s.extract 9 s.size else ⟨#[]⟩
theorem tunnel_Unpack.run {s : ByteArray} {K : Bool → Int → Int → Int → ByteArray → Int → Heap → Prop} {E : Value → Heap → Prop} {H : Heap} (h : K (upIp s) (upNum s 1 2) (upNum s 5 4) (upNum s 3 2) (upData s) (upCode s) H) : tunnel_Unpack.c s K E H := by
  refine ⟨?_⟩
  unfold tunnel_Unpack.vc
  intro b hb c hc
  have hcb : b ≠ c := fun e => by subst e; rw [set_self] at hc; cases hc
  have hHc : H c = none := by rw [set_ne _ _ (fun e => hcb e.symm)] at hc; exact hc
  have hle : ∀ o, Heap.Le H ((H.set b (.cells #[.string s] 9)).set c o) := fun o => (Le_set hb _).trans (Le_set hc _)
  have hs : ∀ o, ((H.set b (.cells #[.string s] 9)).set c o).cell? ⟨b, 0, none⟩ = some (.string s) := fun o => by rw [cell_set_ne _ _ hcb, cell_set_same]; rfl
  simp only [ldS_iff, ldI_iff, ldB_iff, add_mk, hs, Option.some.injEq, Value.string.injEq, exists_eq_left']
  by_cases h9 : (s.size : Int) < 9
  · have e1 : upCode s = 1 := by unfold upCode; rw [if_pos h9]
    rw [if_pos (by simpa using h9)]
    simp [-Bool.exists_bool]
    exact ⟨H, hle _, by simpa [upIp, upNum, upData, e1] using h⟩
  · rw [if_neg (by simpa using h9)]
    refine ⟨by decide, by omega, ?_⟩
    by_cases h1 : bt s 0 > 1
    · have e1 : upCode s = 3 := by unfold upCode; rw [if_neg h9, if_pos h1]
      rw [if_pos (by simpa using h1)]
      simp [-Bool.exists_bool]
      exact ⟨H, hle _, by simpa [upIp, upNum, upData, e1] using h⟩
    · have e1 : upCode s = 0 := by unfold upCode; rw [if_neg h9, if_neg h1]
      rw [if_neg (by simpa using h1)]
      have l2 : ∀ f, num (cut s f 2) < 65536 := fun f => Nat.lt_of_lt_of_le (num_lt _) (by
        have : 256 ^ (cut s f 2).length ≤ 256 ^ 2 := Nat.pow_le_pow_right (by decide) (by unfold cut; rw [List.length_take]; omega)
        simpa using this)
      have l4 : num (cut s 5 4) < 4294967296 := Nat.lt_of_lt_of_le (num_lt _) (by
        have : 256 ^ (cut s 5 4).length ≤ 256 ^ 4 := Nat.pow_le_pow_right (by decide) (by unfold cut; rw [List.length_take]; omega)
        simpa using this)
      have w2 : ∀ f, IntKind.i64.wrap (num (cut s f 2) : Int) = (num (cut s f 2) : Int) := fun f => w_i64 (by omega) (by have := l2 f; omega)
      refine ⟨by decide, by omega, by decide, by omega, Nat.le_refl _, ?_⟩
      refine tunnel_Unpack_1.run (f := 1) (t := 3) (by decide) (by omega) (by decide) (hs _) ⟨⟨s, hs _, rfl, rfl⟩, ⟨s, hs _, rfl, rfl⟩, ?_⟩
      refine tunnel_Unpack_1.run (f := 3) (t := 5) (by decide) (by omega) (by decide) (hs _) ⟨⟨rfl, rfl⟩, ⟨s, hs _, rfl, rfl⟩, ⟨s, hs _, rfl, rfl⟩, ?_⟩
      refine tunnel_Unpack_1.run (f := 5) (t := 9) (by decide) (by omega) (by decide) (hs _) ⟨⟨rfl, rfl⟩, ⟨rfl, rfl⟩, ⟨s, hs _, rfl, rfl⟩, ⟨s, hs _, rfl, rfl⟩, ?_⟩
      simp [-Bool.exists_bool, -List.drop_one]
      refine ⟨H, hle _, ?_⟩
      have w2a := w2 1
      have w2b := w2 3
      unfold cut at w2a w2b
      rw [w2a, w2b]
      simpa [upIp, upNum, upData, e1, cut] using h
theorem vizardref22_Unpack.run {s : ByteArray} {K : Bool → Int → Int → Int → ByteArray → Int → Heap → Prop} {E : Value → Heap → Prop} {H : Heap} (h : K (upIp s) (upNum s 1 2) (upNum s 5 4) (upNum s 3 2) (upData s) (upCode s) H) : vizardref22_Unpack.c s K E H := by
  refine ⟨?_⟩
  unfold vizardref22_Unpack.vc
  intro b hb
  have hle : ∀ o, Heap.Le H (H.set b o) := fun o => Le_set hb _
  by_cases h9 : (s.size : Int) < 9
  · have e1 : upCode s = 1 := by unfold upCode; rw [if_pos h9]
    rw [if_pos (by simpa using h9)]
    simp [-Bool.exists_bool]
    exact ⟨H, hle _, by simpa [upIp, upNum, upData, e1] using h⟩
  · rw [if_neg (by simpa using h9)]
    refine ⟨by decide, by omega, ?_⟩
    by_cases h1 : bt s 0 > 1
    · have e1 : upCode s = 3 := by unfold upCode; rw [if_neg h9, if_pos h1]
      rw [if_pos (by simpa using h1)]
      simp [-Bool.exists_bool]
      exact ⟨H, hle _, by simpa [upIp, upNum, upData, e1] using h⟩
    · have e1 : upCode s = 0 := by unfold upCode; rw [if_neg h9, if_neg h1]
      rw [if_neg (by simpa using h1)]
      have l4 : num (cut s 5 4) < 4294967296 := Nat.lt_of_lt_of_le (num_lt _) (by
        have : 256 ^ (cut s 5 4).length ≤ 256 ^ 4 := Nat.pow_le_pow_right (by decide) (by unfold cut; rw [List.length_take]; omega)
        simpa using this)
      have sz : ∀ f t, f ≤ t → t ≤ s.size → (s.extract f t).size = t - f := fun f t h1 h2 => by rw [← size_list, ext_list, List.length_take, List.length_drop, size_list]; omega
      refine ⟨by decide, by omega, by decide, by decide, by omega, by decide, by decide, by omega, by decide, by decide, by omega, by decide, by omega, Nat.le_refl _, ?_⟩
      refine vizardref01_Number.run (by rw [sz 1 3 (by decide) (by omega)]; decide) (vizardref01_Number.run (by rw [sz 3 5 (by decide) (by omega)]; decide) (vizardref01_Number.run (by rw [sz 5 9 (by decide) (by omega)]; decide) ?_))
      rw [ext_list, ext_list, ext_list]
      have w4 : IntKind.u32.wrap (num ((s.data.toList.drop 5).take (9 - 5)) : Int) = (num (cut s 5 4) : Int) := by
        show IntKind.u32.wrap (num (cut s 5 4) : Int) = _
        exact w_u32 (by omega) (by omega)
      rw [w4]
      simp [-Bool.exists_bool, -List.drop_one]
      refine ⟨H, hle _, ?_⟩
      simpa [upIp, upNum, upData, e1, cut] using h
theorem ba_list {x y : ByteArray} (h : x.data.toList = y.data.toList) : x = y := ByteArray.ext (Array.toList_inj.1 h)
theorem unpack_pack {ip : Bool} {port addr to : Int} {data : ByteArray} (ha : 0 ≤ addr ∧ addr ≤ 4294967295) (hp : (portOk port && portOk to) = true) :
    upCode (packB ip port addr to data) = 0 ∧ upIp (packB ip port addr to data) = ip ∧ upNum (packB ip port addr to data) 1 2 = port ∧ upNum (packB ip port addr to data) 5 4 = addr ∧ upNum (packB ip port addr to data) 3 2 = to ∧ upData (packB ip port addr to data) = data := by
  have h0 : (0 ≤ port ∧ port ≤ 65535) ∧ (0 ≤ to ∧ to ≤ 65535) := by simpa [portOk] using hp
  obtain ⟨⟨hp1, hp2⟩, ht1, ht2⟩ := h0
  obtain ⟨p, rfl⟩ := Int.eq_ofNat_of_zero_le hp1
  obtain ⟨q, rfl⟩ := Int.eq_ofNat_of_zero_le ht1
  obtain ⟨r, rfl⟩ := Int.eq_ofNat_of_zero_le ha.1
  have e : packB ip (p : Int) (r : Int) (q : Int) data = ⟨(hdr ip p r q ++ data.data.toList).toArray⟩ := by unfold packB; rw [if_pos hp]; rfl
  rw [e]
  have hsz : (⟨(hdr ip p r q ++ data.data.toList).toArray⟩ : ByteArray).size = 9 + data.size := by
    show (hdr ip p r q ++ data.data.toList).toArray.size = _
    rw [List.size_toArray, List.length_append, hdr_len, size_list]
  have hbt : bt (⟨(hdr ip p r q ++ data.data.toList).toArray⟩ : ByteArray) 0 = if ip = true then 1 else 0 := by cases ip <;> rfl
  have hc : upCode (⟨(hdr ip p r q ++ data.data.toList).toArray⟩ : ByteArray) = 0 := by
    unfold upCode
    rw [hsz, if_neg (by omega), hbt, if_neg (by cases ip <;> decide)]
  refine ⟨hc, ?_, ?_, ?_, ?_, ?_⟩
  · unfold upIp; rw [if_pos hc, hbt]; cases ip <;> rfl
  · unfold upNum; rw [if_pos hc]
    have : cut (⟨(hdr ip p r q ++ data.data.toList).toArray⟩ : ByteArray) 1 2 = bbe p 2 := rfl
    rw [this, num_bbe 2 p (by show p < 65536; omega)]
  · unfold upNum; rw [if_pos hc]
    have : cut (⟨(hdr ip p r q ++ data.data.toList).toArray⟩ : ByteArray) 5 4 = bbe r 4 := rfl
    rw [this, num_bbe 4 r (by show r < 4294967296; omega)]
  · unfold upNum; rw [if_pos hc]
    have : cut (⟨(hdr ip p r q ++ data.data.toList).toArray⟩ : ByteArray) 3 2 = bbe q 2 := rfl
    rw [this, num_bbe 2 q (by show q < 65536; omega)]
  · unfold upData; rw [if_pos hc]
    apply ba_list
    rw [ext_list, hsz]
    have : (⟨(hdr ip p r q ++ data.data.toList).toArray⟩ : ByteArray).data.toList.drop 9 = data.data.toList := rfl
    rw [this]
    exact List.take_of_length_le (by rw [size_list]; omega)
theorem pack_unpack {s : ByteArray} (h : upCode s = 0) : packB (upIp s) (upNum s 1 2) (upNum s 5 4) (upNum s 3 2) (upData s) = s := by
  have h9 : 9 ≤ s.size := by
    unfold upCode at h
    split at h
    · cases h
    · omega
  have hb : ¬ bt s 0 > 1 := by
    intro hb
    unfold upCode at h
    rw [if_neg (by omega), if_pos hb] at h
    cases h
  have hl := size_list s
  unfold upIp upNum upData
  rw [if_pos h, if_pos h, if_pos h, if_pos h, if_pos h]
  have l2 : ∀ f, num (cut s f 2) < 65536 := fun f => Nat.lt_of_lt_of_le (num_lt _) (by
    have : 256 ^ (cut s f 2).length ≤ 256 ^ 2 := Nat.pow_le_pow_right (by decide) (by unfold cut; rw [List.length_take]; omega)
    simpa using this)
  have hp : (portOk (num (cut s 1 2) : Int) && portOk (num (cut s 3 2) : Int)) = true := by
    have := l2 1
    have := l2 3
    simp [portOk]
    omega
  unfold packB
  rw [if_pos hp]
  apply ba_list
  have len : ∀ f n, f + n ≤ s.size → (cut s f n).length = n := fun f n hf => by unfold cut; rw [List.length_take, List.length_drop]; omega
  have back : ∀ f n, f + n ≤ s.size → bbe (num (cut s f n)) n = cut s f n := fun f n hf => by
    have := bbe_num (cut s f n)
    rwa [len f n hf] at this
  show hdr (bt s 0 == 1) (num (cut s 1 2)) (num (cut s 5 4)) (num (cut s 3 2)) ++ (s.extract 9 s.size).data.toList = s.data.toList
  unfold hdr
  rw [back 1 2 (by omega), back 3 2 (by omega), back 5 4 (by omega), ext_list]
  have hx : ∃ x, s.data.toList[0]? = some x := ⟨_, List.getElem?_eq_getElem (by omega)⟩
  obtain ⟨x, hx⟩ := hx
  have hbx : bt s 0 = (x.toNat : Int) := bt_get (k := 0) hx
  have hhead : (if (bt s 0 == 1) = true then (1 : UInt8) else 0) = x := by
    rw [hbx] at hb ⊢
    apply UInt8.toNat_inj.1
    by_cases h1 : (x.toNat : Int) = 1
    · rw [if_pos (by simpa using h1)]; show 1 = x.toNat; omega
    · rw [if_neg (by simpa using h1)]; show 0 = x.toNat; omega
  rw [hhead]
  have e0 : s.data.toList = x :: s.data.toList.drop 1 := by
    cases hs : s.data.toList with
    | nil => rw [hs] at hx; cases hx
    | cons y ys => rw [hs] at hx; cases hx; rfl
  have e1 : ∀ f n, s.data.toList.drop f = cut s f n ++ s.data.toList.drop (f + n) := fun f n => by
    unfold cut
    rw [← List.drop_drop, List.take_append_drop]
  conv => rhs; rw [e0, e1 1 2, e1 3 2, e1 5 4]
  rw [List.take_of_length_le (by rw [List.length_drop]; omega)]
  simp [cut]
theorem vizardlaw22_TunnelPacks.J2.run {s : ByteArray} {e0 x0 : Addr} {ip : Bool} {port addr to : Int} {data : ByteArray} {H : Heap} {Kr : Bool → Heap → Prop} {E : Value → Heap → Prop} (ha : 0 ≤ addr ∧ addr ≤ 4294967295) (hs : s.size ≤ reachBytes)
    (e1 : H.cell? (e0.add 0) = some (.bool ip)) (e2 : H.cell? (e0.add 1) = some (.int .i64 port)) (e3 : H.cell? (e0.add 2) = some (.int .u32 addr)) (e4 : H.cell? (e0.add 3) = some (.int .i64 to)) (e5 : H.cell? (e0.add 4) = some (.string data))
    (x1 : H.cell? (x0.add 0) = some (.bool (upIp s))) (x2 : H.cell? (x0.add 1) = some (.int .i64 (upNum s 1 2))) (x3 : H.cell? (x0.add 2) = some (.int .u32 (upNum s 5 4))) (x4 : H.cell? (x0.add 3) = some (.int .i64 (upNum s 3 2))) (x5 : H.cell? (x0.add 4) = some (.string (upData s)))
    (h : ∀ H', Heap.Le H H' → Kr true H') : vizardlaw22_TunnelPacks.J2 s e0 (packB ip port addr to data) x0 (upCode s) Kr E H := by
  refine ⟨?_⟩
  unfold vizardlaw22_TunnelPacks.J2.vc
  refine tunnel_Unpack.run ?_
  intro b hb
  generalize ht : packB ip port addr to data = t
  simp only [add_mk, stc_set_iff]
  refine ⟨by simp, by simp, by simp, by simp, by simp, ?_⟩
  generalize hH7 : H.set b _ = H7
  have hle : Heap.Le H H7 := by rw [← hH7]; exact Le_set hb _
  have k0 : H7.cell? ⟨b, 0 + 0, none⟩ = some (.bool (upIp t)) := by rw [← hH7, cell_set_same]; rfl
  have k1 : H7.cell? ⟨b, 0 + 1, none⟩ = some (.int .i64 (upNum t 1 2)) := by rw [← hH7, cell_set_same]; rfl
  have k2 : H7.cell? ⟨b, 0 + 2, none⟩ = some (.int .u32 (upNum t 5 4)) := by rw [← hH7, cell_set_same]; rfl
  have k3 : H7.cell? ⟨b, 0 + 3, none⟩ = some (.int .i64 (upNum t 3 2)) := by rw [← hH7, cell_set_same]; rfl
  have k4 : H7.cell? ⟨b, 0 + 4, none⟩ = some (.string (upData t)) := by rw [← hH7, cell_set_same]; rfl
  -- the second half: what was unpacked is packed again
  have half : if (upCode s != 0) = true then Kr true H7 else ldB H7 (x0.add 0) fun x7 => ldI H7 .i64 (x0.add 1) fun x8 => ldI H7 .u32 (x0.add 2) fun x9 => ldI H7 .i64 (x0.add 3) fun x10 => ldS H7 (x0.add 4) fun x11 =>
      tunnel_Pack.c x7 x8 x9 x10 x11 (fun x12 h8 => Kr (x12.toList == s.toList) h8) E H7 := by
    by_cases hc : upCode s = 0
    · rw [if_neg (by simp [hc])]
      have hsz : (upData s).size ≤ reachBytes := by
        unfold upData
        rw [if_pos hc, ← size_list, ext_list, List.length_take, List.length_drop, size_list]
        omega
      have hn : 0 ≤ upNum s 5 4 ∧ upNum s 5 4 ≤ 4294967295 := by
        unfold upNum
        rw [if_pos hc]
        have : num (cut s 5 4) < 256 ^ 4 := Nat.lt_of_lt_of_le (num_lt _) (Nat.pow_le_pow_right (by decide) (by unfold cut; rw [List.length_take]; omega))
        have e6 : 256 ^ 4 = 4294967296 := by decide
        omega
      refine ⟨_, Le_cell hle x1, _, Le_cell hle x2, _, Le_cell hle x3, _, Le_cell hle x4, _, Le_cell hle x5, tunnel_Pack.run hn hsz ?_⟩
      rw [pack_unpack hc]
      simpa using h H7 hle
    · rw [if_pos (by simpa using hc)]
      exact h H7 hle
  by_cases hp : (portOk port && portOk to) = true
  · by_cases he : (t.toList == (⟨#[]⟩ : ByteArray).toList) = true
    · rw [if_pos he]; exact half
    · rw [if_neg he]
      obtain ⟨u1, u2, u3, u4, u5, u6⟩ := unpack_pack (ip := ip) (data := data) ha hp
      rw [ht] at u1 u2 u3 u4 u5 u6
      rw [if_pos (by simp [u1])]
      refine ⟨_, k0, _, k1, _, k2, _, k3, _, k4, _, Le_cell hle e1, _, Le_cell hle e2, _, Le_cell hle e3, _, Le_cell hle e4, _, Le_cell hle e5, ?_⟩
      rw [u2, u3, u4, u5, u6]
      exact (if_pos (by simp [ba_self])).mpr half
  · have : t = ⟨#[]⟩ := by rw [← ht]; unfold packB; rw [if_neg hp]
    rw [if_pos (by rw [this]; simp)]
    exact half
theorem vizardlaw22_TunnelPacks.run {ip : Bool} {port addr to : Int} {data s : ByteArray} {H : Heap} {K : Bool → Heap → Prop} {E : Value → Heap → Prop} (_ : IntKind.i64.has port) (ha : IntKind.u32.has addr) (_ : IntKind.i64.has to) (hd : data.size ≤ reachBytes) (hs : s.size ≤ reachBytes) (h : K true H) : vizardlaw22_TunnelPacks.c ip port addr to data s K E H := by
  have ha := has_u32 ha
  refine ⟨?_⟩
  unfold vizardlaw22_TunnelPacks.vc
  intro b0 hb0
  generalize hH1 : H.set b0 _ = H1
  have hle1 : Heap.Le H H1 := by rw [← hH1]; exact Le_set hb0 _
  have a0 : H1.cell? (Addr.add ⟨b0, 0, none⟩ 0) = some (.bool ip) := by rw [← hH1, add_mk, cell_set_same]; rfl
  have a1 : H1.cell? (Addr.add ⟨b0, 0, none⟩ 1) = some (.int .i64 port) := by rw [← hH1, add_mk, cell_set_same]; rfl
  have a2 : H1.cell? (Addr.add ⟨b0, 0, none⟩ 2) = some (.int .u32 addr) := by rw [← hH1, add_mk, cell_set_same]; rfl
  have a3 : H1.cell? (Addr.add ⟨b0, 0, none⟩ 3) = some (.int .i64 to) := by rw [← hH1, add_mk, cell_set_same]; rfl
  have a4 : H1.cell? (Addr.add ⟨b0, 0, none⟩ 4) = some (.string data) := by rw [← hH1, add_mk, cell_set_same]; rfl
  clear hH1
  refine ⟨_, a0, _, a1, _, a2, _, a3, _, a4, tunnel_Pack.run ha hd (tunnel_Unpack.run ?_)⟩
  intro b1 hb1
  simp only [add_mk, stc_set_iff]
  refine ⟨by simp, by simp, by simp, by simp, by simp, ?_⟩
  generalize hH2 : H1.set b1 _ = H2
  have hle2 : Heap.Le H1 H2 := by rw [← hH2]; exact Le_set hb1 _
  have c0 : H2.cell? (Addr.add ⟨b1, 0, none⟩ 0) = some (.bool (upIp s)) := by rw [← hH2, add_mk, cell_set_same]; rfl
  have c1 : H2.cell? (Addr.add ⟨b1, 0, none⟩ 1) = some (.int .i64 (upNum s 1 2)) := by rw [← hH2, add_mk, cell_set_same]; rfl
  have c2 : H2.cell? (Addr.add ⟨b1, 0, none⟩ 2) = some (.int .u32 (upNum s 5 4)) := by rw [← hH2, add_mk, cell_set_same]; rfl
  have c3 : H2.cell? (Addr.add ⟨b1, 0, none⟩ 3) = some (.int .i64 (upNum s 3 2)) := by rw [← hH2, add_mk, cell_set_same]; rfl
  have c4 : H2.cell? (Addr.add ⟨b1, 0, none⟩ 4) = some (.string (upData s)) := by rw [← hH2, add_mk, cell_set_same]; rfl
  clear hH2
  refine vizardref22_Unpack.run ?_
  intro b2 hb2
  simp only [add_mk, stc_set_iff]
  refine ⟨by simp, by simp, by simp, by simp, by simp, ?_⟩
  generalize hH3 : H2.set b2 _ = H3
  have hle3 : Heap.Le H2 H3 := by rw [← hH3]; exact Le_set hb2 _
  have d0 : H3.cell? (Addr.add ⟨b2, 0, none⟩ 0) = some (.bool (upIp s)) := by rw [← hH3, add_mk, cell_set_same]; rfl
  have d1 : H3.cell? (Addr.add ⟨b2, 0, none⟩ 1) = some (.int .i64 (upNum s 1 2)) := by rw [← hH3, add_mk, cell_set_same]; rfl
  have d2 : H3.cell? (Addr.add ⟨b2, 0, none⟩ 2) = some (.int .u32 (upNum s 5 4)) := by rw [← hH3, add_mk, cell_set_same]; rfl
  have d3 : H3.cell? (Addr.add ⟨b2, 0, none⟩ 3) = some (.int .i64 (upNum s 3 2)) := by rw [← hH3, add_mk, cell_set_same]; rfl
  have d4 : H3.cell? (Addr.add ⟨b2, 0, none⟩ 4) = some (.string (upData s)) := by rw [← hH3, add_mk, cell_set_same]; rfl
  clear hH3
  have le13 := hle2.trans hle3
  simp only [add_mk] at a0 a1 a2 a3 a4 c0 c1 c2 c3 c4 d0 d1 d2 d3 d4
  refine ⟨_, Le_cell le13 a0, _, Le_cell le13 a1, _, Le_cell le13 a2, _, Le_cell le13 a3, _, Le_cell le13 a4, vizardref22_Pack.run ha hd ?_⟩
  rw [if_neg (by simp)]
  refine ⟨_, Le_cell hle3 c0, _, Le_cell hle3 c1, _, Le_cell hle3 c2, _, Le_cell hle3 c3, _, Le_cell hle3 c4, _, d0, _, d1, _, d2, _, d3, _, d4, ?_⟩
  refine (if_neg (by simp [ba_self])).mpr ?_
  refine ⟨?_⟩
  unfold vizardlaw22_TunnelPacks.J1.vc
  rw [if_neg (by simp)]
  refine vizardlaw22_TunnelPacks.J2.run (ip := ip) (port := port) (addr := addr) (to := to) (data := data) ha hs ?_ ?_ ?_ ?_ ?_ ?_ ?_ ?_ ?_ ?_ fun H' hle => ⟨H, hle1.trans (le13.trans hle), h⟩
  · rw [add_mk]; exact Le_cell le13 a0
  · rw [add_mk]; exact Le_cell le13 a1
  · rw [add_mk]; exact Le_cell le13 a2
  · rw [add_mk]; exact Le_cell le13 a3
  · rw [add_mk]; exact Le_cell le13 a4
  · rw [add_mk]; exact Le_cell hle3 c0
  · rw [add_mk]; exact Le_cell hle3 c1
  · rw [add_mk]; exact Le_cell hle3 c2
  · rw [add_mk]; exact Le_cell hle3 c3
  · rw [add_mk]; exact Le_cell hle3 c4
end Go.Sh
