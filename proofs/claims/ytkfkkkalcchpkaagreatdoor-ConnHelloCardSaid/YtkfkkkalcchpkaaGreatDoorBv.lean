/- Words of 32 bits as the program has them; the digest, in plain words. -/
import Derived.Test.YtkfkkkalcchpkaaGreatDoorShX
namespace Go.Sh
abbrev W := BitVec 32
def wv (x : W) : Int := (x.toNat : Int)
def wV (x : W) : Value := .int .u32 (wv x)
theorem wv_range (x : W) : 0 ≤ wv x ∧ wv x < 4294967296 := by
  have := x.isLt
  unfold wv
  omega
theorem of_u32 {n : Int} (h : 0 ≤ n ∧ n < 4294967296) : ∃ x : W, n = wv x := by
  refine ⟨BitVec.ofNat 32 n.toNat, ?_⟩
  unfold wv
  rw [BitVec.toNat_ofNat, Nat.mod_eq_of_lt (by omega)]
  omega
theorem wrap_nat (n : Nat) : IntKind.u32.wrap (n : Int) = ((n % 4294967296 : Nat) : Int) := by
  simp only [IntKind.wrap, IntKind.bits, IntKind.signed, Bool.false_and, Bool.false_eq_true, if_false]
  omega
theorem and_w (x y : W) : bits .and .u32 (wv x) (wv y) = wv (x &&& y) := by
  have h1 := x.isLt; have h2 := y.isLt
  unfold wv
  rw [and_u32 _ _ (by omega) (by omega), BitVec.toNat_and]
theorem or_w (x y : W) : bits .or .u32 (wv x) (wv y) = wv (x ||| y) := by
  have h1 := x.isLt; have h2 := y.isLt
  unfold wv
  rw [or_u32 _ _ (by omega) (by omega), BitVec.toNat_or]
theorem xor_u32 (a b : Nat) (ha : a < 4294967296) (hb : b < 4294967296) : bits .xor .u32 (a : Int) (b : Int) = ((a ^^^ b : Nat) : Int) := by
  have hx : a ^^^ b < 2 ^ 32 := Nat.xor_lt_two_pow (by omega) (by omega)
  show IntKind.u32.wrap ((BitVec.ofInt 32 (a : Int) ^^^ BitVec.ofInt 32 (b : Int)).toNat : Int) = _
  rw [BitVec.toNat_xor, ofInt_u32 a ha, ofInt_u32 b hb, w_u32 (by omega) (by omega)]
theorem xor_w (x y : W) : bits .xor .u32 (wv x) (wv y) = wv (x ^^^ y) := by
  have h1 := x.isLt; have h2 := y.isLt
  unfold wv
  rw [xor_u32 _ _ (by omega) (by omega), BitVec.toNat_xor]
theorem not_w (x : W) : bits .xor .u32 (IntKind.max .u32) (wv x) = wv (~~~x) := by
  have e : (IntKind.max .u32 : Int) = wv (BitVec.allOnes 32) := by decide
  rw [e, xor_w, BitVec.allOnes_xor]
theorem sub_w (x : W) : IntKind.u32.wrap (4294967295 - wv x) = wv (~~~x) := by
  have h1 := x.isLt
  unfold wv
  rw [BitVec.toNat_not, w_u32 (by omega) (by omega)]
  omega
theorem add_w (x y : W) : IntKind.u32.wrap (wv x + wv y) = wv (x + y) := by
  unfold wv
  rw [BitVec.toNat_add, show ((x.toNat : Int) + (y.toNat : Int)) = ((x.toNat + y.toNat : Nat) : Int) by simp, wrap_nat]
theorem shr_w (x : W) {n : Int} (h : 0 ≤ n) (h2 : n ≤ 32) : shrI .u32 (wv x) n = wv (x >>> n.toNat) := by
  unfold wv shrI
  have e : min n.toNat (IntKind.bits .u32) = n.toNat := by
    show min n.toNat 32 = _
    omega
  rw [e, BitVec.toNat_ushiftRight, Nat.shiftRight_eq_div_pow, Int.fdiv_eq_ediv_of_nonneg _ (by exact Int.le_of_lt (Int.pow_pos (by decide)))]
  simp
theorem shl_w (x : W) {n : Int} (h : 0 ≤ n) (h2 : n ≤ 32) : shlI .u32 (wv x) n = wv (x <<< n.toNat) := by
  unfold wv shlI
  have e : min n.toNat (IntKind.bits .u32) = n.toNat := by
    show min n.toNat 32 = _
    omega
  rw [e, BitVec.toNat_shiftLeft, Nat.shiftLeft_eq]
  have e2 : ((x.toNat : Int) * 2 ^ n.toNat) = ((x.toNat * 2 ^ n.toNat : Nat) : Int) := by simp
  rw [e2, wrap_nat]
/-! ### The digest -/
def rotr (x : W) (n : Nat) : W := (x >>> n) ||| (x <<< (32 - n))
def sg0 (x : W) : W := (rotr x 7 ^^^ rotr x 18) ^^^ (x >>> 3)
def sg1 (x : W) : W := (rotr x 17 ^^^ rotr x 19) ^^^ (x >>> 10)
def bsg1 (e : W) : W := (rotr e 6 ^^^ rotr e 11) ^^^ rotr e 25
def bsg0 (a : W) : W := (rotr a 2 ^^^ rotr a 13) ^^^ rotr a 22
def chW (e f g : W) : W := (e &&& f) ||| (~~~e &&& g)
def majW (a b c : W) : W := ((a &&& b) ||| (a &&& c)) ||| (b &&& c)
theorem chW_xor (e f g : W) : (e &&& f) ^^^ (~~~e &&& g) = chW e f g := by
  unfold chW
  ext i hi
  simp only [BitVec.getElem_xor, BitVec.getElem_and, BitVec.getElem_or, BitVec.getElem_not]
  cases e[i] <;> cases f[i] <;> cases g[i] <;> rfl
theorem majW_xor (a b c : W) : ((a &&& b) ^^^ (a &&& c)) ^^^ (b &&& c) = majW a b c := by
  unfold majW
  ext i hi
  simp only [BitVec.getElem_xor, BitVec.getElem_and, BitVec.getElem_or]
  cases a[i] <;> cases b[i] <;> cases c[i] <;> rfl
structure St where
  a : W
  b : W
  c : W
  d : W
  e : W
  f : W
  g : W
  h : W
  deriving DecidableEq
def St.t1 (s : St) (k w : W) : W := (((s.h + bsg1 s.e) + chW s.e s.f s.g) + k) + w
def St.t2 (s : St) : W := bsg0 s.a + majW s.a s.b s.c
def St.round (s : St) (k w : W) : St := ⟨s.t1 k w + s.t2, s.a, s.b, s.c, s.d + s.t1 k w, s.e, s.f, s.g⟩
def St.plus (s v : St) : St := ⟨s.a + v.a, s.b + v.b, s.c + v.c, s.d + v.d, s.e + v.e, s.f + v.f, s.g + v.g, s.h + v.h⟩
def St.list (s : St) : List W := [s.a, s.b, s.c, s.d, s.e, s.f, s.g, s.h]
def kTab : List Int := [1116352408, 1899447441, 3049323471, 3921009573, 961987163, 1508970993, 2453635748, 2870763221, 3624381080, 310598401, 607225278, 1426881987, 1925078388, 2162078206, 2614888103, 3248222580, 3835390401, 4022224774, 264347078, 604807628, 770255983, 1249150122, 1555081692, 1996064986, 2554220882, 2821834349, 2952996808, 3210313671, 3336571891, 3584528711, 113926993, 338241895, 666307205, 773529912, 1294757372, 1396182291, 1695183700, 1986661051, 2177026350, 2456956037, 2730485921, 2820302411, 3259730800, 3345764771, 3516065817, 3600352804, 4094571909, 275423344, 430227734, 506948616, 659060556, 883997877, 958139571, 1322822218, 1537002063, 1747873779, 1955562222, 2024104815, 2227730452, 2361852424, 2428436474, 2756734187, 3204031479, 3329325298]
def kW (t : Nat) : W := BitVec.ofNat 32 (kTab.getD t 0).toNat
theorem kW_at : ∀ t : Fin 64, kTab[t.val]? = some (wv (kW t.val)) := by decide +kernel
def st0 : St := ⟨1779033703, 3144134277, 1013904242, 2773480762, 1359893119, 2600822924, 528734635, 1541459225⟩
def wNxt (l : List W) : W := ((l.getD (l.length - 16) 0 + l.getD (l.length - 7) 0) + sg0 (l.getD (l.length - 15) 0)) + sg1 (l.getD (l.length - 2) 0)
def wExt : Nat → List W → List W
  | 0, l => l
  | n + 1, l => wExt n (l ++ [wNxt l])
theorem wExt_succ : ∀ (n : Nat) (l : List W), wExt (n + 1) l = wExt n l ++ [wNxt (wExt n l)]
  | 0, _ => rfl
  | n + 1, l => by
    show wExt (n + 1) (l ++ [wNxt l]) = _
    rw [wExt_succ n (l ++ [wNxt l])]
    rfl
theorem wExt_len : ∀ (n : Nat) (l : List W), (wExt n l).length = l.length + n
  | 0, _ => rfl
  | n + 1, l => by
    show (wExt n (l ++ [wNxt l])).length = _
    rw [wExt_len n, List.length_append]
    simp only [List.length_cons, List.length_nil]
    omega
def be32 (a b c d : UInt8) : W := ((BitVec.ofNat 32 a.toNat <<< 24 ||| BitVec.ofNat 32 b.toNat <<< 16) ||| BitVec.ofNat 32 c.toNat <<< 8) ||| BitVec.ofNat 32 d.toNat
def wordAt (b : List UInt8) (i : Nat) : W := be32 (b.getD (4 * i) 0) (b.getD (4 * i + 1) 0) (b.getD (4 * i + 2) 0) (b.getD (4 * i + 3) 0)
def words16 (b : List UInt8) : List W := (List.range 16).map (wordAt b)
def sched (b : List UInt8) : List W := wExt 48 (words16 b)
theorem sched_len (b : List UInt8) : (sched b).length = 64 := by
  unfold sched
  rw [wExt_len]
  simp [words16]
def rnds (ws : List W) : Nat → St → St
  | 0, s => s
  | n + 1, s => (rnds ws n s).round (kW n) (ws.getD n 0)
def St.block (s : St) (b : List UInt8) : St := s.plus (rnds (sched b) 64 s)
def absorb : Nat → St → List UInt8 → St × List UInt8
  | 0, s, l => (s, l)
  | f + 1, s, l => if 64 ≤ l.length then absorb f (s.block (l.take 64)) (l.drop 64) else (s, l)
theorem absorb_more : ∀ (f g : Nat) (s : St) (l : List UInt8), l.length < 64 * (f + 1) → l.length < 64 * (g + 1) → absorb f s l = absorb g s l
  | 0, 0, _, _, _, _ => rfl
  | 0, g + 1, s, l, h, _ => by unfold absorb; rw [if_neg (by omega)]
  | f + 1, 0, s, l, _, h => by unfold absorb; rw [if_neg (by omega)]
  | f + 1, g + 1, s, l, h1, h2 => by
    unfold absorb
    by_cases h : 64 ≤ l.length
    · rw [if_pos h, if_pos h, absorb_more f g _ _ (by rw [List.length_drop]; omega) (by rw [List.length_drop]; omega)]
    · rw [if_neg h, if_neg h]
def eat (s : St) (l : List UInt8) : St × List UInt8 := absorb l.length s l
theorem eat_small {s : St} {l : List UInt8} (h : l.length < 64) : eat s l = (s, l) := by
  unfold eat
  rw [absorb_more l.length 0 s l (by omega) (by omega)]
  rfl
theorem eat_step {s : St} {l : List UInt8} (h : 64 ≤ l.length) : eat s l = eat (s.block (l.take 64)) (l.drop 64) := by
  unfold eat
  rw [absorb_more l.length (l.length + 1) s l (by omega) (by omega)]
  conv => lhs; unfold absorb
  rw [if_pos h]
  exact absorb_more _ _ _ _ (by rw [List.length_drop]; omega) (by rw [List.length_drop]; omega)
theorem eat_app : ∀ (n : Nat) (s : St) (a b : List UInt8), a.length ≤ n → eat s (a ++ b) = eat (eat s a).1 ((eat s a).2 ++ b)
  | n, s, a, b, h => by
    by_cases hc : 64 ≤ a.length
    · cases n with
      | zero => omega
      | succ n =>
        rw [eat_step (l := a ++ b) (by rw [List.length_append]; omega), eat_step hc, List.take_append_of_le_length hc, List.drop_append_of_le_length hc]
        exact eat_app n _ _ _ (by rw [List.length_drop]; omega)
    · rw [eat_small (l := a) (by omega)]
theorem eat_rest : ∀ (n : Nat) (s : St) (a : List UInt8), a.length ≤ n → (eat s a).2.length < 64 ∧ (eat s a).2.length = a.length % 64
  | n, s, a, h => by
    by_cases hc : 64 ≤ a.length
    · cases n with
      | zero => omega
      | succ n =>
        rw [eat_step hc]
        have := eat_rest n (s.block (a.take 64)) (a.drop 64) (by rw [List.length_drop]; omega)
        rw [List.length_drop] at this
        omega
    · rw [eat_small (by omega)]
      dsimp only
      omega
def zpad (n : Nat) : Nat := (119 - n % 64) % 64
def be64 (n : Nat) : List UInt8 := (List.range 8).map fun i => UInt8.ofNat (n / 2 ^ (56 - 8 * i))
def padded (r : List UInt8) (n : Nat) : List UInt8 := ((r ++ [128]) ++ List.replicate (zpad r.length) 0) ++ be64 (8 * n)
def be4 (x : W) : List UInt8 := [UInt8.ofNat (x.toNat / 16777216), UInt8.ofNat (x.toNat / 65536), UInt8.ofNat (x.toNat / 256), UInt8.ofNat x.toNat]
def St.bytes (s : St) : List UInt8 := s.list.flatMap be4
def sha (l : List UInt8) : List UInt8 := (eat st0 (padded l l.length)).1.bytes
theorem padded_len (r : List UInt8) (n : Nat) : (padded r n).length % 64 = 0 := by
  unfold padded zpad be64
  simp only [List.length_append, List.length_cons, List.length_nil, List.length_replicate, List.length_map, List.length_range]
  omega
/-- What is in by parts has the digest of the whole. -/
theorem sha_eat (l : List UInt8) : (eat (eat st0 l).1 (padded (eat st0 l).2 l.length)).1.bytes = sha l := by
  unfold sha
  have h := eat_rest _ st0 l (Nat.le_refl _)
  have e : padded l l.length = l ++ (([128] ++ List.replicate (zpad (eat st0 l).2.length) 0) ++ be64 (8 * l.length)) := by
    unfold padded
    have : zpad l.length = zpad (eat st0 l).2.length := by
      unfold zpad
      rw [h.2, Nat.mod_mod]
    rw [this]
    simp
  rw [e, eat_app _ _ _ _ (Nat.le_refl _)]
  unfold padded
  simp
theorem sha_len (l : List UInt8) : (sha l).length = 32 := by
  unfold sha St.bytes St.list
  simp [be4]
theorem sha_abc : sha [97, 98, 99] = [186, 120, 22, 191, 143, 1, 207, 234, 65, 65, 64, 222, 93, 174, 34, 35, 176, 3, 97, 163, 150, 23, 122, 156, 180, 16, 255, 97, 242, 0, 21, 173] := by decide +kernel
end Go.Sh
