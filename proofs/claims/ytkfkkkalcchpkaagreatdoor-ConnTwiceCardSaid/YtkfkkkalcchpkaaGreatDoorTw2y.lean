/- A packet that comes once more changes nothing (part 25 of the walk and its laws) -/
import Derived.Test.YtkfkkkalcchpkaaGreatDoorTw2x
import Derived.Shelf.Strings.Repeat
import Derived.Test.YtkfkkkalcchpkaaGreatDoorProg
import Derived.Tactics
import Derived.Tactics2
import Derived.Defers
import Derived.Laws.Pointers
import Derived.Laws.LoneSync
import Derived.RegionTactic
import Derived.RegionCalls
import Derived.ChangeAlike
import Derived.Laws.NewBlocks
namespace Go.Sh
abbrev W := BitVec 32
def wv (x : W) : Int := (x.toNat : Int)
def wV (x : W) : Value := .int .u32 (wv x)
theorem wrap_nat (n : Nat) : IntKind.u32.wrap (n : Int) = ((n % 4294967296 : Nat) : Int) := by
  simp only [IntKind.wrap, IntKind.bits, IntKind.signed, Bool.false_and, Bool.false_eq_true, if_false]
  omega
theorem and_w (x y : W) : bits .and .u32 (wv x) (wv y) = wv (x &&& y) := by
  have h1 := x.isLt; have h2 := y.isLt
  unfold wv
  rw [and_u32 _ _ (by omega) (by omega), BitVec.toNat_and]
theorem or_w (x y : W) : bits .or .u32 (wv x) (wv y) = wv (x ||| y) := by
  have h1 := x.isLt; have h2 := y.isLt
  unfold wv
  rw [or_u32 _ _ (by omega) (by omega), BitVec.toNat_or]
theorem xor_u32 (a b : Nat) (ha : a < 4294967296) (hb : b < 4294967296) : bits .xor .u32 (a : Int) (b : Int) = ((a ^^^ b : Nat) : Int) := by
  have hx : a ^^^ b < 2 ^ 32 := Nat.xor_lt_two_pow (by omega) (by omega)
  show IntKind.u32.wrap ((BitVec.ofInt 32 (a : Int) ^^^ BitVec.ofInt 32 (b : Int)).toNat : Int) = _
  rw [BitVec.toNat_xor, ofInt_u32 a ha, ofInt_u32 b hb, w_u32 (by omega) (by omega)]
theorem xor_w (x y : W) : bits .xor .u32 (wv x) (wv y) = wv (x ^^^ y) := by
  have h1 := x.isLt; have h2 := y.isLt
  unfold wv
  rw [xor_u32 _ _ (by omega) (by omega), BitVec.toNat_xor]
theorem not_w (x : W) : bits .xor .u32 (IntKind.max .u32) (wv x) = wv (~~~x) := by
  have e : (IntKind.max .u32 : Int) = wv (BitVec.allOnes 32) := by decide
  rw [e, xor_w, BitVec.allOnes_xor]
theorem add_w (x y : W) : IntKind.u32.wrap (wv x + wv y) = wv (x + y) := by
  unfold wv
  rw [BitVec.toNat_add, show ((x.toNat : Int) + (y.toNat : Int)) = ((x.toNat + y.toNat : Nat) : Int) by simp, wrap_nat]
theorem shr_w (x : W) {n : Int} (h : 0 ≤ n) (h2 : n ≤ 32) : shrI .u32 (wv x) n = wv (x >>> n.toNat) := by
  unfold wv shrI
  have e : min n.toNat (IntKind.bits .u32) = n.toNat := by
    show min n.toNat 32 = _
    omega
  rw [e, BitVec.toNat_ushiftRight, Nat.shiftRight_eq_div_pow, Int.fdiv_eq_ediv_of_nonneg _ (by exact Int.le_of_lt (Int.pow_pos (by decide)))]
  simp
theorem shl_w (x : W) {n : Int} (h : 0 ≤ n) (h2 : n ≤ 32) : shlI .u32 (wv x) n = wv (x <<< n.toNat) := by
  unfold wv shlI
  have e : min n.toNat (IntKind.bits .u32) = n.toNat := by
    show min n.toNat 32 = _
    omega
  rw [e, BitVec.toNat_shiftLeft, Nat.shiftLeft_eq]
  have e2 : ((x.toNat : Int) * 2 ^ n.toNat) = ((x.toNat * 2 ^ n.toNat : Nat) : Int) := by simp
  rw [e2, wrap_nat]
def rotr (x : W) (n : Nat) : W := (x >>> n) ||| (x <<< (32 - n))
def sg0 (x : W) : W := (rotr x 7 ^^^ rotr x 18) ^^^ (x >>> 3)
def sg1 (x : W) : W := (rotr x 17 ^^^ rotr x 19) ^^^ (x >>> 10)
def bsg1 (e : W) : W := (rotr e 6 ^^^ rotr e 11) ^^^ rotr e 25
def bsg0 (a : W) : W := (rotr a 2 ^^^ rotr a 13) ^^^ rotr a 22
def chW (e f g : W) : W := (e &&& f) ||| (~~~e &&& g)
def majW (a b c : W) : W := ((a &&& b) ||| (a &&& c)) ||| (b &&& c)
structure St where
  a : W
  b : W
  c : W
  d : W
  e : W
  f : W
  g : W
  h : W
  deriving DecidableEq
def St.t1 (s : St) (k w : W) : W := (((s.h + bsg1 s.e) + chW s.e s.f s.g) + k) + w
def St.t2 (s : St) : W := bsg0 s.a + majW s.a s.b s.c
def St.round (s : St) (k w : W) : St := ⟨s.t1 k w + s.t2, s.a, s.b, s.c, s.d + s.t1 k w, s.e, s.f, s.g⟩
def St.plus (s v : St) : St := ⟨s.a + v.a, s.b + v.b, s.c + v.c, s.d + v.d, s.e + v.e, s.f + v.f, s.g + v.g, s.h + v.h⟩
def St.list (s : St) : List W := [s.a, s.b, s.c, s.d, s.e, s.f, s.g, s.h]
def kTab : List Int := [1116352408, 1899447441, 3049323471, 3921009573, 961987163, 1508970993, 2453635748, 2870763221, 3624381080, 310598401, 607225278, 1426881987, 1925078388, 2162078206, 2614888103, 3248222580, 3835390401, 4022224774, 264347078, 604807628, 770255983, 1249150122, 1555081692, 1996064986, 2554220882, 2821834349, 2952996808, 3210313671, 3336571891, 3584528711, 113926993, 338241895, 666307205, 773529912, 1294757372, 1396182291, 1695183700, 1986661051, 2177026350, 2456956037, 2730485921, 2820302411, 3259730800, 3345764771, 3516065817, 3600352804, 4094571909, 275423344, 430227734, 506948616, 659060556, 883997877, 958139571, 1322822218, 1537002063, 1747873779, 1955562222, 2024104815, 2227730452, 2361852424, 2428436474, 2756734187, 3204031479, 3329325298]
def kW (t : Nat) : W := BitVec.ofNat 32 (kTab.getD t 0).toNat
theorem kW_at : ∀ t : Fin 64, kTab[t.val]? = some (wv (kW t.val)) := by decide +kernel
def st0 : St := ⟨1779033703, 3144134277, 1013904242, 2773480762, 1359893119, 2600822924, 528734635, 1541459225⟩
def wNxt (l : List W) : W := ((l.getD (l.length - 16) 0 + l.getD (l.length - 7) 0) + sg0 (l.getD (l.length - 15) 0)) + sg1 (l.getD (l.length - 2) 0)
def wExt : Nat → List W → List W
  | 0, l => l
  | n + 1, l => wExt n (l ++ [wNxt l])
theorem wExt_succ : ∀ (n : Nat) (l : List W), wExt (n + 1) l = wExt n l ++ [wNxt (wExt n l)]
  | 0, _ => rfl
  | n + 1, l => by
    show wExt (n + 1) (l ++ [wNxt l]) = _
    rw [wExt_succ n (l ++ [wNxt l])]
    rfl
theorem wExt_len : ∀ (n : Nat) (l : List W), (wExt n l).length = l.length + n
  | 0, _ => rfl
  | n + 1, l => by
    show (wExt n (l ++ [wNxt l])).length = _
    rw [wExt_len n, List.length_append]
    simp only [List.length_cons, List.length_nil]
    omega
def be32 (a b c d : UInt8) : W := ((BitVec.ofNat 32 a.toNat <<< 24 ||| BitVec.ofNat 32 b.toNat <<< 16) ||| BitVec.ofNat 32 c.toNat <<< 8) ||| BitVec.ofNat 32 d.toNat
def wordAt (b : List UInt8) (i : Nat) : W := be32 (b.getD (4 * i) 0) (b.getD (4 * i + 1) 0) (b.getD (4 * i + 2) 0) (b.getD (4 * i + 3) 0)
def words16 (b : List UInt8) : List W := (List.range 16).map (wordAt b)
def sched (b : List UInt8) : List W := wExt 48 (words16 b)
theorem sched_len (b : List UInt8) : (sched b).length = 64 := by
  unfold sched
  rw [wExt_len]
  simp [words16]
def rnds (ws : List W) : Nat → St → St
  | 0, s => s
  | n + 1, s => (rnds ws n s).round (kW n) (ws.getD n 0)
def St.block (s : St) (b : List UInt8) : St := s.plus (rnds (sched b) 64 s)
def absorb : Nat → St → List UInt8 → St × List UInt8
  | 0, s, l => (s, l)
  | f + 1, s, l => if 64 ≤ l.length then absorb f (s.block (l.take 64)) (l.drop 64) else (s, l)
theorem absorb_more : ∀ (f g : Nat) (s : St) (l : List UInt8), l.length < 64 * (f + 1) → l.length < 64 * (g + 1) → absorb f s l = absorb g s l
  | 0, 0, _, _, _, _ => rfl
  | 0, g + 1, s, l, h, _ => by unfold absorb; rw [if_neg (by omega)]
  | f + 1, 0, s, l, _, h => by unfold absorb; rw [if_neg (by omega)]
  | f + 1, g + 1, s, l, h1, h2 => by
    unfold absorb
    by_cases h : 64 ≤ l.length
    · rw [if_pos h, if_pos h, absorb_more f g _ _ (by rw [List.length_drop]; omega) (by rw [List.length_drop]; omega)]
    · rw [if_neg h, if_neg h]
def eat (s : St) (l : List UInt8) : St × List UInt8 := absorb l.length s l
theorem eat_small {s : St} {l : List UInt8} (h : l.length < 64) : eat s l = (s, l) := by
  unfold eat
  rw [absorb_more l.length 0 s l (by omega) (by omega)]
  rfl
theorem eat_step {s : St} {l : List UInt8} (h : 64 ≤ l.length) : eat s l = eat (s.block (l.take 64)) (l.drop 64) := by
  unfold eat
  rw [absorb_more l.length (l.length + 1) s l (by omega) (by omega)]
  conv => lhs; unfold absorb
  rw [if_pos h]
  exact absorb_more _ _ _ _ (by rw [List.length_drop]; omega) (by rw [List.length_drop]; omega)
theorem eat_app : ∀ (n : Nat) (s : St) (a b : List UInt8), a.length ≤ n → eat s (a ++ b) = eat (eat s a).1 ((eat s a).2 ++ b)
  | n, s, a, b, h => by
    by_cases hc : 64 ≤ a.length
    · cases n with
      | zero => omega
      | succ n =>
        rw [eat_step (l := a ++ b) (by rw [List.length_append]; omega), eat_step hc, List.take_append_of_le_length hc, List.drop_append_of_le_length hc]
        exact eat_app n _ _ _ (by rw [List.length_drop]; omega)
    · rw [eat_small (l := a) (by omega)]
theorem eat_rest : ∀ (n : Nat) (s : St) (a : List UInt8), a.length ≤ n → (eat s a).2.length < 64 ∧ (eat s a).2.length = a.length % 64
  | n, s, a, h => by
    by_cases hc : 64 ≤ a.length
    · cases n with
      | zero => omega
      | succ n =>
        rw [eat_step hc]
        have := eat_rest n (s.block (a.take 64)) (a.drop 64) (by rw [List.length_drop]; omega)
        rw [List.length_drop] at this
        omega
    · rw [eat_small (by omega)]
      dsimp only
      omega
def zpad (n : Nat) : Nat := (119 - n % 64) % 64
def be64 (n : Nat) : List UInt8 := (List.range 8).map fun i => UInt8.ofNat (n / 2 ^ (56 - 8 * i))
def padded (r : List UInt8) (n : Nat) : List UInt8 := ((r ++ [128]) ++ List.replicate (zpad r.length) 0) ++ be64 (8 * n)
def be4 (x : W) : List UInt8 := [UInt8.ofNat (x.toNat / 16777216), UInt8.ofNat (x.toNat / 65536), UInt8.ofNat (x.toNat / 256), UInt8.ofNat x.toNat]
def St.bytes (s : St) : List UInt8 := s.list.flatMap be4
def sha (l : List UInt8) : List UInt8 := (eat st0 (padded l l.length)).1.bytes
theorem padded_len (r : List UInt8) (n : Nat) : (padded r n).length % 64 = 0 := by
  unfold padded zpad be64
  simp only [List.length_append, List.length_cons, List.length_nil, List.length_replicate, List.length_map, List.length_range]
  omega
theorem sha_eat (l : List UInt8) : (eat (eat st0 l).1 (padded (eat st0 l).2 l.length)).1.bytes = sha l := by
  unfold sha
  have h := eat_rest _ st0 l (Nat.le_refl _)
  have e : padded l l.length = l ++ (([128] ++ List.replicate (zpad (eat st0 l).2.length) 0) ++ be64 (8 * l.length)) := by
    unfold padded
    have : zpad l.length = zpad (eat st0 l).2.length := by
      unfold zpad
      rw [h.2, Nat.mod_mod]
    rw [this]
    simp
  rw [e, eat_app _ _ _ _ (Nat.le_refl _)]
  unfold padded
  simp
theorem sha_len (l : List UInt8) : (sha l).length = 32 := by
  unfold sha St.bytes St.list
  simp [be4]
end Go.Sh
namespace Go.Proofs
open Go.Shelf
def Tryz.lays105_ren : Go.Shelf.Ren := ⟨fun | 105 => 82 | 212 => 127 | 99 => 128 | 165 => 129 | 166 => 130 | 170 => 131 | 169 => 126 | 263 => 172 | 264 => 173 | 206 => 174 | 240 => 175 | 241 => 176 | 276 => 203 | 277 => 204 | n => n, fun | 9 => 9 | 3 => 3 | 4 => 4 | 20 => 20 | 0 => 0 | 46 => 217 | 109 => 237 | 5 => 5 | 72 => 234 | 76 => 243 | 51 => 197 | 146 => 276 | 53 => 40 | 148 => 278 | 70 => 232 | 37 => 115 | 75 => 242 | 127 => 275 | 164 => 299 | 80 => 236 | n => n, fun | n => n⟩
theorem Tryz.lays105 : Go.Proofs.Lays.n105 Tryz.prog Tryz.lays105_ren := {
  mixed := by kernel_rfl
  f99 := Tryz.func128.trans (congrArg some (by kernel_rfl))
  f105 := Tryz.func82.trans (congrArg some (by kernel_rfl))
  f165 := Tryz.func129.trans (congrArg some (by kernel_rfl))
  f166 := Tryz.func130.trans (congrArg some (by kernel_rfl))
  f169 := Tryz.func126.trans (congrArg some (by kernel_rfl))
  f170 := Tryz.func131.trans (congrArg some (by kernel_rfl))
  f206 := Tryz.func174.trans (congrArg some (by kernel_rfl))
  f212 := Tryz.func127.trans (congrArg some (by kernel_rfl))
  f240 := Tryz.func175.trans (congrArg some (by kernel_rfl))
  f241 := Tryz.func176.trans (congrArg some (by kernel_rfl))
  f263 := Tryz.func172.trans (congrArg some (by kernel_rfl))
  f264 := Tryz.func173.trans (congrArg some (by kernel_rfl))
  f276 := Tryz.func203.trans (congrArg some (by kernel_rfl))
  f277 := Tryz.func204.trans (congrArg some (by kernel_rfl))
  t0 := Tryz.underlying0
  a0 := Tryz.isAgg0
  z0 := Tryz.sizeOf0
  v0 := Tryz.zeroValue0
  t3 := Tryz.underlying3
  a3 := Tryz.isAgg3
  z3 := Tryz.sizeOf3
  v3 := Tryz.zeroValue3
  t4 := Tryz.underlying4
  a4 := Tryz.isAgg4
  z4 := Tryz.sizeOf4
  v4 := Tryz.zeroValue4
  t5 := Tryz.underlying5
  a5 := Tryz.isAgg5
  z5 := Tryz.sizeOf5
  v5 := Tryz.zeroValue5
  t9 := Tryz.underlying9
  a9 := Tryz.isAgg9
  z9 := Tryz.sizeOf9
  v9 := Tryz.zeroValue9
  t20 := Tryz.underlying20
  a20 := Tryz.isAgg20
  z20 := Tryz.sizeOf20
  v20 := Tryz.zeroValue20
  t37 := Tryz.underlying115
  a37 := Tryz.isAgg115
  z37 := Tryz.sizeOf115
  v37 := Tryz.zeroValue115
  t46 := Tryz.underlying217
  a46 := Tryz.isAgg217
  z46 := Tryz.sizeOf217
  v46 := Tryz.zeroValue217
  t51 := Tryz.underlying197
  a51 := Tryz.isAgg197
  z51 := Tryz.sizeOf197
  v51 := Tryz.zeroValue197
  t53 := Tryz.underlying40
  a53 := Tryz.isAgg40
  z53 := Tryz.sizeOf40
  v53 := Tryz.zeroValue40
  t70 := Tryz.underlying232
  a70 := Tryz.isAgg232
  z70 := Tryz.sizeOf232
  v70 := Tryz.zeroValue232
  t72 := Tryz.underlying234
  a72 := Tryz.isAgg234
  z72 := Tryz.sizeOf234
  v72 := Tryz.zeroValue234
  t75 := Tryz.underlying242
  a75 := Tryz.isAgg242
  z75 := Tryz.sizeOf242
  v75 := Tryz.zeroValue242
  t76 := Tryz.underlying243
  a76 := Tryz.isAgg243
  z76 := Tryz.sizeOf243
  v76 := Tryz.zeroValue243
  t109 := Tryz.underlying237
  a109 := Tryz.isAgg237
  z109 := Tryz.sizeOf237
  v109 := Tryz.zeroValue237
  t127 := Tryz.underlying275
  a127 := Tryz.isAgg275
  z127 := Tryz.sizeOf275
  v127 := Tryz.zeroValue275
  t146 := Tryz.underlying276
  a146 := Tryz.isAgg276
  z146 := Tryz.sizeOf276
  v146 := Tryz.zeroValue276
  t148 := Tryz.underlying278
  a148 := Tryz.isAgg278
  z148 := Tryz.sizeOf278
  v148 := Tryz.zeroValue278
  t164 := Tryz.underlying299
  a164 := Tryz.isAgg299
  z164 := Tryz.sizeOf299
  v164 := Tryz.zeroValue299 }
theorem Tryz.Builder_Extra_105 : Builder.Extra Tryz.prog Tryz.lays105_ren := {
  sizeBuilder := by kernel_rfl
  liesBuilder := by kernel_rfl
  t5 := Tryz.underlying5
  a5 := Tryz.isAgg5
  z5 := Tryz.sizeOf5
  v5 := Tryz.zeroValue5
  infoByte := by kernel_rfl
  cellsByte := by kernel_rfl
  sizeByte := by kernel_rfl
  neB5 := by decide }
open Go.RowKit Go.Lib in
theorem Tryz.strings_Repeat (s : ByteArray) (c : Nat) (w : World) (hc : c ≤ 9223372036854775807) (hlen : s.size * c ≤ 140737488355328) :
    Calls Tryz.prog 82 #[.string s, .int .i64 c] w fun e w' => e = .returned (.string ⟨(Lib.repeatL s.data.toList c).toArray⟩) ∧ Below w.heap.size w w' := Any.strings_Repeat Tryz.lays105 Tryz.Builder_Extra_105 s c w hc hlen
end Go.Proofs
namespace Go.Sh
open Go.Proofs Go.RowKit Go.ChangeShapes Go.WideShapes
set_option maxRecDepth 8000
theorem callee_below {P : Program} {f : FuncId} {fn : Func} {c : Code} {F : FT} (hf : P.funcs[f]? = some fn) (hb : fn.body = some c) (hn : (fn.name == "runtime.NumGoroutine") = false)
    (h : ∀ args K E H, F args K E H → ∃ v, K v H ∧ ∀ w, Calls P f args.toArray w fun e w' => e = .returned v ∧ Below w.heap.size w w') : zca P f F := by
  intro args K E H w hS hF
  obtain ⟨v, hk, hc⟩ := h args K E H hF
  have hr : (callFunc f args.toArray).run P w = .ok (.enter f args.toArray) w := by
    have hbody : fn.body.isNone = false := by rw [hb]; rfl
    show (match P.funcs[f]? with | none => stuck "call: no such function" | some fn => _ : Sem Next).run P w = _
    rw [hf]
    simp only [hn, hbody, Bool.false_eq_true, if_false]
    rfl
  rw [hr]
  refine (hc w).mono fun e w' ⟨he, hB⟩ => ?_
  subst he
  refine ⟨H, fun b o ho => ?_, ⟨hB.os, hB.tape, hB.output, hB.size, fun b hb hn => ⟨hB.block b hb, hn⟩⟩, hk⟩
  have ho2 := hS b o ho
  rw [hB.block b (Array.getElem?_eq_some_iff.1 ho2).1]
  exact ho2
structure strings_Repeat.c (s : ByteArray) (n : Int) (K : ByteArray → Heap → Prop) (E : Value → Heap → Prop) (H : Heap) : Prop where
  h : 0 ≤ n ∧ n ≤ 9223372036854775807 ∧ s.size * n.toNat ≤ 140737488355328 ∧ K ⟨(Lib.repeatL s.data.toList n.toNat).toArray⟩ H
def strings_Repeat.F : FT := fun args K E H => match args with
  | [.string s, .int .i64 n] => strings_Repeat.c s n (fun x H => K (.string x) H) E H
  | _ => False
theorem strings_Repeat.ok : zca Tryz.prog 82 strings_Repeat.F := by
  refine callee_below (fn := Tryz.f82) (c := Tryz.f82.body.getD .skip) (by kernel_rfl) (by kernel_rfl) (by kernel_rfl) ?_
  intro args K E H h
  unfold strings_Repeat.F at h
  split at h
  · rename_i s n
    obtain ⟨h0, h1, h2, hk⟩ := h.h
    refine ⟨_, hk, fun w => ?_⟩
    have := Tryz.strings_Repeat s n.toNat w (by omega) h2
    rw [show ((n.toNat : Nat) : Int) = n by omega] at this
    exact this
  · exact h.elim
end Go.Sh
namespace Go.Sh
open Go.Proofs
set_option linter.unusedVariables false
set_option maxRecDepth 8000
namespace ztc
noncomputable def body : Code := Tryz.f162.body.getD .skip
def J2.vc (n0 : Int) (i0 : Int) (x0 : Int) (x1 : Int) (x2 : Int) (x3 : Int) (x4 : Int) (x5 : Bool) (Kn : HP) (Kr : Int → HP) (E : VH) (h0 : Heap) : Prop :=
 (if x5 = true then
 Kr i0 h0
 else
 Kn h0)
structure J2 (n0 : Int) (i0 : Int) (x0 : Int) (x1 : Int) (x2 : Int) (x3 : Int) (x4 : Int) (x5 : Bool) (Kn : HP) (Kr : Int → HP) (E : VH) (H : Heap) : Prop where
  h : J2.vc n0 i0 x0 x1 x2 x3 x4 x5 Kn Kr E H
def J3.vc (n0 : Int) (x0 : Int) (x1 : Int) (x2 : Int) (x3 : Int) (x4 : Int) (Kn : Int → HP) (E : VH) (h0 : Heap) : Prop :=
 Kn (IntKind.i64.wrap (x4 + 1)) h0
structure J3 (n0 : Int) (x0 : Int) (x1 : Int) (x2 : Int) (x3 : Int) (x4 : Int) (Kn : Int → HP) (E : VH) (H : Heap) : Prop where
  h : J3.vc n0 x0 x1 x2 x3 x4 Kn E H
def W1.vc (n0 : Int) (x0 : Int) (x1 : Int) (x2 : Int) (x3 : Int) (x4 : Int) (Kx0 : HP) (Kr : Int → HP) (RR : Int → HP) (E : VH) (h0 : Heap) : Prop :=
 (if (decide (x4 < 4)) = true then
 (0 : Int) ≤ x4 ∧ x4 < ((4 : Nat) : Int) ∧ ∃ v0, (#[(.int .i64 x0), (.int .i64 x1), (.int .i64 x2), (.int .i64 x3)] : Array Value)[x4.toNat]? = some v0 ∧ ∃ x5, v0 = (.int .i64 x5) ∧
 (if (decide (n0 ≥ 0)) = true then
 (0 : Int) ≤ (IntKind.i64.wrap ((IntKind.i64.wrap (8 * x5)) - 2)) ∧
 J2 n0 x4 x0 x1 x2 x3 x4 ((shrI .i64 n0 (IntKind.i64.wrap ((IntKind.i64.wrap (8 * x5)) - 2))) == 0) (fun h1 =>
 J3 n0 x0 x1 x2 x3 x4 RR E h1) Kr E h0
 else
 J2 n0 x4 x0 x1 x2 x3 x4 false (fun h4 =>
 J3 n0 x0 x1 x2 x3 x4 RR E h4) Kr E h0)
 else
 Kx0 h0)
structure W1 (n0 : Int) (x0 : Int) (x1 : Int) (x2 : Int) (x3 : Int) (x4 : Int) (Kx0 : HP) (Kr : Int → HP) (E : VH) (H : Heap) : Prop where
  h : Loop (fun (RR : Int → HP) (s : Int) (H : Heap) => W1.vc n0 x0 x1 x2 x3 s Kx0 Kr (fun x4 H => RR (x4) H) E H) (x4) H
def vc (n0 : Int) (K : Int → HP) (E : VH) (h0 : Heap) : Prop :=
 ldI h0 .i64 ((⟨0, 0, none⟩ : Addr).add 0) fun x0 => ldI h0 .i64 ((⟨0, 0, none⟩ : Addr).add 1) fun x1 => ldI h0 .i64 ((⟨0, 0, none⟩ : Addr).add 2) fun x2 => ldI h0 .i64 ((⟨0, 0, none⟩ : Addr).add 3) fun x3 =>
 W1 n0 x0 x1 x2 x3 0 (fun h1 =>
 K (-1) h1) K E h0
structure c (n0 : Int) (K : Int → HP) (E : VH) (H : Heap) : Prop where
  h : vc n0 (fun r0_0 H => ∃ H', Heap.Le H' H ∧ K r0_0 H') E H
def F : FT := fun args K E H => match args with
  | [(.int .i64 n0)] => c n0 (fun r0_0 H => K (.int .i64 r0_0) H) E H
  | _ => False
noncomputable def Γ : FuncId → Option FT := Γof []
theorem hΓ : ∀ f F, Γ f = some F → zca Tryz.prog f F := Γof_ok (nilQ)
def r1 (fr : Fr) (t : Nat) (K : Int → Int → Int → Int → Prop) : Prop :=
  match fr.getD t none with
  | some (.agg ⟨[(.int .i64 x0), (.int .i64 x1), (.int .i64 x2), (.int .i64 x3)]⟩) => K x0 x1 x2 x3
  | _ => False
theorem r1_elim {fr : Fr} {t : Nat} {K : Int → Int → Int → Int → Prop} (h : r1 fr t K) : ∃ x0 x1 x2 x3, fr.getD t none = some (.agg #[(.int .i64 x0), (.int .i64 x1), (.int .i64 x2), (.int .i64 x3)]) ∧ K x0 x1 x2 x3 := by
  unfold r1 at h
  split at h
  · rename_i e; exact ⟨_, _, _, _, e, h⟩
  · exact h.elim
def J2.t : CT := fun Q E fr H => lenIs 22 fr (slI fr 0 .i64 fun n0 => slI fr 3 .i64 fun i0 => r1 fr 5 fun x0 x1 x2 x3 => slI fr 6 .i64 fun x4 => slB fr 19 fun x5 => J2 n0 i0 x0 x1 x2 x3 x4 x5 (fun  H => Q .normal (mkF 22 [(0, (.int .i64 n0)), (5, (.agg #[(.int .i64 x0), (.int .i64 x1), (.int .i64 x2), (.int .i64 x3)])), (6, (.int .i64 x4))]) H) (fun y2_0 H => Q .ret (mkF 22 [(2, (.int .i64 y2_0))]) H) E H)
theorem J2.ok : zaa Tryz.prog (sub [1, 0, 1, 0, 0, 1, 1, 0, 0, 1, 1] body) J2.t := by
  refine zda (zea [0, 5, 6] [2] (fun i => []) (zba hΓ Tryz.hm (.go) _ (of_eq_true (by kernel_rfl)))) fun Q E fr H h => ?_
  obtain ⟨hl, h⟩ := zga h
  obtain ⟨n0, q0, h⟩ := zfa h
  obtain ⟨i0, q3, h⟩ := zfa h
  obtain ⟨x0, x1, x2, x3, q5, h⟩ := r1_elim h
  obtain ⟨x4, q6, h⟩ := zfa h
  obtain ⟨x5, q19, h⟩ := zwa h
  exact ⟨(mkF 22 [(0, (.int .i64 n0)), (3, (.int .i64 i0)), (5, (.agg #[(.int .i64 x0), (.int .i64 x1), (.int .i64 x2), (.int .i64 x3)])), (6, (.int .i64 x4)), (19, (.bool x5))]), fun a ha => ha.mk (Nat.le_of_eq hl.symm) (consQ q0 (consQ q3 (consQ q5 (consQ q6 (consQ q19 nilQ))))), cast (by kernel_rfl) h.h⟩
def J3.t : CT := fun Q E fr H => lenIs 22 fr (slI fr 0 .i64 fun n0 => r1 fr 5 fun x0 x1 x2 x3 => slI fr 6 .i64 fun x4 => J3 n0 x0 x1 x2 x3 x4 (fun y6_0 H => Q .normal (mkF 22 [(0, (.int .i64 n0)), (5, (.agg #[(.int .i64 x0), (.int .i64 x1), (.int .i64 x2), (.int .i64 x3)])), (6, (.int .i64 y6_0))]) H) E H)
theorem J3.ok : zaa Tryz.prog (sub [1, 0, 1, 0, 0, 1, 1, 1] body) J3.t := by
  refine zda (zea [0, 5, 6] [] (fun i => []) (zba hΓ Tryz.hm (.go) _ (of_eq_true (by kernel_rfl)))) fun Q E fr H h => ?_
  obtain ⟨hl, h⟩ := zga h
  obtain ⟨n0, q0, h⟩ := zfa h
  obtain ⟨x0, x1, x2, x3, q5, h⟩ := r1_elim h
  obtain ⟨x4, q6, h⟩ := zfa h
  exact ⟨(mkF 22 [(0, (.int .i64 n0)), (5, (.agg #[(.int .i64 x0), (.int .i64 x1), (.int .i64 x2), (.int .i64 x3)])), (6, (.int .i64 x4))]), fun a ha => ha.mk (Nat.le_of_eq hl.symm) (consQ q0 (consQ q5 (consQ q6 nilQ))), cast (by kernel_rfl) h.h⟩
def W1.t : CT := fun Q E fr H => lenIs 22 fr (slI fr 0 .i64 fun n0 => r1 fr 5 fun x0 x1 x2 x3 => slI fr 6 .i64 fun x4 => W1 n0 x0 x1 x2 x3 x4 (fun  H => Q (.exit 0) (mkF 22 []) H) (fun y2_0 H => Q .ret (mkF 22 [(2, (.int .i64 y2_0))]) H) E H)
theorem W1.ok : zaa Tryz.prog (sub [1, 0, 1, 0] body) W1.t := by
  have e : (sub [1, 0, 1, 0] body) = .loop (sub [1, 0, 1, 0, 0] body) := by kernel_rfl
  rw [e]
  refine zda (zqa (zea [0, 5, 6] [2] (fun i => if i = 0 then [] else []) (zba hΓ Tryz.hm (.seq (.go) (.seq (.go) (.seq (.block (.seq (.go) (.seq (.go) (.use J2.t)))) (.use J3.t)))) _ (of_eq (show _ = (True ∧ (True ∧ ((True ∧ (True ∧ (zaa Tryz.prog (sub [1, 0, 1, 0, 0, 1, 1, 0, 0, 1, 1] body) J2.t))) ∧ (zaa Tryz.prog (sub [1, 0, 1, 0, 0, 1, 1, 1] body) J3.t)))) by kernel_rfl) ⟨trivial, ⟨trivial, ⟨⟨trivial, ⟨trivial, J2.ok⟩⟩, J3.ok⟩⟩⟩)))) fun Q E fr H h => ?_
  obtain ⟨hl, h⟩ := zga h
  obtain ⟨n0, q0, h⟩ := zfa h
  obtain ⟨x0, x1, x2, x3, q5, h⟩ := r1_elim h
  obtain ⟨x4, q6, h⟩ := zfa h
  obtain ⟨m, h⟩ := h.h
  exact ⟨(mkF 22 [(0, (.int .i64 n0)), (5, (.agg #[(.int .i64 x0), (.int .i64 x1), (.int .i64 x2), (.int .i64 x3)])), (6, (.int .i64 x4))]), fun a ha => ha.mk (Nat.le_of_eq hl.symm) (consQ q0 (consQ q5 (consQ q6 nilQ))), m, cast (zib (B := (fun (RR : Int → HP) (s : Int) (H : Heap) => W1.vc n0 x0 x1 x2 x3 s (fun  H => Q (.exit 0) (mkF 22 []) H) (fun y2_0 H => Q .ret (mkF 22 [(2, (.int .i64 y2_0))]) H) (fun x4 H => RR (x4) H) E H)) (m := (fun (s : Int) => (mkF 22 [(0, (.int .i64 n0)), (5, (.agg #[(.int .i64 x0), (.int .i64 x1), (.int .i64 x2), (.int .i64 x3)])), (6, (.int .i64 s))]))) (Q := Q) (E := E) (fun RR s H => by kernel_rfl) m (x4) H) h⟩
theorem ok : zca Tryz.prog 162 F := by
  refine zia hΓ (fn := Tryz.f162) (c := body) (by kernel_rfl) (by kernel_rfl) (by kernel_rfl) (zba hΓ Tryz.hm (.seq (.go) (.seq (.seq (.go) (.block (.use W1.t))) (.go))) _ (of_eq (show _ = (True ∧ ((True ∧ (zaa Tryz.prog (sub [1, 0, 1, 0] body) W1.t)) ∧ True)) by kernel_rfl) ⟨trivial, ⟨⟨trivial, W1.ok⟩, trivial⟩⟩)) fun _ K E H h => ?_
  unfold F at h
  split at h
  · exact cast (by kernel_rfl) h.h
  · exact h.elim
end ztc
namespace zac
noncomputable def body : Code := Tryz.f119.body.getD .skip
def W1.vc (n0 : Int) (i0 : Int) (b0 : Option Addr) (b1 : Nat) (b2 : Nat) (x0 : Int) (x1 : Int) (Kx0 : HP) (RR : Int → HP) (E : VH) (h0 : Heap) : Prop :=
 (if (decide (x1 < x0)) = true then
 (0 : Int) ≤ (IntKind.i64.wrap (8 * (IntKind.i64.wrap ((IntKind.i64.wrap ((b1 : Int) - 1)) - x1)))) ∧
 nilc b0 fun a0 => (0 : Int) ≤ x1 ∧ x1 < (b1 : Int) ∧
 stc h0 (a0.add (x1.toNat * 1)) (.int .u8 (IntKind.u8.wrap (shrI .i64 n0 (IntKind.i64.wrap (8 * (IntKind.i64.wrap ((IntKind.i64.wrap ((b1 : Int) - 1)) - x1))))))) fun h1 =>
 RR (IntKind.i64.wrap (x1 + 1)) h1
 else
 Kx0 h0)
structure W1 (n0 : Int) (i0 : Int) (b0 : Option Addr) (b1 : Nat) (b2 : Nat) (x0 : Int) (x1 : Int) (Kx0 : HP) (E : VH) (H : Heap) : Prop where
  h : Loop (fun (RR : Int → HP) (s : Int) (H : Heap) => W1.vc n0 i0 b0 b1 b2 x0 s Kx0 (fun x1 H => RR (x1) H) E H) (x1) H
def vc (n0 : Int) (K : ByteArray → HP) (E : VH) (h0 : Heap) : Prop :=
 ztc.c n0 (fun x0 h1 =>
 (if (decide (x0 < 0)) = true then
 K (⟨#[]⟩ : ByteArray) h1
 else
 (0 : Int) ≤ x0 ∧ x0 < ((4 : Nat) : Int) ∧
 ldI h1 .i64 ((⟨0, 0, none⟩ : Addr).add (x0.toNat * 1)) fun x1 =>
 (0 : Int) ≤ x1 ∧ (x1 : Int) ≤ x1 ∧ (x1 : Int) ≤ 9223372036854775807 ∧ (x1 : Int) * 1 ≤ 281474976710656 ∧ newB (.cells (zub (.int .u8 0) x1.toNat).toArray 5) (fun b0 h2 =>
 W1 n0 x0 (some (⟨b0, 0, none⟩ : Addr)) x1.toNat x1.toNat (x1.toNat : Int) 0 (fun h3 =>
 nilc (some (⟨b0, 0, none⟩ : Addr)) fun a0 => (0 : Int) ≤ 0 ∧ 0 < (x1.toNat : Int) ∧
 ldI h3 .u8 (a0.add (0 * 1)) fun x2 =>
 (0 : Int) ≤ 6 ∧
 nilc (some (⟨b0, 0, none⟩ : Addr)) fun a1 => (0 : Int) ≤ 0 ∧ 0 < (x1.toNat : Int) ∧
 stc h3 (a1.add (0 * 1)) (.int .u8 (bits .or .u8 x2 (shlI .u8 (IntKind.u8.wrap x0) 6))) fun h4 =>
 rdBytes h4 (some (⟨b0, 0, none⟩ : Addr)) x1.toNat fun x3 =>
 K x3 h4) E h2) h1)) E h0
structure c (n0 : Int) (K : ByteArray → HP) (E : VH) (H : Heap) : Prop where
  h : vc n0 (fun r0_0 H => ∃ H', Heap.Le H' H ∧ K r0_0 H') E H
def F : FT := fun args K E H => match args with
  | [(.int .i64 n0)] => c n0 (fun r0_0 H => K (.string r0_0) H) E H
  | _ => False
noncomputable def Γ : FuncId → Option FT := Γof [(162, ztc.F)]
theorem hΓ : ∀ f F, Γ f = some F → zca Tryz.prog f F := Γof_ok (consQ ztc.ok (nilQ))
def W1.t : CT := fun Q E fr H => lenIs 42 fr (slI fr 0 .i64 fun n0 => slI fr 3 .i64 fun i0 => slSl fr 4 fun b0 b1 b2 => slI fr 15 .i64 fun x0 => slI fr 16 .i64 fun x1 => W1 n0 i0 b0 b1 b2 x0 x1 (fun  H => Q (.exit 0) (mkF 42 [(3, (.int .i64 i0)), (4, (.slice b0 b1 b2))]) H) E H)
theorem W1.ok : zaa Tryz.prog (sub [1, 1, 1, 1, 0, 1, 0] body) W1.t := by
  have e : (sub [1, 1, 1, 1, 0, 1, 0] body) = .loop (sub [1, 1, 1, 1, 0, 1, 0, 0] body) := by kernel_rfl
  rw [e]
  refine zda (zqa (zea [0, 3, 4, 15, 16] [] (fun i => if i = 0 then [3, 4] else []) (zba hΓ Tryz.hm (.go) _ (of_eq_true (by kernel_rfl))))) fun Q E fr H h => ?_
  obtain ⟨hl, h⟩ := zga h
  obtain ⟨n0, q0, h⟩ := zfa h
  obtain ⟨i0, q3, h⟩ := zfa h
  obtain ⟨b0, b1, b2, q4, h⟩ := zta h
  obtain ⟨x0, q15, h⟩ := zfa h
  obtain ⟨x1, q16, h⟩ := zfa h
  obtain ⟨m, h⟩ := h.h
  exact ⟨(mkF 42 [(0, (.int .i64 n0)), (3, (.int .i64 i0)), (4, (.slice b0 b1 b2)), (15, (.int .i64 x0)), (16, (.int .i64 x1))]), fun a ha => ha.mk (Nat.le_of_eq hl.symm) (consQ q0 (consQ q3 (consQ q4 (consQ q15 (consQ q16 nilQ))))), m, cast (zib (B := (fun (RR : Int → HP) (s : Int) (H : Heap) => W1.vc n0 i0 b0 b1 b2 x0 s (fun  H => Q (.exit 0) (mkF 42 [(3, (.int .i64 i0)), (4, (.slice b0 b1 b2))]) H) (fun x1 H => RR (x1) H) E H)) (m := (fun (s : Int) => (mkF 42 [(0, (.int .i64 n0)), (3, (.int .i64 i0)), (4, (.slice b0 b1 b2)), (15, (.int .i64 x0)), (16, (.int .i64 s))]))) (Q := Q) (E := E) (fun RR s H => by kernel_rfl) m (x1) H) h⟩
theorem ok : zca Tryz.prog 119 F := by
  refine zia hΓ (fn := Tryz.f119) (c := body) (by kernel_rfl) (by kernel_rfl) (by kernel_rfl) (zba hΓ Tryz.hm (.seq (.go) (.seq (.go) (.seq (.go) (.seq (.go) (.seq (.seq (.go) (.block (.use W1.t))) (.go)))))) _ (of_eq (show _ = (True ∧ (True ∧ (True ∧ (True ∧ ((True ∧ (zaa Tryz.prog (sub [1, 1, 1, 1, 0, 1, 0] body) W1.t)) ∧ True))))) by kernel_rfl) ⟨trivial, ⟨trivial, ⟨trivial, ⟨trivial, ⟨⟨trivial, W1.ok⟩, trivial⟩⟩⟩⟩⟩)) fun _ K E H h => ?_
  unfold F at h
  split at h
  · exact cast (by kernel_rfl) h.h
  · exact h.elim
end zac
namespace zec
noncomputable def body : Code := Tryz.f67.body.getD .skip
def vc (s0 : ByteArray) (K : ByteArray → HP) (E : VH) (h0 : Heap) : Prop :=
 zac.c (s0.size : Int) (fun x0 h1 =>
 x0.size + s0.size ≤ 9223372036854775807 ∧
 K (x0 ++ s0) h1) E h0
structure c (s0 : ByteArray) (K : ByteArray → HP) (E : VH) (H : Heap) : Prop where
  h : vc s0 (fun r0_0 H => ∃ H', Heap.Le H' H ∧ K r0_0 H') E H
def F : FT := fun args K E H => match args with
  | [(.string s0)] => c s0 (fun r0_0 H => K (.string r0_0) H) E H
  | _ => False
noncomputable def Γ : FuncId → Option FT := Γof [(119, zac.F)]
theorem hΓ : ∀ f F, Γ f = some F → zca Tryz.prog f F := Γof_ok (consQ zac.ok (nilQ))
theorem ok : zca Tryz.prog 67 F := by
  refine zia hΓ (fn := Tryz.f67) (c := body) (by kernel_rfl) (by kernel_rfl) (by kernel_rfl) (zba hΓ Tryz.hm (.go) _ (of_eq_true (by kernel_rfl))) fun _ K E H h => ?_
  unfold F at h
  split at h
  · exact cast (by kernel_rfl) h.h
  · exact h.elim
end zec
namespace sha_first
noncomputable def body : Code := Tryz.f198.body.getD .skip
def vc (K : Int → Int → Int → Int → Int → Int → Int → Int → HP) (E : VH) (h0 : Heap) : Prop :=
 newB (.cells #[(.int .u32 0), (.int .u32 0), (.int .u32 0), (.int .u32 0), (.int .u32 0), (.int .u32 0), (.int .u32 0), (.int .u32 0)] 207) (fun b0 h1 =>
 (#[(.int .u32 1779033703), (.int .u32 3144134277), (.int .u32 1013904242), (.int .u32 2773480762), (.int .u32 1359893119), (.int .u32 2600822924), (.int .u32 528734635), (.int .u32 1541459225)] : Array Value).size = 8 ∧ stRow (⟨b0, 0, none⟩ : Addr) (#[(.int .u32 1779033703), (.int .u32 3144134277), (.int .u32 1013904242), (.int .u32 2773480762), (.int .u32 1359893119), (.int .u32 2600822924), (.int .u32 528734635), (.int .u32 1541459225)] : Array Value).toList (fun h2 =>
 ldI h2 .u32 ((⟨b0, 0, none⟩ : Addr).add 0) fun r0 => ldI h2 .u32 ((⟨b0, 0, none⟩ : Addr).add 1) fun r1 => ldI h2 .u32 ((⟨b0, 0, none⟩ : Addr).add 2) fun r2 => ldI h2 .u32 ((⟨b0, 0, none⟩ : Addr).add 3) fun r3 => ldI h2 .u32 ((⟨b0, 0, none⟩ : Addr).add 4) fun r4 => ldI h2 .u32 ((⟨b0, 0, none⟩ : Addr).add 5) fun r5 => ldI h2 .u32 ((⟨b0, 0, none⟩ : Addr).add 6) fun r6 => ldI h2 .u32 ((⟨b0, 0, none⟩ : Addr).add 7) fun r7 =>
 K r0 r1 r2 r3 r4 r5 r6 r7 h2) h1) h0
structure c (K : Int → Int → Int → Int → Int → Int → Int → Int → HP) (E : VH) (H : Heap) : Prop where
  h : vc  (fun r0_0 r0_1 r0_2 r0_3 r0_4 r0_5 r0_6 r0_7 H => ∃ H', Heap.Le H' H ∧ K r0_0 r0_1 r0_2 r0_3 r0_4 r0_5 r0_6 r0_7 H') E H
def F : FT := fun args K E H => match args with
  | [] => c  (fun r0_0 r0_1 r0_2 r0_3 r0_4 r0_5 r0_6 r0_7 H => K (.agg #[(.int .u32 r0_0), (.int .u32 r0_1), (.int .u32 r0_2), (.int .u32 r0_3), (.int .u32 r0_4), (.int .u32 r0_5), (.int .u32 r0_6), (.int .u32 r0_7)]) H) E H
  | _ => False
noncomputable def Γ : FuncId → Option FT := Γof []
theorem hΓ : ∀ f F, Γ f = some F → zca Tryz.prog f F := Γof_ok (nilQ)
theorem ok : zca Tryz.prog 198 F := by
  refine zia hΓ (fn := Tryz.f198) (c := body) (by kernel_rfl) (by kernel_rfl) (by kernel_rfl) (zba hΓ Tryz.hm (.go) _ (of_eq_true (by kernel_rfl))) fun _ K E H h => ?_
  unfold F at h
  split at h
  · exact cast (by kernel_rfl) h.h
  · exact h.elim
end sha_first
namespace zme
noncomputable def body : Code := Tryz.f159.body.getD .skip
def vc (K : Option Addr → HP) (E : VH) (h0 : Heap) : Prop :=
 sha_first.c (fun x0 x1 x2 x3 x4 x5 x6 x7 h1 =>
 newB (.cells #[(.int .u32 x0), (.int .u32 x1), (.int .u32 x2), (.int .u32 x3), (.int .u32 x4), (.int .u32 x5), (.int .u32 x6), (.int .u32 x7), (.slice none 0 0), (.int .u64 0)] 209) (fun b0 h2 =>
 K (some (⟨b0, 0, none⟩ : Addr)) h2) h1) E h0
structure c (K : Option Addr → HP) (E : VH) (H : Heap) : Prop where
  h : vc  (fun r0_0 H => ∃ H', Heap.Le H' H ∧ K r0_0 H') E H
def F : FT := fun args K E H => match args with
  | [] => c  (fun r0_0 H => K (.pointer r0_0) H) E H
  | _ => False
noncomputable def Γ : FuncId → Option FT := Γof [(198, sha_first.F)]
theorem hΓ : ∀ f F, Γ f = some F → zca Tryz.prog f F := Γof_ok (consQ sha_first.ok (nilQ))
theorem ok : zca Tryz.prog 159 F := by
  refine zia hΓ (fn := Tryz.f159) (c := body) (by kernel_rfl) (by kernel_rfl) (by kernel_rfl) (zba hΓ Tryz.hm (.go) _ (of_eq_true (by kernel_rfl))) fun _ K E H h => ?_
  unfold F at h
  split at h
  · exact cast (by kernel_rfl) h.h
  · exact h.elim
end zme
namespace zwe
noncomputable def body : Code := Tryz.f225.body.getD .skip
def vc (x0 : Int) (k0 : Int) (K : Int → HP) (E : VH) (h0 : Heap) : Prop :=
 (0 : Int) ≤ (bits .and .u64 (IntKind.u64.wrap k0) 31) ∧
 (0 : Int) ≤ (IntKind.u64.wrap (32 - (bits .and .u64 (IntKind.u64.wrap k0) 31))) ∧
 K (bits .or .u32 (shlI .u32 x0 (bits .and .u64 (IntKind.u64.wrap k0) 31)) (shrI .u32 x0 (IntKind.u64.wrap (32 - (bits .and .u64 (IntKind.u64.wrap k0) 31))))) h0
structure c (x0 : Int) (k0 : Int) (K : Int → HP) (E : VH) (H : Heap) : Prop where
  h : vc x0 k0 (fun r0_0 H => ∃ H', Heap.Le H' H ∧ K r0_0 H') E H
def F : FT := fun args K E H => match args with
  | [(.int .u32 x0), (.int .i64 k0)] => c x0 k0 (fun r0_0 H => K (.int .u32 r0_0) H) E H
  | _ => False
noncomputable def Γ : FuncId → Option FT := Γof []
theorem hΓ : ∀ f F, Γ f = some F → zca Tryz.prog f F := Γof_ok (nilQ)
theorem ok : zca Tryz.prog 225 F := by
  refine zia hΓ (fn := Tryz.f225) (c := body) (by kernel_rfl) (by kernel_rfl) (by kernel_rfl) (zba hΓ Tryz.hm (.go) _ (of_eq_true (by kernel_rfl))) fun _ K E H h => ?_
  unfold F at h
  split at h
  · exact cast (by kernel_rfl) h.h
  · exact h.elim
end zwe
namespace zpc
noncomputable def body : Code := Tryz.f218.body.getD .skip
def vc (x0 : Int) (n0 : Int) (K : Int → HP) (E : VH) (h0 : Heap) : Prop :=
 zwe.c x0 (IntKind.i64.wrap (0 - n0)) K E h0
structure c (x0 : Int) (n0 : Int) (K : Int → HP) (E : VH) (H : Heap) : Prop where
  h : vc x0 n0 (fun r0_0 H => ∃ H', Heap.Le H' H ∧ K r0_0 H') E H
def F : FT := fun args K E H => match args with
  | [(.int .u32 x0), (.int .i64 n0)] => c x0 n0 (fun r0_0 H => K (.int .u32 r0_0) H) E H
  | _ => False
noncomputable def Γ : FuncId → Option FT := Γof [(225, zwe.F)]
theorem hΓ : ∀ f F, Γ f = some F → zca Tryz.prog f F := Γof_ok (consQ zwe.ok (nilQ))
theorem ok : zca Tryz.prog 218 F := by
  refine zia hΓ (fn := Tryz.f218) (c := body) (by kernel_rfl) (by kernel_rfl) (by kernel_rfl) (zba hΓ Tryz.hm (.go) _ (of_eq_true (by kernel_rfl))) fun _ K E H h => ?_
  unfold F at h
  split at h
  · exact cast (by kernel_rfl) h.h
  · exact h.elim
end zpc
namespace zma
noncomputable def body : Code := Tryz.f199.body.getD .skip
def W1.vc (h0 : Option Addr) (b0 : Option Addr) (b1 : Nat) (b2 : Nat) (w0 : Addr) (x0 : Int) (Kx0 : HP) (RR : Int → HP) (E : VH) (h1 : Heap) : Prop :=
 (if (decide (x0 < 16)) = true then
 nilc b0 fun a0 => (0 : Int) ≤ (IntKind.i64.wrap (4 * x0)) ∧ (IntKind.i64.wrap (4 * x0)) < (b1 : Int) ∧
 ldI h1 .u8 (a0.add ((IntKind.i64.wrap (4 * x0)).toNat * 1)) fun x1 =>
 (0 : Int) ≤ 24 ∧
 nilc b0 fun a1 => (0 : Int) ≤ (IntKind.i64.wrap ((IntKind.i64.wrap (4 * x0)) + 1)) ∧ (IntKind.i64.wrap ((IntKind.i64.wrap (4 * x0)) + 1)) < (b1 : Int) ∧
 ldI h1 .u8 (a1.add ((IntKind.i64.wrap ((IntKind.i64.wrap (4 * x0)) + 1)).toNat * 1)) fun x2 =>
 (0 : Int) ≤ 16 ∧
 nilc b0 fun a2 => (0 : Int) ≤ (IntKind.i64.wrap ((IntKind.i64.wrap (4 * x0)) + 2)) ∧ (IntKind.i64.wrap ((IntKind.i64.wrap (4 * x0)) + 2)) < (b1 : Int) ∧
 ldI h1 .u8 (a2.add ((IntKind.i64.wrap ((IntKind.i64.wrap (4 * x0)) + 2)).toNat * 1)) fun x3 =>
 (0 : Int) ≤ 8 ∧
 nilc b0 fun a3 => (0 : Int) ≤ (IntKind.i64.wrap ((IntKind.i64.wrap (4 * x0)) + 3)) ∧ (IntKind.i64.wrap ((IntKind.i64.wrap (4 * x0)) + 3)) < (b1 : Int) ∧
 ldI h1 .u8 (a3.add ((IntKind.i64.wrap ((IntKind.i64.wrap (4 * x0)) + 3)).toNat * 1)) fun x4 =>
 (0 : Int) ≤ x0 ∧ x0 < ((64 : Nat) : Int) ∧
 stc h1 (w0.add (x0.toNat * 1)) (.int .u32 (bits .or .u32 (bits .or .u32 (bits .or .u32 (shlI .u32 (IntKind.u32.wrap x1) 24) (shlI .u32 (IntKind.u32.wrap x2) 16)) (shlI .u32 (IntKind.u32.wrap x3) 8)) (IntKind.u32.wrap x4))) fun h2 =>
 RR (IntKind.i64.wrap (x0 + 1)) h2
 else
 Kx0 h1)
structure W1 (h0 : Option Addr) (b0 : Option Addr) (b1 : Nat) (b2 : Nat) (w0 : Addr) (x0 : Int) (Kx0 : HP) (E : VH) (H : Heap) : Prop where
  h : Loop (fun (RR : Int → HP) (s : Int) (H : Heap) => W1.vc h0 b0 b1 b2 w0 s Kx0 (fun x0 H => RR (x0) H) E H) (x0) H
def W2.vc (h0 : Option Addr) (w0 : Addr) (t0 : Int) (Kx2 : HP) (RR : Int → HP) (E : VH) (h1 : Heap) : Prop :=
 (if (decide (t0 < 64)) = true then
 (0 : Int) ≤ (IntKind.i64.wrap (t0 - 15)) ∧ (IntKind.i64.wrap (t0 - 15)) < ((64 : Nat) : Int) ∧
 ldI h1 .u32 (w0.add ((IntKind.i64.wrap (t0 - 15)).toNat * 1)) fun x0 =>
 (0 : Int) ≤ (IntKind.i64.wrap (t0 - 2)) ∧ (IntKind.i64.wrap (t0 - 2)) < ((64 : Nat) : Int) ∧
 ldI h1 .u32 (w0.add ((IntKind.i64.wrap (t0 - 2)).toNat * 1)) fun x1 =>
 (0 : Int) ≤ (IntKind.i64.wrap (t0 - 16)) ∧ (IntKind.i64.wrap (t0 - 16)) < ((64 : Nat) : Int) ∧
 ldI h1 .u32 (w0.add ((IntKind.i64.wrap (t0 - 16)).toNat * 1)) fun x2 =>
 (0 : Int) ≤ (IntKind.i64.wrap (t0 - 7)) ∧ (IntKind.i64.wrap (t0 - 7)) < ((64 : Nat) : Int) ∧
 ldI h1 .u32 (w0.add ((IntKind.i64.wrap (t0 - 7)).toNat * 1)) fun x3 =>
 (0 : Int) ≤ 3 ∧
 (0 : Int) ≤ 10 ∧
 zpc.c x0 7 (fun x4 h2 =>
 (ldI h2 .u32 (w0.add ((IntKind.i64.wrap (t0 - 7)).toNat * 1)) fun x5 =>
 eqv h2 h2 (some (.int .u32 x3)) (.int .u32 x5)) ∧
 (ldI h2 .u32 (w0.add ((IntKind.i64.wrap (t0 - 16)).toNat * 1)) fun x6 =>
 eqv h2 h2 (some (.int .u32 x2)) (.int .u32 x6)) ∧
 zpc.c x0 18 (fun x7 h3 =>
 (ldI h3 .u32 (w0.add ((IntKind.i64.wrap (t0 - 7)).toNat * 1)) fun x8 =>
 eqv h3 h3 (some (.int .u32 x3)) (.int .u32 x8)) ∧
 (ldI h3 .u32 (w0.add ((IntKind.i64.wrap (t0 - 16)).toNat * 1)) fun x9 =>
 eqv h3 h3 (some (.int .u32 x2)) (.int .u32 x9)) ∧
 zpc.c x1 17 (fun x10 h4 =>
 (ldI h4 .u32 (w0.add ((IntKind.i64.wrap (t0 - 7)).toNat * 1)) fun x11 =>
 eqv h4 h4 (some (.int .u32 x3)) (.int .u32 x11)) ∧
 (ldI h4 .u32 (w0.add ((IntKind.i64.wrap (t0 - 16)).toNat * 1)) fun x12 =>
 eqv h4 h4 (some (.int .u32 x2)) (.int .u32 x12)) ∧
 zpc.c x1 19 (fun x13 h5 =>
 (ldI h5 .u32 (w0.add ((IntKind.i64.wrap (t0 - 7)).toNat * 1)) fun x14 =>
 eqv h5 h5 (some (.int .u32 x3)) (.int .u32 x14)) ∧
 (ldI h5 .u32 (w0.add ((IntKind.i64.wrap (t0 - 16)).toNat * 1)) fun x15 =>
 eqv h5 h5 (some (.int .u32 x2)) (.int .u32 x15)) ∧
 (0 : Int) ≤ t0 ∧ t0 < ((64 : Nat) : Int) ∧
 stc h5 (w0.add (t0.toNat * 1)) (.int .u32 (IntKind.u32.wrap ((IntKind.u32.wrap ((IntKind.u32.wrap (x2 + x3)) + (bits .xor .u32 (bits .xor .u32 x4 x7) (shrI .u32 x0 3)))) + (bits .xor .u32 (bits .xor .u32 x10 x13) (shrI .u32 x1 10))))) fun h6 =>
 RR (IntKind.i64.wrap (t0 + 1)) h6) E h4) E h3) E h2) E h1
 else
 Kx2 h1)
structure W2 (h0 : Option Addr) (w0 : Addr) (t0 : Int) (Kx2 : HP) (E : VH) (H : Heap) : Prop where
  h : Loop (fun (RR : Int → HP) (s : Int) (H : Heap) => W2.vc h0 w0 s Kx2 (fun t0 H => RR (t0) H) E H) (t0) H
def W3.vc (h0 : Option Addr) (w0 : Addr) (v0 : Addr) (x0 : Array Value) (x1 : Int) (Kx4 : HP) (RR : Int → HP) (E : VH) (h1 : Heap) : Prop :=
 (if (decide (x1 < 64)) = true then
 (0 : Int) ≤ x1 ∧ x1 < ((64 : Nat) : Int) ∧ ∃ v1, (x0 : Array Value)[x1.toNat]? = some v1 ∧ ∃ x2, v1 = (.int .u32 x2) ∧
 (0 : Int) ≤ 0 ∧ 0 < ((8 : Nat) : Int) ∧
 ldI h1 .u32 (v0.add (0 * 1)) fun x3 =>
 (0 : Int) ≤ 1 ∧ 1 < ((8 : Nat) : Int) ∧
 ldI h1 .u32 (v0.add (1 * 1)) fun x4 =>
 (0 : Int) ≤ 2 ∧ 2 < ((8 : Nat) : Int) ∧
 ldI h1 .u32 (v0.add (2 * 1)) fun x5 =>
 (0 : Int) ≤ 4 ∧ 4 < ((8 : Nat) : Int) ∧
 ldI h1 .u32 (v0.add (4 * 1)) fun x6 =>
 (0 : Int) ≤ 5 ∧ 5 < ((8 : Nat) : Int) ∧
 ldI h1 .u32 (v0.add (5 * 1)) fun x7 =>
 (0 : Int) ≤ 6 ∧ 6 < ((8 : Nat) : Int) ∧
 ldI h1 .u32 (v0.add (6 * 1)) fun x8 =>
 (0 : Int) ≤ 7 ∧ 7 < ((8 : Nat) : Int) ∧
 ldI h1 .u32 (v0.add (7 * 1)) fun x9 =>
 (0 : Int) ≤ x1 ∧ x1 < ((64 : Nat) : Int) ∧
 ldI h1 .u32 (w0.add (x1.toNat * 1)) fun x10 =>
 zpc.c x6 6 (fun x11 h2 =>
 (ldI h2 .u32 (w0.add (x1.toNat * 1)) fun x12 =>
 eqv h2 h2 (some (.int .u32 x10)) (.int .u32 x12)) ∧
 (ldI h2 .u32 (v0.add (7 * 1)) fun x13 =>
 eqv h2 h2 (some (.int .u32 x9)) (.int .u32 x13)) ∧
 zpc.c x6 11 (fun x14 h3 =>
 (ldI h3 .u32 (w0.add (x1.toNat * 1)) fun x15 =>
 eqv h3 h3 (some (.int .u32 x10)) (.int .u32 x15)) ∧
 (ldI h3 .u32 (v0.add (7 * 1)) fun x16 =>
 eqv h3 h3 (some (.int .u32 x9)) (.int .u32 x16)) ∧
 zpc.c x6 25 (fun x17 h4 =>
 (ldI h4 .u32 (w0.add (x1.toNat * 1)) fun x18 =>
 eqv h4 h4 (some (.int .u32 x10)) (.int .u32 x18)) ∧
 (ldI h4 .u32 (v0.add (7 * 1)) fun x19 =>
 eqv h4 h4 (some (.int .u32 x9)) (.int .u32 x19)) ∧
 zpc.c x3 2 (fun x20 h5 =>
 zpc.c x3 13 (fun x21 h6 =>
 zpc.c x3 22 (fun x22 h7 =>
 (0 : Int) ≤ 3 ∧ 3 < ((8 : Nat) : Int) ∧
 ldI h7 .u32 (v0.add (3 * 1)) fun x23 =>
 (#[(.int .u32 (IntKind.u32.wrap ((IntKind.u32.wrap ((IntKind.u32.wrap ((IntKind.u32.wrap ((IntKind.u32.wrap (x9 + (bits .xor .u32 (bits .xor .u32 x11 x14) x17))) + (bits .or .u32 (bits .and .u32 x6 x7) (bits .and .u32 (bits .xor .u32 (IntKind.max .u32) x6) x8)))) + x2)) + x10)) + (IntKind.u32.wrap ((bits .xor .u32 (bits .xor .u32 x20 x21) x22) + (bits .or .u32 (bits .or .u32 (bits .and .u32 x3 x4) (bits .and .u32 x3 x5)) (bits .and .u32 x4 x5))))))), (.int .u32 x3), (.int .u32 x4), (.int .u32 x5), (.int .u32 (IntKind.u32.wrap (x23 + (IntKind.u32.wrap ((IntKind.u32.wrap ((IntKind.u32.wrap ((IntKind.u32.wrap (x9 + (bits .xor .u32 (bits .xor .u32 x11 x14) x17))) + (bits .or .u32 (bits .and .u32 x6 x7) (bits .and .u32 (bits .xor .u32 (IntKind.max .u32) x6) x8)))) + x2)) + x10))))), (.int .u32 x6), (.int .u32 x7), (.int .u32 x8)] : Array Value).size = 8 ∧ stRow v0 (#[(.int .u32 (IntKind.u32.wrap ((IntKind.u32.wrap ((IntKind.u32.wrap ((IntKind.u32.wrap ((IntKind.u32.wrap (x9 + (bits .xor .u32 (bits .xor .u32 x11 x14) x17))) + (bits .or .u32 (bits .and .u32 x6 x7) (bits .and .u32 (bits .xor .u32 (IntKind.max .u32) x6) x8)))) + x2)) + x10)) + (IntKind.u32.wrap ((bits .xor .u32 (bits .xor .u32 x20 x21) x22) + (bits .or .u32 (bits .or .u32 (bits .and .u32 x3 x4) (bits .and .u32 x3 x5)) (bits .and .u32 x4 x5))))))), (.int .u32 x3), (.int .u32 x4), (.int .u32 x5), (.int .u32 (IntKind.u32.wrap (x23 + (IntKind.u32.wrap ((IntKind.u32.wrap ((IntKind.u32.wrap ((IntKind.u32.wrap (x9 + (bits .xor .u32 (bits .xor .u32 x11 x14) x17))) + (bits .or .u32 (bits .and .u32 x6 x7) (bits .and .u32 (bits .xor .u32 (IntKind.max .u32) x6) x8)))) + x2)) + x10))))), (.int .u32 x6), (.int .u32 x7), (.int .u32 x8)] : Array Value).toList (fun h8 =>
 RR (IntKind.i64.wrap (x1 + 1)) h8) h7) E h6) E h5) E h4) E h3) E h2) E h1
 else
 Kx4 h1)
structure W3 (h0 : Option Addr) (w0 : Addr) (v0 : Addr) (x0 : Array Value) (x1 : Int) (Kx4 : HP) (E : VH) (H : Heap) : Prop where
  h : Loop (fun (RR : Int → HP) (s : Int) (H : Heap) => W3.vc h0 w0 v0 x0 s Kx4 (fun x1 H => RR (x1) H) E H) (x1) H
def W4.vc (h0 : Option Addr) (v0 : Addr) (x0 : Int) (Kx6 : HP) (RR : Int → HP) (E : VH) (h1 : Heap) : Prop :=
 (if (decide (x0 < 8)) = true then
 nilc h0 fun a0 =>
 (0 : Int) ≤ x0 ∧ x0 < ((8 : Nat) : Int) ∧
 ldI h1 .u32 (a0.add (x0.toNat * 1)) fun x1 =>
 (0 : Int) ≤ x0 ∧ x0 < ((8 : Nat) : Int) ∧
 ldI h1 .u32 (v0.add (x0.toNat * 1)) fun x2 =>
 nilc h0 fun a1 =>
 (0 : Int) ≤ x0 ∧ x0 < ((8 : Nat) : Int) ∧
 stc h1 (a1.add (x0.toNat * 1)) (.int .u32 (IntKind.u32.wrap (x1 + x2))) fun h2 =>
 RR (IntKind.i64.wrap (x0 + 1)) h2
 else
 Kx6 h1)
structure W4 (h0 : Option Addr) (v0 : Addr) (x0 : Int) (Kx6 : HP) (E : VH) (H : Heap) : Prop where
  h : Loop (fun (RR : Int → HP) (s : Int) (H : Heap) => W4.vc h0 v0 s Kx6 (fun x0 H => RR (x0) H) E H) (x0) H
def vc (h0 : Option Addr) (b0 : Option Addr) (b1 : Nat) (b2 : Nat) (K : HP) (E : VH) (h1 : Heap) : Prop :=
 newB (.cells #[(.int .u32 0), (.int .u32 0), (.int .u32 0), (.int .u32 0), (.int .u32 0), (.int .u32 0), (.int .u32 0), (.int .u32 0), (.int .u32 0), (.int .u32 0), (.int .u32 0), (.int .u32 0), (.int .u32 0), (.int .u32 0), (.int .u32 0), (.int .u32 0), (.int .u32 0), (.int .u32 0), (.int .u32 0), (.int .u32 0), (.int .u32 0), (.int .u32 0), (.int .u32 0), (.int .u32 0), (.int .u32 0), (.int .u32 0), (.int .u32 0), (.int .u32 0), (.int .u32 0), (.int .u32 0), (.int .u32 0), (.int .u32 0), (.int .u32 0), (.int .u32 0), (.int .u32 0), (.int .u32 0), (.int .u32 0), (.int .u32 0), (.int .u32 0), (.int .u32 0), (.int .u32 0), (.int .u32 0), (.int .u32 0), (.int .u32 0), (.int .u32 0), (.int .u32 0), (.int .u32 0), (.int .u32 0), (.int .u32 0), (.int .u32 0), (.int .u32 0), (.int .u32 0), (.int .u32 0), (.int .u32 0), (.int .u32 0), (.int .u32 0), (.int .u32 0), (.int .u32 0), (.int .u32 0), (.int .u32 0), (.int .u32 0), (.int .u32 0), (.int .u32 0), (.int .u32 0)] 312) (fun b3 h2 =>
 W1 h0 b0 b1 b2 (⟨b3, 0, none⟩ : Addr) 0 (fun h3 =>
 W2 h0 (⟨b3, 0, none⟩ : Addr) 16 (fun h4 =>
 nilc h0 fun a0 =>
 ldI h4 .u32 (a0.add 0) fun x0 => ldI h4 .u32 (a0.add 1) fun x1 => ldI h4 .u32 (a0.add 2) fun x2 => ldI h4 .u32 (a0.add 3) fun x3 => ldI h4 .u32 (a0.add 4) fun x4 => ldI h4 .u32 (a0.add 5) fun x5 => ldI h4 .u32 (a0.add 6) fun x6 => ldI h4 .u32 (a0.add 7) fun x7 =>
 newB (.cells #[(.int .u32 0), (.int .u32 0), (.int .u32 0), (.int .u32 0), (.int .u32 0), (.int .u32 0), (.int .u32 0), (.int .u32 0)] 207) (fun b4 h5 =>
 (#[(.int .u32 x0), (.int .u32 x1), (.int .u32 x2), (.int .u32 x3), (.int .u32 x4), (.int .u32 x5), (.int .u32 x6), (.int .u32 x7)] : Array Value).size = 8 ∧ stRow (⟨b4, 0, none⟩ : Addr) (#[(.int .u32 x0), (.int .u32 x1), (.int .u32 x2), (.int .u32 x3), (.int .u32 x4), (.int .u32 x5), (.int .u32 x6), (.int .u32 x7)] : Array Value).toList (fun h6 =>
 ldRow h6 (⟨1, 0, none⟩ : Addr) 64 fun cs0 =>
 W3 h0 (⟨b3, 0, none⟩ : Addr) (⟨b4, 0, none⟩ : Addr) cs0.toArray 0 (fun h7 =>
 W4 h0 (⟨b4, 0, none⟩ : Addr) 0 K E h7) E h6) h5) h4) E h3) E h2) h1
structure c (h0 : Option Addr) (b0 : Option Addr) (b1 : Nat) (b2 : Nat) (K : HP) (E : VH) (H : Heap) : Prop where
  h : vc h0 b0 b1 b2 (fun  H => ∃ H', Heap.Le H' H ∧ K  H') E H
def F : FT := fun args K E H => match args with
  | [(.pointer h0), (.slice b0 b1 b2)] => c h0 b0 b1 b2 (fun  H => K (.tuple #[]) H) E H
  | _ => False
noncomputable def Γ : FuncId → Option FT := Γof [(218, zpc.F)]
theorem hΓ : ∀ f F, Γ f = some F → zca Tryz.prog f F := Γof_ok (consQ zpc.ok (nilQ))
def W1.t : CT := fun Q E fr H => lenIs 197 fr (slP fr 0 fun h0 => slSl fr 1 fun b0 b1 b2 => slPA fr 4 fun w0 => slI fr 21 .i64 fun x0 => W1 h0 b0 b1 b2 w0 x0 (fun  H => Q (.exit 0) (mkF 197 [(0, (.pointer h0)), (4, (.pointer (some w0)))]) H) E H)
theorem W1.ok : zaa Tryz.prog (sub [1, 0, 1, 0] body) W1.t := by
  have e : (sub [1, 0, 1, 0] body) = .loop (sub [1, 0, 1, 0, 0] body) := by kernel_rfl
  rw [e]
  refine zda (zqa (zea [0, 1, 4, 21] [] (fun i => if i = 0 then [0, 4] else []) (zba hΓ Tryz.hm (.seq (.go) (.seq (.go) (.seq (.block (.seq (.go) (.draw ⟨[0, 1, 2, 3, 4, 5, 6, 7, 8, 9, 10, 11, 12, 13, 14, 15, 16, 17, 18, 19, 20, 21, 22, 23, 24, 25, 26, 27, 28, 29, 30, 31, 32, 33, 34, 35], (dl [(0, []), (1, []), (2, []), (3, []), (4, []), (5, []), (6, []), (7, []), (8, []), (9, []), (10, []), (11, []), (12, []), (13, []), (14, []), (15, []), (16, []), (17, []), (18, []), (19, []), (20, []), (21, []), (22, []), (23, []), (24, []), (25, []), (26, []), (27, []), (28, []), (29, []), (30, []), (31, []), (32, []), (33, []), (34, []), (35, [34, 33, 0, 1, 2, 3, 4, 5, 6, 7, 8, 9, 10, 11, 12, 13, 14, 15, 16, 17, 18, 19, 20, 21, 22, 23, 24, 25, 26, 27, 28, 29, 30, 31, 32])] .fin), []⟩))) (.go)))) _ (of_eq (show _ = (True ∧ (True ∧ ((True ∧ True) ∧ True))) by kernel_rfl) ⟨trivial, ⟨trivial, ⟨⟨trivial, trivial⟩, trivial⟩⟩⟩)))) fun Q E fr H h => ?_
  obtain ⟨hl, h⟩ := zga h
  obtain ⟨h0, q0, h⟩ := zja h
  obtain ⟨b0, b1, b2, q1, h⟩ := zta h
  obtain ⟨w0, q4, h⟩ := zua h
  obtain ⟨x0, q21, h⟩ := zfa h
  obtain ⟨m, h⟩ := h.h
  exact ⟨(mkF 197 [(0, (.pointer h0)), (1, (.slice b0 b1 b2)), (4, (.pointer (some w0))), (21, (.int .i64 x0))]), fun a ha => ha.mk (Nat.le_of_eq hl.symm) (consQ q0 (consQ q1 (consQ q4 (consQ q21 nilQ)))), m, cast (zib (B := (fun (RR : Int → HP) (s : Int) (H : Heap) => W1.vc h0 b0 b1 b2 w0 s (fun  H => Q (.exit 0) (mkF 197 [(0, (.pointer h0)), (4, (.pointer (some w0)))]) H) (fun x0 H => RR (x0) H) E H)) (m := (fun (s : Int) => (mkF 197 [(0, (.pointer h0)), (1, (.slice b0 b1 b2)), (4, (.pointer (some w0))), (21, (.int .i64 s))]))) (Q := Q) (E := E) (fun RR s H => by kernel_rfl) m (x0) H) h⟩
def W2.t : CT := fun Q E fr H => lenIs 197 fr (slP fr 0 fun h0 => slPA fr 4 fun w0 => slI fr 6 .i64 fun t0 => W2 h0 w0 t0 (fun  H => Q (.exit 2) (mkF 197 [(0, (.pointer h0)), (4, (.pointer (some w0)))]) H) E H)
theorem W2.ok : zaa Tryz.prog (sub [1, 1, 0, 1, 0] body) W2.t := by
  have e : (sub [1, 1, 0, 1, 0] body) = .loop (sub [1, 1, 0, 1, 0, 0] body) := by kernel_rfl
  rw [e]
  refine zda (zqa (zea [0, 4, 6] [] (fun i => if i = 2 then [0, 4] else []) (zba hΓ Tryz.hm (.seq (.go) (.seq (.block (.seq (.draw ⟨[0, 1, 2, 3, 4, 5, 6, 7, 8], (dl [(0, []), (1, []), (2, []), (3, []), (4, []), (5, []), (6, []), (7, []), (8, [])] .fin), [9]⟩) (.draw ⟨[0, 1, 2, 3, 4, 5, 6, 7, 8, 9, 10, 11, 12, 13, 14, 15, 16, 17, 18, 19, 20, 21, 22, 23, 24, 25, 26, 27, 28, 29], (dl [(0, []), (1, []), (2, []), (3, []), (4, []), (5, []), (6, []), (7, []), (8, []), (9, []), (10, []), (12, []), (15, []), (16, []), (19, []), (21, []), (24, []), (25, []), (11, [10]), (13, [12, 11, 10]), (14, []), (17, []), (18, []), (20, [19, 13, 12, 11, 10]), (22, [21, 20, 19, 13, 12, 11, 10]), (23, []), (26, []), (27, []), (28, []), (29, [28, 27, 22, 0, 1, 2, 3, 4, 5, 6, 7, 8, 9, 10, 11, 12, 13, 14, 15, 16, 17, 18, 19, 20, 21, 23, 24, 25, 26])] .fin), []⟩))) (.go))) _ (of_eq (show _ = (True ∧ ((True ∧ True) ∧ True)) by kernel_rfl) ⟨trivial, ⟨⟨trivial, trivial⟩, trivial⟩⟩)))) fun Q E fr H h => ?_
  obtain ⟨hl, h⟩ := zga h
  obtain ⟨h0, q0, h⟩ := zja h
  obtain ⟨w0, q4, h⟩ := zua h
  obtain ⟨t0, q6, h⟩ := zfa h
  obtain ⟨m, h⟩ := h.h
  exact ⟨(mkF 197 [(0, (.pointer h0)), (4, (.pointer (some w0))), (6, (.int .i64 t0))]), fun a ha => ha.mk (Nat.le_of_eq hl.symm) (consQ q0 (consQ q4 (consQ q6 nilQ))), m, cast (zib (B := (fun (RR : Int → HP) (s : Int) (H : Heap) => W2.vc h0 w0 s (fun  H => Q (.exit 2) (mkF 197 [(0, (.pointer h0)), (4, (.pointer (some w0)))]) H) (fun t0 H => RR (t0) H) E H)) (m := (fun (s : Int) => (mkF 197 [(0, (.pointer h0)), (4, (.pointer (some w0))), (6, (.int .i64 s))]))) (Q := Q) (E := E) (fun RR s H => by kernel_rfl) m (t0) H) h⟩
def W3.t : CT := fun Q E fr H => lenIs 197 fr (slP fr 0 fun h0 => slPA fr 4 fun w0 => slPA fr 9 fun v0 => slA1 fr 104 fun x0 => slI fr 105 .i64 fun x1 => W3 h0 w0 v0 x0 x1 (fun  H => Q (.exit 4) (mkF 197 [(0, (.pointer h0)), (9, (.pointer (some v0)))]) H) E H)
theorem W3.ok : zaa Tryz.prog (sub [1, 1, 1, 1, 0, 1, 0] body) W3.t := by
  have e : (sub [1, 1, 1, 1, 0, 1, 0] body) = .loop (sub [1, 1, 1, 1, 0, 1, 0, 0] body) := by kernel_rfl
  rw [e]
  refine zda (zqa (zea [0, 4, 9, 104, 105] [] (fun i => if i = 4 then [0, 9] else []) (zba hΓ Tryz.hm (.seq (.go) (.seq (.go) (.seq (.block (.seq (.go) (.seq (.draw ⟨[0, 1, 2, 3, 4, 5, 6, 7, 8, 9, 10, 11, 12, 13, 14, 15, 16], (dl [(0, []), (1, []), (2, []), (3, []), (4, []), (5, []), (6, []), (7, []), (8, []), (9, []), (10, []), (11, []), (12, []), (13, []), (14, []), (15, []), (16, [])] .fin), [17]⟩) (.seq (.draw ⟨[0, 1, 2, 3, 4, 5, 6, 7, 8, 9, 10, 11, 12, 13, 14, 15, 16, 17, 18, 19, 20, 21, 22, 23, 24, 25], (dl [(0, []), (1, []), (2, []), (4, []), (7, []), (11, []), (12, []), (13, []), (14, []), (15, []), (16, []), (17, []), (18, []), (20, []), (22, []), (23, []), (24, []), (3, [2]), (5, [4, 3, 2]), (6, []), (8, [7, 5, 4, 3, 2]), (9, []), (10, []), (19, []), (21, []), (25, [])] .fin), [26]⟩) (.go))))) (.go)))) _ (of_eq (show _ = (True ∧ (True ∧ ((True ∧ (True ∧ (True ∧ True))) ∧ True))) by kernel_rfl) ⟨trivial, ⟨trivial, ⟨⟨trivial, ⟨trivial, ⟨trivial, trivial⟩⟩⟩, trivial⟩⟩⟩)))) fun Q E fr H h => ?_
  obtain ⟨hl, h⟩ := zga h
  obtain ⟨h0, q0, h⟩ := zja h
  obtain ⟨w0, q4, h⟩ := zua h
  obtain ⟨v0, q9, h⟩ := zua h
  obtain ⟨x0, q104, h⟩ := slA1_elim h
  obtain ⟨x1, q105, h⟩ := zfa h
  obtain ⟨m, h⟩ := h.h
  exact ⟨(mkF 197 [(0, (.pointer h0)), (4, (.pointer (some w0))), (9, (.pointer (some v0))), (104, (.agg x0)), (105, (.int .i64 x1))]), fun a ha => ha.mk (Nat.le_of_eq hl.symm) (consQ q0 (consQ q4 (consQ q9 (consQ q104 (consQ q105 nilQ))))), m, cast (zib (B := (fun (RR : Int → HP) (s : Int) (H : Heap) => W3.vc h0 w0 v0 x0 s (fun  H => Q (.exit 4) (mkF 197 [(0, (.pointer h0)), (9, (.pointer (some v0)))]) H) (fun x1 H => RR (x1) H) E H)) (m := (fun (s : Int) => (mkF 197 [(0, (.pointer h0)), (4, (.pointer (some w0))), (9, (.pointer (some v0))), (104, (.agg x0)), (105, (.int .i64 s))]))) (Q := Q) (E := E) (fun RR s H => by kernel_rfl) m (x1) H) h⟩
def W4.t : CT := fun Q E fr H => lenIs 197 fr (slP fr 0 fun h0 => slPA fr 9 fun v0 => slI fr 182 .i64 fun x0 => W4 h0 v0 x0 (fun  H => Q (.exit 6) (mkF 197 []) H) E H)
theorem W4.ok : zaa Tryz.prog (sub [1, 1, 1, 1, 1, 1, 0] body) W4.t := by
  have e : (sub [1, 1, 1, 1, 1, 1, 0] body) = .loop (sub [1, 1, 1, 1, 1, 1, 0, 0] body) := by kernel_rfl
  rw [e]
  refine zda (zqa (zea [0, 9, 182] [] (fun i => if i = 6 then [] else []) (zba hΓ Tryz.hm (.seq (.go) (.seq (.go) (.seq (.block (.seq (.go) (.draw ⟨[0, 1, 2, 3, 4, 5, 6, 7, 8, 9, 10, 11], (dl [(0, []), (1, []), (2, []), (3, []), (4, []), (5, []), (6, []), (7, []), (8, []), (9, []), (10, []), (11, [10, 8, 0, 1, 2, 3, 4, 5, 6, 7, 9])] .fin), []⟩))) (.go)))) _ (of_eq (show _ = (True ∧ (True ∧ ((True ∧ True) ∧ True))) by kernel_rfl) ⟨trivial, ⟨trivial, ⟨⟨trivial, trivial⟩, trivial⟩⟩⟩)))) fun Q E fr H h => ?_
  obtain ⟨hl, h⟩ := zga h
  obtain ⟨h0, q0, h⟩ := zja h
  obtain ⟨v0, q9, h⟩ := zua h
  obtain ⟨x0, q182, h⟩ := zfa h
  obtain ⟨m, h⟩ := h.h
  exact ⟨(mkF 197 [(0, (.pointer h0)), (9, (.pointer (some v0))), (182, (.int .i64 x0))]), fun a ha => ha.mk (Nat.le_of_eq hl.symm) (consQ q0 (consQ q9 (consQ q182 nilQ))), m, cast (zib (B := (fun (RR : Int → HP) (s : Int) (H : Heap) => W4.vc h0 v0 s (fun  H => Q (.exit 6) (mkF 197 []) H) (fun x0 H => RR (x0) H) E H)) (m := (fun (s : Int) => (mkF 197 [(0, (.pointer h0)), (9, (.pointer (some v0))), (182, (.int .i64 s))]))) (Q := Q) (E := E) (fun RR s H => by kernel_rfl) m (x0) H) h⟩
theorem ok : zca Tryz.prog 199 F := by
  refine zia hΓ (fn := Tryz.f199) (c := body) (by kernel_rfl) (by kernel_rfl) (by kernel_rfl) (zba hΓ Tryz.hm (.seq (.go) (.seq (.seq (.go) (.block (.use W1.t))) (.seq (.seq (.go) (.block (.use W2.t))) (.seq (.go) (.seq (.seq (.go) (.block (.use W3.t))) (.seq (.go) (.block (.use W4.t)))))))) _ (of_eq (show _ = (True ∧ ((True ∧ (zaa Tryz.prog (sub [1, 0, 1, 0] body) W1.t)) ∧ ((True ∧ (zaa Tryz.prog (sub [1, 1, 0, 1, 0] body) W2.t)) ∧ (True ∧ ((True ∧ (zaa Tryz.prog (sub [1, 1, 1, 1, 0, 1, 0] body) W3.t)) ∧ (True ∧ (zaa Tryz.prog (sub [1, 1, 1, 1, 1, 1, 0] body) W4.t))))))) by kernel_rfl) ⟨trivial, ⟨⟨trivial, W1.ok⟩, ⟨⟨trivial, W2.ok⟩, ⟨trivial, ⟨⟨trivial, W3.ok⟩, ⟨trivial, W4.ok⟩⟩⟩⟩⟩⟩)) fun _ K E H h => ?_
  unfold F at h
  split at h
  · exact cast (by kernel_rfl) h.h
  · exact h.elim
end zma
namespace zoa
noncomputable def body : Code := Tryz.f160.body.getD .skip
def W2.vc (h0 : Option Addr) (Kx0 : HP) (RR : HP) (E : VH) (h1 : Heap) : Prop :=
 nilc h0 fun a0 =>
 ldSl h1 (a0.add 8) fun x0 x1 x2 =>
 (if (decide ((x1 : Int) ≥ 64)) = true then
 nilc h0 fun a1 =>
 nilc h0 fun a2 =>
 ldSl h1 (a2.add 8) fun x3 x4 x5 =>
 (0 : Int) ≤ 64 ∧ 64 ≤ (x5 : Int) ∧
 zma.c (some (a1.add 0)) (slA x3 x5 0 1) 64 x5 (fun h2 =>
 nilc h0 fun a3 =>
 ldSl h2 (a3.add 8) fun x6 x7 x8 =>
 (0 : Int) ≤ 64 ∧ 64 ≤ (x7 : Int) ∧ x7 ≤ x8 ∧
 nilc h0 fun a4 =>
 stc h2 (a4.add 8) (.slice (slA x6 x8 64 1) (x7 - 64) (x8 - 64)) fun h3 =>
 RR h3) E h1
 else
 Kx0 h1)
structure W2 (h0 : Option Addr) (Kx0 : HP) (E : VH) (H : Heap) : Prop where
  h : Loop (fun (RR : Unit → HP) (s : Unit) (H : Heap) => W2.vc h0 Kx0 (fun  H => RR () H) E H) () H
def J1.vc (h0 : Option Addr) (Kn : HP) (E : VH) (h1 : Heap) : Prop :=
 W2 h0 (fun h2 =>
 nilc h0 fun a0 =>
 ldSl h2 (a0.add 8) fun x0 x1 x2 =>
 (if ((x1 : Int) == 0) = true then
 nilc h0 fun a1 =>
 stc h2 (a1.add 8) (.slice none 0 0) fun h3 =>
 Kn h3
 else
 Kn h2)) E h1
structure J1 (h0 : Option Addr) (Kn : HP) (E : VH) (H : Heap) : Prop where
  h : J1.vc h0 Kn E H
def vc (h0 : Option Addr) (s0 : ByteArray) (K : HP) (E : VH) (h1 : Heap) : Prop :=
 nilc h0 fun a0 =>
 ldI h1 .u64 (a0.add 9) fun x0 =>
 nilc h0 fun a1 =>
 stc h1 (a1.add 9) (.int .u64 (IntKind.u64.wrap (x0 + (IntKind.u64.wrap (s0.size : Int))))) fun h2 =>
 nilc h0 fun a2 =>
 ldSl h2 (a2.add 8) fun x1 x2 x3 =>
 appT 5 (.int .u8 0) x1 x2 s0.size x3 1 1 (zxb s0) (fun p0 n0 c0 h3 =>
 nilc h0 fun a3 =>
 stc h3 (a3.add 8) (.slice p0 n0 c0) fun h4 =>
 J1 h0 K E h4) h2
structure c (h0 : Option Addr) (s0 : ByteArray) (K : HP) (E : VH) (H : Heap) : Prop where
  h : vc h0 s0 (fun  H => ∃ H', Heap.Le H' H ∧ K  H') E H
def F : FT := fun args K E H => match args with
  | [(.pointer h0), (.string s0)] => c h0 s0 (fun  H => K (.tuple #[]) H) E H
  | _ => False
noncomputable def Γ : FuncId → Option FT := Γof [(199, zma.F)]
theorem hΓ : ∀ f F, Γ f = some F → zca Tryz.prog f F := Γof_ok (consQ zma.ok (nilQ))
def W2.t : CT := fun Q E fr H => lenIs 55 fr (slP fr 0 fun h0 => W2 h0 (fun  H => Q (.exit 0) (mkF 55 [(0, (.pointer h0))]) H) E H)
theorem W2.ok : zaa Tryz.prog (sub [1, 1, 0, 0] body) W2.t := by
  have e : (sub [1, 1, 0, 0] body) = .loop (sub [1, 1, 0, 0, 0] body) := by kernel_rfl
  rw [e]
  refine zda (zqa (zea [0] [] (fun i => if i = 0 then [0] else []) (zba hΓ Tryz.hm (.seq (.go) (.block (.seq (.draw ⟨[0, 1, 2, 3, 4, 5, 6, 7, 8], (dl [(0, []), (1, []), (2, []), (3, []), (4, []), (5, []), (6, []), (7, []), (8, [2, 7, 1, 6, 0, 5, 4, 3])] .fin), []⟩) (.go)))) _ (of_eq (show _ = (True ∧ (True ∧ True)) by kernel_rfl) ⟨trivial, ⟨trivial, trivial⟩⟩)))) fun Q E fr H h => ?_
  obtain ⟨hl, h⟩ := zga h
  obtain ⟨h0, q0, h⟩ := zja h
  obtain ⟨m, h⟩ := h.h
  exact ⟨(mkF 55 [(0, (.pointer h0))]), fun a ha => ha.mk (Nat.le_of_eq hl.symm) (consQ q0 nilQ), m, cast (zib (B := (fun (RR : Unit → HP) (s : Unit) (H : Heap) => W2.vc h0 (fun  H => Q (.exit 0) (mkF 55 [(0, (.pointer h0))]) H) (fun  H => RR () H) E H)) (m := (fun (s : Unit) => (mkF 55 [(0, (.pointer h0))]))) (Q := Q) (E := E) (fun RR s H => by kernel_rfl) m () H) h⟩
def J1.t : CT := fun Q E fr H => lenIs 55 fr (slP fr 0 fun h0 => J1 h0 (fun  H => Q .normal (mkF 55 []) H) E H)
theorem J1.ok : zaa Tryz.prog (sub [1, 1] body) J1.t := by
  refine zda (zea [] [] (fun i => []) (zba hΓ Tryz.hm (.seq (.block (.use W2.t)) (.go)) _ (of_eq (show _ = ((zaa Tryz.prog (sub [1, 1, 0, 0] body) W2.t) ∧ True) by kernel_rfl) ⟨W2.ok, trivial⟩))) fun Q E fr H h => ?_
  obtain ⟨hl, h⟩ := zga h
  obtain ⟨h0, q0, h⟩ := zja h
  exact ⟨(mkF 55 [(0, (.pointer h0))]), fun a ha => ha.mk (Nat.le_of_eq hl.symm) (consQ q0 nilQ), cast (by kernel_rfl) h.h⟩
theorem ok : zca Tryz.prog 160 F := by
  refine zia hΓ (fn := Tryz.f160) (c := body) (by kernel_rfl) (by kernel_rfl) (by kernel_rfl) (zba hΓ Tryz.hm (.seq (.go) (.seq (.go) (.use J1.t))) _ (of_eq (show _ = (True ∧ (True ∧ (zaa Tryz.prog (sub [1, 1] body) J1.t))) by kernel_rfl) ⟨trivial, ⟨trivial, J1.ok⟩⟩)) fun _ K E H h => ?_
  unfold F at h
  split at h
  · exact cast (by kernel_rfl) h.h
  · exact h.elim
end zoa
namespace zla
noncomputable def body : Code := Tryz.f161.body.getD .skip
def W3.vc (h0 : Option Addr) (x0 : Addr) (b0 : Option Addr) (b1 : Nat) (b2 : Nat) (Kx0 : Option Addr → Nat → Nat → HP) (RR : Option Addr → Nat → Nat → HP) (E : VH) (h1 : Heap) : Prop :=
 64 ≠ (0 : Int) ∧
 (if ((Int.tmod (b1 : Int) 64) != 56) = true then
 newB (.cells #[(.int .u8 0)] 5) (fun b3 h2 =>
 rdRow h2 (some (⟨b3, 0, none⟩ : Addr)) (1 * 1) fun cs0 =>
 appT 5 (.int .u8 0) b0 b1 1 b2 1 1 cs0 (fun p0 n0 c0 h3 =>
 RR p0 n0 c0 h3) h2) h1
 else
 Kx0 b0 b1 b2 h1)
structure W3 (h0 : Option Addr) (x0 : Addr) (b0 : Option Addr) (b1 : Nat) (b2 : Nat) (Kx0 : Option Addr → Nat → Nat → HP) (E : VH) (H : Heap) : Prop where
  h : Loop (fun (RR : Option Addr × Nat × Nat → HP) (s : Option Addr × Nat × Nat) (H : Heap) => W3.vc h0 x0 s.1 s.2.1 s.2.2 Kx0 (fun b0 b1 b2 H => RR (b0, b1, b2) H) E H) (b0, b1, b2) H
def J5.vc (h0 : Option Addr) (x0 : Addr) (b0 : Option Addr) (b1 : Nat) (b2 : Nat) (x1 : Int) (Kn : Int → HP) (E : VH) (h1 : Heap) : Prop :=
 Kn (IntKind.i64.wrap (x1 + 1)) h1
structure J5 (h0 : Option Addr) (x0 : Addr) (b0 : Option Addr) (b1 : Nat) (b2 : Nat) (x1 : Int) (Kn : Int → HP) (E : VH) (H : Heap) : Prop where
  h : J5.vc h0 x0 b0 b1 b2 x1 Kn E H
def W4.vc (h0 : Option Addr) (x0 : Addr) (b0 : Option Addr) (b1 : Nat) (b2 : Nat) (x1 : Int) (Kx2 : Option Addr → Nat → Nat → HP) (RR : Option Addr → Nat → Nat → Int → HP) (E : VH) (h1 : Heap) : Prop :=
 (if (decide (x1 < 8)) = true then
 nilc h0 fun a0 =>
 ldI h1 .u64 (a0.add 9) fun x2 =>
 (0 : Int) ≤ (IntKind.i64.wrap (56 - (IntKind.i64.wrap (8 * x1)))) ∧
 newB (.cells #[(.int .u8 (IntKind.u8.wrap (shrI .u64 (IntKind.u64.wrap (8 * x2)) (IntKind.i64.wrap (56 - (IntKind.i64.wrap (8 * x1)))))))] 5) (fun b3 h2 =>
 rdRow h2 (some (⟨b3, 0, none⟩ : Addr)) (1 * 1) fun cs0 =>
 appT 5 (.int .u8 0) b0 b1 1 b2 1 1 cs0 (fun p0 n0 c0 h3 =>
 J5 h0 x0 p0 n0 c0 x1 (fun x3 h4 =>
 RR p0 n0 c0 x3 h4) E h3) h2) h1
 else
 Kx2 b0 b1 b2 h1)
structure W4 (h0 : Option Addr) (x0 : Addr) (b0 : Option Addr) (b1 : Nat) (b2 : Nat) (x1 : Int) (Kx2 : Option Addr → Nat → Nat → HP) (E : VH) (H : Heap) : Prop where
  h : Loop (fun (RR : Option Addr × Nat × Nat × Int → HP) (s : Option Addr × Nat × Nat × Int) (H : Heap) => W4.vc h0 x0 s.1 s.2.1 s.2.2.1 s.2.2.2 Kx2 (fun b0 b1 b2 x1 H => RR (b0, b1, b2, x1) H) E H) (b0, b1, b2, x1) H
def W6.vc (x0 : Addr) (b0 : Option Addr) (b1 : Nat) (b2 : Nat) (Kx4 : HP) (RR : Option Addr → Nat → Nat → HP) (E : VH) (h0 : Heap) : Prop :=
 (if (decide ((b1 : Int) > 0)) = true then
 (0 : Int) ≤ 64 ∧ 64 ≤ (b2 : Int) ∧
 zma.c (some x0) (slA b0 b2 0 1) 64 b2 (fun h1 =>
 (0 : Int) ≤ 64 ∧ 64 ≤ (b1 : Int) ∧ b1 ≤ b2 ∧
 RR (slA b0 b2 64 1) (b1 - 64) (b2 - 64) h1) E h0
 else
 Kx4 h0)
structure W6 (x0 : Addr) (b0 : Option Addr) (b1 : Nat) (b2 : Nat) (Kx4 : HP) (E : VH) (H : Heap) : Prop where
  h : Loop (fun (RR : Option Addr × Nat × Nat → HP) (s : Option Addr × Nat × Nat) (H : Heap) => W6.vc x0 s.1 s.2.1 s.2.2 Kx4 (fun b0 b1 b2 H => RR (b0, b1, b2) H) E H) (b0, b1, b2) H
def J8.vc (out0 : Option Addr) (out1 : Nat) (out2 : Nat) (x0 : Int) (x1 : Int) (x2 : Int) (x3 : Int) (x4 : Int) (x5 : Int) (x6 : Int) (x7 : Int) (x8 : Int) (Kn : Int → HP) (E : VH) (h0 : Heap) : Prop :=
 Kn (IntKind.i64.wrap (x8 + 1)) h0
structure J8 (out0 : Option Addr) (out1 : Nat) (out2 : Nat) (x0 : Int) (x1 : Int) (x2 : Int) (x3 : Int) (x4 : Int) (x5 : Int) (x6 : Int) (x7 : Int) (x8 : Int) (Kn : Int → HP) (E : VH) (H : Heap) : Prop where
  h : J8.vc out0 out1 out2 x0 x1 x2 x3 x4 x5 x6 x7 x8 Kn E H
def W7.vc (out0 : Option Addr) (out1 : Nat) (out2 : Nat) (x0 : Int) (x1 : Int) (x2 : Int) (x3 : Int) (x4 : Int) (x5 : Int) (x6 : Int) (x7 : Int) (x8 : Int) (Kx6 : Option Addr → Nat → Nat → HP) (RR : Option Addr → Nat → Nat → Int → HP) (E : VH) (h0 : Heap) : Prop :=
 (if (decide (x8 < 8)) = true then
 (0 : Int) ≤ x8 ∧ x8 < ((8 : Nat) : Int) ∧ ∃ v0, (#[(.int .u32 x0), (.int .u32 x1), (.int .u32 x2), (.int .u32 x3), (.int .u32 x4), (.int .u32 x5), (.int .u32 x6), (.int .u32 x7)] : Array Value)[x8.toNat]? = some v0 ∧ ∃ x9, v0 = (.int .u32 x9) ∧
 (0 : Int) ≤ 24 ∧
 (0 : Int) ≤ 16 ∧
 (0 : Int) ≤ 8 ∧
 newB (.cells #[(.int .u8 (IntKind.u8.wrap (shrI .u32 x9 24))), (.int .u8 (IntKind.u8.wrap (shrI .u32 x9 16))), (.int .u8 (IntKind.u8.wrap (shrI .u32 x9 8))), (.int .u8 (IntKind.u8.wrap x9))] 5) (fun b0 h1 =>
 rdRow h1 (some (⟨b0, 0, none⟩ : Addr)) (4 * 1) fun cs0 =>
 appT 5 (.int .u8 0) out0 out1 4 out2 1 1 cs0 (fun p0 n0 c0 h2 =>
 J8 p0 n0 c0 x0 x1 x2 x3 x4 x5 x6 x7 x8 (fun x10 h3 =>
 RR p0 n0 c0 x10 h3) E h2) h1) h0
 else
 Kx6 out0 out1 out2 h0)
structure W7 (out0 : Option Addr) (out1 : Nat) (out2 : Nat) (x0 : Int) (x1 : Int) (x2 : Int) (x3 : Int) (x4 : Int) (x5 : Int) (x6 : Int) (x7 : Int) (x8 : Int) (Kx6 : Option Addr → Nat → Nat → HP) (E : VH) (H : Heap) : Prop where
  h : Loop (fun (RR : Option Addr × Nat × Nat × Int → HP) (s : Option Addr × Nat × Nat × Int) (H : Heap) => W7.vc s.1 s.2.1 s.2.2.1 x0 x1 x2 x3 x4 x5 x6 x7 s.2.2.2 Kx6 (fun out0 out1 out2 x8 H => RR (out0, out1, out2, x8) H) E H) (out0, out1, out2, x8) H
def J2.vc (h0 : Option Addr) (x0 : Addr) (b0 : Option Addr) (b1 : Nat) (b2 : Nat) (Kr : ByteArray → HP) (E : VH) (h1 : Heap) : Prop :=
 W3 h0 x0 b0 b1 b2 (fun b3 b4 b5 h2 =>
 W4 h0 x0 b3 b4 b5 0 (fun b6 b7 b8 h3 =>
 W6 x0 b6 b7 b8 (fun h4 =>
 ldI h4 .u32 (x0.add 0) fun x1 => ldI h4 .u32 (x0.add 1) fun x2 => ldI h4 .u32 (x0.add 2) fun x3 => ldI h4 .u32 (x0.add 3) fun x4 => ldI h4 .u32 (x0.add 4) fun x5 => ldI h4 .u32 (x0.add 5) fun x6 => ldI h4 .u32 (x0.add 6) fun x7 => ldI h4 .u32 (x0.add 7) fun x8 =>
 W7 none 0 0 x1 x2 x3 x4 x5 x6 x7 x8 0 (fun out0 out1 out2 h5 =>
 rdBytes h5 out0 out1 fun x9 =>
 Kr x9 h5) E h4) E h3) E h2) E h1
structure J2 (h0 : Option Addr) (x0 : Addr) (b0 : Option Addr) (b1 : Nat) (b2 : Nat) (Kr : ByteArray → HP) (E : VH) (H : Heap) : Prop where
  h : J2.vc h0 x0 b0 b1 b2 Kr E H
def J1.vc (h0 : Option Addr) (x0 : Addr) (b0 : Option Addr) (b1 : Nat) (b2 : Nat) (Kr : ByteArray → HP) (E : VH) (h1 : Heap) : Prop :=
 newB (.cells #[(.int .u8 128)] 5) (fun b3 h2 =>
 rdRow h2 (some (⟨b3, 0, none⟩ : Addr)) (1 * 1) fun cs0 =>
 appT 5 (.int .u8 0) b0 b1 1 b2 1 1 cs0 (fun p0 n0 c0 h3 =>
 J2 h0 x0 p0 n0 c0 Kr E h3) h2) h1
structure J1 (h0 : Option Addr) (x0 : Addr) (b0 : Option Addr) (b1 : Nat) (b2 : Nat) (Kr : ByteArray → HP) (E : VH) (H : Heap) : Prop where
  h : J1.vc h0 x0 b0 b1 b2 Kr E H
def vc (h0 : Option Addr) (K : ByteArray → HP) (E : VH) (h1 : Heap) : Prop :=
 nilc h0 fun a0 =>
 ldI h1 .u32 ((a0.add 0).add 0) fun x0 => ldI h1 .u32 ((a0.add 0).add 1) fun x1 => ldI h1 .u32 ((a0.add 0).add 2) fun x2 => ldI h1 .u32 ((a0.add 0).add 3) fun x3 => ldI h1 .u32 ((a0.add 0).add 4) fun x4 => ldI h1 .u32 ((a0.add 0).add 5) fun x5 => ldI h1 .u32 ((a0.add 0).add 6) fun x6 => ldI h1 .u32 ((a0.add 0).add 7) fun x7 =>
 newB (.cells #[(.int .u32 0), (.int .u32 0), (.int .u32 0), (.int .u32 0), (.int .u32 0), (.int .u32 0), (.int .u32 0), (.int .u32 0)] 207) (fun b0 h2 =>
 (#[(.int .u32 x0), (.int .u32 x1), (.int .u32 x2), (.int .u32 x3), (.int .u32 x4), (.int .u32 x5), (.int .u32 x6), (.int .u32 x7)] : Array Value).size = 8 ∧ stRow (⟨b0, 0, none⟩ : Addr) (#[(.int .u32 x0), (.int .u32 x1), (.int .u32 x2), (.int .u32 x3), (.int .u32 x4), (.int .u32 x5), (.int .u32 x6), (.int .u32 x7)] : Array Value).toList (fun h3 =>
 newB (.cells #[] 5) (fun b1 h4 =>
 nilc h0 fun a1 =>
 ldSl h4 (a1.add 8) fun x8 x9 x10 =>
 rdRow h4 x8 (x9 * 1) fun cs0 =>
 appT 5 (.int .u8 0) (some (⟨b1, 0, none⟩ : Addr)) 0 x9 0 1 1 cs0 (fun p0 n0 c0 h5 =>
 J1 h0 (⟨b0, 0, none⟩ : Addr) p0 n0 c0 K E h5) h4) h3) h2) h1
structure c (h0 : Option Addr) (K : ByteArray → HP) (E : VH) (H : Heap) : Prop where
  h : vc h0 (fun r0_0 H => ∃ H', Heap.Le H' H ∧ K r0_0 H') E H
def F : FT := fun args K E H => match args with
  | [(.pointer h0)] => c h0 (fun r0_0 H => K (.string r0_0) H) E H
  | _ => False
noncomputable def Γ : FuncId → Option FT := Γof [(199, zma.F)]
theorem hΓ : ∀ f F, Γ f = some F → zca Tryz.prog f F := Γof_ok (consQ zma.ok (nilQ))
def r1 (fr : Fr) (t : Nat) (K : Int → Int → Int → Int → Int → Int → Int → Int → Prop) : Prop :=
  match fr.getD t none with
  | some (.agg ⟨[(.int .u32 x0), (.int .u32 x1), (.int .u32 x2), (.int .u32 x3), (.int .u32 x4), (.int .u32 x5), (.int .u32 x6), (.int .u32 x7)]⟩) => K x0 x1 x2 x3 x4 x5 x6 x7
  | _ => False
theorem r1_elim {fr : Fr} {t : Nat} {K : Int → Int → Int → Int → Int → Int → Int → Int → Prop} (h : r1 fr t K) : ∃ x0 x1 x2 x3 x4 x5 x6 x7, fr.getD t none = some (.agg #[(.int .u32 x0), (.int .u32 x1), (.int .u32 x2), (.int .u32 x3), (.int .u32 x4), (.int .u32 x5), (.int .u32 x6), (.int .u32 x7)]) ∧ K x0 x1 x2 x3 x4 x5 x6 x7 := by
  unfold r1 at h
  split at h
  · rename_i e; exact ⟨_, _, _, _, _, _, _, _, e, h⟩
  · exact h.elim
def W3.t : CT := fun Q E fr H => lenIs 75 fr (slP fr 0 fun h0 => slPA fr 3 fun x0 => slSl fr 4 fun b0 b1 b2 => W3 h0 x0 b0 b1 b2 (fun y4_0 y4_1 y4_2 H => Q (.exit 0) (mkF 75 [(0, (.pointer h0)), (3, (.pointer (some x0))), (4, (.slice y4_0 y4_1 y4_2))]) H) E H)
theorem W3.ok : zaa Tryz.prog (sub [1, 1, 1, 1, 0, 0] body) W3.t := by
  have e : (sub [1, 1, 1, 1, 0, 0] body) = .loop (sub [1, 1, 1, 1, 0, 0, 0] body) := by kernel_rfl
  rw [e]
  refine zda (zqa (zea [0, 3, 4] [] (fun i => if i = 0 then [0, 3, 4] else []) (zba hΓ Tryz.hm (.go) _ (of_eq_true (by kernel_rfl))))) fun Q E fr H h => ?_
  obtain ⟨hl, h⟩ := zga h
  obtain ⟨h0, q0, h⟩ := zja h
  obtain ⟨x0, q3, h⟩ := zua h
  obtain ⟨b0, b1, b2, q4, h⟩ := zta h
  obtain ⟨m, h⟩ := h.h
  exact ⟨(mkF 75 [(0, (.pointer h0)), (3, (.pointer (some x0))), (4, (.slice b0 b1 b2))]), fun a ha => ha.mk (Nat.le_of_eq hl.symm) (consQ q0 (consQ q3 (consQ q4 nilQ))), m, cast (zib (B := (fun (RR : Option Addr × Nat × Nat → HP) (s : Option Addr × Nat × Nat) (H : Heap) => W3.vc h0 x0 s.1 s.2.1 s.2.2 (fun y4_0 y4_1 y4_2 H => Q (.exit 0) (mkF 75 [(0, (.pointer h0)), (3, (.pointer (some x0))), (4, (.slice y4_0 y4_1 y4_2))]) H) (fun b0 b1 b2 H => RR (b0, b1, b2) H) E H)) (m := (fun (s : Option Addr × Nat × Nat) => (mkF 75 [(0, (.pointer h0)), (3, (.pointer (some x0))), (4, (.slice s.1 s.2.1 s.2.2))]))) (Q := Q) (E := E) (fun RR s H => by kernel_rfl) m (b0, b1, b2) H) h⟩
def J5.t : CT := fun Q E fr H => lenIs 75 fr (slP fr 0 fun h0 => slPA fr 3 fun x0 => slSl fr 4 fun b0 b1 b2 => slI fr 29 .i64 fun x1 => J5 h0 x0 b0 b1 b2 x1 (fun y29_0 H => Q .normal (mkF 75 [(0, (.pointer h0)), (3, (.pointer (some x0))), (4, (.slice b0 b1 b2)), (29, (.int .i64 y29_0))]) H) E H)
theorem J5.ok : zaa Tryz.prog (sub [1, 1, 1, 1, 1, 0, 1, 0, 0, 1, 1, 1] body) J5.t := by
  refine zda (zea [0, 3, 4, 29] [] (fun i => []) (zba hΓ Tryz.hm (.go) _ (of_eq_true (by kernel_rfl)))) fun Q E fr H h => ?_
  obtain ⟨hl, h⟩ := zga h
  obtain ⟨h0, q0, h⟩ := zja h
  obtain ⟨x0, q3, h⟩ := zua h
  obtain ⟨b0, b1, b2, q4, h⟩ := zta h
  obtain ⟨x1, q29, h⟩ := zfa h
  exact ⟨(mkF 75 [(0, (.pointer h0)), (3, (.pointer (some x0))), (4, (.slice b0 b1 b2)), (29, (.int .i64 x1))]), fun a ha => ha.mk (Nat.le_of_eq hl.symm) (consQ q0 (consQ q3 (consQ q4 (consQ q29 nilQ)))), cast (by kernel_rfl) h.h⟩
def W4.t : CT := fun Q E fr H => lenIs 75 fr (slP fr 0 fun h0 => slPA fr 3 fun x0 => slSl fr 4 fun b0 b1 b2 => slI fr 29 .i64 fun x1 => W4 h0 x0 b0 b1 b2 x1 (fun y4_0 y4_1 y4_2 H => Q (.exit 2) (mkF 75 [(3, (.pointer (some x0))), (4, (.slice y4_0 y4_1 y4_2))]) H) E H)
theorem W4.ok : zaa Tryz.prog (sub [1, 1, 1, 1, 1, 0, 1, 0] body) W4.t := by
  have e : (sub [1, 1, 1, 1, 1, 0, 1, 0] body) = .loop (sub [1, 1, 1, 1, 1, 0, 1, 0, 0] body) := by kernel_rfl
  rw [e]
  refine zda (zqa (zea [0, 3, 4, 29] [] (fun i => if i = 2 then [3, 4] else []) (zba hΓ Tryz.hm (.seq (.go) (.seq (.go) (.seq (.go) (.use J5.t)))) _ (of_eq (show _ = (True ∧ (True ∧ (True ∧ (zaa Tryz.prog (sub [1, 1, 1, 1, 1, 0, 1, 0, 0, 1, 1, 1] body) J5.t)))) by kernel_rfl) ⟨trivial, ⟨trivial, ⟨trivial, J5.ok⟩⟩⟩)))) fun Q E fr H h => ?_
  obtain ⟨hl, h⟩ := zga h
  obtain ⟨h0, q0, h⟩ := zja h
  obtain ⟨x0, q3, h⟩ := zua h
  obtain ⟨b0, b1, b2, q4, h⟩ := zta h
  obtain ⟨x1, q29, h⟩ := zfa h
  obtain ⟨m, h⟩ := h.h
  exact ⟨(mkF 75 [(0, (.pointer h0)), (3, (.pointer (some x0))), (4, (.slice b0 b1 b2)), (29, (.int .i64 x1))]), fun a ha => ha.mk (Nat.le_of_eq hl.symm) (consQ q0 (consQ q3 (consQ q4 (consQ q29 nilQ)))), m, cast (zib (B := (fun (RR : Option Addr × Nat × Nat × Int → HP) (s : Option Addr × Nat × Nat × Int) (H : Heap) => W4.vc h0 x0 s.1 s.2.1 s.2.2.1 s.2.2.2 (fun y4_0 y4_1 y4_2 H => Q (.exit 2) (mkF 75 [(3, (.pointer (some x0))), (4, (.slice y4_0 y4_1 y4_2))]) H) (fun b0 b1 b2 x1 H => RR (b0, b1, b2, x1) H) E H)) (m := (fun (s : Option Addr × Nat × Nat × Int) => (mkF 75 [(0, (.pointer h0)), (3, (.pointer (some x0))), (4, (.slice s.1 s.2.1 s.2.2.1)), (29, (.int .i64 s.2.2.2))]))) (Q := Q) (E := E) (fun RR s H => by kernel_rfl) m (b0, b1, b2, x1) H) h⟩
def W6.t : CT := fun Q E fr H => lenIs 75 fr (slPA fr 3 fun x0 => slSl fr 4 fun b0 b1 b2 => W6 x0 b0 b1 b2 (fun  H => Q (.exit 4) (mkF 75 [(3, (.pointer (some x0)))]) H) E H)
theorem W6.ok : zaa Tryz.prog (sub [1, 1, 1, 1, 1, 1, 0, 0] body) W6.t := by
  have e : (sub [1, 1, 1, 1, 1, 1, 0, 0] body) = .loop (sub [1, 1, 1, 1, 1, 1, 0, 0, 0] body) := by kernel_rfl
  rw [e]
  refine zda (zqa (zea [3, 4] [] (fun i => if i = 4 then [3] else []) (zba hΓ Tryz.hm (.go) _ (of_eq_true (by kernel_rfl))))) fun Q E fr H h => ?_
  obtain ⟨hl, h⟩ := zga h
  obtain ⟨x0, q3, h⟩ := zua h
  obtain ⟨b0, b1, b2, q4, h⟩ := zta h
  obtain ⟨m, h⟩ := h.h
  exact ⟨(mkF 75 [(3, (.pointer (some x0))), (4, (.slice b0 b1 b2))]), fun a ha => ha.mk (Nat.le_of_eq hl.symm) (consQ q3 (consQ q4 nilQ)), m, cast (zib (B := (fun (RR : Option Addr × Nat × Nat → HP) (s : Option Addr × Nat × Nat) (H : Heap) => W6.vc x0 s.1 s.2.1 s.2.2 (fun  H => Q (.exit 4) (mkF 75 [(3, (.pointer (some x0)))]) H) (fun b0 b1 b2 H => RR (b0, b1, b2) H) E H)) (m := (fun (s : Option Addr × Nat × Nat) => (mkF 75 [(3, (.pointer (some x0))), (4, (.slice s.1 s.2.1 s.2.2))]))) (Q := Q) (E := E) (fun RR s H => by kernel_rfl) m (b0, b1, b2) H) h⟩
def J8.t : CT := fun Q E fr H => lenIs 75 fr (slSl fr 6 fun out0 out1 out2 => r1 fr 54 fun x0 x1 x2 x3 x4 x5 x6 x7 => slI fr 55 .i64 fun x8 => J8 out0 out1 out2 x0 x1 x2 x3 x4 x5 x6 x7 x8 (fun y55_0 H => Q .normal (mkF 75 [(6, (.slice out0 out1 out2)), (54, (.agg #[(.int .u32 x0), (.int .u32 x1), (.int .u32 x2), (.int .u32 x3), (.int .u32 x4), (.int .u32 x5), (.int .u32 x6), (.int .u32 x7)])), (55, (.int .i64 y55_0))]) H) E H)
theorem J8.ok : zaa Tryz.prog (sub [1, 1, 1, 1, 1, 1, 1, 1, 0, 1, 0, 0, 1, 1, 1] body) J8.t := by
  refine zda (zea [6, 54, 55] [] (fun i => []) (zba hΓ Tryz.hm (.go) _ (of_eq_true (by kernel_rfl)))) fun Q E fr H h => ?_
  obtain ⟨hl, h⟩ := zga h
  obtain ⟨out0, out1, out2, q6, h⟩ := zta h
  obtain ⟨x0, x1, x2, x3, x4, x5, x6, x7, q54, h⟩ := r1_elim h
  obtain ⟨x8, q55, h⟩ := zfa h
  exact ⟨(mkF 75 [(6, (.slice out0 out1 out2)), (54, (.agg #[(.int .u32 x0), (.int .u32 x1), (.int .u32 x2), (.int .u32 x3), (.int .u32 x4), (.int .u32 x5), (.int .u32 x6), (.int .u32 x7)])), (55, (.int .i64 x8))]), fun a ha => ha.mk (Nat.le_of_eq hl.symm) (consQ q6 (consQ q54 (consQ q55 nilQ))), cast (by kernel_rfl) h.h⟩
def W7.t : CT := fun Q E fr H => lenIs 75 fr (slSl fr 6 fun out0 out1 out2 => r1 fr 54 fun x0 x1 x2 x3 x4 x5 x6 x7 => slI fr 55 .i64 fun x8 => W7 out0 out1 out2 x0 x1 x2 x3 x4 x5 x6 x7 x8 (fun y6_0 y6_1 y6_2 H => Q (.exit 6) (mkF 75 [(6, (.slice y6_0 y6_1 y6_2))]) H) E H)
theorem W7.ok : zaa Tryz.prog (sub [1, 1, 1, 1, 1, 1, 1, 1, 0, 1, 0] body) W7.t := by
  have e : (sub [1, 1, 1, 1, 1, 1, 1, 1, 0, 1, 0] body) = .loop (sub [1, 1, 1, 1, 1, 1, 1, 1, 0, 1, 0, 0] body) := by kernel_rfl
  rw [e]
  refine zda (zqa (zea [6, 54, 55] [] (fun i => if i = 6 then [6] else []) (zba hΓ Tryz.hm (.seq (.go) (.seq (.go) (.seq (.go) (.use J8.t)))) _ (of_eq (show _ = (True ∧ (True ∧ (True ∧ (zaa Tryz.prog (sub [1, 1, 1, 1, 1, 1, 1, 1, 0, 1, 0, 0, 1, 1, 1] body) J8.t)))) by kernel_rfl) ⟨trivial, ⟨trivial, ⟨trivial, J8.ok⟩⟩⟩)))) fun Q E fr H h => ?_
  obtain ⟨hl, h⟩ := zga h
  obtain ⟨out0, out1, out2, q6, h⟩ := zta h
  obtain ⟨x0, x1, x2, x3, x4, x5, x6, x7, q54, h⟩ := r1_elim h
  obtain ⟨x8, q55, h⟩ := zfa h
  obtain ⟨m, h⟩ := h.h
  exact ⟨(mkF 75 [(6, (.slice out0 out1 out2)), (54, (.agg #[(.int .u32 x0), (.int .u32 x1), (.int .u32 x2), (.int .u32 x3), (.int .u32 x4), (.int .u32 x5), (.int .u32 x6), (.int .u32 x7)])), (55, (.int .i64 x8))]), fun a ha => ha.mk (Nat.le_of_eq hl.symm) (consQ q6 (consQ q54 (consQ q55 nilQ))), m, cast (zib (B := (fun (RR : Option Addr × Nat × Nat × Int → HP) (s : Option Addr × Nat × Nat × Int) (H : Heap) => W7.vc s.1 s.2.1 s.2.2.1 x0 x1 x2 x3 x4 x5 x6 x7 s.2.2.2 (fun y6_0 y6_1 y6_2 H => Q (.exit 6) (mkF 75 [(6, (.slice y6_0 y6_1 y6_2))]) H) (fun out0 out1 out2 x8 H => RR (out0, out1, out2, x8) H) E H)) (m := (fun (s : Option Addr × Nat × Nat × Int) => (mkF 75 [(6, (.slice s.1 s.2.1 s.2.2.1)), (54, (.agg #[(.int .u32 x0), (.int .u32 x1), (.int .u32 x2), (.int .u32 x3), (.int .u32 x4), (.int .u32 x5), (.int .u32 x6), (.int .u32 x7)])), (55, (.int .i64 s.2.2.2))]))) (Q := Q) (E := E) (fun RR s H => by kernel_rfl) m (out0, out1, out2, x8) H) h⟩
def J2.t : CT := fun Q E fr H => lenIs 75 fr (slP fr 0 fun h0 => slPA fr 3 fun x0 => slSl fr 4 fun b0 b1 b2 => J2 h0 x0 b0 b1 b2 (fun y2_0 H => Q .ret (mkF 75 [(2, (.string y2_0))]) H) E H)
theorem J2.ok : zaa Tryz.prog (sub [1, 1, 1, 1] body) J2.t := by
  refine zda (zea [] [2] (fun i => []) (zba hΓ Tryz.hm (.seq (.block (.use W3.t)) (.seq (.seq (.go) (.block (.use W4.t))) (.seq (.block (.use W6.t)) (.seq (.go) (.seq (.seq (.go) (.block (.use W7.t))) (.go)))))) _ (of_eq (show _ = ((zaa Tryz.prog (sub [1, 1, 1, 1, 0, 0] body) W3.t) ∧ ((True ∧ (zaa Tryz.prog (sub [1, 1, 1, 1, 1, 0, 1, 0] body) W4.t)) ∧ ((zaa Tryz.prog (sub [1, 1, 1, 1, 1, 1, 0, 0] body) W6.t) ∧ (True ∧ ((True ∧ (zaa Tryz.prog (sub [1, 1, 1, 1, 1, 1, 1, 1, 0, 1, 0] body) W7.t)) ∧ True))))) by kernel_rfl) ⟨W3.ok, ⟨⟨trivial, W4.ok⟩, ⟨W6.ok, ⟨trivial, ⟨⟨trivial, W7.ok⟩, trivial⟩⟩⟩⟩⟩))) fun Q E fr H h => ?_
  obtain ⟨hl, h⟩ := zga h
  obtain ⟨h0, q0, h⟩ := zja h
  obtain ⟨x0, q3, h⟩ := zua h
  obtain ⟨b0, b1, b2, q4, h⟩ := zta h
  exact ⟨(mkF 75 [(0, (.pointer h0)), (3, (.pointer (some x0))), (4, (.slice b0 b1 b2))]), fun a ha => ha.mk (Nat.le_of_eq hl.symm) (consQ q0 (consQ q3 (consQ q4 nilQ))), cast (by kernel_rfl) h.h⟩
def J1.t : CT := fun Q E fr H => lenIs 75 fr (slP fr 0 fun h0 => slPA fr 3 fun x0 => slSl fr 4 fun b0 b1 b2 => J1 h0 x0 b0 b1 b2 (fun y2_0 H => Q .ret (mkF 75 [(2, (.string y2_0))]) H) E H)
theorem J1.ok : zaa Tryz.prog (sub [1, 1, 1] body) J1.t := by
  refine zda (zea [] [2] (fun i => []) (zba hΓ Tryz.hm (.seq (.go) (.use J2.t)) _ (of_eq (show _ = (True ∧ (zaa Tryz.prog (sub [1, 1, 1, 1] body) J2.t)) by kernel_rfl) ⟨trivial, J2.ok⟩))) fun Q E fr H h => ?_
  obtain ⟨hl, h⟩ := zga h
  obtain ⟨h0, q0, h⟩ := zja h
  obtain ⟨x0, q3, h⟩ := zua h
  obtain ⟨b0, b1, b2, q4, h⟩ := zta h
  exact ⟨(mkF 75 [(0, (.pointer h0)), (3, (.pointer (some x0))), (4, (.slice b0 b1 b2))]), fun a ha => ha.mk (Nat.le_of_eq hl.symm) (consQ q0 (consQ q3 (consQ q4 nilQ))), cast (by kernel_rfl) h.h⟩
theorem ok : zca Tryz.prog 161 F := by
  refine zia hΓ (fn := Tryz.f161) (c := body) (by kernel_rfl) (by kernel_rfl) (by kernel_rfl) (zba hΓ Tryz.hm (.seq (.go) (.seq (.go) (.seq (.go) (.use J1.t)))) _ (of_eq (show _ = (True ∧ (True ∧ (True ∧ (zaa Tryz.prog (sub [1, 1, 1] body) J1.t)))) by kernel_rfl) ⟨trivial, ⟨trivial, ⟨trivial, J1.ok⟩⟩⟩)) fun _ K E H h => ?_
  unfold F at h
  split at h
  · exact cast (by kernel_rfl) h.h
  · exact h.elim
end zla
namespace sha_Sum
noncomputable def body : Code := Tryz.f117.body.getD .skip
def vc (s0 : ByteArray) (K : ByteArray → HP) (E : VH) (h0 : Heap) : Prop :=
 zme.c (fun x0 h1 =>
 zoa.c x0 s0 (fun h2 =>
 zla.c x0 K E h2) E h1) E h0
structure c (s0 : ByteArray) (K : ByteArray → HP) (E : VH) (H : Heap) : Prop where
  h : vc s0 (fun r0_0 H => ∃ H', Heap.Le H' H ∧ K r0_0 H') E H
def F : FT := fun args K E H => match args with
  | [(.string s0)] => c s0 (fun r0_0 H => K (.string r0_0) H) E H
  | _ => False
noncomputable def Γ : FuncId → Option FT := Γof [(159, zme.F), (160, zoa.F), (161, zla.F)]
theorem hΓ : ∀ f F, Γ f = some F → zca Tryz.prog f F := Γof_ok (consQ zme.ok (consQ zoa.ok (consQ zla.ok (nilQ))))
theorem ok : zca Tryz.prog 117 F := by
  refine zia hΓ (fn := Tryz.f117) (c := body) (by kernel_rfl) (by kernel_rfl) (by kernel_rfl) (zba hΓ Tryz.hm (.go) _ (of_eq_true (by kernel_rfl))) fun _ K E H h => ?_
  unfold F at h
  split at h
  · exact cast (by kernel_rfl) h.h
  · exact h.elim
end sha_Sum
namespace sha_pad
noncomputable def body : Code := Tryz.f118.body.getD .skip
def W1.vc (by0 : Int) (b0 : Option Addr) (b1 : Nat) (b2 : Nat) (x0 : Int) (x1 : Int) (Kx0 : HP) (RR : Int → HP) (E : VH) (h0 : Heap) : Prop :=
 (if (decide (x1 < x0)) = true then
 nilc b0 fun a0 => (0 : Int) ≤ x1 ∧ x1 < (b1 : Int) ∧
 ldI h0 .u8 (a0.add (x1.toNat * 1)) fun x2 =>
 nilc b0 fun a1 => (0 : Int) ≤ x1 ∧ x1 < (b1 : Int) ∧
 stc h0 (a1.add (x1.toNat * 1)) (.int .u8 (bits .xor .u8 x2 by0)) fun h1 =>
 RR (IntKind.i64.wrap (x1 + 1)) h1
 else
 Kx0 h0)
structure W1 (by0 : Int) (b0 : Option Addr) (b1 : Nat) (b2 : Nat) (x0 : Int) (x1 : Int) (Kx0 : HP) (E : VH) (H : Heap) : Prop where
  h : Loop (fun (RR : Int → HP) (s : Int) (H : Heap) => W1.vc by0 b0 b1 b2 x0 s Kx0 (fun x1 H => RR (x1) H) E H) (x1) H
def vc (key0 : ByteArray) (by0 : Int) (K : ByteArray → HP) (E : VH) (h0 : Heap) : Prop :=
 strings_Repeat.c (⟨#[0]⟩ : ByteArray) (IntKind.i64.wrap (64 - (key0.size : Int))) (fun x0 h1 =>
 key0.size + x0.size ≤ 9223372036854775807 ∧
 ∀ j0, newB (.cells ((zxb (key0 ++ x0)).toArray ++ Array.replicate j0 (.int .u8 0)) 5 ((key0 ++ x0).size + j0, (key0 ++ x0).size + j0 + 1)) (fun b0 h2 =>
 W1 by0 (some (⟨b0, 0, none⟩ : Addr)) (key0 ++ x0).size ((key0 ++ x0).size + j0) ((key0 ++ x0).size : Int) 0 (fun h3 =>
 rdBytes h3 (some (⟨b0, 0, none⟩ : Addr)) (key0 ++ x0).size fun x1 =>
 K x1 h3) E h2) h1) E h0
structure c (key0 : ByteArray) (by0 : Int) (K : ByteArray → HP) (E : VH) (H : Heap) : Prop where
  h : vc key0 by0 (fun r0_0 H => ∃ H', Heap.Le H' H ∧ K r0_0 H') E H
def F : FT := fun args K E H => match args with
  | [(.string key0), (.int .u8 by0)] => c key0 by0 (fun r0_0 H => K (.string r0_0) H) E H
  | _ => False
noncomputable def Γ : FuncId → Option FT := Γof [(82, strings_Repeat.F)]
theorem hΓ : ∀ f F, Γ f = some F → zca Tryz.prog f F := Γof_ok (consQ strings_Repeat.ok (nilQ))
def W1.t : CT := fun Q E fr H => lenIs 29 fr (slI fr 1 .u8 fun by0 => slSl fr 5 fun b0 b1 b2 => slI fr 15 .i64 fun x0 => slI fr 16 .i64 fun x1 => W1 by0 b0 b1 b2 x0 x1 (fun  H => Q (.exit 0) (mkF 29 [(5, (.slice b0 b1 b2))]) H) E H)
theorem W1.ok : zaa Tryz.prog (sub [1, 1, 0, 1, 0] body) W1.t := by
  have e : (sub [1, 1, 0, 1, 0] body) = .loop (sub [1, 1, 0, 1, 0, 0] body) := by kernel_rfl
  rw [e]
  refine zda (zqa (zea [1, 5, 15, 16] [] (fun i => if i = 0 then [5] else []) (zba hΓ Tryz.hm (.go) _ (of_eq_true (by kernel_rfl))))) fun Q E fr H h => ?_
  obtain ⟨hl, h⟩ := zga h
  obtain ⟨by0, q1, h⟩ := zfa h
  obtain ⟨b0, b1, b2, q5, h⟩ := zta h
  obtain ⟨x0, q15, h⟩ := zfa h
  obtain ⟨x1, q16, h⟩ := zfa h
  obtain ⟨m, h⟩ := h.h
  exact ⟨(mkF 29 [(1, (.int .u8 by0)), (5, (.slice b0 b1 b2)), (15, (.int .i64 x0)), (16, (.int .i64 x1))]), fun a ha => ha.mk (Nat.le_of_eq hl.symm) (consQ q1 (consQ q5 (consQ q15 (consQ q16 nilQ)))), m, cast (zib (B := (fun (RR : Int → HP) (s : Int) (H : Heap) => W1.vc by0 b0 b1 b2 x0 s (fun  H => Q (.exit 0) (mkF 29 [(5, (.slice b0 b1 b2))]) H) (fun x1 H => RR (x1) H) E H)) (m := (fun (s : Int) => (mkF 29 [(1, (.int .u8 by0)), (5, (.slice b0 b1 b2)), (15, (.int .i64 x0)), (16, (.int .i64 s))]))) (Q := Q) (E := E) (fun RR s H => by kernel_rfl) m (x1) H) h⟩
theorem ok : zca Tryz.prog 118 F := by
  refine zia hΓ (fn := Tryz.f118) (c := body) (by kernel_rfl) (by kernel_rfl) (by kernel_rfl) (zba hΓ Tryz.hm (.seq (.go) (.seq (.go) (.seq (.seq (.go) (.block (.use W1.t))) (.go)))) _ (of_eq (show _ = (True ∧ (True ∧ ((True ∧ (zaa Tryz.prog (sub [1, 1, 0, 1, 0] body) W1.t)) ∧ True))) by kernel_rfl) ⟨trivial, ⟨trivial, ⟨⟨trivial, W1.ok⟩, trivial⟩⟩⟩)) fun _ K E H h => ?_
  unfold F at h
  split at h
  · exact cast (by kernel_rfl) h.h
  · exact h.elim
end sha_pad
namespace sha_Hmac
noncomputable def body : Code := Tryz.f66.body.getD .skip
def J1.vc (key0 : ByteArray) (s0 : ByteArray) (Kr : ByteArray → HP) (E : VH) (h0 : Heap) : Prop :=
 sha_pad.c key0 92 (fun x0 h1 =>
 sha_pad.c key0 54 (fun x1 h2 =>
 x1.size + s0.size ≤ 9223372036854775807 ∧
 sha_Sum.c (x1 ++ s0) (fun x2 h3 =>
 x0.size + x2.size ≤ 9223372036854775807 ∧
 sha_Sum.c (x0 ++ x2) Kr E h3) E h2) E h1) E h0
structure J1 (key0 : ByteArray) (s0 : ByteArray) (Kr : ByteArray → HP) (E : VH) (H : Heap) : Prop where
  h : J1.vc key0 s0 Kr E H
def vc (key0 : ByteArray) (s0 : ByteArray) (K : ByteArray → HP) (E : VH) (h0 : Heap) : Prop :=
 (if (decide ((key0.size : Int) > 64)) = true then
 sha_Sum.c key0 (fun x0 h1 =>
 J1 x0 s0 K E h1) E h0
 else
 J1 key0 s0 K E h0)
structure c (key0 : ByteArray) (s0 : ByteArray) (K : ByteArray → HP) (E : VH) (H : Heap) : Prop where
  h : vc key0 s0 (fun r0_0 H => ∃ H', Heap.Le H' H ∧ K r0_0 H') E H
def F : FT := fun args K E H => match args with
  | [(.string key0), (.string s0)] => c key0 s0 (fun r0_0 H => K (.string r0_0) H) E H
  | _ => False
noncomputable def Γ : FuncId → Option FT := Γof [(117, sha_Sum.F), (118, sha_pad.F)]
theorem hΓ : ∀ f F, Γ f = some F → zca Tryz.prog f F := Γof_ok (consQ sha_Sum.ok (consQ sha_pad.ok (nilQ)))
def J1.t : CT := fun Q E fr H => lenIs 19 fr (slS fr 0 fun key0 => slS fr 1 fun s0 => J1 key0 s0 (fun y4_0 H => Q .ret (mkF 19 [(4, (.string y4_0))]) H) E H)
theorem J1.ok : zaa Tryz.prog (sub [1, 1] body) J1.t := by
  refine zda (zea [] [4] (fun i => []) (zba hΓ Tryz.hm (.go) _ (of_eq_true (by kernel_rfl)))) fun Q E fr H h => ?_
  obtain ⟨hl, h⟩ := zga h
  obtain ⟨key0, q0, h⟩ := zfb h
  obtain ⟨s0, q1, h⟩ := zfb h
  exact ⟨(mkF 19 [(0, (.string key0)), (1, (.string s0))]), fun a ha => ha.mk (Nat.le_of_eq hl.symm) (consQ q0 (consQ q1 nilQ)), cast (by kernel_rfl) h.h⟩
theorem ok : zca Tryz.prog 66 F := by
  refine zia hΓ (fn := Tryz.f66) (c := body) (by kernel_rfl) (by kernel_rfl) (by kernel_rfl) (zba hΓ Tryz.hm (.seq (.go) (.seq (.go) (.use J1.t))) _ (of_eq (show _ = (True ∧ (True ∧ (zaa Tryz.prog (sub [1, 1] body) J1.t))) by kernel_rfl) ⟨trivial, ⟨trivial, J1.ok⟩⟩)) fun _ K E H h => ?_
  unfold F at h
  split at h
  · exact cast (by kernel_rfl) h.h
  · exact h.elim
end sha_Hmac
namespace znb
noncomputable def body : Code := Tryz.f29.body.getD .skip
def vc (key0 : ByteArray) (label0 : ByteArray) (context0 : ByteArray) (K : ByteArray → HP) (E : VH) (h0 : Heap) : Prop :=
 zec.c label0 (fun x0 h1 =>
 zec.c context0 (fun x1 h2 =>
 x0.size + x1.size ≤ 9223372036854775807 ∧
 sha_Hmac.c key0 (x0 ++ x1) K E h2) E h1) E h0
structure c (key0 : ByteArray) (label0 : ByteArray) (context0 : ByteArray) (K : ByteArray → HP) (E : VH) (H : Heap) : Prop where
  h : vc key0 label0 context0 (fun r0_0 H => ∃ H', Heap.Le H' H ∧ K r0_0 H') E H
def F : FT := fun args K E H => match args with
  | [(.string key0), (.string label0), (.string context0)] => c key0 label0 context0 (fun r0_0 H => K (.string r0_0) H) E H
  | _ => False
noncomputable def Γ : FuncId → Option FT := Γof [(66, sha_Hmac.F), (67, zec.F)]
theorem hΓ : ∀ f F, Γ f = some F → zca Tryz.prog f F := Γof_ok (consQ sha_Hmac.ok (consQ zec.ok (nilQ)))
theorem ok : zca Tryz.prog 29 F := by
  refine zia hΓ (fn := Tryz.f29) (c := body) (by kernel_rfl) (by kernel_rfl) (by kernel_rfl) (zba hΓ Tryz.hm (.go) _ (of_eq_true (by kernel_rfl))) fun _ K E H h => ?_
  unfold F at h
  split at h
  · exact cast (by kernel_rfl) h.h
  · exact h.elim
end znb
end Go.Sh
namespace Go.Sh
set_option maxRecDepth 8000
theorem shr3 (x : W) : shrI .u32 (wv x) 3 = wv (x >>> 3) := shr_w x (by decide) (by decide)
theorem shr10 (x : W) : shrI .u32 (wv x) 10 = wv (x >>> 10) := shr_w x (by decide) (by decide)
theorem rot_amount : ∀ n : Fin 32, n.val ≠ 0 → bits .and .u64 (IntKind.u64.wrap (IntKind.i64.wrap (0 - (n.val : Int)))) 31 = ((32 - n.val : Nat) : Int) ∧ IntKind.u64.wrap (32 - ((32 - n.val : Nat) : Int)) = (n.val : Int) := by decide +kernel
theorem zpc.run {x : W} {n : Nat} (h0 : n ≠ 0) (h1 : n < 32) {K : Int → Heap → Prop} {E : Value → Heap → Prop} {H : Heap} (h : K (wv (rotr x n)) H) : zpc.c (wv x) n K E H := by
  refine ⟨?_⟩
  unfold zpc.vc
  refine ⟨?_⟩
  unfold zwe.vc
  obtain ⟨e1, e2⟩ := rot_amount ⟨n, h1⟩ h0
  dsimp only at e1 e2
  rw [e1, e2]
  refine ⟨by omega, by omega, H, Heap.Le.refl _, H, Heap.Le.refl _, ?_⟩
  rw [shl_w x (by omega) (by omega), shr_w x (by omega) (by omega), or_w, Int.toNat_natCast, Int.toNat_natCast, BitVec.or_comm]
  exact h
def wArr (xs : List W) : Array Value := (xs.map wV ++ List.replicate (64 - xs.length) (Value.int .u32 0)).toArray
theorem wArr_size {xs : List W} (h : xs.length ≤ 64) : (wArr xs).size = 64 := by
  unfold wArr
  simp
  omega
theorem wArr_set {xs : List W} {x : W} (h : xs.length < 64) : (wArr xs).setIfInBounds xs.length (wV x) = wArr (xs ++ [x]) := by
  unfold wArr
  apply Array.toList_inj.1
  obtain ⟨k, hk⟩ : ∃ k, 64 - xs.length = k + 1 := ⟨64 - xs.length - 1, by omega⟩
  have hk2 : 64 - (xs ++ [x]).length = k := by rw [List.length_append]; simp; omega
  rw [Array.toList_setIfInBounds, List.toList_toArray, List.toList_toArray, hk, hk2, List.replicate_succ, List.map_append]
  rw [List.set_append_right _ _ (by simp), List.length_map, Nat.sub_self]
  simp
theorem wArr_get {xs : List W} {i : Nat} (h : i < xs.length) : (wArr xs)[i]? = some (wV (xs.getD i 0)) := by
  unfold wArr
  have hx : xs[i]? = some (xs[i]) := List.getElem?_eq_getElem h
  rw [List.getElem?_toArray, List.getElem?_append_left (by simpa using h), List.getElem?_map, List.getD_eq_getElem?_getD, hx]
  rfl
theorem u8_w (x : UInt8) : IntKind.u32.wrap (x.toNat : Int) = wv (BitVec.ofNat 32 x.toNat) := by
  have := x.toNat_lt
  unfold wv
  rw [wrap_nat, BitVec.toNat_ofNat]
theorem loc0 {H : Heap} {b i : Nat} {arr : Array Value} {e : TypeId} {v : Value} (h : H b = some (.cells arr e)) (hv : arr[i]? = some v) : H.cell? ((⟨b, 0, none⟩ : Addr).add (i * 1)) = some v := by
  rw [Nat.mul_one]
  exact loc h hv
theorem words_take {l : List UInt8} {k : Nat} : (List.range k).map (wordAt l) ++ [wordAt l k] = (List.range (k + 1)).map (wordAt l) := by
  rw [List.range_succ, List.map_append]
  rfl
theorem zma.loop1 {H0 : Heap} {b3 : Nat} {l : List UInt8} {p hp : Option Addr} {c : Nat} (hb : zzc H0 p 64 l) (hne : ∀ k ∈ bl p, k ≠ b3) (hw : H0 b3 = some (.cells (wArr []) 312)) {Kx : Heap → Prop} {E : Value → Heap → Prop}
    (hx : ∀ H, H b3 = some (.cells (wArr (words16 l)) 312) → Step [b3] H0 [b3] H → Kx H) : zma.W1 hp p 64 c ⟨b3, 0, none⟩ 0 Kx E H0 := by
  refine ⟨Loop.of (I := fun st H m => ∃ k : Nat, st = (k : Int) ∧ k ≤ 16 ∧ m = 16 - k ∧ H b3 = some (.cells (wArr ((List.range k).map (wordAt l))) 312) ∧ Step [b3] H0 [b3] H) ?_ ⟨0, rfl, by omega, rfl, hw, Step.refl _ _⟩⟩
  rintro m st H ⟨k, rfl, hk, rfl, hw, hst⟩ RR hRR
  unfold zma.W1.vc
  by_cases hlt : k < 16
  · rw [if_pos (by rw [decide_eq_true_eq]; omega)]
    have hb2 : zzc H p 64 l := zzc.step hst hb fun k hk => by simpa using hne k hk
    have e0 : IntKind.i64.wrap (4 * (k : Int)) = ((4 * k : Nat) : Int) := by rw [w_i64 (by omega) (by omega)]; simp
    have e1 : ∀ j : Nat, j < 4 → IntKind.i64.wrap (((4 * k : Nat) : Int) + (j : Int)) = ((4 * k + j : Nat) : Int) := fun j hj => by rw [w_i64 (by omega) (by omega)]; simp
    rw [e0, show (1 : Int) = ((1 : Nat) : Int) from rfl, show (2 : Int) = ((2 : Nat) : Int) from rfl, show (3 : Int) = ((3 : Nat) : Int) from rfl, e1 1 (by decide), e1 2 (by decide), e1 3 (by decide)]
    obtain ⟨a, ha, c0⟩ := hb2.get (i := 4 * k) (by omega)
    obtain ⟨a1, ha1, c1⟩ := hb2.get (i := 4 * k + 1) (by omega)
    obtain ⟨a2, ha2, c2⟩ := hb2.get (i := 4 * k + 2) (by omega)
    obtain ⟨a3, ha3, c3⟩ := hb2.get (i := 4 * k + 3) (by omega)
    obtain rfl := Option.some.inj (ha.symm.trans ha1)
    obtain rfl := Option.some.inj (ha.symm.trans ha2)
    obtain rfl := Option.some.inj (ha.symm.trans ha3)
    refine ⟨a, ha, by omega, by omega, _, by rw [Int.toNat_natCast]; exact c0, by decide, a, ha, by omega, by omega, _, by rw [Int.toNat_natCast]; exact c1, by decide, a, ha, by omega, by omega, _, by rw [Int.toNat_natCast]; exact c2, by decide, a, ha, by omega, by omega, _, by rw [Int.toNat_natCast]; exact c3, by omega, by omega, ?_⟩
    dsimp only
    rw [u8_w, u8_w, u8_w, u8_w, shl_w _ (by decide) (by decide), shl_w _ (by decide) (by decide), shl_w _ (by decide) (by decide), or_w, or_w, or_w, Int.toNat_natCast, Nat.mul_one]
    have hlen : ((List.range k).map (wordAt l)).length = k := by simp
    refine stc_loc hw (by rw [wArr_size (by omega)]; omega) ?_
    have e3 : (wArr ((List.range k).map (wordAt l))).setIfInBounds k (wV (wordAt l k)) = wArr ((List.range (k + 1)).map (wordAt l)) := by
      have := wArr_set (xs := (List.range k).map (wordAt l)) (x := wordAt l k) (by omega)
      rw [hlen, words_take] at this
      exact this
    have hgoal := hRR ((k + 1 : Nat) : Int) (H.set b3 (.cells (wArr ((List.range (k + 1)).map (wordAt l))) 312)) (16 - (k + 1)) (by omega) ⟨k + 1, rfl, by omega, rfl, set_self _ _ _, hst.trans (Step.set _ _ _)⟩
    rw [← e3] at hgoal
    rw [show IntKind.i64.wrap ((k : Int) + ((1 : Nat) : Int)) = ((k + 1 : Nat) : Int) by rw [w_i64 (by omega) (by omega)]; simp]
    exact hgoal
  · rw [if_neg (by rw [decide_eq_true_eq]; omega)]
    have : k = 16 := by omega
    subst this
    exact hx H hw hst
theorem wNxt_eq {xs : List W} {t : Nat} (h : xs.length = t) : wNxt xs = ((xs.getD (t - 16) 0 + xs.getD (t - 7) 0) + ((rotr (xs.getD (t - 15) 0) 7 ^^^ rotr (xs.getD (t - 15) 0) 18) ^^^ (xs.getD (t - 15) 0 >>> 3))) + ((rotr (xs.getD (t - 2) 0) 17 ^^^ rotr (xs.getD (t - 2) 0) 19) ^^^ (xs.getD (t - 2) 0 >>> 10)) := by
  subst h; rfl
theorem zma.loop2 {H0 : Heap} {b3 : Nat} {l : List UInt8} {hp : Option Addr} (hw : H0 b3 = some (.cells (wArr (words16 l)) 312)) {Kx : Heap → Prop} {E : Value → Heap → Prop}
    (hx : ∀ H, H b3 = some (.cells (wArr (sched l)) 312) → Step [b3] H0 [b3] H → Kx H) : zma.W2 hp ⟨b3, 0, none⟩ 16 Kx E H0 := by
  refine ⟨Loop.of (I := fun st H m => ∃ k : Nat, st = ((16 + k : Nat) : Int) ∧ k ≤ 48 ∧ m = 48 - k ∧ H b3 = some (.cells (wArr (wExt k (words16 l))) 312) ∧ Step [b3] H0 [b3] H) ?_ ⟨0, rfl, by omega, rfl, hw, Step.refl _ _⟩⟩
  rintro m st H ⟨k, rfl, hk, rfl, hw, hst⟩ RR hRR
  unfold zma.W2.vc
  have hlen : (wExt k (words16 l)).length = 16 + k := by rw [wExt_len]; simp [words16]
  by_cases hlt : k < 48
  · rw [if_pos (by rw [decide_eq_true_eq]; omega)]
    have e15 : IntKind.i64.wrap (((16 + k : Nat) : Int) - 15) = ((16 + k - 15 : Nat) : Int) := by rw [w_i64 (by omega) (by omega)]; omega
    have e2 : IntKind.i64.wrap (((16 + k : Nat) : Int) - 2) = ((16 + k - 2 : Nat) : Int) := by rw [w_i64 (by omega) (by omega)]; omega
    have e16 : IntKind.i64.wrap (((16 + k : Nat) : Int) - 16) = ((16 + k - 16 : Nat) : Int) := by rw [w_i64 (by omega) (by omega)]; omega
    have e7 : IntKind.i64.wrap (((16 + k : Nat) : Int) - 7) = ((16 + k - 7 : Nat) : Int) := by rw [w_i64 (by omega) (by omega)]; omega
    rw [e15, e2, e16, e7]
    simp only [Int.toNat_natCast]
    have g : ∀ i, i < 16 + k → H.cell? ((⟨b3, 0, none⟩ : Addr).add (i * 1)) = some (wV ((wExt k (words16 l)).getD i 0)) := fun i hi => loc0 hw (wArr_get (by omega))
    have g16 := g (16 + k - 16) (by omega)
    have g7 := g (16 + k - 7) (by omega)
    refine ⟨by omega, by omega, _, g (16 + k - 15) (by omega), by omega, by omega, _, g (16 + k - 2) (by omega), by omega, by omega, _, g16, by omega, by omega, _, g7, by decide, by decide, ?_⟩
    refine zpc.run (n := 7) (by decide) (by decide) ⟨⟨_, g7, rfl, rfl⟩, ⟨_, g16, rfl, rfl⟩, ?_⟩
    refine zpc.run (n := 18) (by decide) (by decide) ⟨⟨_, g7, rfl, rfl⟩, ⟨_, g16, rfl, rfl⟩, ?_⟩
    refine zpc.run (n := 17) (by decide) (by decide) ⟨⟨_, g7, rfl, rfl⟩, ⟨_, g16, rfl, rfl⟩, ?_⟩
    refine zpc.run (n := 19) (by decide) (by decide) ⟨⟨_, g7, rfl, rfl⟩, ⟨_, g16, rfl, rfl⟩, by omega, by omega, ?_⟩
    simp only [add_w, xor_w, shr3, shr10]
    rw [← wNxt_eq hlen, Nat.mul_one]
    refine stc_loc hw (by rw [wArr_size (by omega)]; omega) ?_
    have e3 : (wArr (wExt k (words16 l))).setIfInBounds (16 + k) (.int .u32 (wv (wNxt (wExt k (words16 l))))) = wArr (wExt (k + 1) (words16 l)) := by
      have := wArr_set (xs := wExt k (words16 l)) (x := wNxt (wExt k (words16 l))) (by omega)
      rw [hlen, ← wExt_succ] at this
      exact this
    rw [e3, w_i64 (by omega) (by omega)]
    exact hRR _ _ (48 - (k + 1)) (by omega) ⟨k + 1, by omega, by omega, rfl, set_self _ _ _, hst.trans (Step.set _ _ _)⟩
  · rw [if_neg (by rw [decide_eq_true_eq]; omega)]
    have : k = 48 := by omega
    subst this
    exact hx H hw hst
def St.cells (s : St) : List Value := s.list.map wV
theorem stRow8 {H : Heap} {b : Nat} {e : TypeId} {old : Array Value} {new : List Value} {K : Heap → Prop} (hb : H b = some (.cells old e)) (ho : old.size = new.length) (hp : ∀ v ∈ new, (∀ x, v ≠ .agg x) ∧ (∀ x, v ≠ .tuple x)) (hk : K (H.set b (.cells new.toArray e))) : stRow ⟨b, 0, none⟩ new K H := by
  refine ⟨hp, stcs_at new 0 0 old H hb (by omega) (fun k _ _ h => by simp at h) ?_⟩
  have : putL old.toList (0 + 0) new = new := by
    unfold putL
    rw [List.take_zero, List.nil_append, List.drop_eq_nil_of_le (by rw [Array.length_toList]; omega), List.append_nil]
  rw [this]
  exact hk
theorem plain_cells (s : St) : ∀ v ∈ s.cells, (∀ x, v ≠ .agg x) ∧ (∀ x, v ≠ .tuple x) := by
  intro v hv
  obtain ⟨x, _, rfl⟩ := List.mem_map.1 hv
  exact ⟨fun _ h => (by cases h), fun _ h => (by cases h)⟩
theorem zma.loop3 {H0 : Heap} {b3 b4 : Nat} {hp : Option Addr} {ws : List W} {s : St} (hws : ws.length = 64) (hw : H0 b3 = some (.cells (wArr ws) 312)) (hne : b3 ≠ b4) (hv : H0 b4 = some (.cells s.cells.toArray 207)) {Kx : Heap → Prop} {E : Value → Heap → Prop}
    (hx : ∀ H, H b4 = some (.cells (rnds ws 64 s).cells.toArray 207) → Step [b4] H0 [b4] H → Kx H) : zma.W3 hp ⟨b3, 0, none⟩ ⟨b4, 0, none⟩ (kTab.map fun x => Value.int .u32 x).toArray 0 Kx E H0 := by
  refine ⟨Loop.of (I := fun st H m => ∃ k : Nat, st = (k : Int) ∧ k ≤ 64 ∧ m = 64 - k ∧ H b4 = some (.cells (rnds ws k s).cells.toArray 207) ∧ Step [b4] H0 [b4] H) ?_ ⟨0, rfl, by omega, rfl, hv, Step.refl _ _⟩⟩
  rintro m st H ⟨k, rfl, hk, rfl, hv, hst⟩ RR hRR
  unfold zma.W3.vc
  by_cases hlt : k < 64
  · rw [if_pos (by rw [decide_eq_true_eq]; omega)]
    have hw := (hst b3 _ hw (by simpa using hne)).1
    simp only [Int.toNat_natCast]
    have hkt : ((kTab.map fun x => Value.int .u32 x).toArray)[k]? = some (.int .u32 (wv (kW k))) := by
      have := kW_at ⟨k, hlt⟩
      dsimp only at this
      rw [List.getElem?_toArray, List.getElem?_map, this]
      rfl
    have gw : H.cell? ((⟨b3, 0, none⟩ : Addr).add (k * 1)) = some (wV (ws.getD k 0)) := loc0 hw (wArr_get (by omega))
    have gv : ∀ (i : Nat) (x : W), (rnds ws k s).list[i]? = some x → H.cell? ((⟨b4, 0, none⟩ : Addr).add (i * 1)) = some (wV x) := fun i x hi => loc0 hv (by
      rw [List.getElem?_toArray]
      unfold St.cells
      rw [List.getElem?_map, hi]
      rfl)
    have g7 := gv 7 _ rfl
    refine ⟨by omega, by omega, _, hkt, _, rfl, by decide, by decide, _, gv 0 _ rfl, by decide, by decide, _, gv 1 _ rfl, by decide, by decide, _, gv 2 _ rfl, by decide, by decide, _, gv 4 _ rfl, by decide, by decide, _, gv 5 _ rfl, by decide, by decide, _, gv 6 _ rfl, by decide, by decide, _, g7, by omega, by omega, _, gw, ?_⟩
    refine zpc.run (n := 6) (by decide) (by decide) ⟨⟨_, gw, rfl, rfl⟩, ⟨_, g7, rfl, rfl⟩, ?_⟩
    refine zpc.run (n := 11) (by decide) (by decide) ⟨⟨_, gw, rfl, rfl⟩, ⟨_, g7, rfl, rfl⟩, ?_⟩
    refine zpc.run (n := 25) (by decide) (by decide) ⟨⟨_, gw, rfl, rfl⟩, ⟨_, g7, rfl, rfl⟩, ?_⟩
    refine zpc.run (n := 2) (by decide) (by decide) ?_
    refine zpc.run (n := 13) (by decide) (by decide) ?_
    refine zpc.run (n := 22) (by decide) (by decide) ⟨by decide, by decide, _, gv 3 _ rfl, rfl, ?_⟩
    simp only [add_w, xor_w, and_w, or_w, not_w]
    refine stRow8 (new := ((rnds ws k s).round (kW k) (ws.getD k 0)).cells) hv rfl (plain_cells _) ?_
    rw [w_i64 (by omega) (by omega)]
    exact hRR _ _ (64 - (k + 1)) (by omega) ⟨k + 1, by simp, by omega, rfl, set_self _ _ _, hst.trans (Step.set _ _ _)⟩
  · rw [if_neg (by rw [decide_eq_true_eq]; omega)]
    have : k = 64 := by omega
    subst this
    exact hx H hv hst
def StAt (H : Heap) (b : Nat) (s : St) (tl : List Value) (e : TypeId) : Prop := H b = some (.cells (s.cells ++ tl).toArray e)
def mixL (a v : List W) (i : Nat) : List W := (a.zipWith (· + ·) v).take i ++ a.drop i
theorem mixL_set {a v : List W} {i : Nat} (hv : v.length = a.length) (hi : i < a.length) : (mixL a v i).set i (a.getD i 0 + v.getD i 0) = mixL a v (i + 1) := by
  unfold mixL
  have hz : (a.zipWith (· + ·) v).length = a.length := by rw [List.length_zipWith, hv, Nat.min_self]
  have ha : a[i]? = some a[i] := List.getElem?_eq_getElem hi
  have hvv : v[i]? = some (v[i]'(by omega)) := List.getElem?_eq_getElem (by omega)
  rw [List.set_append_right _ _ (by rw [List.length_take]; omega), List.length_take, hz, Nat.min_eq_left (by omega), Nat.sub_self, List.drop_eq_getElem_cons hi, List.set_cons_zero, List.take_succ_eq_append_getElem (by omega), List.append_assoc]
  congr 2
  rw [List.getD_eq_getElem?_getD, List.getD_eq_getElem?_getD, ha, hvv, List.getElem_zipWith]
  rfl
theorem mixL_get {a v : List W} {i : Nat} (hv : v.length = a.length) (hi : i < a.length) : (mixL a v i)[i]? = some (a.getD i 0) := by
  unfold mixL
  have hz : (a.zipWith (· + ·) v).length = a.length := by rw [List.length_zipWith, hv, Nat.min_self]
  rw [List.getElem?_append_right (by rw [List.length_take]; omega), List.length_take, hz, Nat.min_eq_left (by omega), Nat.sub_self, List.getElem?_drop, Nat.add_zero, List.getD_eq_getElem?_getD, List.getElem?_eq_getElem hi]
  rfl
theorem mixL_len {a v : List W} {i : Nat} (hv : v.length = a.length) (hi : i ≤ a.length) : (mixL a v i).length = a.length := by
  unfold mixL
  rw [List.length_append, List.length_take, List.length_drop, List.length_zipWith]
  omega
theorem zma.loop4 {H0 : Heap} {sb b4 : Nat} {s v : St} {tl : List Value} {e : TypeId} (hs : StAt H0 sb s tl e) (hne : sb ≠ b4) (hv : H0 b4 = some (.cells v.cells.toArray 207)) {Kx : Heap → Prop} {E : Value → Heap → Prop}
    (hx : ∀ H, StAt H sb (s.plus v) tl e → Step [sb] H0 [sb] H → Kx H) : zma.W4 (some ⟨sb, 0, none⟩) ⟨b4, 0, none⟩ 0 Kx E H0 := by
  have hll : v.list.length = s.list.length := rfl
  have hl8 : s.list.length = 8 := rfl
  refine ⟨Loop.of (I := fun st H m => ∃ k : Nat, st = (k : Int) ∧ k ≤ 8 ∧ m = 8 - k ∧ H sb = some (.cells ((mixL s.list v.list k).map wV ++ tl).toArray e) ∧ Step [sb] H0 [sb] H) ?_ ⟨0, rfl, by omega, rfl, hs, Step.refl _ _⟩⟩
  rintro m st H ⟨k, rfl, hk, rfl, hs, hst⟩ RR hRR
  unfold zma.W4.vc
  by_cases hlt : k < 8
  · rw [if_pos (by rw [decide_eq_true_eq]; omega)]
    have hv := (hst b4 _ hv (by simpa using fun e => hne e.symm)).1
    simp only [Int.toNat_natCast]
    have hml : (mixL s.list v.list k).length = 8 := mixL_len hll (by omega)
    have g1 : H.cell? ((⟨sb, 0, none⟩ : Addr).add (k * 1)) = some (wV (s.list.getD k 0)) := loc0 hs (by
      rw [List.getElem?_toArray, List.getElem?_append_left (by rw [List.length_map, hml]; omega), List.getElem?_map, mixL_get hll (by omega)]
      rfl)
    have g2 : H.cell? ((⟨b4, 0, none⟩ : Addr).add (k * 1)) = some (wV (v.list.getD k 0)) := loc0 hv (by
      have hx : v.list[k]? = some (v.list[k]'(by omega)) := List.getElem?_eq_getElem (by omega)
      unfold St.cells
      rw [List.getElem?_toArray, List.getElem?_map, List.getD_eq_getElem?_getD, hx]
      rfl)
    refine ⟨_, rfl, by omega, by omega, _, g1, by omega, by omega, _, g2, _, rfl, by omega, by omega, ?_⟩
    rw [add_w, Nat.mul_one]
    refine stc_loc hs (by rw [List.size_toArray, List.length_append, List.length_map, hml]; omega) ?_
    have e3 : ((mixL s.list v.list k).map wV ++ tl).toArray.setIfInBounds k (wV (s.list.getD k 0 + v.list.getD k 0)) = ((mixL s.list v.list (k + 1)).map wV ++ tl).toArray := by
      apply Array.toList_inj.1
      rw [Array.toList_setIfInBounds, List.toList_toArray, List.toList_toArray, List.set_append_left _ _ (by rw [List.length_map, hml]; omega), ← List.map_set, mixL_set hll (by omega)]
    have e4 : Value.int .u32 (wv (s.list.getD k 0 + v.list.getD k 0)) = wV (s.list.getD k 0 + v.list.getD k 0) := rfl
    rw [e4, e3, w_i64 (by omega) (by omega)]
    exact hRR _ _ (8 - (k + 1)) (by omega) ⟨k + 1, by simp, by omega, rfl, set_self _ _ _, hst.trans (Step.set _ _ _)⟩
  · rw [if_neg (by rw [decide_eq_true_eq]; omega)]
    have : k = 8 := by omega
    subst this
    exact hx H hs hst
theorem IntsIn.step {L L' : List Nat} {H H' : Heap} {g : Nat} {k : IntKind} {xs : List Int} (h : IntsIn H g k xs) (hs : Step L H L' H') (hg : g ∉ L) : IntsIn H' g k xs := fun i x hi => hs.cell (h i x hi) hg
theorem IntsIn.some0 {H : Heap} {g : Nat} {k : IntKind} {x : Int} {xs : List Int} (h : IntsIn H g k (x :: xs)) : H g ≠ none := fun hn => by
  have := h 0 x rfl
  unfold Heap.cell? at this
  rw [show (⟨g, 0, none⟩ : Addr).block = g from rfl, hn] at this
  cases this
theorem zma.run {H : Heap} {sb : Nat} {s : St} {tl : List Value} {e : TypeId} {p : Option Addr} {c : Nat} {l : List UInt8} (hs : StAt H sb s tl e) (hk0 : IntsIn H 1 .u32 kTab) (hb : zzc H p 64 l) {K : Heap → Prop} {E : Value → Heap → Prop}
    (h : ∀ H', StAt H' sb (s.block l) tl e → Step [sb] H [sb] H' → K H') : zma.c (some ⟨sb, 0, none⟩) p 64 c K E H := by
  have hk00 : H 1 ≠ none := IntsIn.some0 hk0
  refine ⟨?_⟩
  unfold zma.vc
  refine zna fun b3 H1 hn3 hl3 hle1 => ?_
  have hpb : ∀ k ∈ bl p, k ≠ b3 := fun k hk e => by
    subst e
    cases p with
    | none => simp [bl] at hk
    | some a =>
      simp only [bl, List.mem_singleton] at hk
      subst hk
      have hx : l[0]? = some (l[0]'(by rw [hb.1]; omega)) := List.getElem?_eq_getElem (by rw [hb.1]; omega)
      have := hb.2.2 a rfl 0 _ hx
      exact ztf this hn3 (add_block _ _)
  have hb1 : zzc H1 p 64 l := zzc.step (Step.of_le (L := []) hle1) hb (by simp)
  refine zma.loop1 hb1 hpb (hl3.trans (by kernel_rfl)) fun H2 hw2 hs2 => ?_
  refine zma.loop2 hw2 fun H3 hw3 hs3 => ?_
  have nsb : sb ≠ b3 := fun e => by
    subst e
    unfold StAt at hs
    rw [hn3] at hs; cases hs
  have hs23 := hs2.trans hs3
  have hst3 : StAt H3 sb s tl e := (hs23 sb _ (hle1 _ _ hs) (by simpa using nsb)).1
  have gs : ∀ (i : Nat) (x : W), s.list[i]? = some x → H3.cell? ((⟨sb, 0, none⟩ : Addr).add i) = some (wV x) := fun i x hi => loc hst3 (by
    have hi8 : i < s.cells.length := by
      unfold St.cells
      rw [List.length_map]
      exact (List.getElem?_eq_some_iff.1 hi).1
    rw [List.getElem?_toArray, List.getElem?_append_left hi8]
    unfold St.cells
    rw [List.getElem?_map, hi]
    rfl)
  refine ⟨_, rfl, _, gs 0 _ rfl, _, gs 1 _ rfl, _, gs 2 _ rfl, _, gs 3 _ rfl, _, gs 4 _ rfl, _, gs 5 _ rfl, _, gs 6 _ rfl, _, gs 7 _ rfl, ?_⟩
  refine zna fun b4 H4 hn4 hl4 hle4 => ⟨rfl, ?_⟩
  refine stRow8 (new := s.cells) hl4 rfl (plain_cells _) ?_
  have hl5 := set_self H4 b4 (.cells s.cells.toArray 207)
  have hs5 : ∀ k o, H3 k = some o → (H4.set b4 (.cells s.cells.toArray 207)) k = some o := fun k o hk => by
    have : k ≠ b4 := fun e => by subst e; rw [hn4] at hk; cases hk
    rw [set_ne _ _ this]; exact hle4 _ _ hk
  generalize H4.set b4 (.cells s.cells.toArray 207) = H5 at hl5 hs5 ⊢
  have hle5 : Heap.Le H3 H5 := hs5
  have n03 : 1 ≠ b3 := fun e => hk00 (e ▸ hn3)
  have hk1 : IntsIn H1 1 .u32 kTab := fun i x hi => zcc hle1 (hk0 i x hi)
  have hk3 : IntsIn H3 1 .u32 kTab := IntsIn.step hk1 hs23 (by simpa using n03)
  have hk5 : IntsIn H5 1 .u32 kTab := fun i x hi => zcc hle5 (hk3 i x hi)
  refine ⟨kTab.map fun x => Value.int .u32 x, rfl, fun i v hv => ?_, ?_⟩
  · rw [List.getElem?_map, Option.map_eq_some_iff] at hv
    obtain ⟨x, hx, rfl⟩ := hv
    rw [add_mk, Nat.zero_add]
    exact hk5 i x hx
  have n34 : b3 ≠ b4 := fun e => by subst e; rw [hn4] at hw3; cases hw3
  refine zma.loop3 (sched_len l) (hs5 _ _ hw3) n34 hl5 fun H6 hv6 hs6 => ?_
  have ns4 : sb ≠ b4 := fun e => by
    subst e
    unfold StAt at hst3
    rw [hn4] at hst3; cases hst3
  have hst6 : StAt H6 sb s tl e := (hs6 sb _ (hs5 _ _ hst3) (by simpa using ns4)).1
  refine zma.loop4 hst6 ns4 hv6 fun H7 h7 hs7 => ⟨H7, Heap.Le.refl _, h H7 h7 ?_⟩
  intro k o hk hn
  have n3 : k ≠ b3 := fun e => by subst e; rw [hn3] at hk; cases hk
  have k3 := (hs23 k o (hle1 k o hk) (by simpa using n3)).1
  have n4 : k ≠ b4 := fun e => by subst e; rw [hn4] at k3; cases k3
  exact ⟨(hs7 k o (hs6 k o (hs5 k o k3) (by simpa using n4)).1 hn).1, hn⟩
end Go.Sh
namespace Go.Sh
set_option maxRecDepth 8000
def HashAt (H : Heap) (b : Nat) (L : List Nat) (d : List UInt8) : Prop :=
  ∃ p c e, StAt H b (eat st0 d).1 [.slice p (eat st0 d).2.length c, .int .u64 (d.length : Int)] e ∧ OwnB H 5 p (eat st0 d).2.length c (eat st0 d).2 ∧ b ∉ bl p ∧ L = b :: bl p
theorem sha_first.run {H : Heap} {K : Int → Int → Int → Int → Int → Int → Int → Int → Heap → Prop} {E : Value → Heap → Prop} (h : ∀ H', Heap.Le H H' → K (wv st0.a) (wv st0.b) (wv st0.c) (wv st0.d) (wv st0.e) (wv st0.f) (wv st0.g) (wv st0.h) H') : sha_first.c K E H := by
  refine ⟨?_⟩
  unfold sha_first.vc
  refine zna fun b H1 hn hl hle => ⟨rfl, ?_⟩
  have e0 : (#[(.int .u32 1779033703), (.int .u32 3144134277), (.int .u32 1013904242), (.int .u32 2773480762), (.int .u32 1359893119), (.int .u32 2600822924), (.int .u32 528734635), (.int .u32 1541459225)] : Array Value).toList = st0.cells := by kernel_rfl
  rw [e0]
  refine stRow8 hl rfl (plain_cells _) ?_
  have hl2 := set_self H1 b (.cells st0.cells.toArray 207)
  have hle2 : Heap.Le H (H1.set b (.cells st0.cells.toArray 207)) := fun k o hk => by
    have : k ≠ b := fun e => by subst e; rw [hn] at hk; cases hk
    rw [set_ne _ _ this]; exact hle k o hk
  generalize H1.set b (.cells st0.cells.toArray 207) = H2 at hl2 hle2 ⊢
  have g : ∀ (i : Nat) (x : W), st0.list[i]? = some x → H2.cell? ((⟨b, 0, none⟩ : Addr).add i) = some (wV x) := fun i x hi => loc hl2 (by
    unfold St.cells
    rw [List.getElem?_toArray, List.getElem?_map, hi]
    rfl)
  exact ⟨_, g 0 _ rfl, _, g 1 _ rfl, _, g 2 _ rfl, _, g 3 _ rfl, _, g 4 _ rfl, _, g 5 _ rfl, _, g 6 _ rfl, _, g 7 _ rfl, H2, Heap.Le.refl _, h H2 hle2⟩
theorem zme.run {H : Heap} {K : Option Addr → Heap → Prop} {E : Value → Heap → Prop} (h : ∀ b H', HashAt H' b [b] [] → H b = none → Heap.Le H H' → K (some ⟨b, 0, none⟩) H') : zme.c K E H := by
  refine ⟨?_⟩
  unfold zme.vc
  refine sha_first.run fun H1 hle1 => ?_
  refine zna fun b H2 hn hl hle2 => ⟨H2, Heap.Le.refl _, h b H2 ⟨none, 0, 209, ?_, OwnB.nil, by simp [bl], rfl⟩ ?_ (hle1.trans hle2)⟩
  · unfold StAt
    rw [hl]
    rfl
  · cases hh : H b with
    | none => rfl
    | some o => rw [hle1 _ _ hh] at hn; cases hn
theorem StAt.set8 {H : Heap} {b : Nat} {s : St} {x y v : Value} {e : TypeId} {K : Heap → Prop} (h : StAt H b s [x, y] e) (hk : ∀ H', StAt H' b s [v, y] e → Step [b] H [b] H' → K H') : stc H ((⟨b, 0, none⟩ : Addr).add 8) v K :=
  stc_loc h (by simp [St.cells, St.list]) (hk _ (set_self H b _) (Step.set _ _ _))
theorem StAt.set9 {H : Heap} {b : Nat} {s : St} {x y v : Value} {e : TypeId} {K : Heap → Prop} (h : StAt H b s [x, y] e) (hk : ∀ H', StAt H' b s [x, v] e → Step [b] H [b] H' → K H') : stc H ((⟨b, 0, none⟩ : Addr).add 9) v K :=
  stc_loc h (by simp [St.cells, St.list]) (hk _ (set_self H b _) (Step.set _ _ _))
theorem zoa.loop {H0 : Heap} {b : Nat} {s : St} {n : Value} {e : TypeId} {p : Option Addr} {c : Nat} {r : List UInt8} (hs : StAt H0 b s [.slice p r.length c, n] e) (ho : OwnB H0 5 p r.length c r) (hbp : b ∉ bl p) (hk : IntsIn H0 1 .u32 kTab) (h0 : 1 ∉ b :: bl p) {Kx : Heap → Prop} {E : Value → Heap → Prop}
    (hx : ∀ p' c' H, StAt H b (eat s r).1 [.slice p' (eat s r).2.length c', n] e → OwnB H 5 p' (eat s r).2.length c' (eat s r).2 → b ∉ bl p' → Step (b :: bl p) H0 (b :: bl p') H → Kx H) : zoa.W2 (some ⟨b, 0, none⟩) Kx E H0 := by
  refine ⟨Loop.of (I := fun (_ : Unit) H m => ∃ s' p' c' r', m = r'.length ∧ StAt H b s' [.slice p' r'.length c', n] e ∧ OwnB H 5 p' r'.length c' r' ∧ bl p' = bl p ∧ Step (b :: bl p) H0 (b :: bl p) H ∧ eat s' r' = eat s r) ?_ ⟨s, p, c, r, rfl, hs, ho, rfl, Step.refl _ _, rfl⟩⟩
  rintro m _ H ⟨s', p', c', r', rfl, hs, ho, hbl, hst, heq⟩ RR hRR
  unfold zoa.W2.vc
  have hsl : ∀ {H : Heap} {s : St} {p : Option Addr} {n1 c : Nat}, StAt H b s [.slice p n1 c, n] e → H.cell? ((⟨b, 0, none⟩ : Addr).add 8) = some (.slice p n1 c) := fun h => loc h rfl
  refine ⟨_, rfl, p', r'.length, c', hsl hs, ?_⟩
  by_cases hc : 64 ≤ r'.length
  · refine (if_pos (by rw [decide_eq_true_eq]; omega)).mpr ⟨_, rfl, _, rfl, p', r'.length, c', hsl hs, by decide, by have := ho.2.1; omega, ?_⟩
    rw [add_mk, slA_zero]
    have hk2 : IntsIn H 1 .u32 kTab := hk.step hst h0
    refine zma.run hs hk2 (ho.bytes.take hc) fun H2 hs2 hst2 => ⟨_, rfl, p', r'.length, c', hsl hs2, by decide, by omega, ho.2.1, _, rfl, ?_⟩
    have ho2 := ho.step hst2 fun k hk => not_one hbp (hbl ▸ hk)
    refine StAt.set8 hs2 fun H3 hl3 hst3 => ?_
    have ho3 := ho2.step hst3 fun k hk => not_one hbp (hbl ▸ hk)
    obtain ⟨ho4, hbl4⟩ := ho3.drop hc
    have hlen : (r'.drop 64).length = r'.length - 64 := List.length_drop
    refine hRR () H3 (r'.drop 64).length (by omega) ⟨s'.block (r'.take 64), slA p' c' 64 1, c' - 64, r'.drop 64, rfl, ?_, ?_, hbl4.trans hbl, ?_, ?_⟩
    · rw [hlen]; exact hl3
    · rw [hlen]; exact ho4
    · exact hst.trans ((hst2.trans hst3).frame (fun k hk => by simp only [List.mem_cons, not_or] at hk; simpa using hk.1) fun k hk _ => hk)
    · rw [← eat_step hc]; exact heq
  · refine (if_neg (by rw [decide_eq_true_eq]; omega)).mpr ?_
    rw [eat_small (l := r') (by omega)] at heq
    have := hx p' c' H
    rw [← heq] at this
    exact this hs ho (by rw [hbl]; exact hbp) (by rw [hbl]; exact hst)
theorem zoa.run {H : Heap} {b : Nat} {L : List Nat} {d : List UInt8} (hb : HashAt H b L d) {x : ByteArray} (hd : d.length + x.size ≤ 1000000000000) (hk : IntsIn H 1 .u32 kTab) (h0 : 1 ∉ L) {K : Heap → Prop} {E : Value → Heap → Prop}
    (h : ∀ L' H', HashAt H' b L' (d ++ x.data.toList) → Step L H L' H' → K H') : zoa.c (some ⟨b, 0, none⟩) x K E H := by
  have hxl : x.data.toList.length = x.size := by rw [Array.length_toList]; rfl
  have hk0 : H 1 ≠ none := IntsIn.some0 hk
  obtain ⟨p, c, e, hs, ho, hbp, rfl⟩ := hb
  have hrest := (eat_rest _ st0 d (Nat.le_refl _)).1
  refine ⟨?_⟩
  unfold zoa.vc
  refine ⟨_, rfl, _, loc hs (o := 9) rfl, _, rfl, ?_⟩
  have hn : IntKind.u64.wrap ((d.length : Int) + IntKind.u64.wrap (x.size : Int)) = ((d ++ x.data.toList).length : Int) := by
    rw [w_u64 (n := (x.size : Int)) (by omega) (by omega), w_u64 (by omega) (by omega), List.length_append, hxl]
    simp
  rw [hn]
  refine StAt.set9 hs fun H1 hs1 hst1 => ?_
  have ho1 := ho.step hst1 fun k hk => not_one hbp hk
  refine ⟨_, rfl, p, (eat st0 d).2.length, c, loc hs1 (o := 8) rfl, ?_⟩
  refine appT_bytes (xs := x.data.toList) ho1 (by rw [zvd]; rfl) hxl (by omega) fun p' c' H2 ho2 hst2 => ?_
  have hs2 := hst2 b _ hs1 hbp
  have nb0 : (1 : Nat) ∉ [b] := by
    simp only [List.mem_cons, not_or] at h0
    simpa using h0.1
  have n0p : (1 : Nat) ∉ bl p := by
    simp only [List.mem_cons, not_or] at h0
    exact h0.2
  have hk2 : IntsIn H2 1 .u32 kTab := (hk.step hst1 nb0).step hst2 n0p
  have n0p' : (1 : Nat) ∉ bl p' := by
    cases h1 : H1 1 with
    | none => exact absurd h1 (IntsIn.some0 (hk.step hst1 nb0))
    | some o => exact (hst2 1 o h1 n0p).2
  refine ⟨_, rfl, StAt.set8 hs2.1 fun H3 hs3 hst3 => ?_⟩
  have ho3 := ho2.step hst3 fun k hk => not_one hs2.2 hk
  have hlen : ((eat st0 d).2 ++ x.data.toList).length = (eat st0 d).2.length + x.size := by rw [List.length_append, hxl]
  rw [← hlen] at hs3 ho3
  have hk3 : IntsIn H3 1 .u32 kTab := hk2.step hst3 nb0
  have hn0 : (1 : Nat) ∉ b :: bl p' := by
    simp only [List.mem_cons, not_or]
    exact ⟨by simpa using nb0, n0p'⟩
  have hst03 : Step (b :: bl p) H (b :: bl p') H3 := by
    intro k o hk hn
    simp only [List.mem_cons, not_or] at hn ⊢
    have k1 := hst1 k o hk (by simpa using hn.1)
    have k2 := hst2 k o k1.1 hn.2
    have k3 := hst3 k o k2.1 (by simpa using hn.1)
    exact ⟨k3.1, hn.1, k2.2⟩
  refine ⟨?_⟩
  unfold zoa.J1.vc
  refine zoa.loop hs3 ho3 hs2.2 hk3 hn0 fun p4 c4 H4 hs4 ho4 hbp4 hst4 => ?_
  have hall : eat (eat st0 d).1 ((eat st0 d).2 ++ x.data.toList) = eat st0 (d ++ x.data.toList) := (eat_app _ _ _ _ (Nat.le_refl _)).symm
  rw [hall] at hs4 ho4
  refine ⟨_, rfl, p4, _, c4, loc hs4 (o := 8) rfl, ?_⟩
  have hst : Step (b :: bl p) H (b :: bl p4) H4 := hst03.trans hst4
  by_cases hz : (eat st0 (d ++ x.data.toList)).2.length = 0
  · refine (if_pos (by simp [hz])).mpr ⟨_, rfl, StAt.set8 hs4 fun H5 hs5 hst5 => ?_⟩
    have hr : (eat st0 (d ++ x.data.toList)).2 = [] := List.length_eq_zero_iff.1 hz
    refine ⟨H5, Heap.Le.refl _, h [b] H5 ⟨none, 0, e, ?_, ?_, by simp [bl], rfl⟩ ?_⟩
    · rw [hz]; exact hs5
    · rw [hr]; exact OwnB.nil
    · intro k o hk hn
      have k4 := hst k o hk hn
      have hne : k ∉ [b] := by
        simp only [List.mem_cons, not_or] at hn
        simpa using hn.1
      exact ⟨(hst5 k o k4.1 hne).1, hne⟩
  · exact (if_neg (by rw [beq_iff_eq]; omega)).mpr ⟨H4, Heap.Le.refl _, h _ H4 ⟨p4, c4, e, hs4, ho4, hbp4, rfl⟩ hst⟩
theorem push_byte {H : Heap} {p : Option Addr} {n c : Nat} {l : List UInt8} {x : UInt8} {v : Int} {e1 : TypeId} {K : Option Addr → Nat → Nat → Heap → Prop} (hv : v = (x.toNat : Int)) (h : OwnB H 5 p n c l) (hn : n + 1 ≤ 140737488355328)
    (hk : ∀ p' c' H', OwnB H' 5 p' (n + 1) c' (l ++ [x]) → Step (bl p) H (bl p') H' → K p' (n + 1) c' H') :
    newB (.cells #[(.int .u8 v)] e1) (fun b3 h2 => rdRow h2 (some (⟨b3, 0, none⟩ : Addr)) (1 * 1) fun cs0 => appT 5 (.int .u8 0) p n 1 c 1 1 cs0 K h2) H := by
  subst hv
  refine zna fun b1 H1 hb1 hl1 hle1 => ?_
  have hb : zzc H1 (some ⟨b1, 0, none⟩) 1 [x] := ⟨rfl, (fun h => by cases h), fun a ha i y hi => by
    cases ha
    cases i with
    | zero =>
      have : x = y := by simpa using hi
      subst this
      exact loc hl1 rfl
    | succ i => simp at hi⟩
  refine hb.rdRow rfl ?_
  exact appT_bytes (xs := [x]) (h.le hle1) rfl rfl hn fun p' c' H2 h1 h2 => hk p' c' H2 h1 ((Step.of_le hle1).trans h2)
theorem zla.loop3 {H0 : Heap} {hp : Option Addr} {x0 : Addr} {p : Option Addr} {c : Nat} {r : List UInt8} (hr : r.length < 64) (ho : OwnB H0 5 p (r ++ [128]).length c (r ++ [128])) {Kx : Option Addr → Nat → Nat → Heap → Prop} {E : Value → Heap → Prop}
    (hx : ∀ p' c' H, OwnB H 5 p' ((r ++ [128]) ++ List.replicate (zpad r.length) 0).length c' ((r ++ [128]) ++ List.replicate (zpad r.length) 0) → Step (bl p) H0 (bl p') H → Kx p' ((r ++ [128]) ++ List.replicate (zpad r.length) 0).length c' H) :
    zla.W3 hp x0 p (r ++ [128]).length c Kx E H0 := by
  refine ⟨Loop.of (I := fun st H m => ∃ j, j ≤ zpad r.length ∧ m = zpad r.length - j ∧ st.2.1 = ((r ++ [128]) ++ List.replicate j 0).length ∧ OwnB H 5 st.1 st.2.1 st.2.2 ((r ++ [128]) ++ List.replicate j 0) ∧ Step (bl p) H0 (bl st.1) H) ?_ ⟨0, Nat.zero_le _, rfl, by simp, by simpa using ho, Step.refl _ _⟩⟩
  rintro m ⟨p1, n1, c1⟩ H ⟨j, hj, rfl, hn, ho, hst⟩ RR hRR
  dsimp only at hn ho hst
  subst hn
  unfold zla.W3.vc
  dsimp only
  have hlen : ((r ++ [128]) ++ List.replicate j 0).length = r.length + 1 + j := by simp; omega
  have ht : Int.tmod ((((r ++ [128]) ++ List.replicate j (0 : UInt8)).length : Nat) : Int) 64 = ((((r ++ [128]) ++ List.replicate j (0 : UInt8)).length % 64 : Nat) : Int) := by
    rw [Int.tmod_eq_emod_of_nonneg (by omega)]
    simp
  refine ⟨by decide, ?_⟩
  rw [ht]
  have hz : zpad r.length = (119 - r.length % 64) % 64 := rfl
  by_cases hc : j < zpad r.length
  · rw [if_pos (by rw [bne_iff_ne]; rw [hlen]; omega)]
    refine push_byte (x := 0) rfl ho (by omega) fun p' c' H2 h1 h2 => ?_
    have e : ((r ++ [128]) ++ List.replicate j (0 : UInt8)) ++ [0] = (r ++ [128]) ++ List.replicate (j + 1) 0 := by
      rw [List.append_assoc, ← List.replicate_succ']
    rw [e] at h1
    exact hRR (p', _, c') H2 (zpad r.length - (j + 1)) (by omega) ⟨j + 1, by omega, rfl, by simp; omega, h1, hst.trans h2⟩
  · have hjz : j = zpad r.length := by omega
    rw [if_neg (by rw [bne_iff_ne]; rw [hlen]; omega)]
    subst hjz
    exact hx p1 c1 H ho hst
theorem be64_byte {n j : Nat} (hn : n ≤ 1000000000000) (hj : j < 8) : IntKind.u8.wrap (shrI .u64 (IntKind.u64.wrap (8 * (n : Int))) (IntKind.i64.wrap (56 - (IntKind.i64.wrap (8 * (j : Int)))))) = ((UInt8.ofNat (8 * n / 2 ^ (56 - 8 * j))).toNat : Int) := by
  rw [w_i64 (n := 8 * (j : Int)) (by omega) (by omega), w_i64 (n := 56 - 8 * (j : Int)) (by omega) (by omega), w_u64 (by omega) (by omega)]
  have e1 : (56 - 8 * (j : Int)).toNat = 56 - 8 * j := by omega
  have e2 : shrI .u64 (8 * (n : Int)) (56 - 8 * (j : Int)) = ((8 * n / 2 ^ (56 - 8 * j) : Nat) : Int) := by
    unfold shrI
    have e3 : min (56 - 8 * (j : Int)).toNat (IntKind.bits .u64) = 56 - 8 * j := by
      show min (56 - 8 * (j : Int)).toNat 64 = _
      omega
    rw [e3, Int.fdiv_eq_ediv_of_nonneg _ (Int.le_of_lt (Int.pow_pos (by decide)))]
    simp
  rw [e2]
  have e4 : ∀ m : Nat, IntKind.u8.wrap (m : Int) = ((m % 256 : Nat) : Int) := fun m => by
    simp only [IntKind.wrap, IntKind.bits, IntKind.signed, Bool.false_and, Bool.false_eq_true, if_false]
    omega
  rw [e4, UInt8.toNat_ofNat']
theorem zla.loop4 {H0 : Heap} {b : Nat} {x0 : Addr} {p : Option Addr} {c n : Nat} {l : List UInt8} (hn : n ≤ 1000000000000) (hl : l.length ≤ 1000) (ho : OwnB H0 5 p l.length c l) (hb : H0.cell? ((⟨b, 0, none⟩ : Addr).add 9) = some (.int .u64 (n : Int))) (hbp : b ∉ bl p) {Kx : Option Addr → Nat → Nat → Heap → Prop} {E : Value → Heap → Prop}
    (hx : ∀ p' c' H, OwnB H 5 p' (l ++ be64 (8 * n)).length c' (l ++ be64 (8 * n)) → Step (bl p) H0 (bl p') H → Kx p' (l ++ be64 (8 * n)).length c' H) :
    zla.W4 (some ⟨b, 0, none⟩) x0 p l.length c 0 Kx E H0 := by
  have hb0 : ∃ o, H0 b = some o := by
    cases hh : H0 b with
    | none => exact absurd rfl (ztf hb hh)
    | some o => exact ⟨o, rfl⟩
  obtain ⟨o9, ho9⟩ := hb0
  refine ⟨Loop.of (I := fun st H m => ∃ j, j ≤ 8 ∧ m = 8 - j ∧ st.2.2.2 = (j : Int) ∧ st.2.1 = (l ++ (be64 (8 * n)).take j).length ∧ OwnB H 5 st.1 st.2.1 st.2.2.1 (l ++ (be64 (8 * n)).take j) ∧ Step (bl p) H0 (bl st.1) H) ?_ ⟨0, Nat.zero_le _, rfl, rfl, by simp, by simpa using ho, Step.refl _ _⟩⟩
  rintro m ⟨p1, n1, c1, j'⟩ H ⟨j, hj, rfl, hj', hn1, ho, hst⟩ RR hRR
  dsimp only at hj' hn1 ho hst
  subst hn1; subst hj'
  have h64 : (be64 (8 * n)).length = 8 := by simp [be64]
  unfold zla.W4.vc
  dsimp only
  by_cases hc : j < 8
  · rw [if_pos (by rw [decide_eq_true_eq]; omega)]
    have hcell : H.cell? ((⟨b, 0, none⟩ : Addr).add 9) = some (.int .u64 (n : Int)) := hst.cell hb (by rw [add_block]; exact hbp)
    refine ⟨_, rfl, _, hcell, ?_, ?_⟩
    · rw [w_i64 (n := 8 * (j : Int)) (by omega) (by omega), w_i64 (by omega) (by omega)]; omega
    refine push_byte (be64_byte hn hc) ho (by rw [List.length_append, List.length_take]; omega) fun p' c' H2 h1 h2 => ⟨?_⟩
    unfold zla.J5.vc
    rw [w_i64 (by omega) (by omega)]
    have e : (l ++ (be64 (8 * n)).take j) ++ [UInt8.ofNat (8 * n / 2 ^ (56 - 8 * j))] = l ++ (be64 (8 * n)).take (j + 1) := by
      rw [List.append_assoc, List.take_succ_eq_append_getElem (by omega)]
      congr 2
      simp [be64]
    rw [e] at h1
    refine hRR (p', _, c', _) H2 (8 - (j + 1)) (by omega) ⟨j + 1, by omega, rfl, by simp, ?_, h1, hst.trans h2⟩
    rw [← e, List.length_append (bs := [_])]
    rfl
  · rw [if_neg (by rw [decide_eq_true_eq]; omega)]
    have : j = 8 := by omega
    subst this
    have e : (be64 (8 * n)).take 8 = be64 (8 * n) := List.take_of_length_le (by omega)
    rw [e] at ho ⊢
    exact hx p1 c1 H ho hst
theorem zla.loop6 {H0 : Heap} {sb : Nat} {s : St} {e : TypeId} {p : Option Addr} {c : Nat} {l : List UInt8} (hl : l.length % 64 = 0) (hs : StAt H0 sb s [] e) (ho : OwnB H0 5 p l.length c l) (hsp : sb ∉ bl p) (hk : IntsIn H0 1 .u32 kTab) (h0 : 1 ≠ sb) {Kx : Heap → Prop} {E : Value → Heap → Prop}
    (hx : ∀ H, StAt H sb (eat s l).1 [] e → Step [sb] H0 [sb] H → Kx H) : zla.W6 ⟨sb, 0, none⟩ p l.length c Kx E H0 := by
  refine ⟨Loop.of (I := fun st H m => ∃ s' l', l'.length % 64 = 0 ∧ m = l'.length ∧ st.2.1 = l'.length ∧ StAt H sb s' [] e ∧ OwnB H 5 st.1 l'.length st.2.2 l' ∧ sb ∉ bl st.1 ∧ Step [sb] H0 [sb] H ∧ eat s' l' = eat s l) ?_ ⟨s, l, hl, rfl, rfl, hs, ho, hsp, Step.refl _ _, rfl⟩⟩
  rintro m ⟨p1, n1, c1⟩ H ⟨s', l', hl, rfl, hn1, hs, ho, hsp, hst, heq⟩ RR hRR
  dsimp only at hn1 ho hsp
  subst hn1
  unfold zla.W6.vc
  dsimp only
  by_cases hc : 0 < l'.length
  · have hc64 : 64 ≤ l'.length := by omega
    refine (if_pos (by rw [decide_eq_true_eq]; omega)).mpr ⟨by decide, by have := ho.2.1; omega, ?_⟩
    rw [slA_zero]
    refine zma.run hs (hk.step hst (by simpa using h0)) (ho.bytes.take hc64) fun H2 hs2 hst2 => ⟨by decide, by omega, ho.2.1, ?_⟩
    have ho2 := ho.step hst2 fun k hk => not_one hsp hk
    obtain ⟨ho4, hbl4⟩ := ho2.drop hc64
    have hlen : (l'.drop 64).length = l'.length - 64 := List.length_drop
    refine hRR (_, _, _) H2 (l'.drop 64).length (by omega) ⟨s'.block (l'.take 64), l'.drop 64, by omega, rfl, hlen.symm, hs2, ?_, ?_, hst.trans hst2, ?_⟩
    · rw [hlen]; exact ho4
    · show sb ∉ bl (slA p1 c1 64 1)
      rw [hbl4]; exact hsp
    · rw [← eat_step hc64]; exact heq
  · refine (if_neg (by rw [decide_eq_true_eq]; omega)).mpr ?_
    rw [eat_small (l := l') (by omega)] at heq
    have := hx H
    rw [← heq] at this
    exact this hs hst
theorem u8_shr (w : W) {n : Int} (h0 : 0 ≤ n) (h1 : n ≤ 32) : IntKind.u8.wrap (shrI .u32 (wv w) n) = ((UInt8.ofNat (w.toNat / 2 ^ n.toNat)).toNat : Int) := by
  have e4 : ∀ m : Nat, IntKind.u8.wrap (m : Int) = ((m % 256 : Nat) : Int) := fun m => by
    simp only [IntKind.wrap, IntKind.bits, IntKind.signed, Bool.false_and, Bool.false_eq_true, if_false]
    omega
  rw [shr_w w h0 h1]
  unfold wv
  rw [e4, UInt8.toNat_ofNat', BitVec.toNat_ushiftRight, Nat.shiftRight_eq_div_pow]
theorem push4 {H : Heap} {p : Option Addr} {n c : Nat} {l : List UInt8} {x : List UInt8} {v0 v1 v2 v3 : Int} {e1 : TypeId} {K : Option Addr → Nat → Nat → Heap → Prop} (hx : x.map byV = [.int .u8 v0, .int .u8 v1, .int .u8 v2, .int .u8 v3]) (h : OwnB H 5 p n c l) (hn : n + 4 ≤ 140737488355328)
    (hk : ∀ p' c' H', OwnB H' 5 p' (n + 4) c' (l ++ x) → Step (bl p) H (bl p') H' → K p' (n + 4) c' H') :
    newB (.cells #[(.int .u8 v0), (.int .u8 v1), (.int .u8 v2), (.int .u8 v3)] e1) (fun b3 h2 => rdRow h2 (some (⟨b3, 0, none⟩ : Addr)) (4 * 1) fun cs0 => appT 5 (.int .u8 0) p n 4 c 1 1 cs0 K h2) H := by
  refine zna fun b1 H1 hb1 hl1 hle1 => ?_
  have hxl : x.length = 4 := by
    have := congrArg List.length hx
    simpa using this
  have hb : zzc H1 (some ⟨b1, 0, none⟩) 4 x := ⟨hxl, (fun h => by cases h), fun a ha i y hi => by
    cases ha
    refine loc hl1 ?_
    have h2 : (x.map byV)[i]? = some (byV y) := by rw [List.getElem?_map, hi]; rfl
    rw [hx] at h2
    rw [← h2]
    simp⟩
  refine hb.rdRow rfl ?_
  exact appT_bytes (xs := x) (h.le hle1) rfl hxl hn fun p' c' H2 h1 h2 => hk p' c' H2 h1 ((Step.of_le hle1).trans h2)
theorem flat_len4 : ∀ (l : List W), (l.flatMap be4).length = 4 * l.length
  | [] => rfl
  | x :: l => by
    rw [List.flatMap_cons, List.length_append, flat_len4 l, List.length_cons]
    show 4 + _ = _
    omega
theorem zla.loop7 {H0 : Heap} {s : St} {Kx : Option Addr → Nat → Nat → Heap → Prop} {E : Value → Heap → Prop}
    (hx : ∀ p' c' H, OwnB H 5 p' s.bytes.length c' s.bytes → Step [] H0 (bl p') H → Kx p' s.bytes.length c' H) : zla.W7 none 0 0 (wv s.a) (wv s.b) (wv s.c) (wv s.d) (wv s.e) (wv s.f) (wv s.g) (wv s.h) 0 Kx E H0 := by
  have hl8 : s.list.length = 8 := rfl
  refine ⟨Loop.of (I := fun st H m => ∃ j, j ≤ 8 ∧ m = 8 - j ∧ st.2.2.2 = (j : Int) ∧ st.2.1 = ((s.list.take j).flatMap be4).length ∧ OwnB H 5 st.1 st.2.1 st.2.2.1 ((s.list.take j).flatMap be4) ∧ Step [] H0 (bl st.1) H) ?_ ⟨0, Nat.zero_le _, rfl, rfl, rfl, OwnB.nil, Step.refl _ _⟩⟩
  rintro m ⟨p1, n1, c1, j'⟩ H ⟨j, hj, rfl, hj', hn1, ho, hst⟩ RR hRR
  dsimp only at hj' hn1 ho hst
  subst hn1; subst hj'
  have hln : ((s.list.take j).flatMap be4).length ≤ 1000 := by rw [flat_len4, List.length_take]; omega
  unfold zla.W7.vc
  dsimp only
  by_cases hc : j < 8
  · rw [if_pos (by rw [decide_eq_true_eq]; omega)]
    have hw : s.list[j]? = some (s.list[j]'(by omega)) := List.getElem?_eq_getElem (by omega)
    generalize s.list[j]'(by omega) = w at hw
    refine ⟨by omega, by omega, wV w, ?_, wv w, rfl, by decide, by decide, by decide, ?_⟩
    · show (s.cells.toArray)[_]? = _
      unfold St.cells
      rw [Int.toNat_natCast, List.getElem?_toArray, List.getElem?_map, hw]
      rfl
    have e8 : IntKind.u8.wrap (wv w) = ((UInt8.ofNat w.toNat).toNat : Int) := by
      have := u8_shr w (n := 0) (by decide) (by decide)
      rw [shr_w w (by decide) (by decide)] at this
      simpa using this
    rw [u8_shr w (by decide) (by decide), u8_shr w (by decide) (by decide), u8_shr w (by decide) (by decide), e8]
    refine push4 (x := be4 w) rfl ho (by omega) fun p' c' H2 h1 h2 => ⟨?_⟩
    unfold zla.J8.vc
    rw [w_i64 (by omega) (by omega)]
    have e : (s.list.take j).flatMap be4 ++ be4 w = (s.list.take (j + 1)).flatMap be4 := by
      have hlt : j < s.list.length := by omega
      have : s.list[j] = w := (List.getElem?_eq_some_iff.1 hw).2
      rw [List.take_succ_eq_append_getElem hlt, List.flatMap_append, this]
      simp
    rw [e] at h1
    refine hRR (p', _, c', _) H2 (8 - (j + 1)) (by omega) ⟨j + 1, by omega, rfl, by simp, ?_, h1, hst.trans h2⟩
    rw [← e, List.length_append]
    rfl
  · rw [if_neg (by rw [decide_eq_true_eq]; omega)]
    have : j = 8 := by omega
    subst this
    have e : s.list.take 8 = s.list := List.take_of_length_le (by omega)
    rw [e] at ho ⊢
    exact hx p1 c1 H ho hst
theorem zla.run {H : Heap} {b : Nat} {L : List Nat} {d : List UInt8} (hb : HashAt H b L d) (hd : d.length ≤ 1000000000000) (hk : IntsIn H 1 .u32 kTab) (h0 : 1 ∉ L) {K : ByteArray → Heap → Prop} {E : Value → Heap → Prop}
    (h : ∀ H', Heap.Le H H' → K ⟨(sha d).toArray⟩ H') : zla.c (some ⟨b, 0, none⟩) K E H := by
  have hk0 : H 1 ≠ none := IntsIn.some0 hk
  obtain ⟨p, c, e, hs, ho, hbp, rfl⟩ := hb
  have hrest := (eat_rest _ st0 d (Nat.le_refl _)).1
  generalize hS : (eat st0 d).1 = S at hs
  generalize hR : (eat st0 d).2 = R at hs ho hrest
  refine ⟨?_⟩
  unfold zla.vc
  have g0 : ∀ (i : Nat) (x : W), S.list[i]? = some x → H.cell? (((⟨b, 0, none⟩ : Addr).add 0).add i) = some (wV x) := fun i x hi => by
    rw [add_mk]
    refine loc hs ?_
    have hi8 : i < S.cells.length := by
      unfold St.cells
      rw [List.length_map]
      exact (List.getElem?_eq_some_iff.1 hi).1
    rw [List.getElem?_toArray, List.getElem?_append_left hi8]
    unfold St.cells
    rw [List.getElem?_map, hi]
    rfl
  refine ⟨_, rfl, _, g0 0 _ rfl, _, g0 1 _ rfl, _, g0 2 _ rfl, _, g0 3 _ rfl, _, g0 4 _ rfl, _, g0 5 _ rfl, _, g0 6 _ rfl, _, g0 7 _ rfl, ?_⟩
  refine zna fun b0 H1 hn1 hl1 hle1 => ⟨rfl, ?_⟩
  refine stRow8 (new := S.cells) hl1 rfl (plain_cells _) ?_
  have hs2 : StAt (H1.set b0 (.cells S.cells.toArray 207)) b0 S [] 207 := by
    have := set_self H1 b0 (.cells S.cells.toArray 207)
    unfold StAt
    rw [List.append_nil]
    exact this
  have hle2 : Heap.Le H (H1.set b0 (.cells S.cells.toArray 207)) := fun k o hk => by
    have : k ≠ b0 := fun e => by subst e; rw [hn1] at hk; cases hk
    rw [set_ne _ _ this]; exact hle1 k o hk
  generalize H1.set b0 (.cells S.cells.toArray 207) = H2 at hs2 hle2 ⊢
  refine zna fun b1 H3 hn3 hl3 hle3 => ?_
  have hle03 := hle2.trans hle3
  have hs3 : StAt H3 b0 S [] 207 := hle3 _ _ hs2
  have hb3 : StAt H3 b S [.slice p R.length c, .int .u64 (d.length : Int)] e := hle03 _ _ hs
  refine ⟨_, rfl, p, R.length, c, loc hb3 (o := 8) rfl, ?_⟩
  have ho3 := ho.le hle03
  refine ho3.bytes.rdRow rfl ?_
  have hob : OwnB H3 5 (some ⟨b1, 0, none⟩) 0 0 [] := OwnB.of_block hl3 rfl (Nat.le_refl _) (Nat.zero_le _) (.inr rfl) rfl
  have := appT_bytes (xs := R) (m := R.length) hob rfl rfl (by omega) (K := fun p0 n0 c0 h5 => zla.J1 (some ⟨b, 0, none⟩) ⟨b0, 0, none⟩ p0 n0 c0 (fun r H => ∃ H', Heap.Le H' H ∧ K r H') E h5)
  refine this fun p4 c4 H4 ho4 hst4 => ⟨?_⟩
  rw [List.nil_append, Nat.zero_add] at ho4
  rw [Nat.zero_add]
  unfold zla.J1.vc
  refine push_byte (x := 128) rfl ho4 (by omega) fun p5 c5 H5 ho5 hst5 => ⟨?_⟩
  unfold zla.J2.vc
  have hlen5 : (R ++ [128]).length = R.length + 1 := by simp
  rw [← hlen5] at ho5 ⊢
  refine zla.loop3 hrest ho5 fun p6 c6 H6 ho6 hst6 => ?_
  -- what is known stays
  have n1 : b1 ≠ b0 := fun e1 => by
    subst e1
    unfold StAt at hs2
    rw [hn3] at hs2; cases hs2
  have st36 : Step [b1] H3 (bl p6) H6 := (hst4.trans hst5).trans hst6
  have keep : ∀ k o, H k = some o → H6 k = some o ∧ k ∉ bl p6 := fun k o hk => by
    have k3 := hle03 k o hk
    have : k ≠ b1 := fun e1 => by
      subst e1
      have := hle2 k o hk
      rw [hn3] at this; cases this
    exact st36 k o k3 (by simpa using this)
  have hs6 := st36 b0 _ hs3 (by simpa using fun e1 => n1 e1.symm)
  have hb6 := keep b _ hs
  have hcell : H6.cell? ((⟨b, 0, none⟩ : Addr).add 9) = some (.int .u64 (d.length : Int)) := loc hb6.1 (o := 9) rfl
  have hz63 : zpad R.length < 64 := Nat.mod_lt _ (by decide)
  have hlen6 : ((R ++ [128]) ++ List.replicate (zpad R.length) (0 : UInt8)).length = R.length + 1 + zpad R.length := by simp; omega
  refine zla.loop4 hd (by omega) ho6 hcell hb6.2 fun p7 c7 H7 ho7 hst7 => ?_
  have hpad : ((R ++ [128]) ++ List.replicate (zpad R.length) (0 : UInt8)) ++ be64 (8 * d.length) = padded R d.length := rfl
  rw [hpad] at ho7 ⊢
  have hs7 := hst7 b0 _ hs6.1 hs6.2
  have hk7 : IntsIn H7 1 .u32 kTab := fun i x hi => by
    cases ho0 : H 1 with
    | none => exact absurd ho0 hk0
    | some o =>
      have k6 := keep 1 o ho0
      have k7 := hst7 1 o k6.1 k6.2
      have hc := hk i x hi
      unfold Heap.cell? at hc ⊢
      rw [show (⟨1, i, none⟩ : Addr).block = 1 from rfl] at hc ⊢
      rw [ho0] at hc
      rw [k7.1]
      exact hc
  have n0b : 1 ≠ b0 := fun e1 => hk0 (e1 ▸ hn1)
  refine zla.loop6 (padded_len _ _) hs7.1 ho7 hs7.2 hk7 n0b fun H8 hs8 hst8 => ?_
  generalize hF : (eat S (padded R d.length)).1 = F at hs8
  have hsha : F.bytes = sha d := by
    have := sha_eat d
    rw [hS, hR, hF] at this
    exact this
  have g8 : ∀ (i : Nat) (x : W), F.list[i]? = some x → H8.cell? ((⟨b0, 0, none⟩ : Addr).add i) = some (wV x) := fun i x hi => loc hs8 (by
    have hi8 : i < F.cells.length := by
      unfold St.cells
      rw [List.length_map]
      exact (List.getElem?_eq_some_iff.1 hi).1
    rw [List.getElem?_toArray, List.getElem?_append_left hi8]
    unfold St.cells
    rw [List.getElem?_map, hi]
    rfl)
  refine ⟨_, g8 0 _ rfl, _, g8 1 _ rfl, _, g8 2 _ rfl, _, g8 3 _ rfl, _, g8 4 _ rfl, _, g8 5 _ rfl, _, g8 6 _ rfl, _, g8 7 _ rfl, ?_⟩
  refine zla.loop7 fun p9 c9 H9 ho9 hst9 => ?_
  refine ho9.bytes.rdBytes ?_
  rw [hsha]
  refine ⟨H9, Heap.Le.refl _, h H9 fun k o hk => ?_⟩
  have k6 := keep k o hk
  have k7 := hst7 k o k6.1 k6.2
  have nk0 : k ≠ b0 := fun e1 => by subst e1; rw [hn1] at hk; cases hk
  have k8 := hst8 k o k7.1 (by simpa using nk0)
  exact (hst9 k o k8.1 (by simp)).1
theorem sha_Sum.run {H : Heap} {x : ByteArray} (hd : x.size ≤ 1000000000000) (hk : IntsIn H 1 .u32 kTab) {K : ByteArray → Heap → Prop} {E : Value → Heap → Prop} (h : ∀ H', Heap.Le H H' → K ⟨(sha x.data.toList).toArray⟩ H') : sha_Sum.c x K E H := by
  have hxl : x.data.toList.length = x.size := by rw [Array.length_toList]; rfl
  have hk0 : H 1 ≠ none := IntsIn.some0 hk
  refine ⟨?_⟩
  unfold sha_Sum.vc
  refine zme.run fun b H1 hb1 hn1 hle1 => ?_
  have n0 : (1 : Nat) ∉ [b] := fun hm => by
    rw [List.mem_singleton] at hm
    exact hk0 (hm ▸ hn1)
  refine zoa.run hb1 (by simpa using hd) (fun i x hi => zcc hle1 (hk i x hi)) n0 fun L H2 hb2 hst2 => ?_
  rw [List.nil_append] at hb2
  have st : ∀ k o, H k = some o → H2 k = some o ∧ k ∉ L := fun k o hk => hst2 k o (hle1 k o hk) fun hm => by
    rw [List.mem_singleton] at hm
    subst hm
    rw [hn1] at hk; cases hk
  have hk2 : IntsIn H2 1 .u32 kTab := fun i x hi => by
    have := hk i x hi
    exact zcc (fun k o hk => (st k o hk).1) this
  have n2 : (1 : Nat) ∉ L := by
    cases ho0 : H 1 with
    | none => exact absurd ho0 hk0
    | some o => exact (st 1 o ho0).2
  exact zla.run hb2 (by omega) hk2 n2 fun H3 hle3 => ⟨H3, Heap.Le.refl _, h H3 fun k o hk => hle3 k o (st k o hk).1⟩
end Go.Sh
namespace Go.Sh
set_option maxRecDepth 8000
theorem xor_u8n (a b : Nat) (ha : a < 256) (hb : b < 256) : bits .xor .u8 (a : Int) (b : Int) = ((a ^^^ b : Nat) : Int) := by
  have hx : a ^^^ b < 2 ^ 8 := Nat.xor_lt_two_pow (by omega) (by omega)
  have ofInt_u8 : ∀ n : Nat, n < 256 → (BitVec.ofInt 8 (n : Int)).toNat = n := fun n h => by
    rw [BitVec.ofInt_natCast, BitVec.toNat_ofNat]; exact Nat.mod_eq_of_lt (by omega)
  show IntKind.u8.wrap ((BitVec.ofInt 8 (a : Int) ^^^ BitVec.ofInt 8 (b : Int)).toNat : Int) = _
  rw [BitVec.toNat_xor, ofInt_u8 a ha, ofInt_u8 b hb, w_u8 (by omega) (by omega)]
theorem xor_u8 (a b : UInt8) : bits .xor .u8 (a.toNat : Int) (b.toNat : Int) = ((a ^^^ b).toNat : Int) := by
  rw [xor_u8n _ _ a.toNat_lt b.toNat_lt, UInt8.toNat_xor]
def padK (key : List UInt8) (x : UInt8) : List UInt8 := (key ++ List.replicate (64 - key.length) 0).map (· ^^^ x)
def hmac (key s : List UInt8) : List UInt8 :=
  let k := if 64 < key.length then sha key else key
  sha (padK k 0x5C ++ sha (padK k 0x36 ++ s))
theorem padK_len {key : List UInt8} {x : UInt8} (h : key.length ≤ 64) : (padK key x).length = 64 := by
  unfold padK
  simp
  omega
theorem hmac_len (key s : List UInt8) : (hmac key s).length = 32 := sha_len _
theorem ba_len (x : ByteArray) : x.data.toList.length = x.size := by rw [Array.length_toList]; rfl
theorem ba_app (x y : ByteArray) : (x ++ y).data.toList = x.data.toList ++ y.data.toList := by rw [ByteArray.data_append, Array.toList_append]
theorem ba_mk (x : ByteArray) : (⟨x.data.toList.toArray⟩ : ByteArray) = x := ByteArray.ext (by simp)
theorem zxa (l : List UInt8) : (⟨l.toArray⟩ : ByteArray).size = l.length := by show l.toArray.size = _; simp
theorem zvc (l : List UInt8) : (⟨l.toArray⟩ : ByteArray).data.toList = l := by simp
def xorTo (l : List UInt8) (x : UInt8) (k : Nat) : List UInt8 := (l.take k).map (· ^^^ x) ++ l.drop k
theorem xorTo_set {l : List UInt8} {x : UInt8} {k : Nat} (h : k < l.length) : (xorTo l x k).set k (l.getD k 0 ^^^ x) = xorTo l x (k + 1) := by
  unfold xorTo
  rw [List.set_append_right _ _ (by simp; omega), List.length_map, List.length_take, Nat.min_eq_left (by omega), Nat.sub_self, List.drop_eq_getElem_cons h, List.set_cons_zero, List.take_succ_eq_append_getElem h, List.map_append, List.append_assoc, List.getD_eq_getElem?_getD, List.getElem?_eq_getElem h]
  rfl
theorem xorTo_get {l : List UInt8} {x : UInt8} {k : Nat} (h : k < l.length) : (xorTo l x k).getD k 0 = l.getD k 0 := by
  unfold xorTo
  rw [List.getD_eq_getElem?_getD, List.getElem?_append_right (by simp; omega), List.length_map, List.length_take, Nat.min_eq_left (by omega), Nat.sub_self, List.getElem?_drop, Nat.add_zero, List.getD_eq_getElem?_getD]
theorem sha_pad.run {H : Heap} {key : ByteArray} {x : UInt8} (hk : key.size ≤ 64) {K : ByteArray → Heap → Prop} {E : Value → Heap → Prop} (h : ∀ H', Heap.Le H H' → K ⟨(padK key.data.toList x).toArray⟩ H') : sha_pad.c key (x.toNat : Int) K E H := by
  refine ⟨?_⟩
  unfold sha_pad.vc
  have hw : IntKind.i64.wrap (64 - (key.size : Int)) = ((64 - key.size : Nat) : Int) := by rw [w_i64 (by omega) (by omega)]; omega
  rw [hw]
  have hs1 : (⟨#[0]⟩ : ByteArray).size = 1 := rfl
  refine ⟨by omega, by omega, by rw [hs1, Int.toNat_natCast]; omega, ?_⟩
  have hrep : Lib.repeatL (⟨#[0]⟩ : ByteArray).data.toList (64 - key.size) = List.replicate (64 - key.size) 0 := by
    have := Lib.repeatL_replicate (0 : UInt8) 1 (64 - key.size)
    rw [Nat.mul_one] at this
    exact this
  rw [Int.toNat_natCast, hrep]
  have hz : (⟨(List.replicate (64 - key.size) (0 : UInt8)).toArray⟩ : ByteArray).size = 64 - key.size := by rw [zxa]; simp
  refine ⟨by rw [hz]; omega, ?_⟩
  intro j
  generalize hX : key ++ (⟨(List.replicate (64 - key.size) (0 : UInt8)).toArray⟩ : ByteArray) = X
  have hXs : X.size = 64 := by rw [← hX, ByteArray.size_append, hz]; omega
  have hXl : X.data.toList = key.data.toList ++ List.replicate (64 - key.data.toList.length) 0 := by rw [← hX, ba_app, zvc, ba_len]
  refine zna fun b H1 hn1 hl1 hle1 => ?_
  have ho := str_bytes hl1
  have hXl2 := ba_len X
  refine ⟨Loop.of (I := fun st H' m => ∃ k : Nat, st = (k : Int) ∧ k ≤ 64 ∧ m = 64 - k ∧ OwnB H' 5 (some ⟨b, 0, none⟩) X.size (X.size + j) (xorTo X.data.toList x k) ∧ Step [b] H1 [b] H') ?_ ⟨0, rfl, by omega, rfl, by simpa [xorTo] using ho, Step.refl _ _⟩⟩
  rintro m st H' ⟨k, rfl, hk, rfl, ho, hst⟩ RR hRR
  unfold sha_pad.W1.vc
  by_cases hc : k < 64
  · rw [if_pos (by rw [decide_eq_true_eq]; omega)]
    obtain ⟨a, ha, hcell⟩ := ho.bytes.get (i := k) (by omega)
    rw [xorTo_get (by omega)] at hcell
    refine ⟨a, ha, by omega, by omega, _, by rw [Int.toNat_natCast]; exact hcell, a, ha, by omega, by omega, ?_⟩
    rw [xor_u8, Int.toNat_natCast]
    refine ho.put (i := k) (x := X.data.toList.getD k 0 ^^^ x) (by omega) ha fun H2 h2 hst2 => ?_
    rw [xorTo_set (by omega)] at h2
    rw [w_i64 (by omega) (by omega)]
    exact hRR _ _ (64 - (k + 1)) (by omega) ⟨k + 1, by simp, by omega, rfl, h2, hst.trans hst2⟩
  · rw [if_neg (by rw [decide_eq_true_eq]; omega)]
    have : k = 64 := by omega
    subst this
    refine ho.bytes.rdBytes ?_
    have e : xorTo X.data.toList x 64 = padK key.data.toList x := by
      unfold xorTo padK
      rw [List.take_of_length_le (by omega), List.drop_eq_nil_of_le (by omega), List.append_nil, hXl]
    rw [e]
    refine ⟨H', Heap.Le.refl _, h H' fun k o hk => (hst k o (hle1 k o hk) ?_).1⟩
    intro hm
    rw [List.mem_singleton] at hm
    subst hm
    rw [hn1] at hk; cases hk
theorem IntsIn.up {H H' : Heap} {g : Nat} {k : IntKind} {xs : List Int} (h : IntsIn H g k xs) (hl : Heap.Le H H') : IntsIn H' g k xs := fun i x hi => zcc hl (h i x hi)
theorem sha_Hmac.tail {H : Heap} {key s : ByteArray} (hk : key.size ≤ 64) (hs : s.size ≤ 100000000000) (ht : IntsIn H 1 .u32 kTab) {Kr : ByteArray → Heap → Prop} {E : Value → Heap → Prop}
    (h : ∀ H', Heap.Le H H' → Kr ⟨(sha (padK key.data.toList 0x5C ++ sha (padK key.data.toList 0x36 ++ s.data.toList))).toArray⟩ H') : sha_Hmac.J1 key s Kr E H := by
  have hkl := ba_len key
  refine ⟨?_⟩
  unfold sha_Hmac.J1.vc
  refine sha_pad.run (x := 0x5C) hk fun H1 hle1 => ?_
  refine sha_pad.run (x := 0x36) hk fun H2 hle2 => ?_
  have p1 := padK_len (key := key.data.toList) (x := 0x5C) (by omega)
  have p2 := padK_len (key := key.data.toList) (x := 0x36) (by omega)
  refine ⟨by rw [zxa, p2]; omega, ?_⟩
  refine sha_Sum.run (by rw [ByteArray.size_append, zxa, p2]; omega) ((ht.up hle1).up hle2) fun H3 hle3 => ?_
  rw [ba_app, zvc]
  have l1 := sha_len (padK key.data.toList 0x36 ++ s.data.toList)
  refine ⟨by rw [zxa, zxa, p1, l1]; decide, ?_⟩
  refine sha_Sum.run (by rw [ByteArray.size_append, zxa, zxa, p1, l1]; decide) (((ht.up hle1).up hle2).up hle3) fun H4 hle4 => ?_
  rw [ba_app, zvc, zvc]
  exact h H4 (((hle1.trans hle2).trans hle3).trans hle4)
theorem sha_Hmac.run {H : Heap} {key s : ByteArray} (hk : key.size ≤ 100000000000) (hs : s.size ≤ 100000000000) (ht : IntsIn H 1 .u32 kTab) {K : ByteArray → Heap → Prop} {E : Value → Heap → Prop} (h : ∀ H', Heap.Le H H' → K ⟨(hmac key.data.toList s.data.toList).toArray⟩ H') : sha_Hmac.c key s K E H := by
  have hkl := ba_len key
  refine ⟨?_⟩
  unfold sha_Hmac.vc
  by_cases hc : 64 < key.size
  · rw [if_pos (by rw [decide_eq_true_eq]; omega)]
    refine sha_Sum.run (by omega) ht fun H1 hle1 => ?_
    have l1 := sha_len key.data.toList
    refine sha_Hmac.tail (by rw [zxa, l1]; decide) hs (ht.up hle1) fun H2 hle2 => ?_
    have := h H2 (hle1.trans hle2)
    unfold hmac at this
    rw [if_pos (by omega)] at this
    rw [zvc]
    exact ⟨H2, Heap.Le.refl _, this⟩
  · rw [if_neg (by rw [decide_eq_true_eq]; omega)]
    refine sha_Hmac.tail (by omega) hs ht fun H2 hle2 => ?_
    have := h H2 hle2
    unfold hmac at this
    rw [if_neg (by omega)] at this
    exact ⟨H2, Heap.Le.refl _, this⟩
theorem Step.tab {L : List Nat} {Hb H : Heap} (hs : Step [] Hb L H) (ht : IntsIn Hb 1 .u32 kTab) : IntsIn H 1 .u32 kTab ∧ (1 : Nat) ∉ L := by
  refine ⟨ht.up hs.le, ?_⟩
  cases h0 : Hb 1 with
  | none => exact absurd h0 (IntsIn.some0 ht)
  | some o => exact (hs 1 o h0 (by simp)).2
theorem Step.ofNew {L : List Nat} {H H' : Heap} {b : Nat} (hn : H b = none) (hl : Heap.Le H H') : Step L H (b :: L) H' := fun k o hk h => ⟨hl k o hk, fun hm => by
  rcases List.mem_cons.1 hm with rfl | hm
  · rw [hn] at hk; cases hk
  · exact h hm⟩
end Go.Sh
namespace Go.Sh
set_option maxRecDepth 8000
def beN : Nat → Nat → List UInt8
  | _, 0 => []
  | n, k + 1 => beN (n / 256) k ++ [UInt8.ofNat n]
theorem beN_len : ∀ (k n : Nat), (beN n k).length = k
  | 0, _ => rfl
  | k + 1, n => by
    unfold beN
    rw [List.length_append, beN_len k]
    rfl
theorem one_bytes {H : Heap} {b : Nat} {x : UInt8} {e : TypeId} {K : ByteArray → Prop} (hb : H b = some (.cells #[(.int .u8 (x.toNat : Int))] e)) (hk : K ⟨#[x]⟩) : rdBytes H (some ⟨b, 0, none⟩) 1 K := by
  have : zzc H (some ⟨b, 0, none⟩) 1 [x] := ⟨rfl, (fun h => by cases h), fun a ha i y hi => by
    cases ha
    cases i with
    | zero =>
      have : x = y := by simpa using hi
      subst this
      exact loc hb rfl
    | succ i => simp at hi⟩
  exact this.rdBytes hk
theorem bt_getD (s : ByteArray) (i : Nat) : bt s (i : Int) = ((s.data.toList.getD i 0).toNat : Int) := by unfold bt; rw [Int.toNat_natCast]
end Go.Sh
namespace Go.Sh
set_option maxRecDepth 8000
def vk (n : Nat) : Nat := if n < 64 then 1 else if n < 16384 then 2 else 4
def vi (n : Nat) : Nat := if n < 64 then 0 else if n < 16384 then 1 else 2
def headUp (x : UInt8) : List UInt8 → List UInt8
  | [] => []
  | y :: r => (y + x) :: r
def vput (n : Nat) : List UInt8 := headUp (UInt8.ofNat (64 * vi n)) (beN n (vk n))
def vtext (s : List UInt8) : List UInt8 := vput s.length ++ s
theorem vi_le (n : Nat) : vi n ≤ 2 := by
  unfold vi
  split
  · omega
  · split <;> omega
theorem vk_eq (n : Nat) : vk n = 2 ^ vi n := by
  unfold vk vi
  split
  · rfl
  · split <;> rfl
theorem vk_range (n : Nat) : 1 ≤ vk n ∧ vk n ≤ 4 := by
  unfold vk
  split
  · omega
  · split <;> omega
theorem vput_len (n : Nat) : (vput n).length = vk n := by
  unfold vput
  have h := beN_len (vk n) n
  have := vk_range n
  cases hb : beN n (vk n) with
  | nil => rw [hb] at h; simp at h; omega
  | cons y r => rw [hb] at h; simpa [headUp] using h
def szTab : List Int := [1, 2, 4, 8]
theorem shr_i64 {n a : Nat} (ha : a ≤ 62) : shrI .i64 (n : Int) (a : Int) = ((n / 2 ^ a : Nat) : Int) := by
  unfold shrI
  have e3 : min ((a : Int)).toNat (IntKind.bits .i64) = a := by
    show min ((a : Int)).toNat 64 = _
    omega
  rw [e3, Int.fdiv_eq_ediv_of_nonneg _ (Int.le_of_lt (Int.pow_pos (by decide)))]
  simp
theorem vi_test {n i : Nat} (hn : n < 1073741824) (hi : i ≤ 2) : n / 2 ^ (8 * 2 ^ i - 2) = 0 ↔ vi n ≤ i := by
  rw [Nat.div_eq_zero_iff]
  unfold vi
  match i, hi with
  | 0, _ =>
    have e : 2 ^ (8 * 2 ^ 0 - 2) = 64 := rfl
    rw [e]
    split
    · omega
    · split <;> omega
  | 1, _ =>
    have e : 2 ^ (8 * 2 ^ 1 - 2) = 16384 := rfl
    rw [e]
    split
    · omega
    · split <;> omega
  | 2, _ =>
    have e : 2 ^ (8 * 2 ^ 2 - 2) = 1073741824 := rfl
    rw [e]
    split
    · omega
    · split <;> omega
theorem sz_at (i : Nat) (hi : i ≤ 2) : (#[(.int .i64 1), (.int .i64 2), (.int .i64 4), (.int .i64 8)] : Array Value)[i]? = some (.int .i64 ((2 ^ i : Nat) : Int)) := by
  match i, hi with
  | 0, _ => rfl
  | 1, _ => rfl
  | 2, _ => rfl
theorem pow_small {i : Nat} (hi : i ≤ 2) : 1 ≤ 2 ^ i ∧ 2 ^ i ≤ 4 := by
  match i, hi with
  | 0, _ => decide
  | 1, _ => decide
  | 2, _ => decide
theorem ztc.run {n : Nat} (hn : n < 1073741824) {H : Heap} (ht : IntsIn H 0 .i64 szTab) {K : Int → Heap → Prop} {E : Value → Heap → Prop} (h : K (vi n) H) : ztc.c n K E H := by
  refine ⟨?_⟩
  unfold ztc.vc
  have g : ∀ (i : Nat) (x : Int), szTab[i]? = some x → H.cell? ((⟨0, 0, none⟩ : Addr).add i) = some (.int .i64 x) := fun i x hi => by
    rw [add_mk, Nat.zero_add]
    exact ht i x hi
  refine ⟨_, g 0 _ rfl, _, g 1 _ rfl, _, g 2 _ rfl, _, g 3 _ rfl, ?_⟩
  refine ⟨Loop.of (I := fun st H' m => ∃ i : Nat, st = (i : Int) ∧ i ≤ vi n ∧ m = 4 - i ∧ H' = H) ?_ ⟨0, rfl, Nat.zero_le _, rfl, rfl⟩⟩
  rintro m st H' ⟨i, rfl, hi, rfl, rfl⟩ RR hRR
  have hv := vi_le n
  unfold ztc.W1.vc
  rw [if_pos (by rw [decide_eq_true_eq]; omega)]
  have hp := pow_small (i := i) (by omega)
  refine ⟨by omega, by omega, _, by rw [Int.toNat_natCast]; exact sz_at i (by omega), _, rfl, ?_⟩
  rw [if_pos (by rw [decide_eq_true_eq]; omega)]
  have e1 : IntKind.i64.wrap (IntKind.i64.wrap (8 * ((2 ^ i : Nat) : Int)) - 2) = ((8 * 2 ^ i - 2 : Nat) : Int) := by
    rw [w_i64 (n := 8 * ((2 ^ i : Nat) : Int)) (by omega) (by omega), w_i64 (by omega) (by omega)]; omega
  rw [e1, shr_i64 (by omega)]
  refine ⟨by omega, ⟨?_⟩⟩
  unfold ztc.J2.vc
  have ht := vi_test hn (i := i) (by omega)
  by_cases hc : vi n ≤ i
  · rw [if_pos (by rw [beq_iff_eq]; have := ht.2 hc; omega)]
    have : vi n = i := by omega
    rw [this] at h
    exact ⟨H', Heap.Le.refl _, h⟩
  · rw [if_neg (by rw [beq_iff_eq]; intro e; exact hc (ht.1 (by omega)))]
    refine ⟨?_⟩
    unfold ztc.J3.vc
    rw [w_i64 (by omega) (by omega)]
    exact hRR _ _ (4 - (i + 1)) (by omega) ⟨i + 1, rfl, by omega, rfl, rfl⟩
theorem beN_get : ∀ (k n j : Nat), j < k → (beN n k)[j]? = some (UInt8.ofNat (n / 2 ^ (8 * (k - 1 - j))))
  | 0, _, _, h => by omega
  | k + 1, n, j, h => by
    unfold beN
    by_cases hj : j < k
    · rw [List.getElem?_append_left (by rw [beN_len]; exact hj), beN_get k (n / 256) j hj, Nat.div_div_eq_div_mul]
      congr 3
      have e : 8 * (k + 1 - 1 - j) = 8 * (k - 1 - j) + 8 := by omega
      rw [e, Nat.pow_add, Nat.mul_comm]
    · have : j = k := by omega
      subst this
      rw [List.getElem?_append_right (by rw [beN_len]; omega), beN_len, Nat.sub_self]
      simp
theorem zeros_map (n : Nat) : zub (.int .u8 0) n = (List.replicate n 0).map byV := by
  unfold zub Builtin.zeroCells
  have hs : (Value.int IntKind.u8 0).cells.size = 1 := rfl
  rw [hs, Nat.mul_one, List.map_replicate]
  apply List.ext_getElem?
  intro i
  rw [Array.getElem?_toList, Array.getElem?_map, Array.getElem?_range, List.getElem?_replicate]
  split
  · simp only [Option.map_some, Nat.mod_one]; rfl
  · rfl
theorem OwnB.zeros {H : Heap} {b n : Nat} {e : TypeId} (hb : H b = some (.cells (zub (.int .u8 0) n).toArray e)) : OwnB H e (some ⟨b, 0, none⟩) n n (List.replicate n 0) := by
  refine OwnB.of_block hb (by simp) (Nat.le_refl _) (by rw [List.size_toArray, zerosB_len]; exact Nat.le_refl _) (.inr rfl) ?_
  rw [List.toList_toArray, List.take_of_length_le (by rw [zerosB_len]; exact Nat.le_refl _), zeros_map]
def fillTo (l : List UInt8) (j : Nat) : List UInt8 := l.take j ++ List.replicate (l.length - j) 0
theorem fillTo_set {l : List UInt8} {j : Nat} {x : UInt8} (hx : l[j]? = some x) : (fillTo l j).set j x = fillTo l (j + 1) := by
  have hj : j < l.length := (List.getElem?_eq_some_iff.1 hx).1
  have hv : l[j] = x := (List.getElem?_eq_some_iff.1 hx).2
  unfold fillTo
  obtain ⟨k, hk⟩ : ∃ k, l.length - j = k + 1 := ⟨l.length - j - 1, by omega⟩
  rw [hk, show l.length - (j + 1) = k by omega, List.replicate_succ, List.set_append_right _ _ (by rw [List.length_take]; omega), List.length_take, Nat.min_eq_left (by omega), Nat.sub_self, List.set_cons_zero, List.take_succ_eq_append_getElem hj, hv]
  simp
theorem u8_nat (m : Nat) : IntKind.u8.wrap (m : Int) = ((UInt8.ofNat m).toNat : Int) := by
  rw [UInt8.toNat_ofNat']
  simp only [IntKind.wrap, IntKind.bits, IntKind.signed, Bool.false_and, Bool.false_eq_true, if_false]
  omega
theorem or_u8n (a b : Nat) (ha : a < 256) (hb : b < 256) : bits .or .u8 (a : Int) (b : Int) = ((a ||| b : Nat) : Int) := by
  have hx : a ||| b < 2 ^ 8 := Nat.or_lt_two_pow (by omega) (by omega)
  have ofInt_u8 : ∀ n : Nat, n < 256 → (BitVec.ofInt 8 (n : Int)).toNat = n := fun n h => by
    rw [BitVec.ofInt_natCast, BitVec.toNat_ofNat]; exact Nat.mod_eq_of_lt (by omega)
  show IntKind.u8.wrap ((BitVec.ofInt 8 (a : Int) ||| BitVec.ofInt 8 (b : Int)).toNat : Int) = _
  rw [BitVec.toNat_or, ofInt_u8 a ha, ofInt_u8 b hb, w_u8 (by omega) (by omega)]
theorem first_small {n : Nat} (hn : n < 1073741824) : n / 2 ^ (8 * (vk n - 1 - 0)) < 64 := by
  unfold vk
  split
  · simp; assumption
  · split
    · have e : 2 ^ (8 * (2 - 1 - 0)) = 256 := rfl
      rw [e]; omega
    · have e : 2 ^ (8 * (4 - 1 - 0)) = 16777216 := rfl
      rw [e]; omega
theorem mark_or {x : Nat} {i : Nat} (hx : x < 64) (hi : i ≤ 2) : bits .or .u8 ((UInt8.ofNat x).toNat : Int) (shlI .u8 (IntKind.u8.wrap (i : Int)) 6) = ((UInt8.ofNat x + UInt8.ofNat (64 * i)).toNat : Int) := by
  have e1 : shlI .u8 (IntKind.u8.wrap (i : Int)) 6 = ((64 * i : Nat) : Int) := by
    match i, hi with
    | 0, _ => decide
    | 1, _ => decide
    | 2, _ => decide
  rw [e1, or_u8n _ _ (UInt8.toNat_lt _) (by omega), UInt8.toNat_add, UInt8.toNat_ofNat', UInt8.toNat_ofNat', Nat.mod_eq_of_lt (by omega : x < 2 ^ 8), Nat.mod_eq_of_lt (by omega : 64 * i < 2 ^ 8), Nat.mod_eq_of_lt (by omega)]
  have := Nat.shiftLeft_add_eq_or_of_lt (by omega : x < 2 ^ 6) i
  rw [Nat.shiftLeft_eq] at this
  rw [Nat.or_comm, Nat.mul_comm, show 64 = 2 ^ 6 from rfl, ← this, Nat.add_comm]
theorem zac.run {n : Nat} (hn : n < 1073741824) {H : Heap} (ht : IntsIn H 0 .i64 szTab) {K : ByteArray → Heap → Prop} {E : Value → Heap → Prop} (h : ∀ H', Heap.Le H H' → K ⟨(vput n).toArray⟩ H') : zac.c n K E H := by
  have hv := vi_le n
  have hk := vk_range n
  refine ⟨?_⟩
  unfold zac.vc
  refine ztc.run hn ht ?_
  rw [if_neg (by rw [decide_eq_true_eq]; omega)]
  have hsz : H.cell? ((⟨0, 0, none⟩ : Addr).add (vi n * 1)) = some (.int .i64 (vk n : Int)) := by
    rw [Nat.mul_one, add_mk, Nat.zero_add, vk_eq]
    have hp : ∀ i, i ≤ 2 → szTab[i]? = some ((2 ^ i : Nat) : Int) := fun i hi => by
      match i, hi with
      | 0, _ => rfl
      | 1, _ => rfl
      | 2, _ => rfl
    exact ht _ _ (hp _ hv)
  refine ⟨by omega, by omega, (vk n : Int), by rw [Int.toNat_natCast]; exact hsz, by omega, by omega, by omega, by omega, ?_⟩
  rw [Int.toNat_natCast]
  refine zna fun b H1 hn1 hl1 hle1 => ?_
  have hbl := beN_len (vk n) n
  have ho := OwnB.zeros hl1
  refine ⟨Loop.of (I := fun st H' m => ∃ j : Nat, st = (j : Int) ∧ j ≤ vk n ∧ m = vk n - j ∧ OwnB H' 5 (some ⟨b, 0, none⟩) (vk n) (vk n) (fillTo (beN n (vk n)) j) ∧ Step [b] H1 [b] H') ?_ ⟨0, rfl, by omega, rfl, by simpa [fillTo, hbl] using ho, Step.refl _ _⟩⟩
  rintro m st H' ⟨j, rfl, hj, rfl, ho, hst⟩ RR hRR
  unfold zac.W1.vc
  by_cases hc : j < vk n
  · rw [if_pos (by rw [decide_eq_true_eq]; omega)]
    have e1 : IntKind.i64.wrap (8 * (IntKind.i64.wrap ((IntKind.i64.wrap ((vk n : Int) - 1)) - (j : Int)))) = ((8 * (vk n - 1 - j) : Nat) : Int) := by
      rw [w_i64 (n := (vk n : Int) - 1) (by omega) (by omega), w_i64 (n := (vk n : Int) - 1 - (j : Int)) (by omega) (by omega), w_i64 (by omega) (by omega)]
      omega
    rw [e1, shr_i64 (by omega), u8_nat]
    refine ⟨by omega, _, rfl, by omega, by omega, ?_⟩
    rw [Int.toNat_natCast]
    refine ho.put (i := j) hc rfl fun H2 h2 hst2 => ?_
    rw [fillTo_set (beN_get _ _ _ hc)] at h2
    rw [w_i64 (by omega) (by omega)]
    exact hRR _ _ (vk n - (j + 1)) (by omega) ⟨j + 1, rfl, by omega, rfl, h2, hst.trans hst2⟩
  · rw [if_neg (by rw [decide_eq_true_eq]; omega)]
    have : j = vk n := by omega
    subst this
    have e2 : fillTo (beN n (vk n)) (vk n) = beN n (vk n) := by
      unfold fillTo
      rw [List.take_of_length_le (by omega), hbl, Nat.sub_self]
      simp
    rw [e2] at ho
    obtain ⟨a, ha, hc0⟩ := ho.bytes.get (i := 0) (by omega)
    cases ha
    have hg := beN_get (vk n) n 0 (by omega)
    have e3 : (beN n (vk n)).getD 0 0 = UInt8.ofNat (n / 2 ^ (8 * (vk n - 1 - 0))) := by rw [List.getD_eq_getElem?_getD, hg]; rfl
    rw [e3] at hc0
    refine ⟨_, rfl, by decide, by omega, _, hc0, by decide, _, rfl, by decide, by omega, ?_⟩
    rw [mark_or (first_small hn) hv]
    refine ho.put (i := 0) (by omega) rfl fun H2 h2 hst2 => ?_
    refine h2.bytes.rdBytes ?_
    have e4 : (beN n (vk n)).set 0 (UInt8.ofNat (n / 2 ^ (8 * (vk n - 1 - 0))) + UInt8.ofNat (64 * vi n)) = vput n := by
      unfold vput
      cases hb : beN n (vk n) with
      | nil => rw [hb] at hbl; simp at hbl; omega
      | cons y r =>
        rw [hb] at hg
        have : y = UInt8.ofNat (n / 2 ^ (8 * (vk n - 1 - 0))) := by simpa using hg
        rw [← this]
        rfl
    rw [e4]
    refine ⟨H2, Heap.Le.refl _, h H2 fun k o hk => ?_⟩
    have hn : k ∉ [b] := fun hm => by
      rw [List.mem_singleton] at hm
      subst hm
      rw [hn1] at hk; cases hk
    exact ((hst.trans hst2) k o (hle1 k o hk) hn).1
theorem zec.run {s : ByteArray} (hs : s.size < 1073741824) {H : Heap} (ht : IntsIn H 0 .i64 szTab) {K : ByteArray → Heap → Prop} {E : Value → Heap → Prop} (h : ∀ H', Heap.Le H H' → K ⟨(vtext s.data.toList).toArray⟩ H') : zec.c s K E H := by
  refine ⟨?_⟩
  unfold zec.vc
  refine zac.run hs ht fun H1 hle1 => ?_
  have hk := vk_range s.size
  refine ⟨by rw [zxa, vput_len]; omega, H1, Heap.Le.refl _, ?_⟩
  have e : (⟨(vput s.size).toArray⟩ : ByteArray) ++ s = ⟨(vtext s.data.toList).toArray⟩ := by
    apply ByteArray.ext
    rw [ByteArray.data_append]
    apply Array.toList_inj.1
    unfold vtext
    rw [Array.toList_append, ba_len]
  rw [e]
  exact h H1 hle1
def derive (key label context : List UInt8) : List UInt8 := hmac key (vtext label ++ vtext context)
theorem vtext_len (s : List UInt8) : (vtext s).length ≤ s.length + 4 := by
  unfold vtext
  have := vk_range s.length
  rw [List.length_append, vput_len]
  omega
structure Tabs (H : Heap) : Prop where
  k : IntsIn H 1 .u32 kTab
  s : IntsIn H 0 .i64 szTab
theorem Tabs.up {H H' : Heap} (h : Tabs H) (hl : Heap.Le H H') : Tabs H' := ⟨h.k.up hl, h.s.up hl⟩
theorem znb.run {key label ctx : ByteArray} (h1 : key.size ≤ 100000) (h2 : label.size ≤ 100000) (h3 : ctx.size ≤ 100000) {H : Heap} (ht : Tabs H) {K : ByteArray → Heap → Prop} {E : Value → Heap → Prop} (h : ∀ H', Heap.Le H H' → K ⟨(derive key.data.toList label.data.toList ctx.data.toList).toArray⟩ H') : znb.c key label ctx K E H := by
  refine ⟨?_⟩
  unfold znb.vc
  refine zec.run (by omega) ht.s fun H1 hle1 => ?_
  refine zec.run (by omega) (ht.up hle1).s fun H2 hle2 => ?_
  have l1 := vtext_len label.data.toList
  have l2 := vtext_len ctx.data.toList
  rw [ba_len] at l1 l2
  refine ⟨by rw [zxa, zxa]; omega, ?_⟩
  refine sha_Hmac.run (by omega) (by rw [ByteArray.size_append, zxa, zxa]; omega) ((ht.up hle1).up hle2).k fun H3 hle3 => ⟨H3, Heap.Le.refl _, ?_⟩
  rw [ba_app, zvc, zvc]
  exact h H3 ((hle1.trans hle2).trans hle3)
end Go.Sh
namespace Go.Sh
set_option maxRecDepth 8000
def RowO (H : Heap) (b : Nat) (hd row tl : List Value) (e : TypeId) : Prop := H b = some (.cells (hd ++ row ++ tl).toArray e)
theorem RowO.get {H : Heap} {b : Nat} {hd row tl : List Value} {e : TypeId} (h : RowO H b hd row tl e) {i : Nat} {v : Value} (hv : row[i]? = some v) : H.cell? ((⟨b, hd.length, none⟩ : Addr).add i) = some v := by
  have hi : i < row.length := (List.getElem?_eq_some_iff.1 hv).1
  have := loc (o := hd.length + i) (v := v) h (by rw [List.getElem?_toArray, List.getElem?_append_left (by rw [List.length_append]; omega), List.getElem?_append_right (by omega), Nat.add_sub_cancel_left]; exact hv)
  rw [add_mk] at this ⊢
  rw [Nat.zero_add] at this
  exact this
theorem RowO.put {H : Heap} {b : Nat} {hd row tl : List Value} {e : TypeId} (h : RowO H b hd row tl e) {i : Nat} {v : Value} (hi : i < row.length) {K : Heap → Prop} (hk : ∀ H', RowO H' b hd (row.set i v) tl e → Step [b] H [b] H' → K H') : stc H ((⟨b, hd.length, none⟩ : Addr).add i) v K := by
  have := stc_loc (o := hd.length + i) (v := v) (K := K) h (by simp; omega) (hk _ ?_ (Step.set _ _ _))
  · rw [add_mk] at this ⊢
    rw [Nat.zero_add] at this
    exact this
  · unfold RowO
    rw [set_self]
    have : (hd ++ row ++ tl).toArray.setIfInBounds (hd.length + i) v = (hd ++ row.set i v ++ tl).toArray := by
      apply Array.toList_inj.1
      rw [Array.toList_setIfInBounds, List.toList_toArray, List.toList_toArray, List.set_append_left _ _ (by rw [List.length_append]; omega), List.set_append_right _ _ (by omega), Nat.add_sub_cancel_left]
    rw [this]
def StO (H : Heap) (b : Nat) (hd : List Value) (s : St) (tl tl2 : List Value) (e : TypeId) : Prop := RowO H b hd (s.cells ++ tl) tl2 e
theorem StO.get {H : Heap} {b : Nat} {hd tl tl2 : List Value} {s : St} {e : TypeId} (h : StO H b hd s tl tl2 e) {i : Nat} {x : W} (hi : s.list[i]? = some x) : H.cell? ((⟨b, hd.length, none⟩ : Addr).add i) = some (wV x) :=
  RowO.get h (by
    have hi8 : i < s.cells.length := by
      unfold St.cells
      rw [List.length_map]
      exact (List.getElem?_eq_some_iff.1 hi).1
    rw [List.getElem?_append_left hi8]
    unfold St.cells
    rw [List.getElem?_map, hi]
    rfl)
theorem zma.loop4O {H0 : Heap} {sb b4 : Nat} {s v : St} {hd tl tl2 : List Value} {e : TypeId} (hs : StO H0 sb hd s tl tl2 e) (hne : sb ≠ b4) (hv : H0 b4 = some (.cells v.cells.toArray 207)) {Kx : Heap → Prop} {E : Value → Heap → Prop}
    (hx : ∀ H, StO H sb hd (s.plus v) tl tl2 e → Step [sb] H0 [sb] H → Kx H) : zma.W4 (some ⟨sb, hd.length, none⟩) ⟨b4, 0, none⟩ 0 Kx E H0 := by
  have hll : v.list.length = s.list.length := rfl
  have hl8 : s.list.length = 8 := rfl
  refine ⟨Loop.of (I := fun st H m => ∃ k : Nat, st = (k : Int) ∧ k ≤ 8 ∧ m = 8 - k ∧ RowO H sb hd ((mixL s.list v.list k).map wV ++ tl) tl2 e ∧ Step [sb] H0 [sb] H) ?_ ⟨0, rfl, by omega, rfl, hs, Step.refl _ _⟩⟩
  rintro m st H ⟨k, rfl, hk, rfl, hs, hst⟩ RR hRR
  unfold zma.W4.vc
  by_cases hlt : k < 8
  · rw [if_pos (by rw [decide_eq_true_eq]; omega)]
    have hv := (hst b4 _ hv (by simpa using fun e => hne e.symm)).1
    simp only [Int.toNat_natCast]
    have hml : (mixL s.list v.list k).length = 8 := mixL_len hll (by omega)
    have g1 : H.cell? ((⟨sb, hd.length, none⟩ : Addr).add (k * 1)) = some (wV (s.list.getD k 0)) := by
      rw [Nat.mul_one]
      refine RowO.get hs ?_
      rw [List.getElem?_append_left (by rw [List.length_map, hml]; omega), List.getElem?_map, mixL_get hll (by omega)]
      rfl
    have g2 : H.cell? ((⟨b4, 0, none⟩ : Addr).add (k * 1)) = some (wV (v.list.getD k 0)) := loc0 hv (by
      have hx : v.list[k]? = some (v.list[k]'(by omega)) := List.getElem?_eq_getElem (by omega)
      unfold St.cells
      rw [List.getElem?_toArray, List.getElem?_map, List.getD_eq_getElem?_getD, hx]
      rfl)
    refine ⟨_, rfl, by omega, by omega, _, g1, by omega, by omega, _, g2, _, rfl, by omega, by omega, ?_⟩
    rw [add_w, Nat.mul_one]
    refine RowO.put hs (by rw [List.length_append, List.length_map, hml]; omega) fun H2 h2 hst2 => ?_
    have e3 : ((mixL s.list v.list k).map wV ++ tl).set k (wV (s.list.getD k 0 + v.list.getD k 0)) = (mixL s.list v.list (k + 1)).map wV ++ tl := by
      rw [List.set_append_left _ _ (by rw [List.length_map, hml]; omega), ← List.map_set, mixL_set hll (by omega)]
    have e4 : Value.int .u32 (wv (s.list.getD k 0 + v.list.getD k 0)) = wV (s.list.getD k 0 + v.list.getD k 0) := rfl
    rw [e4, e3] at h2
    rw [w_i64 (by omega) (by omega)]
    exact hRR _ _ (8 - (k + 1)) (by omega) ⟨k + 1, by simp, by omega, rfl, h2, hst.trans hst2⟩
  · rw [if_neg (by rw [decide_eq_true_eq]; omega)]
    have : k = 8 := by omega
    subst this
    exact hx H hs hst
theorem zma.runO {H : Heap} {sb : Nat} {s : St} {hd tl tl2 : List Value} {e : TypeId} {p : Option Addr} {c : Nat} {l : List UInt8} (hs : StO H sb hd s tl tl2 e) (hk0 : IntsIn H 1 .u32 kTab) (hb : zzc H p 64 l) {K : Heap → Prop} {E : Value → Heap → Prop}
    (h : ∀ H', StO H' sb hd (s.block l) tl tl2 e → Step [sb] H [sb] H' → K H') : zma.c (some ⟨sb, hd.length, none⟩) p 64 c K E H := by
  have hk00 : H 1 ≠ none := IntsIn.some0 hk0
  refine ⟨?_⟩
  unfold zma.vc
  refine zna fun b3 H1 hn3 hl3 hle1 => ?_
  have hpb : ∀ k ∈ bl p, k ≠ b3 := fun k hk e => by
    subst e
    cases p with
    | none => simp [bl] at hk
    | some a =>
      simp only [bl, List.mem_singleton] at hk
      subst hk
      have hx : l[0]? = some (l[0]'(by rw [hb.1]; omega)) := List.getElem?_eq_getElem (by rw [hb.1]; omega)
      have := hb.2.2 a rfl 0 _ hx
      exact ztf this hn3 (add_block _ _)
  have hb1 : zzc H1 p 64 l := zzc.step (Step.of_le (L := []) hle1) hb (by simp)
  refine zma.loop1 hb1 hpb (hl3.trans (by kernel_rfl)) fun H2 hw2 hs2 => ?_
  refine zma.loop2 hw2 fun H3 hw3 hs3 => ?_
  have nsb : sb ≠ b3 := fun e => by
    subst e
    unfold StO RowO at hs
    rw [hn3] at hs; cases hs
  have hs23 := hs2.trans hs3
  have hst3 : StO H3 sb hd s tl tl2 e := (hs23 sb _ (hle1 _ _ hs) (by simpa using nsb)).1
  have gs : ∀ (i : Nat) (x : W), s.list[i]? = some x → H3.cell? ((⟨sb, hd.length, none⟩ : Addr).add i) = some (wV x) := fun i x hi => hst3.get hi
  refine ⟨_, rfl, _, gs 0 _ rfl, _, gs 1 _ rfl, _, gs 2 _ rfl, _, gs 3 _ rfl, _, gs 4 _ rfl, _, gs 5 _ rfl, _, gs 6 _ rfl, _, gs 7 _ rfl, ?_⟩
  refine zna fun b4 H4 hn4 hl4 hle4 => ⟨rfl, ?_⟩
  refine stRow8 (new := s.cells) hl4 rfl (plain_cells _) ?_
  have hl5 := set_self H4 b4 (.cells s.cells.toArray 207)
  have hs5 : ∀ k o, H3 k = some o → (H4.set b4 (.cells s.cells.toArray 207)) k = some o := fun k o hk => by
    have : k ≠ b4 := fun e => by subst e; rw [hn4] at hk; cases hk
    rw [set_ne _ _ this]; exact hle4 _ _ hk
  generalize H4.set b4 (.cells s.cells.toArray 207) = H5 at hl5 hs5 ⊢
  have hle5 : Heap.Le H3 H5 := hs5
  have n03 : 1 ≠ b3 := fun e => hk00 (e ▸ hn3)
  have hk1 : IntsIn H1 1 .u32 kTab := fun i x hi => zcc hle1 (hk0 i x hi)
  have hk3 : IntsIn H3 1 .u32 kTab := IntsIn.step hk1 hs23 (by simpa using n03)
  have hk5 : IntsIn H5 1 .u32 kTab := fun i x hi => zcc hle5 (hk3 i x hi)
  refine ⟨kTab.map fun x => Value.int .u32 x, rfl, fun i v hv => ?_, ?_⟩
  · rw [List.getElem?_map, Option.map_eq_some_iff] at hv
    obtain ⟨x, hx, rfl⟩ := hv
    rw [add_mk, Nat.zero_add]
    exact hk5 i x hx
  have n34 : b3 ≠ b4 := fun e => by subst e; rw [hn4] at hw3; cases hw3
  refine zma.loop3 (sched_len l) (hs5 _ _ hw3) n34 hl5 fun H6 hv6 hs6 => ?_
  have ns4 : sb ≠ b4 := fun e => by
    subst e
    unfold StO RowO at hst3
    rw [hn4] at hst3; cases hst3
  have hst6 : StO H6 sb hd s tl tl2 e := (hs6 sb _ (hs5 _ _ hst3) (by simpa using ns4)).1
  refine zma.loop4O hst6 ns4 hv6 fun H7 h7 hs7 => ⟨H7, Heap.Le.refl _, h H7 h7 ?_⟩
  intro k o hk hn
  have n3 : k ≠ b3 := fun e => by subst e; rw [hn3] at hk; cases hk
  have k3 := (hs23 k o (hle1 k o hk) (by simpa using n3)).1
  have n4 : k ≠ b4 := fun e => by subst e; rw [hn4] at k3; cases k3
  exact ⟨(hs7 k o (hs6 k o (hs5 k o k3) (by simpa using n4)).1 hn).1, hn⟩
theorem StO.set8 {H : Heap} {b : Nat} {hd tl2 : List Value} {s : St} {x y v : Value} {e : TypeId} {K : Heap → Prop} (h : StO H b hd s [x, y] tl2 e) (hk : ∀ H', StO H' b hd s [v, y] tl2 e → Step [b] H [b] H' → K H') : stc H ((⟨b, hd.length, none⟩ : Addr).add 8) v K :=
  RowO.put h (by simp [St.cells, St.list]) fun H' h' hs => hk H' h' hs
theorem StO.set9 {H : Heap} {b : Nat} {hd tl2 : List Value} {s : St} {x y v : Value} {e : TypeId} {K : Heap → Prop} (h : StO H b hd s [x, y] tl2 e) (hk : ∀ H', StO H' b hd s [x, v] tl2 e → Step [b] H [b] H' → K H') : stc H ((⟨b, hd.length, none⟩ : Addr).add 9) v K :=
  RowO.put h (by simp [St.cells, St.list]) fun H' h' hs => hk H' h' hs
theorem StO.get8 {H : Heap} {b : Nat} {hd tl2 : List Value} {s : St} {x y : Value} {e : TypeId} (h : StO H b hd s [x, y] tl2 e) : H.cell? ((⟨b, hd.length, none⟩ : Addr).add 8) = some x := RowO.get h rfl
theorem StO.get9 {H : Heap} {b : Nat} {hd tl2 : List Value} {s : St} {x y : Value} {e : TypeId} (h : StO H b hd s [x, y] tl2 e) : H.cell? ((⟨b, hd.length, none⟩ : Addr).add 9) = some y := RowO.get h rfl
theorem zoa.loopO {H0 : Heap} {b : Nat} {hd tl2 : List Value} {s : St} {n : Value} {e : TypeId} {p : Option Addr} {c : Nat} {r : List UInt8} (hs : StO H0 b hd s [.slice p r.length c, n] tl2 e) (ho : OwnB H0 5 p r.length c r) (hbp : b ∉ bl p) (hk : IntsIn H0 1 .u32 kTab) (h0 : 1 ∉ b :: bl p) {Kx : Heap → Prop} {E : Value → Heap → Prop}
    (hx : ∀ p' c' H, StO H b hd (eat s r).1 [.slice p' (eat s r).2.length c', n] tl2 e → OwnB H 5 p' (eat s r).2.length c' (eat s r).2 → b ∉ bl p' → Step (b :: bl p) H0 (b :: bl p') H → Kx H) : zoa.W2 (some ⟨b, hd.length, none⟩) Kx E H0 := by
  refine ⟨Loop.of (I := fun (_ : Unit) H m => ∃ s' p' c' r', m = r'.length ∧ StO H b hd s' [.slice p' r'.length c', n] tl2 e ∧ OwnB H 5 p' r'.length c' r' ∧ bl p' = bl p ∧ Step (b :: bl p) H0 (b :: bl p) H ∧ eat s' r' = eat s r) ?_ ⟨s, p, c, r, rfl, hs, ho, rfl, Step.refl _ _, rfl⟩⟩
  rintro m _ H ⟨s', p', c', r', rfl, hs, ho, hbl, hst, heq⟩ RR hRR
  unfold zoa.W2.vc
  have hsl : ∀ {H : Heap} {s : St} {p : Option Addr} {n1 c : Nat}, StO H b hd s [.slice p n1 c, n] tl2 e → H.cell? ((⟨b, hd.length, none⟩ : Addr).add 8) = some (.slice p n1 c) := fun h => h.get8
  refine ⟨_, rfl, p', r'.length, c', hsl hs, ?_⟩
  by_cases hc : 64 ≤ r'.length
  · refine (if_pos (by rw [decide_eq_true_eq]; omega)).mpr ⟨_, rfl, _, rfl, p', r'.length, c', hsl hs, by decide, by have := ho.2.1; omega, ?_⟩
    rw [add_mk, Nat.add_zero, slA_zero]
    have hk2 : IntsIn H 1 .u32 kTab := hk.step hst h0
    refine zma.runO hs hk2 (ho.bytes.take hc) fun H2 hs2 hst2 => ⟨_, rfl, p', r'.length, c', hsl hs2, by decide, by omega, ho.2.1, _, rfl, ?_⟩
    have ho2 := ho.step hst2 fun k hk => not_one hbp (hbl ▸ hk)
    refine StO.set8 hs2 fun H3 hl3 hst3 => ?_
    have ho3 := ho2.step hst3 fun k hk => not_one hbp (hbl ▸ hk)
    obtain ⟨ho4, hbl4⟩ := ho3.drop hc
    have hlen : (r'.drop 64).length = r'.length - 64 := List.length_drop
    refine hRR () H3 (r'.drop 64).length (by omega) ⟨s'.block (r'.take 64), slA p' c' 64 1, c' - 64, r'.drop 64, rfl, ?_, ?_, hbl4.trans hbl, ?_, ?_⟩
    · rw [hlen]; exact hl3
    · rw [hlen]; exact ho4
    · exact hst.trans ((hst2.trans hst3).frame (fun k hk => by simp only [List.mem_cons, not_or] at hk; simpa using hk.1) fun k hk _ => hk)
    · rw [← eat_step hc]; exact heq
  · refine (if_neg (by rw [decide_eq_true_eq]; omega)).mpr ?_
    rw [eat_small (l := r') (by omega)] at heq
    have := hx p' c' H
    rw [← heq] at this
    exact this hs ho (by rw [hbl]; exact hbp) (by rw [hbl]; exact hst)
def HashO (H : Heap) (b : Nat) (hd tl2 : List Value) (e : TypeId) (p : Option Addr) (c : Nat) (d : List UInt8) : Prop :=
  StO H b hd (eat st0 d).1 [.slice p (eat st0 d).2.length c, .int .u64 (d.length : Int)] tl2 e ∧ OwnB H 5 p (eat st0 d).2.length c (eat st0 d).2 ∧ b ∉ bl p
theorem zoa.runO {H : Heap} {b : Nat} {hd tl2 : List Value} {e : TypeId} {p : Option Addr} {c : Nat} {d : List UInt8} (hb : HashO H b hd tl2 e p c d) {x : ByteArray} (hdl : d.length + x.size ≤ 1000000000000) (hk : IntsIn H 1 .u32 kTab) (h0 : 1 ∉ b :: bl p) {K : Heap → Prop} {E : Value → Heap → Prop}
    (h : ∀ p' c' H', HashO H' b hd tl2 e p' c' (d ++ x.data.toList) → ((eat st0 (d ++ x.data.toList)).2 = [] → p' = none ∧ c' = 0) → Step (b :: bl p) H (b :: bl p') H' → K H') : zoa.c (some ⟨b, hd.length, none⟩) x K E H := by
  have hxl : x.data.toList.length = x.size := by rw [Array.length_toList]; rfl
  have hk0 : H 1 ≠ none := IntsIn.some0 hk
  obtain ⟨hs, ho, hbp⟩ := hb
  have hrest := (eat_rest _ st0 d (Nat.le_refl _)).1
  refine ⟨?_⟩
  unfold zoa.vc
  refine ⟨_, rfl, _, hs.get9, _, rfl, ?_⟩
  have hn : IntKind.u64.wrap ((d.length : Int) + IntKind.u64.wrap (x.size : Int)) = ((d ++ x.data.toList).length : Int) := by
    rw [w_u64 (n := (x.size : Int)) (by omega) (by omega), w_u64 (by omega) (by omega), List.length_append, hxl]
    simp
  rw [hn]
  refine StO.set9 hs fun H1 hs1 hst1 => ?_
  have ho1 := ho.step hst1 fun k hk => not_one hbp hk
  refine ⟨_, rfl, p, (eat st0 d).2.length, c, hs1.get8, ?_⟩
  refine appT_bytes (xs := x.data.toList) ho1 (by rw [zvd]; rfl) hxl (by omega) fun p' c' H2 ho2 hst2 => ?_
  have hs2 := hst2 b _ hs1 hbp
  have nb0 : (1 : Nat) ∉ [b] := by
    simp only [List.mem_cons, not_or] at h0
    simpa using h0.1
  have n0p : (1 : Nat) ∉ bl p := by
    simp only [List.mem_cons, not_or] at h0
    exact h0.2
  have hk2 : IntsIn H2 1 .u32 kTab := (hk.step hst1 nb0).step hst2 n0p
  have n0p' : (1 : Nat) ∉ bl p' := by
    cases h1 : H1 1 with
    | none => exact absurd h1 (IntsIn.some0 (hk.step hst1 nb0))
    | some o => exact (hst2 1 o h1 n0p).2
  refine ⟨_, rfl, StO.set8 hs2.1 fun H3 hs3 hst3 => ?_⟩
  have ho3 := ho2.step hst3 fun k hk => not_one hs2.2 hk
  have hlen : ((eat st0 d).2 ++ x.data.toList).length = (eat st0 d).2.length + x.size := by rw [List.length_append, hxl]
  rw [← hlen] at hs3 ho3
  have hk3 : IntsIn H3 1 .u32 kTab := hk2.step hst3 nb0
  have hn0 : (1 : Nat) ∉ b :: bl p' := by
    simp only [List.mem_cons, not_or]
    exact ⟨by simpa using nb0, n0p'⟩
  have hst03 : Step (b :: bl p) H (b :: bl p') H3 := by
    intro k o hk hn
    simp only [List.mem_cons, not_or] at hn ⊢
    have k1 := hst1 k o hk (by simpa using hn.1)
    have k2 := hst2 k o k1.1 hn.2
    have k3 := hst3 k o k2.1 (by simpa using hn.1)
    exact ⟨k3.1, hn.1, k2.2⟩
  refine ⟨?_⟩
  unfold zoa.J1.vc
  refine zoa.loopO hs3 ho3 hs2.2 hk3 hn0 fun p4 c4 H4 hs4 ho4 hbp4 hst4 => ?_
  have hall : eat (eat st0 d).1 ((eat st0 d).2 ++ x.data.toList) = eat st0 (d ++ x.data.toList) := (eat_app _ _ _ _ (Nat.le_refl _)).symm
  rw [hall] at hs4 ho4
  refine ⟨_, rfl, p4, _, c4, hs4.get8, ?_⟩
  have hst : Step (b :: bl p) H (b :: bl p4) H4 := hst03.trans hst4
  by_cases hz : (eat st0 (d ++ x.data.toList)).2.length = 0
  · refine (if_pos (by simp [hz])).mpr ⟨_, rfl, StO.set8 hs4 fun H5 hs5 hst5 => ?_⟩
    have hr : (eat st0 (d ++ x.data.toList)).2 = [] := List.length_eq_zero_iff.1 hz
    refine ⟨H5, Heap.Le.refl _, h none 0 H5 ⟨?_, ?_, by simp [bl]⟩ (fun _ => ⟨rfl, rfl⟩) ?_⟩
    · rw [hz]; exact hs5
    · rw [hr]; exact OwnB.nil
    · intro k o hk hn
      have k4 := hst k o hk hn
      have hne : k ∉ [b] := by
        simp only [List.mem_cons, not_or] at hn
        simpa using hn.1
      exact ⟨(hst5 k o k4.1 hne).1, hne⟩
  · exact (if_neg (by rw [beq_iff_eq]; omega)).mpr ⟨H4, Heap.Le.refl _, h p4 c4 H4 ⟨hs4, ho4, hbp4⟩ (fun hr => absurd (by rw [hr]; rfl) hz) hst⟩
theorem zla.loop4O {H0 : Heap} {b off : Nat} {x0 : Addr} {p : Option Addr} {c n : Nat} {l : List UInt8} (hn : n ≤ 1000000000000) (hl : l.length ≤ 1000) (ho : OwnB H0 5 p l.length c l) (hb : H0.cell? ((⟨b, off, none⟩ : Addr).add 9) = some (.int .u64 (n : Int))) (hbp : b ∉ bl p) {Kx : Option Addr → Nat → Nat → Heap → Prop} {E : Value → Heap → Prop}
    (hx : ∀ p' c' H, OwnB H 5 p' (l ++ be64 (8 * n)).length c' (l ++ be64 (8 * n)) → Step (bl p) H0 (bl p') H → Kx p' (l ++ be64 (8 * n)).length c' H) :
    zla.W4 (some ⟨b, off, none⟩) x0 p l.length c 0 Kx E H0 := by
  have hb0 : ∃ o, H0 b = some o := by
    cases hh : H0 b with
    | none => exact absurd rfl (ztf hb hh)
    | some o => exact ⟨o, rfl⟩
  obtain ⟨o9, ho9⟩ := hb0
  refine ⟨Loop.of (I := fun st H m => ∃ j, j ≤ 8 ∧ m = 8 - j ∧ st.2.2.2 = (j : Int) ∧ st.2.1 = (l ++ (be64 (8 * n)).take j).length ∧ OwnB H 5 st.1 st.2.1 st.2.2.1 (l ++ (be64 (8 * n)).take j) ∧ Step (bl p) H0 (bl st.1) H) ?_ ⟨0, Nat.zero_le _, rfl, rfl, by simp, by simpa using ho, Step.refl _ _⟩⟩
  rintro m ⟨p1, n1, c1, j'⟩ H ⟨j, hj, rfl, hj', hn1, ho, hst⟩ RR hRR
  dsimp only at hj' hn1 ho hst
  subst hn1; subst hj'
  have h64 : (be64 (8 * n)).length = 8 := by simp [be64]
  unfold zla.W4.vc
  dsimp only
  by_cases hc : j < 8
  · rw [if_pos (by rw [decide_eq_true_eq]; omega)]
    have hcell : H.cell? ((⟨b, off, none⟩ : Addr).add 9) = some (.int .u64 (n : Int)) := hst.cell hb (by rw [add_block]; exact hbp)
    refine ⟨_, rfl, _, hcell, ?_, ?_⟩
    · rw [w_i64 (n := 8 * (j : Int)) (by omega) (by omega), w_i64 (by omega) (by omega)]; omega
    refine push_byte (be64_byte hn hc) ho (by rw [List.length_append, List.length_take]; omega) fun p' c' H2 h1 h2 => ⟨?_⟩
    unfold zla.J5.vc
    rw [w_i64 (by omega) (by omega)]
    have e : (l ++ (be64 (8 * n)).take j) ++ [UInt8.ofNat (8 * n / 2 ^ (56 - 8 * j))] = l ++ (be64 (8 * n)).take (j + 1) := by
      rw [List.append_assoc, List.take_succ_eq_append_getElem (by omega)]
      congr 2
      simp [be64]
    rw [e] at h1
    refine hRR (p', _, c', _) H2 (8 - (j + 1)) (by omega) ⟨j + 1, by omega, rfl, by simp, ?_, h1, hst.trans h2⟩
    rw [← e, List.length_append (bs := [_])]
    rfl
  · rw [if_neg (by rw [decide_eq_true_eq]; omega)]
    have : j = 8 := by omega
    subst this
    have e : (be64 (8 * n)).take 8 = be64 (8 * n) := List.take_of_length_le (by omega)
    rw [e] at ho ⊢
    exact hx p1 c1 H ho hst
theorem zla.runO {H : Heap} {b : Nat} {hd tl2 : List Value} {e : TypeId} {p : Option Addr} {c : Nat} {d : List UInt8} (hb : HashO H b hd tl2 e p c d) (hdl : d.length ≤ 1000000000000) (hk : IntsIn H 1 .u32 kTab) (h0 : 1 ∉ b :: bl p) {K : ByteArray → Heap → Prop} {E : Value → Heap → Prop}
    (h : ∀ H', Heap.Le H H' → K ⟨(sha d).toArray⟩ H') : zla.c (some ⟨b, hd.length, none⟩) K E H := by
  have hk0 : H 1 ≠ none := IntsIn.some0 hk
  obtain ⟨hs, ho, hbp⟩ := hb
  have hrest := (eat_rest _ st0 d (Nat.le_refl _)).1
  generalize hS : (eat st0 d).1 = S at hs
  generalize hR : (eat st0 d).2 = R at hs ho hrest
  refine ⟨?_⟩
  unfold zla.vc
  have g0 : ∀ (i : Nat) (x : W), S.list[i]? = some x → H.cell? (((⟨b, hd.length, none⟩ : Addr).add 0).add i) = some (wV x) := fun i x hi => by
    rw [add_mk, Nat.add_zero]
    exact hs.get hi
  refine ⟨_, rfl, _, g0 0 _ rfl, _, g0 1 _ rfl, _, g0 2 _ rfl, _, g0 3 _ rfl, _, g0 4 _ rfl, _, g0 5 _ rfl, _, g0 6 _ rfl, _, g0 7 _ rfl, ?_⟩
  refine zna fun b0 H1 hn1 hl1 hle1 => ⟨rfl, ?_⟩
  refine stRow8 (new := S.cells) hl1 rfl (plain_cells _) ?_
  have hs2 : StAt (H1.set b0 (.cells S.cells.toArray 207)) b0 S [] 207 := by
    have := set_self H1 b0 (.cells S.cells.toArray 207)
    unfold StAt
    rw [List.append_nil]
    exact this
  have hle2 : Heap.Le H (H1.set b0 (.cells S.cells.toArray 207)) := fun k o hk => by
    have : k ≠ b0 := fun e => by subst e; rw [hn1] at hk; cases hk
    rw [set_ne _ _ this]; exact hle1 k o hk
  generalize H1.set b0 (.cells S.cells.toArray 207) = H2 at hs2 hle2 ⊢
  refine zna fun b1 H3 hn3 hl3 hle3 => ?_
  have hle03 := hle2.trans hle3
  have hs3 : StAt H3 b0 S [] 207 := hle3 _ _ hs2
  have hb3 : StO H3 b hd S [.slice p R.length c, .int .u64 (d.length : Int)] tl2 e := hle03 _ _ hs
  refine ⟨_, rfl, p, R.length, c, hb3.get8, ?_⟩
  have ho3 := ho.le hle03
  refine ho3.bytes.rdRow rfl ?_
  have hob : OwnB H3 5 (some ⟨b1, 0, none⟩) 0 0 [] := OwnB.of_block hl3 rfl (Nat.le_refl _) (Nat.zero_le _) (.inr rfl) rfl
  have := appT_bytes (xs := R) (m := R.length) hob rfl rfl (by omega) (K := fun p0 n0 c0 h5 => zla.J1 (some ⟨b, hd.length, none⟩) ⟨b0, 0, none⟩ p0 n0 c0 (fun r H => ∃ H', Heap.Le H' H ∧ K r H') E h5)
  refine this fun p4 c4 H4 ho4 hst4 => ⟨?_⟩
  rw [List.nil_append, Nat.zero_add] at ho4
  rw [Nat.zero_add]
  unfold zla.J1.vc
  refine push_byte (x := 128) rfl ho4 (by omega) fun p5 c5 H5 ho5 hst5 => ⟨?_⟩
  unfold zla.J2.vc
  have hlen5 : (R ++ [128]).length = R.length + 1 := by simp
  rw [← hlen5] at ho5 ⊢
  refine zla.loop3 hrest ho5 fun p6 c6 H6 ho6 hst6 => ?_
  -- what is known stays
  have n1 : b1 ≠ b0 := fun e1 => by
    subst e1
    unfold StAt at hs2
    rw [hn3] at hs2; cases hs2
  have st36 : Step [b1] H3 (bl p6) H6 := (hst4.trans hst5).trans hst6
  have keep : ∀ k o, H k = some o → H6 k = some o ∧ k ∉ bl p6 := fun k o hk => by
    have k3 := hle03 k o hk
    have : k ≠ b1 := fun e1 => by
      subst e1
      have := hle2 k o hk
      rw [hn3] at this; cases this
    exact st36 k o k3 (by simpa using this)
  have hs6 := st36 b0 _ hs3 (by simpa using fun e1 => n1 e1.symm)
  have hb6 := keep b _ hs
  have hb6s : StO H6 b hd S [.slice p R.length c, .int .u64 (d.length : Int)] tl2 e := hb6.1
  have hcell : H6.cell? ((⟨b, hd.length, none⟩ : Addr).add 9) = some (.int .u64 (d.length : Int)) := hb6s.get9
  have hz63 : zpad R.length < 64 := Nat.mod_lt _ (by decide)
  have hlen6 : ((R ++ [128]) ++ List.replicate (zpad R.length) (0 : UInt8)).length = R.length + 1 + zpad R.length := by simp; omega
  refine zla.loop4O hdl (by omega) ho6 hcell hb6.2 fun p7 c7 H7 ho7 hst7 => ?_
  have hpad : ((R ++ [128]) ++ List.replicate (zpad R.length) (0 : UInt8)) ++ be64 (8 * d.length) = padded R d.length := rfl
  rw [hpad] at ho7 ⊢
  have hs7 := hst7 b0 _ hs6.1 hs6.2
  have hk7 : IntsIn H7 1 .u32 kTab := fun i x hi => by
    cases ho0 : H 1 with
    | none => exact absurd ho0 hk0
    | some o =>
      have k6 := keep 1 o ho0
      have k7 := hst7 1 o k6.1 k6.2
      have hc := hk i x hi
      unfold Heap.cell? at hc ⊢
      rw [show (⟨1, i, none⟩ : Addr).block = 1 from rfl] at hc ⊢
      rw [ho0] at hc
      rw [k7.1]
      exact hc
  have n0b : 1 ≠ b0 := fun e1 => hk0 (e1 ▸ hn1)
  refine zla.loop6 (padded_len _ _) hs7.1 ho7 hs7.2 hk7 n0b fun H8 hs8 hst8 => ?_
  generalize hF : (eat S (padded R d.length)).1 = F at hs8
  have hsha : F.bytes = sha d := by
    have := sha_eat d
    rw [hS, hR, hF] at this
    exact this
  have g8 : ∀ (i : Nat) (x : W), F.list[i]? = some x → H8.cell? ((⟨b0, 0, none⟩ : Addr).add i) = some (wV x) := fun i x hi => loc hs8 (by
    have hi8 : i < F.cells.length := by
      unfold St.cells
      rw [List.length_map]
      exact (List.getElem?_eq_some_iff.1 hi).1
    rw [List.getElem?_toArray, List.getElem?_append_left hi8]
    unfold St.cells
    rw [List.getElem?_map, hi]
    rfl)
  refine ⟨_, g8 0 _ rfl, _, g8 1 _ rfl, _, g8 2 _ rfl, _, g8 3 _ rfl, _, g8 4 _ rfl, _, g8 5 _ rfl, _, g8 6 _ rfl, _, g8 7 _ rfl, ?_⟩
  refine zla.loop7 fun p9 c9 H9 ho9 hst9 => ?_
  refine ho9.bytes.rdBytes ?_
  rw [hsha]
  refine ⟨H9, Heap.Le.refl _, h H9 fun k o hk => ?_⟩
  have k6 := keep k o hk
  have k7 := hst7 k o k6.1 k6.2
  have nk0 : k ≠ b0 := fun e1 => by subst e1; rw [hn1] at hk; cases hk
  have k8 := hst8 k o k7.1 (by simpa using nk0)
  exact (hst9 k o k8.1 (by simp)).1
end Go.Sh
namespace Go.Sh
open Go.Proofs
set_option linter.unusedVariables false
set_option maxRecDepth 8000
namespace seal_pad
noncomputable def body : Code := Tryz.f224.body.getD .skip
def W1.vc (by0 : Int) (b0 : Option Addr) (b1 : Nat) (b2 : Nat) (x0 : Int) (x1 : Int) (Kx0 : HP) (RR : Int → HP) (E : VH) (h0 : Heap) : Prop :=
 (if (decide (x1 < x0)) = true then
 nilc b0 fun a0 => (0 : Int) ≤ x1 ∧ x1 < (b1 : Int) ∧
 ldI h0 .u8 (a0.add (x1.toNat * 1)) fun x2 =>
 nilc b0 fun a1 => (0 : Int) ≤ x1 ∧ x1 < (b1 : Int) ∧
 stc h0 (a1.add (x1.toNat * 1)) (.int .u8 (bits .xor .u8 x2 by0)) fun h1 =>
 RR (IntKind.i64.wrap (x1 + 1)) h1
 else
 Kx0 h0)
structure W1 (by0 : Int) (b0 : Option Addr) (b1 : Nat) (b2 : Nat) (x0 : Int) (x1 : Int) (Kx0 : HP) (E : VH) (H : Heap) : Prop where
  h : Loop (fun (RR : Int → HP) (s : Int) (H : Heap) => W1.vc by0 b0 b1 b2 x0 s Kx0 (fun x1 H => RR (x1) H) E H) (x1) H
def vc (key0 : ByteArray) (by0 : Int) (K : ByteArray → HP) (E : VH) (h0 : Heap) : Prop :=
 (0 : Int) ≤ 64 ∧ (64 : Int) ≤ 64 ∧ (64 : Int) ≤ 9223372036854775807 ∧ (64 : Int) * 1 ≤ 281474976710656 ∧ newB (.cells (zub (.int .u8 0) 64).toArray 5) (fun b0 h1 =>
 wCopySt (some (⟨b0, 0, none⟩ : Addr)) ((zxb key0).take (Nat.min key0.size 64)) (fun h2 =>
 W1 by0 (some (⟨b0, 0, none⟩ : Addr)) 64 64 ((64 : Nat) : Int) 0 (fun h3 =>
 rdBytes h3 (some (⟨b0, 0, none⟩ : Addr)) 64 fun x0 =>
 K x0 h3) E h2) h1) h0
structure c (key0 : ByteArray) (by0 : Int) (K : ByteArray → HP) (E : VH) (H : Heap) : Prop where
  h : vc key0 by0 (fun r0_0 H => ∃ H', Heap.Le H' H ∧ K r0_0 H') E H
def F : FT := fun args K E H => match args with
  | [(.string key0), (.int .u8 by0)] => c key0 by0 (fun r0_0 H => K (.string r0_0) H) E H
  | _ => False
noncomputable def Γ : FuncId → Option FT := Γof []
theorem hΓ : ∀ f F, Γ f = some F → zca Tryz.prog f F := Γof_ok (nilQ)
def W1.t : CT := fun Q E fr H => lenIs 26 fr (slI fr 1 .u8 fun by0 => slSl fr 5 fun b0 b1 b2 => slI fr 12 .i64 fun x0 => slI fr 13 .i64 fun x1 => W1 by0 b0 b1 b2 x0 x1 (fun  H => Q (.exit 0) (mkF 26 [(5, (.slice b0 b1 b2))]) H) E H)
theorem W1.ok : zaa Tryz.prog (sub [1, 1, 1, 0, 1, 0] body) W1.t := by
  have e : (sub [1, 1, 1, 0, 1, 0] body) = .loop (sub [1, 1, 1, 0, 1, 0, 0] body) := by kernel_rfl
  rw [e]
  refine zda (zqa (zea [1, 5, 12, 13] [] (fun i => if i = 0 then [5] else []) (zba hΓ Tryz.hm (.go) _ (of_eq_true (by kernel_rfl))))) fun Q E fr H h => ?_
  obtain ⟨hl, h⟩ := zga h
  obtain ⟨by0, q1, h⟩ := zfa h
  obtain ⟨b0, b1, b2, q5, h⟩ := zta h
  obtain ⟨x0, q12, h⟩ := zfa h
  obtain ⟨x1, q13, h⟩ := zfa h
  obtain ⟨m, h⟩ := h.h
  exact ⟨(mkF 26 [(1, (.int .u8 by0)), (5, (.slice b0 b1 b2)), (12, (.int .i64 x0)), (13, (.int .i64 x1))]), fun a ha => ha.mk (Nat.le_of_eq hl.symm) (consQ q1 (consQ q5 (consQ q12 (consQ q13 nilQ)))), m, cast (zib (B := (fun (RR : Int → HP) (s : Int) (H : Heap) => W1.vc by0 b0 b1 b2 x0 s (fun  H => Q (.exit 0) (mkF 26 [(5, (.slice b0 b1 b2))]) H) (fun x1 H => RR (x1) H) E H)) (m := (fun (s : Int) => (mkF 26 [(1, (.int .u8 by0)), (5, (.slice b0 b1 b2)), (12, (.int .i64 x0)), (13, (.int .i64 s))]))) (Q := Q) (E := E) (fun RR s H => by kernel_rfl) m (x1) H) h⟩
theorem ok : zca Tryz.prog 224 F := by
  refine zia hΓ (fn := Tryz.f224) (c := body) (by kernel_rfl) (by kernel_rfl) (by kernel_rfl) (zba hΓ Tryz.hm (.seq (.go) (.seq (.go) (.seq (.go) (.seq (.seq (.go) (.block (.use W1.t))) (.go))))) _ (of_eq (show _ = (True ∧ (True ∧ (True ∧ ((True ∧ (zaa Tryz.prog (sub [1, 1, 1, 0, 1, 0] body) W1.t)) ∧ True)))) by kernel_rfl) ⟨trivial, ⟨trivial, ⟨trivial, ⟨⟨trivial, W1.ok⟩, trivial⟩⟩⟩⟩)) fun _ K E H h => ?_
  unfold F at h
  split at h
  · exact cast (by kernel_rfl) h.h
  · exact h.elim
end seal_pad
namespace zxc
noncomputable def body : Code := Tryz.f217.body.getD .skip
def J1.vc (key0 : ByteArray) (x0 : Addr) (m0 : Addr) (Kr : HP) (E : VH) (h0 : Heap) : Prop :=
 seal_pad.c key0 54 (fun x1 h1 =>
 zoa.c (some (m0.add 0)) x1 (fun h2 =>
 seal_pad.c key0 92 (fun x2 h3 =>
 zoa.c (some (m0.add 10)) x2 (fun h4 =>
 ldI h4 .u32 (m0.add 0) fun x3 => ldI h4 .u32 (m0.add 1) fun x4 => ldI h4 .u32 (m0.add 2) fun x5 => ldI h4 .u32 (m0.add 3) fun x6 => ldI h4 .u32 (m0.add 4) fun x7 => ldI h4 .u32 (m0.add 5) fun x8 => ldI h4 .u32 (m0.add 6) fun x9 => ldI h4 .u32 (m0.add 7) fun x10 => ldSl h4 (m0.add 8) fun x11 x12 x13 => ldI h4 .u64 (m0.add 9) fun x14 => ldI h4 .u32 (m0.add 10) fun x15 => ldI h4 .u32 (m0.add 11) fun x16 => ldI h4 .u32 (m0.add 12) fun x17 => ldI h4 .u32 (m0.add 13) fun x18 => ldI h4 .u32 (m0.add 14) fun x19 => ldI h4 .u32 (m0.add 15) fun x20 => ldI h4 .u32 (m0.add 16) fun x21 => ldI h4 .u32 (m0.add 17) fun x22 => ldSl h4 (m0.add 18) fun x23 x24 x25 => ldI h4 .u64 (m0.add 19) fun x26 =>
 stc h4 (x0.add 0) (.int .u32 x3) fun h5 =>
 stc h5 (x0.add 1) (.int .u32 x4) fun h6 =>
 stc h6 (x0.add 2) (.int .u32 x5) fun h7 =>
 stc h7 (x0.add 3) (.int .u32 x6) fun h8 =>
 stc h8 (x0.add 4) (.int .u32 x7) fun h9 =>
 stc h9 (x0.add 5) (.int .u32 x8) fun h10 =>
 stc h10 (x0.add 6) (.int .u32 x9) fun h11 =>
 stc h11 (x0.add 7) (.int .u32 x10) fun h12 =>
 stc h12 (x0.add 8) (.slice x11 x12 x13) fun h13 =>
 stc h13 (x0.add 9) (.int .u64 x14) fun h14 =>
 stc h14 (x0.add 10) (.int .u32 x15) fun h15 =>
 stc h15 (x0.add 11) (.int .u32 x16) fun h16 =>
 stc h16 (x0.add 12) (.int .u32 x17) fun h17 =>
 stc h17 (x0.add 13) (.int .u32 x18) fun h18 =>
 stc h18 (x0.add 14) (.int .u32 x19) fun h19 =>
 stc h19 (x0.add 15) (.int .u32 x20) fun h20 =>
 stc h20 (x0.add 16) (.int .u32 x21) fun h21 =>
 stc h21 (x0.add 17) (.int .u32 x22) fun h22 =>
 stc h22 (x0.add 18) (.slice x23 x24 x25) fun h23 =>
 stc h23 (x0.add 19) (.int .u64 x26) fun h24 =>
 Kr h24) E h3) E h2) E h1) E h0
structure J1 (key0 : ByteArray) (x0 : Addr) (m0 : Addr) (Kr : HP) (E : VH) (H : Heap) : Prop where
  h : J1.vc key0 x0 m0 Kr E H
def vc (key0 : ByteArray) (K : Int → Int → Int → Int → Int → Int → Int → Int → Option Addr → Nat → Nat → Int → Int → Int → Int → Int → Int → Int → Int → Int → Option Addr → Nat → Nat → Int → HP) (E : VH) (h0 : Heap) : Prop :=
 newB (.cells #[(.int .u32 0), (.int .u32 0), (.int .u32 0), (.int .u32 0), (.int .u32 0), (.int .u32 0), (.int .u32 0), (.int .u32 0), (.slice none 0 0), (.int .u64 0), (.int .u32 0), (.int .u32 0), (.int .u32 0), (.int .u32 0), (.int .u32 0), (.int .u32 0), (.int .u32 0), (.int .u32 0), (.slice none 0 0), (.int .u64 0)] 211) (fun b0 h1 =>
 (zme.c (fun x0 h2 =>
 nilc x0 fun a0 =>
 ldI h2 .u32 (a0.add 0) fun x1 => ldI h2 .u32 (a0.add 1) fun x2 => ldI h2 .u32 (a0.add 2) fun x3 => ldI h2 .u32 (a0.add 3) fun x4 => ldI h2 .u32 (a0.add 4) fun x5 => ldI h2 .u32 (a0.add 5) fun x6 => ldI h2 .u32 (a0.add 6) fun x7 => ldI h2 .u32 (a0.add 7) fun x8 => ldSl h2 (a0.add 8) fun x9 x10 x11 => ldI h2 .u64 (a0.add 9) fun x12 =>
 (zme.c (fun x13 h3 =>
 (ldI h3 .u32 (a0.add 0) fun x14 => ldI h3 .u32 (a0.add 1) fun x15 => ldI h3 .u32 (a0.add 2) fun x16 => ldI h3 .u32 (a0.add 3) fun x17 => ldI h3 .u32 (a0.add 4) fun x18 => ldI h3 .u32 (a0.add 5) fun x19 => ldI h3 .u32 (a0.add 6) fun x20 => ldI h3 .u32 (a0.add 7) fun x21 => ldSl h3 (a0.add 8) fun x22 x23 x24 => ldI h3 .u64 (a0.add 9) fun x25 =>
 eqv h3 h3 (some (.agg #[(.int .u32 x1), (.int .u32 x2), (.int .u32 x3), (.int .u32 x4), (.int .u32 x5), (.int .u32 x6), (.int .u32 x7), (.int .u32 x8), (.slice x9 x10 x11), (.int .u64 x12)])) (.agg #[(.int .u32 x14), (.int .u32 x15), (.int .u32 x16), (.int .u32 x17), (.int .u32 x18), (.int .u32 x19), (.int .u32 x20), (.int .u32 x21), (.slice x22 x23 x24), (.int .u64 x25)])) ∧
 nilc x13 fun a1 =>
 ldI h3 .u32 (a1.add 0) fun x26 => ldI h3 .u32 (a1.add 1) fun x27 => ldI h3 .u32 (a1.add 2) fun x28 => ldI h3 .u32 (a1.add 3) fun x29 => ldI h3 .u32 (a1.add 4) fun x30 => ldI h3 .u32 (a1.add 5) fun x31 => ldI h3 .u32 (a1.add 6) fun x32 => ldI h3 .u32 (a1.add 7) fun x33 => ldSl h3 (a1.add 8) fun x34 x35 x36 => ldI h3 .u64 (a1.add 9) fun x37 =>
 newB (.cells #[(.int .u32 0), (.int .u32 0), (.int .u32 0), (.int .u32 0), (.int .u32 0), (.int .u32 0), (.int .u32 0), (.int .u32 0), (.slice none 0 0), (.int .u64 0), (.int .u32 0), (.int .u32 0), (.int .u32 0), (.int .u32 0), (.int .u32 0), (.int .u32 0), (.int .u32 0), (.int .u32 0), (.slice none 0 0), (.int .u64 0)] 211) (fun b1 h4 =>
 (ldI h4 .u32 (a1.add 0) fun x38 => ldI h4 .u32 (a1.add 1) fun x39 => ldI h4 .u32 (a1.add 2) fun x40 => ldI h4 .u32 (a1.add 3) fun x41 => ldI h4 .u32 (a1.add 4) fun x42 => ldI h4 .u32 (a1.add 5) fun x43 => ldI h4 .u32 (a1.add 6) fun x44 => ldI h4 .u32 (a1.add 7) fun x45 => ldSl h4 (a1.add 8) fun x46 x47 x48 => ldI h4 .u64 (a1.add 9) fun x49 =>
 eqv h4 h4 (some (.agg #[(.int .u32 x26), (.int .u32 x27), (.int .u32 x28), (.int .u32 x29), (.int .u32 x30), (.int .u32 x31), (.int .u32 x32), (.int .u32 x33), (.slice x34 x35 x36), (.int .u64 x37)])) (.agg #[(.int .u32 x38), (.int .u32 x39), (.int .u32 x40), (.int .u32 x41), (.int .u32 x42), (.int .u32 x43), (.int .u32 x44), (.int .u32 x45), (.slice x46 x47 x48), (.int .u64 x49)])) ∧
 (ldI h4 .u32 (a0.add 0) fun x50 => ldI h4 .u32 (a0.add 1) fun x51 => ldI h4 .u32 (a0.add 2) fun x52 => ldI h4 .u32 (a0.add 3) fun x53 => ldI h4 .u32 (a0.add 4) fun x54 => ldI h4 .u32 (a0.add 5) fun x55 => ldI h4 .u32 (a0.add 6) fun x56 => ldI h4 .u32 (a0.add 7) fun x57 => ldSl h4 (a0.add 8) fun x58 x59 x60 => ldI h4 .u64 (a0.add 9) fun x61 =>
 eqv h4 h4 (some (.agg #[(.int .u32 x1), (.int .u32 x2), (.int .u32 x3), (.int .u32 x4), (.int .u32 x5), (.int .u32 x6), (.int .u32 x7), (.int .u32 x8), (.slice x9 x10 x11), (.int .u64 x12)])) (.agg #[(.int .u32 x50), (.int .u32 x51), (.int .u32 x52), (.int .u32 x53), (.int .u32 x54), (.int .u32 x55), (.int .u32 x56), (.int .u32 x57), (.slice x58 x59 x60), (.int .u64 x61)])) ∧
 stc h4 ((⟨b1, 0, none⟩ : Addr).add 0) (.int .u32 x1) fun h5 =>
 stc h5 ((⟨b1, 0, none⟩ : Addr).add 1) (.int .u32 x2) fun h6 =>
 stc h6 ((⟨b1, 0, none⟩ : Addr).add 2) (.int .u32 x3) fun h7 =>
 stc h7 ((⟨b1, 0, none⟩ : Addr).add 3) (.int .u32 x4) fun h8 =>
 stc h8 ((⟨b1, 0, none⟩ : Addr).add 4) (.int .u32 x5) fun h9 =>
 stc h9 ((⟨b1, 0, none⟩ : Addr).add 5) (.int .u32 x6) fun h10 =>
 stc h10 ((⟨b1, 0, none⟩ : Addr).add 6) (.int .u32 x7) fun h11 =>
 stc h11 ((⟨b1, 0, none⟩ : Addr).add 7) (.int .u32 x8) fun h12 =>
 stc h12 ((⟨b1, 0, none⟩ : Addr).add 8) (.slice x9 x10 x11) fun h13 =>
 stc h13 ((⟨b1, 0, none⟩ : Addr).add 9) (.int .u64 x12) fun h14 =>
 stc h14 ((⟨b1, 0, none⟩ : Addr).add 10) (.int .u32 x26) fun h15 =>
 stc h15 ((⟨b1, 0, none⟩ : Addr).add 11) (.int .u32 x27) fun h16 =>
 stc h16 ((⟨b1, 0, none⟩ : Addr).add 12) (.int .u32 x28) fun h17 =>
 stc h17 ((⟨b1, 0, none⟩ : Addr).add 13) (.int .u32 x29) fun h18 =>
 stc h18 ((⟨b1, 0, none⟩ : Addr).add 14) (.int .u32 x30) fun h19 =>
 stc h19 ((⟨b1, 0, none⟩ : Addr).add 15) (.int .u32 x31) fun h20 =>
 stc h20 ((⟨b1, 0, none⟩ : Addr).add 16) (.int .u32 x32) fun h21 =>
 stc h21 ((⟨b1, 0, none⟩ : Addr).add 17) (.int .u32 x33) fun h22 =>
 stc h22 ((⟨b1, 0, none⟩ : Addr).add 18) (.slice x34 x35 x36) fun h23 =>
 stc h23 ((⟨b1, 0, none⟩ : Addr).add 19) (.int .u64 x37) fun h24 =>
 J1 key0 (⟨b0, 0, none⟩ : Addr) (⟨b1, 0, none⟩ : Addr) (fun h25 =>
 ldI h25 .u32 ((⟨b0, 0, none⟩ : Addr).add 0) fun r0 => ldI h25 .u32 ((⟨b0, 0, none⟩ : Addr).add 1) fun r1 => ldI h25 .u32 ((⟨b0, 0, none⟩ : Addr).add 2) fun r2 => ldI h25 .u32 ((⟨b0, 0, none⟩ : Addr).add 3) fun r3 => ldI h25 .u32 ((⟨b0, 0, none⟩ : Addr).add 4) fun r4 => ldI h25 .u32 ((⟨b0, 0, none⟩ : Addr).add 5) fun r5 => ldI h25 .u32 ((⟨b0, 0, none⟩ : Addr).add 6) fun r6 => ldI h25 .u32 ((⟨b0, 0, none⟩ : Addr).add 7) fun r7 => ldSl h25 ((⟨b0, 0, none⟩ : Addr).add 8) fun r8 r9 r10 => ldI h25 .u64 ((⟨b0, 0, none⟩ : Addr).add 9) fun r11 => ldI h25 .u32 ((⟨b0, 0, none⟩ : Addr).add 10) fun r12 => ldI h25 .u32 ((⟨b0, 0, none⟩ : Addr).add 11) fun r13 => ldI h25 .u32 ((⟨b0, 0, none⟩ : Addr).add 12) fun r14 => ldI h25 .u32 ((⟨b0, 0, none⟩ : Addr).add 13) fun r15 => ldI h25 .u32 ((⟨b0, 0, none⟩ : Addr).add 14) fun r16 => ldI h25 .u32 ((⟨b0, 0, none⟩ : Addr).add 15) fun r17 => ldI h25 .u32 ((⟨b0, 0, none⟩ : Addr).add 16) fun r18 => ldI h25 .u32 ((⟨b0, 0, none⟩ : Addr).add 17) fun r19 => ldSl h25 ((⟨b0, 0, none⟩ : Addr).add 18) fun r20 r21 r22 => ldI h25 .u64 ((⟨b0, 0, none⟩ : Addr).add 19) fun r23 =>
 K r0 r1 r2 r3 r4 r5 r6 r7 r8 r9 r10 r11 r12 r13 r14 r15 r16 r17 r18 r19 r20 r21 r22 r23 h25) E h24) h3) E h2) ∧
 newB (.cells #[(.int .u32 0), (.int .u32 0), (.int .u32 0), (.int .u32 0), (.int .u32 0), (.int .u32 0), (.int .u32 0), (.int .u32 0), (.slice none 0 0), (.int .u64 0), (.int .u32 0), (.int .u32 0), (.int .u32 0), (.int .u32 0), (.int .u32 0), (.int .u32 0), (.int .u32 0), (.int .u32 0), (.slice none 0 0), (.int .u64 0)] 211) (fun b2 h26 =>
 (ldI h26 .u32 (a0.add 0) fun x62 => ldI h26 .u32 (a0.add 1) fun x63 => ldI h26 .u32 (a0.add 2) fun x64 => ldI h26 .u32 (a0.add 3) fun x65 => ldI h26 .u32 (a0.add 4) fun x66 => ldI h26 .u32 (a0.add 5) fun x67 => ldI h26 .u32 (a0.add 6) fun x68 => ldI h26 .u32 (a0.add 7) fun x69 => ldSl h26 (a0.add 8) fun x70 x71 x72 => ldI h26 .u64 (a0.add 9) fun x73 =>
 eqv h26 h26 (some (.agg #[(.int .u32 x1), (.int .u32 x2), (.int .u32 x3), (.int .u32 x4), (.int .u32 x5), (.int .u32 x6), (.int .u32 x7), (.int .u32 x8), (.slice x9 x10 x11), (.int .u64 x12)])) (.agg #[(.int .u32 x62), (.int .u32 x63), (.int .u32 x64), (.int .u32 x65), (.int .u32 x66), (.int .u32 x67), (.int .u32 x68), (.int .u32 x69), (.slice x70 x71 x72), (.int .u64 x73)])) ∧
 zme.c (fun x74 h27 =>
 (ldI h27 .u32 (a0.add 0) fun x75 => ldI h27 .u32 (a0.add 1) fun x76 => ldI h27 .u32 (a0.add 2) fun x77 => ldI h27 .u32 (a0.add 3) fun x78 => ldI h27 .u32 (a0.add 4) fun x79 => ldI h27 .u32 (a0.add 5) fun x80 => ldI h27 .u32 (a0.add 6) fun x81 => ldI h27 .u32 (a0.add 7) fun x82 => ldSl h27 (a0.add 8) fun x83 x84 x85 => ldI h27 .u64 (a0.add 9) fun x86 =>
 eqv h27 h27 (some (.agg #[(.int .u32 x1), (.int .u32 x2), (.int .u32 x3), (.int .u32 x4), (.int .u32 x5), (.int .u32 x6), (.int .u32 x7), (.int .u32 x8), (.slice x9 x10 x11), (.int .u64 x12)])) (.agg #[(.int .u32 x75), (.int .u32 x76), (.int .u32 x77), (.int .u32 x78), (.int .u32 x79), (.int .u32 x80), (.int .u32 x81), (.int .u32 x82), (.slice x83 x84 x85), (.int .u64 x86)])) ∧
 nilc x74 fun a2 =>
 ldI h27 .u32 (a2.add 0) fun x87 => ldI h27 .u32 (a2.add 1) fun x88 => ldI h27 .u32 (a2.add 2) fun x89 => ldI h27 .u32 (a2.add 3) fun x90 => ldI h27 .u32 (a2.add 4) fun x91 => ldI h27 .u32 (a2.add 5) fun x92 => ldI h27 .u32 (a2.add 6) fun x93 => ldI h27 .u32 (a2.add 7) fun x94 => ldSl h27 (a2.add 8) fun x95 x96 x97 => ldI h27 .u64 (a2.add 9) fun x98 =>
 stc h27 ((⟨b2, 0, none⟩ : Addr).add 0) (.int .u32 x1) fun h28 =>
 stc h28 ((⟨b2, 0, none⟩ : Addr).add 1) (.int .u32 x2) fun h29 =>
 stc h29 ((⟨b2, 0, none⟩ : Addr).add 2) (.int .u32 x3) fun h30 =>
 stc h30 ((⟨b2, 0, none⟩ : Addr).add 3) (.int .u32 x4) fun h31 =>
 stc h31 ((⟨b2, 0, none⟩ : Addr).add 4) (.int .u32 x5) fun h32 =>
 stc h32 ((⟨b2, 0, none⟩ : Addr).add 5) (.int .u32 x6) fun h33 =>
 stc h33 ((⟨b2, 0, none⟩ : Addr).add 6) (.int .u32 x7) fun h34 =>
 stc h34 ((⟨b2, 0, none⟩ : Addr).add 7) (.int .u32 x8) fun h35 =>
 stc h35 ((⟨b2, 0, none⟩ : Addr).add 8) (.slice x9 x10 x11) fun h36 =>
 stc h36 ((⟨b2, 0, none⟩ : Addr).add 9) (.int .u64 x12) fun h37 =>
 stc h37 ((⟨b2, 0, none⟩ : Addr).add 10) (.int .u32 x87) fun h38 =>
 stc h38 ((⟨b2, 0, none⟩ : Addr).add 11) (.int .u32 x88) fun h39 =>
 stc h39 ((⟨b2, 0, none⟩ : Addr).add 12) (.int .u32 x89) fun h40 =>
 stc h40 ((⟨b2, 0, none⟩ : Addr).add 13) (.int .u32 x90) fun h41 =>
 stc h41 ((⟨b2, 0, none⟩ : Addr).add 14) (.int .u32 x91) fun h42 =>
 stc h42 ((⟨b2, 0, none⟩ : Addr).add 15) (.int .u32 x92) fun h43 =>
 stc h43 ((⟨b2, 0, none⟩ : Addr).add 16) (.int .u32 x93) fun h44 =>
 stc h44 ((⟨b2, 0, none⟩ : Addr).add 17) (.int .u32 x94) fun h45 =>
 stc h45 ((⟨b2, 0, none⟩ : Addr).add 18) (.slice x95 x96 x97) fun h46 =>
 stc h46 ((⟨b2, 0, none⟩ : Addr).add 19) (.int .u64 x98) fun h47 =>
 J1 key0 (⟨b0, 0, none⟩ : Addr) (⟨b2, 0, none⟩ : Addr) (fun h48 =>
 ldI h48 .u32 ((⟨b0, 0, none⟩ : Addr).add 0) fun r24 => ldI h48 .u32 ((⟨b0, 0, none⟩ : Addr).add 1) fun r25 => ldI h48 .u32 ((⟨b0, 0, none⟩ : Addr).add 2) fun r26 => ldI h48 .u32 ((⟨b0, 0, none⟩ : Addr).add 3) fun r27 => ldI h48 .u32 ((⟨b0, 0, none⟩ : Addr).add 4) fun r28 => ldI h48 .u32 ((⟨b0, 0, none⟩ : Addr).add 5) fun r29 => ldI h48 .u32 ((⟨b0, 0, none⟩ : Addr).add 6) fun r30 => ldI h48 .u32 ((⟨b0, 0, none⟩ : Addr).add 7) fun r31 => ldSl h48 ((⟨b0, 0, none⟩ : Addr).add 8) fun r32 r33 r34 => ldI h48 .u64 ((⟨b0, 0, none⟩ : Addr).add 9) fun r35 => ldI h48 .u32 ((⟨b0, 0, none⟩ : Addr).add 10) fun r36 => ldI h48 .u32 ((⟨b0, 0, none⟩ : Addr).add 11) fun r37 => ldI h48 .u32 ((⟨b0, 0, none⟩ : Addr).add 12) fun r38 => ldI h48 .u32 ((⟨b0, 0, none⟩ : Addr).add 13) fun r39 => ldI h48 .u32 ((⟨b0, 0, none⟩ : Addr).add 14) fun r40 => ldI h48 .u32 ((⟨b0, 0, none⟩ : Addr).add 15) fun r41 => ldI h48 .u32 ((⟨b0, 0, none⟩ : Addr).add 16) fun r42 => ldI h48 .u32 ((⟨b0, 0, none⟩ : Addr).add 17) fun r43 => ldSl h48 ((⟨b0, 0, none⟩ : Addr).add 18) fun r44 r45 r46 => ldI h48 .u64 ((⟨b0, 0, none⟩ : Addr).add 19) fun r47 =>
 K r24 r25 r26 r27 r28 r29 r30 r31 r32 r33 r34 r35 r36 r37 r38 r39 r40 r41 r42 r43 r44 r45 r46 r47 h48) E h47) E h26) h2) E h1) ∧
 newB (.cells #[(.int .u32 0), (.int .u32 0), (.int .u32 0), (.int .u32 0), (.int .u32 0), (.int .u32 0), (.int .u32 0), (.int .u32 0), (.slice none 0 0), (.int .u64 0), (.int .u32 0), (.int .u32 0), (.int .u32 0), (.int .u32 0), (.int .u32 0), (.int .u32 0), (.int .u32 0), (.int .u32 0), (.slice none 0 0), (.int .u64 0)] 211) (fun b3 h49 =>
 zme.c (fun x99 h50 =>
 nilc x99 fun a3 =>
 ldI h50 .u32 (a3.add 0) fun x100 => ldI h50 .u32 (a3.add 1) fun x101 => ldI h50 .u32 (a3.add 2) fun x102 => ldI h50 .u32 (a3.add 3) fun x103 => ldI h50 .u32 (a3.add 4) fun x104 => ldI h50 .u32 (a3.add 5) fun x105 => ldI h50 .u32 (a3.add 6) fun x106 => ldI h50 .u32 (a3.add 7) fun x107 => ldSl h50 (a3.add 8) fun x108 x109 x110 => ldI h50 .u64 (a3.add 9) fun x111 =>
 zme.c (fun x112 h51 =>
 (ldI h51 .u32 (a3.add 0) fun x113 => ldI h51 .u32 (a3.add 1) fun x114 => ldI h51 .u32 (a3.add 2) fun x115 => ldI h51 .u32 (a3.add 3) fun x116 => ldI h51 .u32 (a3.add 4) fun x117 => ldI h51 .u32 (a3.add 5) fun x118 => ldI h51 .u32 (a3.add 6) fun x119 => ldI h51 .u32 (a3.add 7) fun x120 => ldSl h51 (a3.add 8) fun x121 x122 x123 => ldI h51 .u64 (a3.add 9) fun x124 =>
 eqv h51 h51 (some (.agg #[(.int .u32 x100), (.int .u32 x101), (.int .u32 x102), (.int .u32 x103), (.int .u32 x104), (.int .u32 x105), (.int .u32 x106), (.int .u32 x107), (.slice x108 x109 x110), (.int .u64 x111)])) (.agg #[(.int .u32 x113), (.int .u32 x114), (.int .u32 x115), (.int .u32 x116), (.int .u32 x117), (.int .u32 x118), (.int .u32 x119), (.int .u32 x120), (.slice x121 x122 x123), (.int .u64 x124)])) ∧
 nilc x112 fun a4 =>
 ldI h51 .u32 (a4.add 0) fun x125 => ldI h51 .u32 (a4.add 1) fun x126 => ldI h51 .u32 (a4.add 2) fun x127 => ldI h51 .u32 (a4.add 3) fun x128 => ldI h51 .u32 (a4.add 4) fun x129 => ldI h51 .u32 (a4.add 5) fun x130 => ldI h51 .u32 (a4.add 6) fun x131 => ldI h51 .u32 (a4.add 7) fun x132 => ldSl h51 (a4.add 8) fun x133 x134 x135 => ldI h51 .u64 (a4.add 9) fun x136 =>
 stc h51 ((⟨b3, 0, none⟩ : Addr).add 0) (.int .u32 x100) fun h52 =>
 stc h52 ((⟨b3, 0, none⟩ : Addr).add 1) (.int .u32 x101) fun h53 =>
 stc h53 ((⟨b3, 0, none⟩ : Addr).add 2) (.int .u32 x102) fun h54 =>
 stc h54 ((⟨b3, 0, none⟩ : Addr).add 3) (.int .u32 x103) fun h55 =>
 stc h55 ((⟨b3, 0, none⟩ : Addr).add 4) (.int .u32 x104) fun h56 =>
 stc h56 ((⟨b3, 0, none⟩ : Addr).add 5) (.int .u32 x105) fun h57 =>
 stc h57 ((⟨b3, 0, none⟩ : Addr).add 6) (.int .u32 x106) fun h58 =>
 stc h58 ((⟨b3, 0, none⟩ : Addr).add 7) (.int .u32 x107) fun h59 =>
 stc h59 ((⟨b3, 0, none⟩ : Addr).add 8) (.slice x108 x109 x110) fun h60 =>
 stc h60 ((⟨b3, 0, none⟩ : Addr).add 9) (.int .u64 x111) fun h61 =>
 stc h61 ((⟨b3, 0, none⟩ : Addr).add 10) (.int .u32 x125) fun h62 =>
 stc h62 ((⟨b3, 0, none⟩ : Addr).add 11) (.int .u32 x126) fun h63 =>
 stc h63 ((⟨b3, 0, none⟩ : Addr).add 12) (.int .u32 x127) fun h64 =>
 stc h64 ((⟨b3, 0, none⟩ : Addr).add 13) (.int .u32 x128) fun h65 =>
 stc h65 ((⟨b3, 0, none⟩ : Addr).add 14) (.int .u32 x129) fun h66 =>
 stc h66 ((⟨b3, 0, none⟩ : Addr).add 15) (.int .u32 x130) fun h67 =>
 stc h67 ((⟨b3, 0, none⟩ : Addr).add 16) (.int .u32 x131) fun h68 =>
 stc h68 ((⟨b3, 0, none⟩ : Addr).add 17) (.int .u32 x132) fun h69 =>
 stc h69 ((⟨b3, 0, none⟩ : Addr).add 18) (.slice x133 x134 x135) fun h70 =>
 stc h70 ((⟨b3, 0, none⟩ : Addr).add 19) (.int .u64 x136) fun h71 =>
 J1 key0 (⟨b0, 0, none⟩ : Addr) (⟨b3, 0, none⟩ : Addr) (fun h72 =>
 ldI h72 .u32 ((⟨b0, 0, none⟩ : Addr).add 0) fun r48 => ldI h72 .u32 ((⟨b0, 0, none⟩ : Addr).add 1) fun r49 => ldI h72 .u32 ((⟨b0, 0, none⟩ : Addr).add 2) fun r50 => ldI h72 .u32 ((⟨b0, 0, none⟩ : Addr).add 3) fun r51 => ldI h72 .u32 ((⟨b0, 0, none⟩ : Addr).add 4) fun r52 => ldI h72 .u32 ((⟨b0, 0, none⟩ : Addr).add 5) fun r53 => ldI h72 .u32 ((⟨b0, 0, none⟩ : Addr).add 6) fun r54 => ldI h72 .u32 ((⟨b0, 0, none⟩ : Addr).add 7) fun r55 => ldSl h72 ((⟨b0, 0, none⟩ : Addr).add 8) fun r56 r57 r58 => ldI h72 .u64 ((⟨b0, 0, none⟩ : Addr).add 9) fun r59 => ldI h72 .u32 ((⟨b0, 0, none⟩ : Addr).add 10) fun r60 => ldI h72 .u32 ((⟨b0, 0, none⟩ : Addr).add 11) fun r61 => ldI h72 .u32 ((⟨b0, 0, none⟩ : Addr).add 12) fun r62 => ldI h72 .u32 ((⟨b0, 0, none⟩ : Addr).add 13) fun r63 => ldI h72 .u32 ((⟨b0, 0, none⟩ : Addr).add 14) fun r64 => ldI h72 .u32 ((⟨b0, 0, none⟩ : Addr).add 15) fun r65 => ldI h72 .u32 ((⟨b0, 0, none⟩ : Addr).add 16) fun r66 => ldI h72 .u32 ((⟨b0, 0, none⟩ : Addr).add 17) fun r67 => ldSl h72 ((⟨b0, 0, none⟩ : Addr).add 18) fun r68 r69 r70 => ldI h72 .u64 ((⟨b0, 0, none⟩ : Addr).add 19) fun r71 =>
 K r48 r49 r50 r51 r52 r53 r54 r55 r56 r57 r58 r59 r60 r61 r62 r63 r64 r65 r66 r67 r68 r69 r70 r71 h72) E h71) E h50) E h49) h1) h0
structure c (key0 : ByteArray) (K : Int → Int → Int → Int → Int → Int → Int → Int → Option Addr → Nat → Nat → Int → Int → Int → Int → Int → Int → Int → Int → Int → Option Addr → Nat → Nat → Int → HP) (E : VH) (H : Heap) : Prop where
  h : vc key0 (fun r0_0 r0_1 r0_2 r0_3 r0_4 r0_5 r0_6 r0_7 r0_8 r0_9 r0_10 r0_11 r0_12 r0_13 r0_14 r0_15 r0_16 r0_17 r0_18 r0_19 r0_20 r0_21 r0_22 r0_23 H => ∃ H', Heap.Le H' H ∧ K r0_0 r0_1 r0_2 r0_3 r0_4 r0_5 r0_6 r0_7 r0_8 r0_9 r0_10 r0_11 r0_12 r0_13 r0_14 r0_15 r0_16 r0_17 r0_18 r0_19 r0_20 r0_21 r0_22 r0_23 H') E H
def F : FT := fun args K E H => match args with
  | [(.string key0)] => c key0 (fun r0_0 r0_1 r0_2 r0_3 r0_4 r0_5 r0_6 r0_7 r0_8 r0_9 r0_10 r0_11 r0_12 r0_13 r0_14 r0_15 r0_16 r0_17 r0_18 r0_19 r0_20 r0_21 r0_22 r0_23 H => K (.agg #[(.int .u32 r0_0), (.int .u32 r0_1), (.int .u32 r0_2), (.int .u32 r0_3), (.int .u32 r0_4), (.int .u32 r0_5), (.int .u32 r0_6), (.int .u32 r0_7), (.slice r0_8 r0_9 r0_10), (.int .u64 r0_11), (.int .u32 r0_12), (.int .u32 r0_13), (.int .u32 r0_14), (.int .u32 r0_15), (.int .u32 r0_16), (.int .u32 r0_17), (.int .u32 r0_18), (.int .u32 r0_19), (.slice r0_20 r0_21 r0_22), (.int .u64 r0_23)]) H) E H
  | _ => False
noncomputable def Γ : FuncId → Option FT := Γof [(159, zme.F), (160, zoa.F), (224, seal_pad.F)]
theorem hΓ : ∀ f F, Γ f = some F → zca Tryz.prog f F := Γof_ok (consQ zme.ok (consQ zoa.ok (consQ seal_pad.ok (nilQ))))
def J1.t : CT := fun Q E fr H => lenIs 20 fr (slS fr 0 fun key0 => slPA fr 2 fun x0 => slPA fr 3 fun m0 => J1 key0 x0 m0 (fun  H => Q .ret (mkF 20 [(2, (.pointer (some x0)))]) H) E H)
theorem J1.ok : zaa Tryz.prog (sub [1, 1] body) J1.t := by
  refine zda (zea [] [2] (fun i => []) (zba hΓ Tryz.hm (.go) _ (of_eq_true (by kernel_rfl)))) fun Q E fr H h => ?_
  obtain ⟨hl, h⟩ := zga h
  obtain ⟨key0, q0, h⟩ := zfb h
  obtain ⟨x0, q2, h⟩ := zua h
  obtain ⟨m0, q3, h⟩ := zua h
  exact ⟨(mkF 20 [(0, (.string key0)), (2, (.pointer (some x0))), (3, (.pointer (some m0)))]), fun a ha => ha.mk (Nat.le_of_eq hl.symm) (consQ q0 (consQ q2 (consQ q3 nilQ))), cast (by kernel_rfl) h.h⟩
theorem ok : zca Tryz.prog 217 F := by
  refine zia hΓ (fn := Tryz.f217) (c := body) (by kernel_rfl) (by kernel_rfl) (by kernel_rfl) (zba hΓ Tryz.hm (.seq (.go) (.seq (.draw ⟨[0, 1, 2, 3, 4, 5, 6, 7, 8], (dl [] (.alt (dl [(0, []), (1, []), (2, [])] (.alt (dl [(3, [0]), (4, []), (5, []), (6, []), (7, []), (8, [7, 6, 3, 0, 1, 2, 4, 5])] .fin) (dl [(7, []), (3, [0]), (4, []), (5, []), (6, []), (8, [7, 6, 3, 0, 1, 2, 4, 5])] .fin))) (dl [(7, []), (0, []), (1, []), (2, []), (3, [0]), (4, []), (5, []), (6, []), (8, [7, 6, 3, 0, 1, 2, 4, 5])] .fin))), []⟩) (.use J1.t))) _ (of_eq (show _ = (True ∧ (True ∧ (zaa Tryz.prog (sub [1, 1] body) J1.t))) by kernel_rfl) ⟨trivial, ⟨trivial, J1.ok⟩⟩)) fun _ K E H h => ?_
  unfold F at h
  split at h
  · exact cast (by kernel_rfl) h.h
  · exact h.elim
end zxc
namespace zsf
noncomputable def body : Code := Tryz.f216.body.getD .skip
def vc (a0 : Addr) (K : HP) (E : VH) (h0 : Heap) : Prop :=
 ldP h0 a0 fun x0 =>
 ldP h0 a0 fun x1 =>
 nilc x1 fun a1 =>
 ldS h0 (a1.add 0) fun x2 =>
 znb.c x2 (⟨#[99, 105, 112, 104, 101, 114]⟩ : ByteArray) (⟨#[]⟩ : ByteArray) (fun x3 h1 =>
 (ldP h1 a0 fun x4 =>
 eqv h1 h1 (some (.pointer x0)) (.pointer x4)) ∧
 zxc.c x3 (fun x5 x6 x7 x8 x9 x10 x11 x12 x13 x14 x15 x16 x17 x18 x19 x20 x21 x22 x23 x24 x25 x26 x27 x28 h2 =>
 (ldP h2 a0 fun x29 =>
 eqv h2 h2 (some (.pointer x0)) (.pointer x29)) ∧
 nilc x0 fun a2 =>
 stc h2 ((a2.add 4).add 0) (.int .u32 x5) fun h3 =>
 stc h3 ((a2.add 4).add 1) (.int .u32 x6) fun h4 =>
 stc h4 ((a2.add 4).add 2) (.int .u32 x7) fun h5 =>
 stc h5 ((a2.add 4).add 3) (.int .u32 x8) fun h6 =>
 stc h6 ((a2.add 4).add 4) (.int .u32 x9) fun h7 =>
 stc h7 ((a2.add 4).add 5) (.int .u32 x10) fun h8 =>
 stc h8 ((a2.add 4).add 6) (.int .u32 x11) fun h9 =>
 stc h9 ((a2.add 4).add 7) (.int .u32 x12) fun h10 =>
 stc h10 ((a2.add 4).add 8) (.slice x13 x14 x15) fun h11 =>
 stc h11 ((a2.add 4).add 9) (.int .u64 x16) fun h12 =>
 stc h12 ((a2.add 4).add 10) (.int .u32 x17) fun h13 =>
 stc h13 ((a2.add 4).add 11) (.int .u32 x18) fun h14 =>
 stc h14 ((a2.add 4).add 12) (.int .u32 x19) fun h15 =>
 stc h15 ((a2.add 4).add 13) (.int .u32 x20) fun h16 =>
 stc h16 ((a2.add 4).add 14) (.int .u32 x21) fun h17 =>
 stc h17 ((a2.add 4).add 15) (.int .u32 x22) fun h18 =>
 stc h18 ((a2.add 4).add 16) (.int .u32 x23) fun h19 =>
 stc h19 ((a2.add 4).add 17) (.int .u32 x24) fun h20 =>
 stc h20 ((a2.add 4).add 18) (.slice x25 x26 x27) fun h21 =>
 stc h21 ((a2.add 4).add 19) (.int .u64 x28) fun h22 =>
 ldP h22 a0 fun x30 =>
 ldP h22 a0 fun x31 =>
 nilc x31 fun a3 =>
 ldS h22 (a3.add 0) fun x32 =>
 znb.c x32 (⟨#[116, 97, 103]⟩ : ByteArray) (⟨#[]⟩ : ByteArray) (fun x33 h23 =>
 (ldP h23 a0 fun x34 =>
 eqv h23 h23 (some (.pointer x30)) (.pointer x34)) ∧
 zxc.c x33 (fun x35 x36 x37 x38 x39 x40 x41 x42 x43 x44 x45 x46 x47 x48 x49 x50 x51 x52 x53 x54 x55 x56 x57 x58 h24 =>
 (ldP h24 a0 fun x59 =>
 eqv h24 h24 (some (.pointer x30)) (.pointer x59)) ∧
 nilc x30 fun a4 =>
 stc h24 ((a4.add 24).add 0) (.int .u32 x35) fun h25 =>
 stc h25 ((a4.add 24).add 1) (.int .u32 x36) fun h26 =>
 stc h26 ((a4.add 24).add 2) (.int .u32 x37) fun h27 =>
 stc h27 ((a4.add 24).add 3) (.int .u32 x38) fun h28 =>
 stc h28 ((a4.add 24).add 4) (.int .u32 x39) fun h29 =>
 stc h29 ((a4.add 24).add 5) (.int .u32 x40) fun h30 =>
 stc h30 ((a4.add 24).add 6) (.int .u32 x41) fun h31 =>
 stc h31 ((a4.add 24).add 7) (.int .u32 x42) fun h32 =>
 stc h32 ((a4.add 24).add 8) (.slice x43 x44 x45) fun h33 =>
 stc h33 ((a4.add 24).add 9) (.int .u64 x46) fun h34 =>
 stc h34 ((a4.add 24).add 10) (.int .u32 x47) fun h35 =>
 stc h35 ((a4.add 24).add 11) (.int .u32 x48) fun h36 =>
 stc h36 ((a4.add 24).add 12) (.int .u32 x49) fun h37 =>
 stc h37 ((a4.add 24).add 13) (.int .u32 x50) fun h38 =>
 stc h38 ((a4.add 24).add 14) (.int .u32 x51) fun h39 =>
 stc h39 ((a4.add 24).add 15) (.int .u32 x52) fun h40 =>
 stc h40 ((a4.add 24).add 16) (.int .u32 x53) fun h41 =>
 stc h41 ((a4.add 24).add 17) (.int .u32 x54) fun h42 =>
 stc h42 ((a4.add 24).add 18) (.slice x55 x56 x57) fun h43 =>
 stc h43 ((a4.add 24).add 19) (.int .u64 x58) fun h44 =>
 K h44) E h23) E h22) E h1) E h0
structure c (a0 : Addr) (K : HP) (E : VH) (H : Heap) : Prop where
  h : vc a0 (fun  H => ∃ H', Heap.Le H' H ∧ K  H') E H
def F : FT := fun args K E H => match args with
  | [(.pointer (some a0))] => c a0 (fun  H => K (.tuple #[]) H) E H
  | _ => False
noncomputable def Γ : FuncId → Option FT := Γof [(29, znb.F), (217, zxc.F)]
theorem hΓ : ∀ f F, Γ f = some F → zca Tryz.prog f F := Γof_ok (consQ znb.ok (consQ zxc.ok (nilQ)))
theorem ok : zca Tryz.prog 216 F := by
  refine zia hΓ (fn := Tryz.f216) (c := body) (by kernel_rfl) (by kernel_rfl) (by kernel_rfl) (zba hΓ Tryz.hm (.seq (.draw ⟨[0, 1, 2, 3, 4, 5, 6, 7, 8, 9], (dl [(0, []), (1, []), (2, []), (3, []), (4, []), (5, [4, 3, 2, 1]), (6, [5, 4, 3, 2, 1]), (7, []), (8, []), (9, [8, 6, 0, 1, 2, 3, 4, 5, 7])] .fin), []⟩) (.draw ⟨[0, 1, 2, 3, 4, 5, 6, 7, 8, 9], (dl [(0, []), (1, []), (2, []), (3, []), (4, []), (5, [4, 3, 2, 1]), (6, [5, 4, 3, 2, 1]), (7, []), (8, []), (9, [8, 6, 0, 1, 2, 3, 4, 5, 7])] .fin), []⟩)) _ (of_eq (show _ = (True ∧ True) by kernel_rfl) ⟨trivial, trivial⟩)) fun _ K E H h => ?_
  unfold F at h
  split at h
  · exact cast (by kernel_rfl) h.h
  · exact h.elim
end zsf
end Go.Sh
namespace Go.Proofs.OnceTryz
theorem disable (w : World) : (callFunc 241 #[]).run Tryz.prog w = .ok (.value (.tuple #[])) w := run_call_mark0 Tryz.func241 (by kernel_rfl) (by kernel_rfl) (by kernel_rfl) .disable (by kernel_rfl) w
theorem enable (w : World) : (callFunc 243 #[]).run Tryz.prog w = .ok (.value (.tuple #[])) w := run_call_mark0 Tryz.func243 (by kernel_rfl) (by kernel_rfl) (by kernel_rfl) .enable (by kernel_rfl) w
theorem acquire (a : Addr) (w : World) : (callFunc 244 #[.pointer (some a)]).run Tryz.prog w = .ok (.value (.tuple #[])) w := run_call_marked Tryz.func244 (by kernel_rfl) (by kernel_rfl) (by kernel_rfl) .acquire (by kernel_rfl) a w
theorem releaseMerge (a : Addr) (w : World) : (callFunc 246 #[.pointer (some a)]).run Tryz.prog w = .ok (.value (.tuple #[])) w := run_call_marked Tryz.func246 (by kernel_rfl) (by kernel_rfl) (by kernel_rfl) .releaseMerge (by kernel_rfl) a w
set_option maxRecDepth 100000 in
theorem store_deferred (a : Addr) (x : Value) (u : FrameMode) (w : World) (hc : w.cell? a = some x) (hz : w.frozen? a = false) :
    CallsD Tryz.prog 230 #[.pointer (some a), .bool true] u w fun e u' w' => u' = u ∧ (e = .returned (.tuple #[]) ∧ w' = w.drew.setCell a (.int .u32 1)) := by
  have hc' : w.drew.cell? a = some x := by go_simp
  have hz' : w.drew.frozen? a = false := by go_simp
  have hst := run_call_store (P := Tryz.prog) Tryz.func237 (by kernel_rfl) (by kernel_rfl) (by kernel_rfl) (by kernel_rfl) (k := .u32) (y := 1) hc' hz'
  go_enter_d Tryz.func230, Tryz.ntmps230
  go_wp2
  go_region_calls
  all_goals (go_end0; exact ⟨rfl, rfl⟩)
set_option maxRecDepth 100000 in
theorem unlock_deferred (a : Addr) (u : FrameMode) (w : World) (hc : w.cell? a = some (.int .i32 1)) (hz : w.frozen? a = false) :
    CallsD Tryz.prog 229 #[.pointer (some a)] u w fun e u' w' => u' = u ∧ (e = .returned (.tuple #[]) ∧ w' = w.setCell a (.int .i32 0)) := by
  have hd := disable
  have he := enable
  have hr := releaseMerge
  have hadd := run_call_add (P := Tryz.prog) Tryz.func247 (by kernel_rfl) (by kernel_rfl) (by kernel_rfl) .i32 (by kernel_rfl) (y := -1) (s := 0) hc hz (by simp [go_sem]; rfl)
  have hcv := run_convert_to_unsafe (P := Tryz.prog) (src := 327) (dst := 299) Tryz.underlying327 Tryz.underlying299 (by kernel_rfl) hc
  go_enter_d Tryz.func229, Tryz.ntmps229
  go_wp2
  go_end0
  go_wp2
  go_end0
  exact ⟨rfl, rfl⟩
set_option maxRecDepth 100000 in
theorem lock_free (a : Addr) (w : World) (hc : w.cell? a = some (.int .i32 0)) (hz : w.frozen? a = false) :
    Calls Tryz.prog 228 #[.pointer (some a)] w fun e w' => e = .returned (.tuple #[]) ∧ w' = w.setCell a (.int .i32 1) := by
  have hd := disable
  have he := enable
  have ha := acquire
  have hcas := run_call_cas_hit (P := Tryz.prog) Tryz.func242 (by kernel_rfl) (by kernel_rfl) (by kernel_rfl) .i32 (by kernel_rfl) (y := 1) hc hz
  have hc' : (w.setCell a (.int .i32 1)).cell? a = some (.int .i32 1) := World.cell?_setCell_same w a _ hc
  have hcv := run_convert_to_unsafe (P := Tryz.prog) (src := 327) (dst := 299) Tryz.underlying327 Tryz.underlying299 (by kernel_rfl) hc'
  go_enter Tryz.func228, Tryz.ntmps228
  go_wp2
  first | go_end0 | (simp only [Exit.inBlock, Exit.then]; refine bodyPost_ret (results_none rfl _ _ _) rfl ?_) | refine bodyPost_ret (results_none rfl _ _ _) rfl ?_
  go_wp2
  go_end0
  exact ⟨rfl, rfl⟩
set_option maxRecDepth 100000 in
set_option maxHeartbeats 1600000 in
theorem slow_any (b off : Nat) (pl : Addr) (w : World) (Post : World → Prop)
    (h0 : w.cell? ⟨b, off, none⟩ = some (.int .u32 0)) (h1 : w.cell? ⟨b, off + 1, none⟩ = some (.int .i32 0)) (f1 : w.frozen? ⟨b, off + 1, none⟩ = false)
    (hc : Calls Tryz.prog 216 #[.pointer (some pl)] (w.setCell ⟨b, off + 1, none⟩ (.int .i32 1)) fun e w' => e = .returned (.tuple #[]) ∧
      ((∃ x, w'.cell? ⟨b, off, none⟩ = some x) ∧ w'.frozen? ⟨b, off, none⟩ = false ∧ w'.cell? ⟨b, off + 1, none⟩ = some (.int .i32 1) ∧ w'.frozen? ⟨b, off + 1, none⟩ = false) ∧ Post w') :
    Calls Tryz.prog 223 #[.pointer (some ⟨b, off, none⟩), .func (.func 216) #[] #[.pointer (some pl)]] w fun e w' => e = .returned (.tuple #[]) ∧ ∃ w1, Post w1 ∧ w' = ((w1.setCell ⟨b, off, none⟩ (.int .u32 1)).setCell ⟨b, off + 1, none⟩ (.int .i32 0)).drew := by
  have hl := run_call_load (P := Tryz.prog) Tryz.func227 (by kernel_rfl) (by kernel_rfl) (by kernel_rfl) .u32 (by kernel_rfl) (w := w.setCell ⟨b, off + 1, none⟩ (.int .i32 1)) (a := ⟨b, off, none⟩) (x := 0) ((World.cell?_setCell_other _ ⟨b, off + 1, none⟩ ⟨b, off, none⟩ _ (by simp)).trans h0)
  have hnot : ∀ (x : Bool) (w : World), (Op.unary .not (.bool x)).run Tryz.prog w = .ok (.bool (!x)) w := fun _ _ => rfl
  go_enter_defers Tryz.func223, Tryz.ntmps223
  go_wp2_with (go_at_call 228; refine (lock_free ⟨b, off + 1, none⟩ _ (by go_simp) (by go_simp)).mono ?_; rintro e w' ⟨rfl, rfl⟩)
  go_wp2_with (first | (go_at_call 216; refine hc.mono ?_; rintro e w1 ⟨rfl, ⟨⟨x, k0⟩, z0, k1, z1⟩, hp⟩) | (go_at_call 222; go_in))
  -- the door
  refine leaves_cons (f := 230) (args := #[.pointer (some ⟨b, off, none⟩), .bool true]) (by simp) (by simp [go_sem]) ?_
  refine (store_deferred ⟨b, off, none⟩ x .returning _ k0 z0).mono ?_
  rintro e u' w'' ⟨rfl, rfl, rfl⟩
  refine leaves_cons (f := 229) (args := #[.pointer (some ⟨b, off + 1, none⟩)]) (by simp [settle]) (by simp [go_sem]) ?_
  refine (unlock_deferred ⟨b, off + 1, none⟩ _ _ ?_ (by simp [z1])).mono ?_
  · refine (World.cell?_setCell_other _ ⟨b, off, none⟩ ⟨b, off + 1, none⟩ _ (by simp)).trans ?_
    rw [World.cell?_drew]
    exact k1
  rintro e u' w'' ⟨rfl, rfl, rfl⟩
  trace_state
  simp [Leaves, settle, results, Tryz.results223]
  exact ⟨w1, hp, rfl⟩
set_option maxRecDepth 100000 in
set_option maxHeartbeats 1600000 in
theorem do_first (b off : Nat) (pl : Addr) (w : World) (Post : World → Prop)
    (h0 : w.cell? ⟨b, off, none⟩ = some (.int .u32 0)) (h1 : w.cell? ⟨b, off + 1, none⟩ = some (.int .i32 0)) (f1 : w.frozen? ⟨b, off + 1, none⟩ = false)
    (hc : Calls Tryz.prog 216 #[.pointer (some pl)] (w.setCell ⟨b, off + 1, none⟩ (.int .i32 1)) fun e w' => e = .returned (.tuple #[]) ∧
      ((∃ x, w'.cell? ⟨b, off, none⟩ = some x) ∧ w'.frozen? ⟨b, off, none⟩ = false ∧ w'.cell? ⟨b, off + 1, none⟩ = some (.int .i32 1) ∧ w'.frozen? ⟨b, off + 1, none⟩ = false) ∧ Post w') :
    Calls Tryz.prog 215 #[.pointer (some ⟨b, off, none⟩), .func (.func 216) #[] #[.pointer (some pl)]] w fun e w' => e = .returned (.tuple #[]) ∧ ∃ w1, Post w1 ∧ w' = ((w1.setCell ⟨b, off, none⟩ (.int .u32 1)).setCell ⟨b, off + 1, none⟩ (.int .i32 0)).drew := by
  have hl := run_call_load (P := Tryz.prog) Tryz.func227 (by kernel_rfl) (by kernel_rfl) (by kernel_rfl) .u32 (by kernel_rfl) h0
  have hnot : ∀ (x : Bool) (w : World), (Op.unary .not (.bool x)).run Tryz.prog w = .ok (.bool (!x)) w := fun _ _ => rfl
  go_enter Tryz.func215, Tryz.ntmps215
  go_wp2_with (first | (go_at_call 223; refine (slow_any b off pl _ Post h0 h1 f1 hc).mono ?_; rintro e w' ⟨rfl, w1, hp, rfl⟩) | (go_at_call 222; go_in))
  go_end0
  exact ⟨rfl, w1, hp, rfl⟩
set_option maxRecDepth 100000 in
theorem do_done (a : Addr) (d : Int) (hd : ¬ d = 0) (fv : Value) (w : World) (h0 : w.cell? a = some (.int .u32 d)) :
    Calls Tryz.prog 215 #[.pointer (some a), fv] w fun e w' => e = .returned (.tuple #[]) ∧ w' = w := by
  have hl := run_call_load (P := Tryz.prog) Tryz.func227 (by kernel_rfl) (by kernel_rfl) (by kernel_rfl) .u32 (by kernel_rfl) h0
  have hnot : ∀ (x : Bool) (w : World), (Op.unary .not (.bool x)).run Tryz.prog w = .ok (.bool (!x)) w := fun _ _ => rfl
  have hd' : (d != 0) = true := by simp [hd]
  go_enter Tryz.func215, Tryz.ntmps215
  go_wp2
  go_end0
  exact ⟨rfl, rfl⟩
end Go.Proofs.OnceTryz
namespace Go.Sh
open Go.Proofs Go.RowKit Go.ChangeShapes Go.WideShapes
set_option maxRecDepth 8000
theorem setCell_sub {H : Heap} {w : World} (hS : Sub H w) {b o : Nat} {arr : Array Value} {e : TypeId} (hb : H b = some (.cells arr e)) (v : Value) : Sub (H.set b (.cells (arr.setIfInBounds o v) e)) (w.setCell ⟨b, o, none⟩ v) ∧ Ext H w (H.set b (.cells (arr.setIfInBounds o v) e)) (w.setCell ⟨b, o, none⟩ v) := by
  have hw := hS _ _ hb
  rw [setCell_eq]
  refine ⟨fun k ob hk => ?_, rfl, rfl, rfl, by simp, fun k hk hn => ?_⟩
  · show (w.heap.modify b (Heap.setObj ⟨b, o, none⟩ v))[k]? = _
    rw [Array.getElem?_modify]
    by_cases hkb : b = k
    · subst hkb
      rw [set_self] at hk
      cases hk
      rw [if_pos rfl, hw]
      rfl
    · rw [if_neg hkb]
      rw [set_ne _ _ (fun e => hkb e.symm)] at hk
      exact hS k ob hk
  · have hkb : ¬ b = k := fun e => by subst e; rw [hb] at hn; cases hn
    refine ⟨?_, ?_⟩
    · show (w.heap.modify b (Heap.setObj ⟨b, o, none⟩ v))[k]? = _
      rw [Array.getElem?_modify, if_neg hkb]
    · rw [set_ne _ _ (fun e => hkb e.symm)]
      exact hn
theorem world_cell {w : World} {b o : Nat} {arr : Array Value} {e : TypeId} (h : w.heap[b]? = some (.cells arr e)) : w.cell? ⟨b, o, none⟩ = arr[o]? := by
  unfold World.cell?
  show (match w.heap[b]? with | some (.cells c _ _) => if Option.isSome none then none else c[o]? | _ => none) = _
  rw [h]
  rfl
theorem world_frozen {w : World} {b o : Nat} {arr : Array Value} {e : TypeId} (h : w.heap[b]? = some (.cells arr e)) : w.frozen? ⟨b, o, none⟩ = false := by
  unfold World.frozen?
  rw [h]
  simp
structure zmf.c (a : Option Addr) (fv : Value) (K : Heap → Prop) (E : Value → Heap → Prop) (H : Heap) : Prop where
  h : ∃ b off arr e, a = some ⟨b, off, none⟩ ∧ H b = some (.cells arr e) ∧
    ((∃ d, ¬ d = 0 ∧ arr[off]? = some (.int .u32 d) ∧ K H) ∨
      (arr[off]? = some (.int .u32 0) ∧ arr[off + 1]? = some (.int .i32 0) ∧ ∃ pl, fv = .func (.func 216) #[] #[.pointer (some pl)] ∧
        zsf.F [.pointer (some pl)] (fun v H2 => v = .tuple #[] ∧ ∃ arr2, H2 b = some (.cells arr2 e) ∧ (∃ x, arr2[off]? = some x) ∧ arr2[off + 1]? = some (.int .i32 1) ∧
          K (H2.set b (.cells ((arr2.setIfInBounds off (.int .u32 1)).setIfInBounds (off + 1) (.int .i32 0)) e))) (fun _ _ => False) (H.set b (.cells (arr.setIfInBounds (off + 1) (.int .i32 1)) e))))
def zmf.F : FT := fun args K E H => match args with
  | [.pointer a, fv] => zmf.c a fv (fun H => K (.tuple #[]) H) E H
  | _ => False
theorem enters {P : Program} {f : FuncId} {fn : Func} {c : Code} (hf : P.funcs[f]? = some fn) (hb : fn.body = some c) (hn : (fn.name == "runtime.NumGoroutine") = false) (args : Array Value) (w : World) : (callFunc f args).run P w = .ok (.enter f args) w := by
  have hbody : fn.body.isNone = false := by rw [hb]; rfl
  show (match P.funcs[f]? with | none => stuck "call: no such function" | some fn => _ : Sem Next).run P w = _
  rw [hf]
  simp only [hn, hbody, Bool.false_eq_true, if_false]
  rfl
theorem zmf.ok : zca Tryz.prog 215 zmf.F := by
  intro args K E H w hS hF
  rw [enters (fn := Tryz.f215) (c := Tryz.f215.body.getD .skip) (by kernel_rfl) (by kernel_rfl) (by kernel_rfl) args.toArray w]
  unfold zmf.F at hF
  split at hF
  · rename_i a fv
    obtain ⟨b, off, arr, e, rfl, hb, hG⟩ := hF.h
    have hw := hS _ _ hb
    rcases hG with ⟨d, hd, h0, hK⟩ | ⟨h0, h1, pl, rfl, hG⟩
    · refine (OnceTryz.do_done ⟨b, off, none⟩ d hd fv w (by rw [world_cell hw]; exact h0)).mono ?_
      rintro ex w' ⟨rfl, rfl⟩
      exact ⟨H, hS, Ext.refl _ _, hK⟩
    · obtain ⟨hS1, hE1⟩ := setCell_sub hS (o := off + 1) hb (.int .i32 1)
      have hcl := zsf.ok _ _ _ _ (w.setCell ⟨b, off + 1, none⟩ (.int .i32 1)) hS1 hG
      rw [enters (fn := Tryz.f216) (c := Tryz.f216.body.getD .skip) (by kernel_rfl) (by kernel_rfl) (by kernel_rfl)] at hcl
      refine (OnceTryz.do_first b off pl w (fun w2 => ∃ H2 arr2, Sub H2 w2 ∧ Ext (H.set b (.cells (arr.setIfInBounds (off + 1) (.int .i32 1)) e)) (w.setCell ⟨b, off + 1, none⟩ (.int .i32 1)) H2 w2 ∧ H2 b = some (.cells arr2 e) ∧
          K (.tuple #[]) (H2.set b (.cells ((arr2.setIfInBounds off (.int .u32 1)).setIfInBounds (off + 1) (.int .i32 0)) e))) (by rw [world_cell hw]; exact h0) (by rw [world_cell hw]; exact h1) (world_frozen hw) ?_).mono ?_
      · refine Calls.mono hcl ?_
        intro ex w2 hex
        cases ex with
        | returned v =>
          obtain ⟨H2, hS2, hE2, rfl, arr2, hb2, ⟨x, hx⟩, h12, hK⟩ := hex
          have hw2 := hS2 _ _ hb2
          exact ⟨rfl, ⟨⟨x, by rw [world_cell hw2]; exact hx⟩, world_frozen hw2, by rw [world_cell hw2]; exact h12, world_frozen hw2⟩, H2, arr2, hS2, hE2, hb2, hK⟩
        | panicked chain =>
          obtain ⟨v, H2, _, _, _, hf⟩ := hex
          exact hf.elim
        | outgrown => exact hex.elim
      · rintro ex w' ⟨rfl, w2, ⟨H2, arr2, hS2, hE2, hb2, hK⟩, rfl⟩
        obtain ⟨hS3, hE3⟩ := setCell_sub hS2 (o := off) hb2 (.int .u32 1)
        obtain ⟨hS4, hE4⟩ := setCell_sub hS3 (o := off + 1) (set_self _ _ _) (.int .i32 0)
        have e2 : ((H2.set b (.cells (arr2.setIfInBounds off (.int .u32 1)) e)).set b (.cells ((arr2.setIfInBounds off (.int .u32 1)).setIfInBounds (off + 1) (.int .i32 0)) e)) = H2.set b (.cells ((arr2.setIfInBounds off (.int .u32 1)).setIfInBounds (off + 1) (.int .i32 0)) e) := by
          funext k
          by_cases hk : k = b <;> simp [Heap.set, hk]
        rw [e2] at hS4 hE4
        refine ⟨_, ?_, ?_, hK⟩
        · exact hS4
        · have := ((hE1.trans hE2).trans hE3).trans hE4
          exact ⟨this.os, this.tape, this.output, this.size, this.old⟩
  · exact hF.elim
structure zkd.c (a : Option Addr) (d : Int) (K : Int → Heap → Prop) (E : Value → Heap → Prop) (H : Heap) : Prop where
  h : ∃ b o arr e x, a = some ⟨b, o, none⟩ ∧ H b = some (.cells arr e) ∧ arr[o]? = some (.int .i64 x) ∧ K (IntKind.i64.wrap (x + d)) (H.set b (.cells (arr.setIfInBounds o (.int .i64 (IntKind.i64.wrap (x + d)))) e))
def zkd.F : FT := fun args K E H => match args with
  | [.pointer a, .int .i64 d] => zkd.c a d (fun x H => K (.int .i64 x) H) E H
  | _ => False
theorem zkd.ok : zca Tryz.prog 197 zkd.F := by
  intro args K E H w hS hF
  unfold zkd.F at hF
  split at hF
  · rename_i a d
    obtain ⟨b, o, arr, e, x, rfl, hb, hx, hK⟩ := hF.h
    have hw := hS _ _ hb
    obtain ⟨hS1, hE1⟩ := setCell_sub hS (o := o) hb (.int .i64 (IntKind.i64.wrap (x + d)))
    have hr := run_call_add (P := Tryz.prog) Tryz.func197 (by kernel_rfl) (by kernel_rfl) (by kernel_rfl) .i64 (by kernel_rfl) (y := d) (s := IntKind.i64.wrap (x + d)) (w := w) (a := ⟨b, o, none⟩) (x := x) (by rw [world_cell hw]; exact hx) (world_frozen hw) rfl
    show (match (callFunc 197 #[.pointer (some ⟨b, o, none⟩), .int .i64 d]).run Tryz.prog w with | .ok (.value v) w' => _ | .ok (.enter f' as') w' => _ | _ => False)
    rw [hr]
    exact ⟨_, hS1, hE1, hK⟩
  · exact hF.elim
end Go.Sh
namespace Go.Sh
open Go.Proofs
set_option linter.unusedVariables false
set_option maxRecDepth 8000
namespace ztd
noncomputable def body : Code := Tryz.f64.body.getD .skip
def vc (secret0 : ByteArray) (K : Option Addr → HP) (E : VH) (h0 : Heap) : Prop :=
 newB (.cells #[(.string secret0), (.int .u32 0), (.int .i32 0), (.int .u32 0), (.int .u32 0), (.int .u32 0), (.int .u32 0), (.int .u32 0), (.int .u32 0), (.int .u32 0), (.int .u32 0), (.int .u32 0), (.slice none 0 0), (.int .u64 0), (.int .u32 0), (.int .u32 0), (.int .u32 0), (.int .u32 0), (.int .u32 0), (.int .u32 0), (.int .u32 0), (.int .u32 0), (.slice none 0 0), (.int .u64 0), (.int .u32 0), (.int .u32 0), (.int .u32 0), (.int .u32 0), (.int .u32 0), (.int .u32 0), (.int .u32 0), (.int .u32 0), (.slice none 0 0), (.int .u64 0), (.int .u32 0), (.int .u32 0), (.int .u32 0), (.int .u32 0), (.int .u32 0), (.int .u32 0), (.int .u32 0), (.int .u32 0), (.slice none 0 0), (.int .u64 0), (.int .i64 0), (.int .i64 0)] 216) (fun b0 h1 =>
 K (some (⟨b0, 0, none⟩ : Addr)) h1) h0
structure c (secret0 : ByteArray) (K : Option Addr → HP) (E : VH) (H : Heap) : Prop where
  h : vc secret0 (fun r0_0 H => ∃ H', Heap.Le H' H ∧ K r0_0 H') E H
def F : FT := fun args K E H => match args with
  | [(.string secret0)] => c secret0 (fun r0_0 H => K (.pointer r0_0) H) E H
  | _ => False
noncomputable def Γ : FuncId → Option FT := Γof []
theorem hΓ : ∀ f F, Γ f = some F → zca Tryz.prog f F := Γof_ok (nilQ)
theorem ok : zca Tryz.prog 64 F := by
  refine zia hΓ (fn := Tryz.f64) (c := body) (by kernel_rfl) (by kernel_rfl) (by kernel_rfl) (zba hΓ Tryz.hm (.go) _ (of_eq_true (by kernel_rfl))) fun _ K E H h => ?_
  unfold F at h
  split at h
  · exact cast (by kernel_rfl) h.h
  · exact h.elim
end ztd
namespace zhd
noncomputable def body : Code := Tryz.f194.body.getD .skip
def vc (k0 : Option Addr) (K : HP) (E : VH) (h0 : Heap) : Prop :=
 newB (.cells #[(.pointer k0)] 63) (fun b0 h1 =>
 ldP h1 (⟨b0, 0, none⟩ : Addr) fun x0 =>
 nilc x0 fun a0 =>
 zmf.c (some (a0.add 1)) (.func (.func 216) #[] #[(.pointer (some (⟨b0, 0, none⟩ : Addr)))]) K E h1) h0
structure c (k0 : Option Addr) (K : HP) (E : VH) (H : Heap) : Prop where
  h : vc k0 (fun  H => ∃ H', Heap.Le H' H ∧ K  H') E H
def F : FT := fun args K E H => match args with
  | [(.pointer k0)] => c k0 (fun  H => K (.tuple #[]) H) E H
  | _ => False
noncomputable def Γ : FuncId → Option FT := Γof [(215, zmf.F)]
theorem hΓ : ∀ f F, Γ f = some F → zca Tryz.prog f F := Γof_ok (consQ zmf.ok (nilQ))
theorem ok : zca Tryz.prog 194 F := by
  refine zia hΓ (fn := Tryz.f194) (c := body) (by kernel_rfl) (by kernel_rfl) (by kernel_rfl) (zba hΓ Tryz.hm (.go) _ (of_eq_true (by kernel_rfl))) fun _ K E H h => ?_
  unfold F at h
  split at h
  · exact cast (by kernel_rfl) h.h
  · exact h.elim
end zhd
namespace zzd
noncomputable def body : Code := Tryz.f196.body.getD .skip
def W1.vc (n0 : Int) (count0 : Int) (b0 : Option Addr) (b1 : Nat) (b2 : Nat) (x0 : Int) (x1 : Int) (Kx0 : HP) (RR : Int → HP) (E : VH) (h0 : Heap) : Prop :=
 (if (decide (x1 < x0)) = true then
 (0 : Int) ≤ (IntKind.i64.wrap (8 * (IntKind.i64.wrap ((IntKind.i64.wrap (count0 - 1)) - x1)))) ∧
 nilc b0 fun a0 => (0 : Int) ≤ x1 ∧ x1 < (b1 : Int) ∧
 stc h0 (a0.add (x1.toNat * 1)) (.int .u8 (IntKind.u8.wrap (shrI .u64 n0 (IntKind.i64.wrap (8 * (IntKind.i64.wrap ((IntKind.i64.wrap (count0 - 1)) - x1))))))) fun h1 =>
 RR (IntKind.i64.wrap (x1 + 1)) h1
 else
 Kx0 h0)
structure W1 (n0 : Int) (count0 : Int) (b0 : Option Addr) (b1 : Nat) (b2 : Nat) (x0 : Int) (x1 : Int) (Kx0 : HP) (E : VH) (H : Heap) : Prop where
  h : Loop (fun (RR : Int → HP) (s : Int) (H : Heap) => W1.vc n0 count0 b0 b1 b2 x0 s Kx0 (fun x1 H => RR (x1) H) E H) (x1) H
def vc (n0 : Int) (count0 : Int) (K : ByteArray → HP) (E : VH) (h0 : Heap) : Prop :=
 (0 : Int) ≤ count0 ∧ (count0 : Int) ≤ count0 ∧ (count0 : Int) ≤ 9223372036854775807 ∧ (count0 : Int) * 1 ≤ 281474976710656 ∧ newB (.cells (zub (.int .u8 0) count0.toNat).toArray 5) (fun b0 h1 =>
 W1 n0 count0 (some (⟨b0, 0, none⟩ : Addr)) count0.toNat count0.toNat (count0.toNat : Int) 0 (fun h2 =>
 rdBytes h2 (some (⟨b0, 0, none⟩ : Addr)) count0.toNat fun x0 =>
 K x0 h2) E h1) h0
structure c (n0 : Int) (count0 : Int) (K : ByteArray → HP) (E : VH) (H : Heap) : Prop where
  h : vc n0 count0 (fun r0_0 H => ∃ H', Heap.Le H' H ∧ K r0_0 H') E H
def F : FT := fun args K E H => match args with
  | [(.int .u64 n0), (.int .i64 count0)] => c n0 count0 (fun r0_0 H => K (.string r0_0) H) E H
  | _ => False
noncomputable def Γ : FuncId → Option FT := Γof []
theorem hΓ : ∀ f F, Γ f = some F → zca Tryz.prog f F := Γof_ok (nilQ)
def W1.t : CT := fun Q E fr H => lenIs 28 fr (slI fr 0 .u64 fun n0 => slI fr 1 .i64 fun count0 => slSl fr 5 fun b0 b1 b2 => slI fr 10 .i64 fun x0 => slI fr 11 .i64 fun x1 => W1 n0 count0 b0 b1 b2 x0 x1 (fun  H => Q (.exit 0) (mkF 28 [(5, (.slice b0 b1 b2))]) H) E H)
theorem W1.ok : zaa Tryz.prog (sub [1, 1, 0, 1, 0] body) W1.t := by
  have e : (sub [1, 1, 0, 1, 0] body) = .loop (sub [1, 1, 0, 1, 0, 0] body) := by kernel_rfl
  rw [e]
  refine zda (zqa (zea [0, 1, 5, 10, 11] [] (fun i => if i = 0 then [5] else []) (zba hΓ Tryz.hm (.go) _ (of_eq_true (by kernel_rfl))))) fun Q E fr H h => ?_
  obtain ⟨hl, h⟩ := zga h
  obtain ⟨n0, q0, h⟩ := zfa h
  obtain ⟨count0, q1, h⟩ := zfa h
  obtain ⟨b0, b1, b2, q5, h⟩ := zta h
  obtain ⟨x0, q10, h⟩ := zfa h
  obtain ⟨x1, q11, h⟩ := zfa h
  obtain ⟨m, h⟩ := h.h
  exact ⟨(mkF 28 [(0, (.int .u64 n0)), (1, (.int .i64 count0)), (5, (.slice b0 b1 b2)), (10, (.int .i64 x0)), (11, (.int .i64 x1))]), fun a ha => ha.mk (Nat.le_of_eq hl.symm) (consQ q0 (consQ q1 (consQ q5 (consQ q10 (consQ q11 nilQ))))), m, cast (zib (B := (fun (RR : Int → HP) (s : Int) (H : Heap) => W1.vc n0 count0 b0 b1 b2 x0 s (fun  H => Q (.exit 0) (mkF 28 [(5, (.slice b0 b1 b2))]) H) (fun x1 H => RR (x1) H) E H)) (m := (fun (s : Int) => (mkF 28 [(0, (.int .u64 n0)), (1, (.int .i64 count0)), (5, (.slice b0 b1 b2)), (10, (.int .i64 x0)), (11, (.int .i64 s))]))) (Q := Q) (E := E) (fun RR s H => by kernel_rfl) m (x1) H) h⟩
theorem ok : zca Tryz.prog 196 F := by
  refine zia hΓ (fn := Tryz.f196) (c := body) (by kernel_rfl) (by kernel_rfl) (by kernel_rfl) (zba hΓ Tryz.hm (.seq (.go) (.seq (.go) (.seq (.seq (.go) (.block (.use W1.t))) (.go)))) _ (of_eq (show _ = (True ∧ (True ∧ ((True ∧ (zaa Tryz.prog (sub [1, 1, 0, 1, 0] body) W1.t)) ∧ True))) by kernel_rfl) ⟨trivial, ⟨trivial, ⟨⟨trivial, W1.ok⟩, trivial⟩⟩⟩)) fun _ K E H h => ?_
  unfold F at h
  split at h
  · exact cast (by kernel_rfl) h.h
  · exact h.elim
end zzd
namespace zqd
noncomputable def body : Code := Tryz.f195.body.getD .skip
def vc (m0 : Int) (m1 : Int) (m2 : Int) (m3 : Int) (m4 : Int) (m5 : Int) (m6 : Int) (m7 : Int) (m8 : Option Addr) (m9 : Nat) (m10 : Nat) (m11 : Int) (m12 : Int) (m13 : Int) (m14 : Int) (m15 : Int) (m16 : Int) (m17 : Int) (m18 : Int) (m19 : Int) (m20 : Option Addr) (m21 : Nat) (m22 : Nat) (m23 : Int) (s0 : ByteArray) (K : ByteArray → HP) (E : VH) (h0 : Heap) : Prop :=
 newB (.cells #[(.int .u32 m0), (.int .u32 m1), (.int .u32 m2), (.int .u32 m3), (.int .u32 m4), (.int .u32 m5), (.int .u32 m6), (.int .u32 m7), (.slice m8 m9 m10), (.int .u64 m11), (.int .u32 m12), (.int .u32 m13), (.int .u32 m14), (.int .u32 m15), (.int .u32 m16), (.int .u32 m17), (.int .u32 m18), (.int .u32 m19), (.slice m20 m21 m22), (.int .u64 m23)] 211) (fun b0 h1 =>
 zoa.c (some ((⟨b0, 0, none⟩ : Addr).add 0)) s0 (fun h2 =>
 zla.c (some ((⟨b0, 0, none⟩ : Addr).add 0)) (fun x0 h3 =>
 zoa.c (some ((⟨b0, 0, none⟩ : Addr).add 10)) x0 (fun h4 =>
 zla.c (some ((⟨b0, 0, none⟩ : Addr).add 10)) K E h4) E h3) E h2) E h1) h0
structure c (m0 : Int) (m1 : Int) (m2 : Int) (m3 : Int) (m4 : Int) (m5 : Int) (m6 : Int) (m7 : Int) (m8 : Option Addr) (m9 : Nat) (m10 : Nat) (m11 : Int) (m12 : Int) (m13 : Int) (m14 : Int) (m15 : Int) (m16 : Int) (m17 : Int) (m18 : Int) (m19 : Int) (m20 : Option Addr) (m21 : Nat) (m22 : Nat) (m23 : Int) (s0 : ByteArray) (K : ByteArray → HP) (E : VH) (H : Heap) : Prop where
  h : vc m0 m1 m2 m3 m4 m5 m6 m7 m8 m9 m10 m11 m12 m13 m14 m15 m16 m17 m18 m19 m20 m21 m22 m23 s0 (fun r0_0 H => ∃ H', Heap.Le H' H ∧ K r0_0 H') E H
def F : FT := fun args K E H => match args with
  | [(.agg ⟨[(.int .u32 m0), (.int .u32 m1), (.int .u32 m2), (.int .u32 m3), (.int .u32 m4), (.int .u32 m5), (.int .u32 m6), (.int .u32 m7), (.slice m8 m9 m10), (.int .u64 m11), (.int .u32 m12), (.int .u32 m13), (.int .u32 m14), (.int .u32 m15), (.int .u32 m16), (.int .u32 m17), (.int .u32 m18), (.int .u32 m19), (.slice m20 m21 m22), (.int .u64 m23)]⟩), (.string s0)] => c m0 m1 m2 m3 m4 m5 m6 m7 m8 m9 m10 m11 m12 m13 m14 m15 m16 m17 m18 m19 m20 m21 m22 m23 s0 (fun r0_0 H => K (.string r0_0) H) E H
  | _ => False
noncomputable def Γ : FuncId → Option FT := Γof [(160, zoa.F), (161, zla.F)]
theorem hΓ : ∀ f F, Γ f = some F → zca Tryz.prog f F := Γof_ok (consQ zoa.ok (consQ zla.ok (nilQ)))
theorem ok : zca Tryz.prog 195 F := by
  refine zia hΓ (fn := Tryz.f195) (c := body) (by kernel_rfl) (by kernel_rfl) (by kernel_rfl) (zba hΓ Tryz.hm (.go) _ (of_eq_true (by kernel_rfl))) fun _ K E H h => ?_
  unfold F at h
  split at h
  · exact cast (by kernel_rfl) h.h
  · exact h.elim
end zqd
namespace zod
noncomputable def body : Code := Tryz.f156.body.getD .skip
def vc (k0 : Option Addr) (number0 : Int) (head0 : ByteArray) (hidden0 : ByteArray) (K : ByteArray → HP) (E : VH) (h0 : Heap) : Prop :=
 zhd.c k0 (fun h1 =>
 nilc k0 fun a0 =>
 ldI h1 .u32 ((a0.add 24).add 0) fun x0 => ldI h1 .u32 ((a0.add 24).add 1) fun x1 => ldI h1 .u32 ((a0.add 24).add 2) fun x2 => ldI h1 .u32 ((a0.add 24).add 3) fun x3 => ldI h1 .u32 ((a0.add 24).add 4) fun x4 => ldI h1 .u32 ((a0.add 24).add 5) fun x5 => ldI h1 .u32 ((a0.add 24).add 6) fun x6 => ldI h1 .u32 ((a0.add 24).add 7) fun x7 => ldSl h1 ((a0.add 24).add 8) fun x8 x9 x10 => ldI h1 .u64 ((a0.add 24).add 9) fun x11 => ldI h1 .u32 ((a0.add 24).add 10) fun x12 => ldI h1 .u32 ((a0.add 24).add 11) fun x13 => ldI h1 .u32 ((a0.add 24).add 12) fun x14 => ldI h1 .u32 ((a0.add 24).add 13) fun x15 => ldI h1 .u32 ((a0.add 24).add 14) fun x16 => ldI h1 .u32 ((a0.add 24).add 15) fun x17 => ldI h1 .u32 ((a0.add 24).add 16) fun x18 => ldI h1 .u32 ((a0.add 24).add 17) fun x19 => ldSl h1 ((a0.add 24).add 18) fun x20 x21 x22 => ldI h1 .u64 ((a0.add 24).add 19) fun x23 =>
 zzd.c (IntKind.u64.wrap number0) 8 (fun x24 h2 =>
 (ldI h2 .u32 ((a0.add 24).add 0) fun x25 => ldI h2 .u32 ((a0.add 24).add 1) fun x26 => ldI h2 .u32 ((a0.add 24).add 2) fun x27 => ldI h2 .u32 ((a0.add 24).add 3) fun x28 => ldI h2 .u32 ((a0.add 24).add 4) fun x29 => ldI h2 .u32 ((a0.add 24).add 5) fun x30 => ldI h2 .u32 ((a0.add 24).add 6) fun x31 => ldI h2 .u32 ((a0.add 24).add 7) fun x32 => ldSl h2 ((a0.add 24).add 8) fun x33 x34 x35 => ldI h2 .u64 ((a0.add 24).add 9) fun x36 => ldI h2 .u32 ((a0.add 24).add 10) fun x37 => ldI h2 .u32 ((a0.add 24).add 11) fun x38 => ldI h2 .u32 ((a0.add 24).add 12) fun x39 => ldI h2 .u32 ((a0.add 24).add 13) fun x40 => ldI h2 .u32 ((a0.add 24).add 14) fun x41 => ldI h2 .u32 ((a0.add 24).add 15) fun x42 => ldI h2 .u32 ((a0.add 24).add 16) fun x43 => ldI h2 .u32 ((a0.add 24).add 17) fun x44 => ldSl h2 ((a0.add 24).add 18) fun x45 x46 x47 => ldI h2 .u64 ((a0.add 24).add 19) fun x48 =>
 eqv h2 h2 (some (.agg #[(.int .u32 x0), (.int .u32 x1), (.int .u32 x2), (.int .u32 x3), (.int .u32 x4), (.int .u32 x5), (.int .u32 x6), (.int .u32 x7), (.slice x8 x9 x10), (.int .u64 x11), (.int .u32 x12), (.int .u32 x13), (.int .u32 x14), (.int .u32 x15), (.int .u32 x16), (.int .u32 x17), (.int .u32 x18), (.int .u32 x19), (.slice x20 x21 x22), (.int .u64 x23)])) (.agg #[(.int .u32 x25), (.int .u32 x26), (.int .u32 x27), (.int .u32 x28), (.int .u32 x29), (.int .u32 x30), (.int .u32 x31), (.int .u32 x32), (.slice x33 x34 x35), (.int .u64 x36), (.int .u32 x37), (.int .u32 x38), (.int .u32 x39), (.int .u32 x40), (.int .u32 x41), (.int .u32 x42), (.int .u32 x43), (.int .u32 x44), (.slice x45 x46 x47), (.int .u64 x48)])) ∧
 zec.c head0 (fun x49 h3 =>
 (ldI h3 .u32 ((a0.add 24).add 0) fun x50 => ldI h3 .u32 ((a0.add 24).add 1) fun x51 => ldI h3 .u32 ((a0.add 24).add 2) fun x52 => ldI h3 .u32 ((a0.add 24).add 3) fun x53 => ldI h3 .u32 ((a0.add 24).add 4) fun x54 => ldI h3 .u32 ((a0.add 24).add 5) fun x55 => ldI h3 .u32 ((a0.add 24).add 6) fun x56 => ldI h3 .u32 ((a0.add 24).add 7) fun x57 => ldSl h3 ((a0.add 24).add 8) fun x58 x59 x60 => ldI h3 .u64 ((a0.add 24).add 9) fun x61 => ldI h3 .u32 ((a0.add 24).add 10) fun x62 => ldI h3 .u32 ((a0.add 24).add 11) fun x63 => ldI h3 .u32 ((a0.add 24).add 12) fun x64 => ldI h3 .u32 ((a0.add 24).add 13) fun x65 => ldI h3 .u32 ((a0.add 24).add 14) fun x66 => ldI h3 .u32 ((a0.add 24).add 15) fun x67 => ldI h3 .u32 ((a0.add 24).add 16) fun x68 => ldI h3 .u32 ((a0.add 24).add 17) fun x69 => ldSl h3 ((a0.add 24).add 18) fun x70 x71 x72 => ldI h3 .u64 ((a0.add 24).add 19) fun x73 =>
 eqv h3 h3 (some (.agg #[(.int .u32 x0), (.int .u32 x1), (.int .u32 x2), (.int .u32 x3), (.int .u32 x4), (.int .u32 x5), (.int .u32 x6), (.int .u32 x7), (.slice x8 x9 x10), (.int .u64 x11), (.int .u32 x12), (.int .u32 x13), (.int .u32 x14), (.int .u32 x15), (.int .u32 x16), (.int .u32 x17), (.int .u32 x18), (.int .u32 x19), (.slice x20 x21 x22), (.int .u64 x23)])) (.agg #[(.int .u32 x50), (.int .u32 x51), (.int .u32 x52), (.int .u32 x53), (.int .u32 x54), (.int .u32 x55), (.int .u32 x56), (.int .u32 x57), (.slice x58 x59 x60), (.int .u64 x61), (.int .u32 x62), (.int .u32 x63), (.int .u32 x64), (.int .u32 x65), (.int .u32 x66), (.int .u32 x67), (.int .u32 x68), (.int .u32 x69), (.slice x70 x71 x72), (.int .u64 x73)])) ∧
 x24.size + x49.size ≤ 9223372036854775807 ∧
 (x24 ++ x49).size + hidden0.size ≤ 9223372036854775807 ∧
 zqd.c x0 x1 x2 x3 x4 x5 x6 x7 x8 x9 x10 x11 x12 x13 x14 x15 x16 x17 x18 x19 x20 x21 x22 x23 ((x24 ++ x49) ++ hidden0) (fun x74 h4 =>
 (0 : Int) ≤ 16 ∧ 16 ≤ (x74.size : Int) ∧
 K (x74.extract 0 16) h4) E h3) E h2) E h1) E h0
structure c (k0 : Option Addr) (number0 : Int) (head0 : ByteArray) (hidden0 : ByteArray) (K : ByteArray → HP) (E : VH) (H : Heap) : Prop where
  h : vc k0 number0 head0 hidden0 (fun r0_0 H => ∃ H', Heap.Le H' H ∧ K r0_0 H') E H
def F : FT := fun args K E H => match args with
  | [(.pointer k0), (.int .i64 number0), (.string head0), (.string hidden0)] => c k0 number0 head0 hidden0 (fun r0_0 H => K (.string r0_0) H) E H
  | _ => False
noncomputable def Γ : FuncId → Option FT := Γof [(67, zec.F), (194, zhd.F), (195, zqd.F), (196, zzd.F)]
theorem hΓ : ∀ f F, Γ f = some F → zca Tryz.prog f F := Γof_ok (consQ zec.ok (consQ zhd.ok (consQ zqd.ok (consQ zzd.ok (nilQ)))))
theorem ok : zca Tryz.prog 156 F := by
  refine zia hΓ (fn := Tryz.f156) (c := body) (by kernel_rfl) (by kernel_rfl) (by kernel_rfl) (zba hΓ Tryz.hm (.seq (.go) (.seq (.go) (.seq (.draw ⟨[0, 1, 2, 3, 4, 5, 6, 7, 8, 9, 10, 11, 12, 13], (dl [(0, []), (1, []), (2, []), (3, []), (4, []), (5, []), (7, []), (10, []), (6, [5, 4]), (8, [7, 6, 5, 4]), (9, []), (11, []), (12, [3, 11, 8, 2, 9, 10, 7, 6, 1, 5, 0, 4]), (13, [])] .fin), [14]⟩) (.go)))) _ (of_eq (show _ = (True ∧ (True ∧ (True ∧ True))) by kernel_rfl) ⟨trivial, ⟨trivial, ⟨trivial, trivial⟩⟩⟩)) fun _ K E H h => ?_
  unfold F at h
  split at h
  · exact cast (by kernel_rfl) h.h
  · exact h.elim
end zod
namespace zzb
noncomputable def body : Code := Tryz.f157.body.getD .skip
def vc (x0 : Option Addr) (delta0 : Int) (K : Int → HP) (E : VH) (h0 : Heap) : Prop :=
 nilc x0 fun a0 =>
 zkd.c (some (a0.add 0)) delta0 K E h0
structure c (x0 : Option Addr) (delta0 : Int) (K : Int → HP) (E : VH) (H : Heap) : Prop where
  h : vc x0 delta0 (fun r0_0 H => ∃ H', Heap.Le H' H ∧ K r0_0 H') E H
def F : FT := fun args K E H => match args with
  | [(.pointer x0), (.int .i64 delta0)] => c x0 delta0 (fun r0_0 H => K (.int .i64 r0_0) H) E H
  | _ => False
noncomputable def Γ : FuncId → Option FT := Γof [(197, zkd.F)]
theorem hΓ : ∀ f F, Γ f = some F → zca Tryz.prog f F := Γof_ok (consQ zkd.ok (nilQ))
theorem ok : zca Tryz.prog 157 F := by
  refine zia hΓ (fn := Tryz.f157) (c := body) (by kernel_rfl) (by kernel_rfl) (by kernel_rfl) (zba hΓ Tryz.hm (.go) _ (of_eq_true (by kernel_rfl))) fun _ K E H h => ?_
  unfold F at h
  split at h
  · exact cast (by kernel_rfl) h.h
  · exact h.elim
end zzb
namespace zhc
noncomputable def body : Code := Tryz.f158.body.getD .skip
def W2.vc (k0 : Option Addr) (number0 : Int) (b0 : Option Addr) (b1 : Nat) (b2 : Nat) (i0 : Int) (stream0 : ByteArray) (x0 : Int) (x1 : Int) (Kx2 : HP) (RR : Int → HP) (E : VH) (h0 : Heap) : Prop :=
 (if (decide (x1 < x0)) = true then
 nilc b0 fun a0 => (0 : Int) ≤ (IntKind.i64.wrap (i0 + x1)) ∧ (IntKind.i64.wrap (i0 + x1)) < (b1 : Int) ∧
 ldI h0 .u8 (a0.add ((IntKind.i64.wrap (i0 + x1)).toNat * 1)) fun x2 =>
 (0 : Int) ≤ x1 ∧ x1 < (stream0.size : Int) ∧
 nilc b0 fun a1 => (0 : Int) ≤ (IntKind.i64.wrap (i0 + x1)) ∧ (IntKind.i64.wrap (i0 + x1)) < (b1 : Int) ∧
 stc h0 (a1.add ((IntKind.i64.wrap (i0 + x1)).toNat * 1)) (.int .u8 (bits .xor .u8 x2 (bt stream0 x1))) fun h1 =>
 RR (IntKind.i64.wrap (x1 + 1)) h1
 else
 Kx2 h0)
structure W2 (k0 : Option Addr) (number0 : Int) (b0 : Option Addr) (b1 : Nat) (b2 : Nat) (i0 : Int) (stream0 : ByteArray) (x0 : Int) (x1 : Int) (Kx2 : HP) (E : VH) (H : Heap) : Prop where
  h : Loop (fun (RR : Int → HP) (s : Int) (H : Heap) => W2.vc k0 number0 b0 b1 b2 i0 stream0 x0 s Kx2 (fun x1 H => RR (x1) H) E H) (x1) H
def W1.vc (k0 : Option Addr) (number0 : Int) (b0 : Option Addr) (b1 : Nat) (b2 : Nat) (i0 : Int) (Kx0 : HP) (RR : Int → HP) (E : VH) (h0 : Heap) : Prop :=
 (if (decide (i0 < (b1 : Int))) = true then
 nilc k0 fun a0 =>
 ldI h0 .u32 ((a0.add 4).add 0) fun x0 => ldI h0 .u32 ((a0.add 4).add 1) fun x1 => ldI h0 .u32 ((a0.add 4).add 2) fun x2 => ldI h0 .u32 ((a0.add 4).add 3) fun x3 => ldI h0 .u32 ((a0.add 4).add 4) fun x4 => ldI h0 .u32 ((a0.add 4).add 5) fun x5 => ldI h0 .u32 ((a0.add 4).add 6) fun x6 => ldI h0 .u32 ((a0.add 4).add 7) fun x7 => ldSl h0 ((a0.add 4).add 8) fun x8 x9 x10 => ldI h0 .u64 ((a0.add 4).add 9) fun x11 => ldI h0 .u32 ((a0.add 4).add 10) fun x12 => ldI h0 .u32 ((a0.add 4).add 11) fun x13 => ldI h0 .u32 ((a0.add 4).add 12) fun x14 => ldI h0 .u32 ((a0.add 4).add 13) fun x15 => ldI h0 .u32 ((a0.add 4).add 14) fun x16 => ldI h0 .u32 ((a0.add 4).add 15) fun x17 => ldI h0 .u32 ((a0.add 4).add 16) fun x18 => ldI h0 .u32 ((a0.add 4).add 17) fun x19 => ldSl h0 ((a0.add 4).add 18) fun x20 x21 x22 => ldI h0 .u64 ((a0.add 4).add 19) fun x23 =>
 32 ≠ (0 : Int) ∧
 zzd.c (IntKind.u64.wrap number0) 8 (fun x24 h1 =>
 (eqv h1 h1 (some (.int .u64 (IntKind.u64.wrap (IntKind.i64.wrap (Int.tdiv i0 32))))) (.int .u64 (IntKind.u64.wrap (IntKind.i64.wrap (Int.tdiv i0 32))))) ∧
 (ldI h1 .u32 ((a0.add 4).add 0) fun x25 => ldI h1 .u32 ((a0.add 4).add 1) fun x26 => ldI h1 .u32 ((a0.add 4).add 2) fun x27 => ldI h1 .u32 ((a0.add 4).add 3) fun x28 => ldI h1 .u32 ((a0.add 4).add 4) fun x29 => ldI h1 .u32 ((a0.add 4).add 5) fun x30 => ldI h1 .u32 ((a0.add 4).add 6) fun x31 => ldI h1 .u32 ((a0.add 4).add 7) fun x32 => ldSl h1 ((a0.add 4).add 8) fun x33 x34 x35 => ldI h1 .u64 ((a0.add 4).add 9) fun x36 => ldI h1 .u32 ((a0.add 4).add 10) fun x37 => ldI h1 .u32 ((a0.add 4).add 11) fun x38 => ldI h1 .u32 ((a0.add 4).add 12) fun x39 => ldI h1 .u32 ((a0.add 4).add 13) fun x40 => ldI h1 .u32 ((a0.add 4).add 14) fun x41 => ldI h1 .u32 ((a0.add 4).add 15) fun x42 => ldI h1 .u32 ((a0.add 4).add 16) fun x43 => ldI h1 .u32 ((a0.add 4).add 17) fun x44 => ldSl h1 ((a0.add 4).add 18) fun x45 x46 x47 => ldI h1 .u64 ((a0.add 4).add 19) fun x48 =>
 eqv h1 h1 (some (.agg #[(.int .u32 x0), (.int .u32 x1), (.int .u32 x2), (.int .u32 x3), (.int .u32 x4), (.int .u32 x5), (.int .u32 x6), (.int .u32 x7), (.slice x8 x9 x10), (.int .u64 x11), (.int .u32 x12), (.int .u32 x13), (.int .u32 x14), (.int .u32 x15), (.int .u32 x16), (.int .u32 x17), (.int .u32 x18), (.int .u32 x19), (.slice x20 x21 x22), (.int .u64 x23)])) (.agg #[(.int .u32 x25), (.int .u32 x26), (.int .u32 x27), (.int .u32 x28), (.int .u32 x29), (.int .u32 x30), (.int .u32 x31), (.int .u32 x32), (.slice x33 x34 x35), (.int .u64 x36), (.int .u32 x37), (.int .u32 x38), (.int .u32 x39), (.int .u32 x40), (.int .u32 x41), (.int .u32 x42), (.int .u32 x43), (.int .u32 x44), (.slice x45 x46 x47), (.int .u64 x48)])) ∧
 zzd.c (IntKind.u64.wrap (IntKind.i64.wrap (Int.tdiv i0 32))) 4 (fun x49 h2 =>
 (ldI h2 .u32 ((a0.add 4).add 0) fun x50 => ldI h2 .u32 ((a0.add 4).add 1) fun x51 => ldI h2 .u32 ((a0.add 4).add 2) fun x52 => ldI h2 .u32 ((a0.add 4).add 3) fun x53 => ldI h2 .u32 ((a0.add 4).add 4) fun x54 => ldI h2 .u32 ((a0.add 4).add 5) fun x55 => ldI h2 .u32 ((a0.add 4).add 6) fun x56 => ldI h2 .u32 ((a0.add 4).add 7) fun x57 => ldSl h2 ((a0.add 4).add 8) fun x58 x59 x60 => ldI h2 .u64 ((a0.add 4).add 9) fun x61 => ldI h2 .u32 ((a0.add 4).add 10) fun x62 => ldI h2 .u32 ((a0.add 4).add 11) fun x63 => ldI h2 .u32 ((a0.add 4).add 12) fun x64 => ldI h2 .u32 ((a0.add 4).add 13) fun x65 => ldI h2 .u32 ((a0.add 4).add 14) fun x66 => ldI h2 .u32 ((a0.add 4).add 15) fun x67 => ldI h2 .u32 ((a0.add 4).add 16) fun x68 => ldI h2 .u32 ((a0.add 4).add 17) fun x69 => ldSl h2 ((a0.add 4).add 18) fun x70 x71 x72 => ldI h2 .u64 ((a0.add 4).add 19) fun x73 =>
 eqv h2 h2 (some (.agg #[(.int .u32 x0), (.int .u32 x1), (.int .u32 x2), (.int .u32 x3), (.int .u32 x4), (.int .u32 x5), (.int .u32 x6), (.int .u32 x7), (.slice x8 x9 x10), (.int .u64 x11), (.int .u32 x12), (.int .u32 x13), (.int .u32 x14), (.int .u32 x15), (.int .u32 x16), (.int .u32 x17), (.int .u32 x18), (.int .u32 x19), (.slice x20 x21 x22), (.int .u64 x23)])) (.agg #[(.int .u32 x50), (.int .u32 x51), (.int .u32 x52), (.int .u32 x53), (.int .u32 x54), (.int .u32 x55), (.int .u32 x56), (.int .u32 x57), (.slice x58 x59 x60), (.int .u64 x61), (.int .u32 x62), (.int .u32 x63), (.int .u32 x64), (.int .u32 x65), (.int .u32 x66), (.int .u32 x67), (.int .u32 x68), (.int .u32 x69), (.slice x70 x71 x72), (.int .u64 x73)])) ∧
 x24.size + x49.size ≤ 9223372036854775807 ∧
 zqd.c x0 x1 x2 x3 x4 x5 x6 x7 x8 x9 x10 x11 x12 x13 x14 x15 x16 x17 x18 x19 x20 x21 x22 x23 (x24 ++ x49) (fun x74 h3 =>
 W2 k0 number0 b0 b1 b2 i0 x74 (if (IntKind.i64.wrap ((b1 : Int) - i0)) < 32 then (IntKind.i64.wrap ((b1 : Int) - i0)) else 32) 0 (fun h4 =>
 RR (IntKind.i64.wrap (i0 + 32)) h4) E h3) E h2) E h1) E h0
 else
 Kx0 h0)
structure W1 (k0 : Option Addr) (number0 : Int) (b0 : Option Addr) (b1 : Nat) (b2 : Nat) (i0 : Int) (Kx0 : HP) (E : VH) (H : Heap) : Prop where
  h : Loop (fun (RR : Int → HP) (s : Int) (H : Heap) => W1.vc k0 number0 b0 b1 b2 s Kx0 (fun i0 H => RR (i0) H) E H) (i0) H
def vc (k0 : Option Addr) (number0 : Int) (data0 : ByteArray) (K : ByteArray → HP) (E : VH) (h0 : Heap) : Prop :=
 zhd.c k0 (fun h1 =>
 ∀ j0, newB (.cells ((zxb data0).toArray ++ Array.replicate j0 (.int .u8 0)) 5 (data0.size + j0, data0.size + j0 + 1)) (fun b0 h2 =>
 W1 k0 number0 (some (⟨b0, 0, none⟩ : Addr)) data0.size (data0.size + j0) 0 (fun h3 =>
 rdBytes h3 (some (⟨b0, 0, none⟩ : Addr)) data0.size fun x0 =>
 K x0 h3) E h2) h1) E h0
structure c (k0 : Option Addr) (number0 : Int) (data0 : ByteArray) (K : ByteArray → HP) (E : VH) (H : Heap) : Prop where
  h : vc k0 number0 data0 (fun r0_0 H => ∃ H', Heap.Le H' H ∧ K r0_0 H') E H
def F : FT := fun args K E H => match args with
  | [(.pointer k0), (.int .i64 number0), (.string data0)] => c k0 number0 data0 (fun r0_0 H => K (.string r0_0) H) E H
  | _ => False
noncomputable def Γ : FuncId → Option FT := Γof [(194, zhd.F), (195, zqd.F), (196, zzd.F)]
theorem hΓ : ∀ f F, Γ f = some F → zca Tryz.prog f F := Γof_ok (consQ zhd.ok (consQ zqd.ok (consQ zzd.ok (nilQ))))
def W2.t : CT := fun Q E fr H => lenIs 56 fr (slP fr 0 fun k0 => slI fr 1 .i64 fun number0 => slSl fr 7 fun b0 b1 b2 => slI fr 8 .i64 fun i0 => slS fr 9 fun stream0 => slI fr 38 .i64 fun x0 => slI fr 39 .i64 fun x1 => W2 k0 number0 b0 b1 b2 i0 stream0 x0 x1 (fun  H => Q (.exit 2) (mkF 56 [(0, (.pointer k0)), (1, (.int .i64 number0)), (7, (.slice b0 b1 b2)), (8, (.int .i64 i0))]) H) E H)
theorem W2.ok : zaa Tryz.prog (sub [1, 1, 1, 0, 1, 0, 0, 1, 0, 0, 1, 1, 0] body) W2.t := by
  have e : (sub [1, 1, 1, 0, 1, 0, 0, 1, 0, 0, 1, 1, 0] body) = .loop (sub [1, 1, 1, 0, 1, 0, 0, 1, 0, 0, 1, 1, 0, 0] body) := by kernel_rfl
  rw [e]
  refine zda (zqa (zea [0, 1, 7, 8, 9, 38, 39] [] (fun i => if i = 2 then [0, 1, 7, 8] else []) (zba hΓ Tryz.hm (.seq (.go) (.seq (.go) (.seq (.block (.seq (.go) (.draw ⟨[0, 1, 2, 3, 4, 5, 6, 7, 8, 9, 10, 11], (dl [(0, []), (1, []), (2, []), (3, []), (4, []), (5, []), (6, []), (7, []), (8, []), (9, []), (10, []), (11, [10, 9, 0, 1, 2, 3, 4, 5, 6, 7, 8])] .fin), []⟩))) (.go)))) _ (of_eq (show _ = (True ∧ (True ∧ ((True ∧ True) ∧ True))) by kernel_rfl) ⟨trivial, ⟨trivial, ⟨⟨trivial, trivial⟩, trivial⟩⟩⟩)))) fun Q E fr H h => ?_
  obtain ⟨hl, h⟩ := zga h
  obtain ⟨k0, q0, h⟩ := zja h
  obtain ⟨number0, q1, h⟩ := zfa h
  obtain ⟨b0, b1, b2, q7, h⟩ := zta h
  obtain ⟨i0, q8, h⟩ := zfa h
  obtain ⟨stream0, q9, h⟩ := zfb h
  obtain ⟨x0, q38, h⟩ := zfa h
  obtain ⟨x1, q39, h⟩ := zfa h
  obtain ⟨m, h⟩ := h.h
  exact ⟨(mkF 56 [(0, (.pointer k0)), (1, (.int .i64 number0)), (7, (.slice b0 b1 b2)), (8, (.int .i64 i0)), (9, (.string stream0)), (38, (.int .i64 x0)), (39, (.int .i64 x1))]), fun a ha => ha.mk (Nat.le_of_eq hl.symm) (consQ q0 (consQ q1 (consQ q7 (consQ q8 (consQ q9 (consQ q38 (consQ q39 nilQ))))))), m, cast (zib (B := (fun (RR : Int → HP) (s : Int) (H : Heap) => W2.vc k0 number0 b0 b1 b2 i0 stream0 x0 s (fun  H => Q (.exit 2) (mkF 56 [(0, (.pointer k0)), (1, (.int .i64 number0)), (7, (.slice b0 b1 b2)), (8, (.int .i64 i0))]) H) (fun x1 H => RR (x1) H) E H)) (m := (fun (s : Int) => (mkF 56 [(0, (.pointer k0)), (1, (.int .i64 number0)), (7, (.slice b0 b1 b2)), (8, (.int .i64 i0)), (9, (.string stream0)), (38, (.int .i64 x0)), (39, (.int .i64 s))]))) (Q := Q) (E := E) (fun RR s H => by kernel_rfl) m (x1) H) h⟩
def W1.t : CT := fun Q E fr H => lenIs 56 fr (slP fr 0 fun k0 => slI fr 1 .i64 fun number0 => slSl fr 7 fun b0 b1 b2 => slI fr 8 .i64 fun i0 => W1 k0 number0 b0 b1 b2 i0 (fun  H => Q (.exit 0) (mkF 56 [(7, (.slice b0 b1 b2))]) H) E H)
theorem W1.ok : zaa Tryz.prog (sub [1, 1, 1, 0, 1, 0] body) W1.t := by
  have e : (sub [1, 1, 1, 0, 1, 0] body) = .loop (sub [1, 1, 1, 0, 1, 0, 0] body) := by kernel_rfl
  rw [e]
  refine zda (zqa (zea [0, 1, 7, 8] [] (fun i => if i = 0 then [7] else []) (zba hΓ Tryz.hm (.seq (.go) (.seq (.block (.seq (.draw ⟨[0, 1, 2, 3, 4, 5, 6, 7, 8, 9, 10, 11, 12], (dl [(0, []), (1, []), (2, []), (3, []), (4, []), (5, []), (7, []), (8, []), (9, []), (6, [5, 4]), (10, [9, 6, 8, 5, 7, 4]), (11, []), (12, [3, 11, 10, 2, 6, 9, 1, 5, 8, 0, 4, 7])] .fin), [13]⟩) (.seq (.go) (.block (.use W2.t))))) (.go))) _ (of_eq (show _ = (True ∧ ((True ∧ (True ∧ (zaa Tryz.prog (sub [1, 1, 1, 0, 1, 0, 0, 1, 0, 0, 1, 1, 0] body) W2.t))) ∧ True)) by kernel_rfl) ⟨trivial, ⟨⟨trivial, ⟨trivial, W2.ok⟩⟩, trivial⟩⟩)))) fun Q E fr H h => ?_
  obtain ⟨hl, h⟩ := zga h
  obtain ⟨k0, q0, h⟩ := zja h
  obtain ⟨number0, q1, h⟩ := zfa h
  obtain ⟨b0, b1, b2, q7, h⟩ := zta h
  obtain ⟨i0, q8, h⟩ := zfa h
  obtain ⟨m, h⟩ := h.h
  exact ⟨(mkF 56 [(0, (.pointer k0)), (1, (.int .i64 number0)), (7, (.slice b0 b1 b2)), (8, (.int .i64 i0))]), fun a ha => ha.mk (Nat.le_of_eq hl.symm) (consQ q0 (consQ q1 (consQ q7 (consQ q8 nilQ)))), m, cast (zib (B := (fun (RR : Int → HP) (s : Int) (H : Heap) => W1.vc k0 number0 b0 b1 b2 s (fun  H => Q (.exit 0) (mkF 56 [(7, (.slice b0 b1 b2))]) H) (fun i0 H => RR (i0) H) E H)) (m := (fun (s : Int) => (mkF 56 [(0, (.pointer k0)), (1, (.int .i64 number0)), (7, (.slice b0 b1 b2)), (8, (.int .i64 s))]))) (Q := Q) (E := E) (fun RR s H => by kernel_rfl) m (i0) H) h⟩
theorem ok : zca Tryz.prog 158 F := by
  refine zia hΓ (fn := Tryz.f158) (c := body) (by kernel_rfl) (by kernel_rfl) (by kernel_rfl) (zba hΓ Tryz.hm (.seq (.go) (.seq (.go) (.seq (.go) (.seq (.seq (.go) (.block (.use W1.t))) (.go))))) _ (of_eq (show _ = (True ∧ (True ∧ (True ∧ ((True ∧ (zaa Tryz.prog (sub [1, 1, 1, 0, 1, 0] body) W1.t)) ∧ True)))) by kernel_rfl) ⟨trivial, ⟨trivial, ⟨trivial, ⟨⟨trivial, W1.ok⟩, trivial⟩⟩⟩⟩)) fun _ K E H h => ?_
  unfold F at h
  split at h
  · exact cast (by kernel_rfl) h.h
  · exact h.elim
end zhc
namespace zxe
noncomputable def body : Code := Tryz.f116.body.getD .skip
def vc (k0 : Option Addr) (number0 : Int) (head0 : ByteArray) (sealed0 : ByteArray) (K : ByteArray → Int → HP) (E : VH) (h0 : Heap) : Prop :=
 (if (decide ((IntKind.i64.wrap ((sealed0.size : Int) - 16)) < 0)) = true then
 K (⟨#[]⟩ : ByteArray) 1 h0
 else
 (0 : Int) ≤ (IntKind.i64.wrap ((sealed0.size : Int) - 16)) ∧ (IntKind.i64.wrap ((sealed0.size : Int) - 16)) ≤ (sealed0.size : Int) ∧
 (0 : Int) ≤ (IntKind.i64.wrap ((sealed0.size : Int) - 16)) ∧ (IntKind.i64.wrap ((sealed0.size : Int) - 16)) ≤ (sealed0.size : Int) ∧ sealed0.size ≤ sealed0.size ∧
 zod.c k0 number0 head0 (sealed0.extract 0 (IntKind.i64.wrap ((sealed0.size : Int) - 16)).toNat) (fun x0 h1 =>
 (if (!(x0.toList == (sealed0.extract (IntKind.i64.wrap ((sealed0.size : Int) - 16)).toNat sealed0.size).toList)) = true then
 K (⟨#[]⟩ : ByteArray) 10 h1
 else
 nilc k0 fun a0 =>
 zzb.c (some (a0.add 45)) 1 (fun x1 h2 =>
 zhc.c k0 number0 (sealed0.extract 0 (IntKind.i64.wrap ((sealed0.size : Int) - 16)).toNat) (fun x2 h3 =>
 K x2 0 h3) E h2) E h1)) E h0)
structure c (k0 : Option Addr) (number0 : Int) (head0 : ByteArray) (sealed0 : ByteArray) (K : ByteArray → Int → HP) (E : VH) (H : Heap) : Prop where
  h : vc k0 number0 head0 sealed0 (fun r0_0 r1_0 H => ∃ H', Heap.Le H' H ∧ K r0_0 r1_0 H') E H
def F : FT := fun args K E H => match args with
  | [(.pointer k0), (.int .i64 number0), (.string head0), (.string sealed0)] => c k0 number0 head0 sealed0 (fun r0_0 r1_0 H => K (.tuple #[(.string r0_0), (.int .i64 r1_0)]) H) E H
  | _ => False
noncomputable def Γ : FuncId → Option FT := Γof [(156, zod.F), (157, zzb.F), (158, zhc.F)]
theorem hΓ : ∀ f F, Γ f = some F → zca Tryz.prog f F := Γof_ok (consQ zod.ok (consQ zzb.ok (consQ zhc.ok (nilQ))))
theorem ok : zca Tryz.prog 116 F := by
  refine zia hΓ (fn := Tryz.f116) (c := body) (by kernel_rfl) (by kernel_rfl) (by kernel_rfl) (zba hΓ Tryz.hm (.seq (.go) (.seq (.go) (.seq (.go) (.seq (.go) (.seq (.seq (.draw ⟨[0, 1, 2, 3, 4, 5, 6, 7, 8], (dl [(0, []), (1, []), (2, []), (3, []), (5, []), (6, []), (7, []), (4, [0, 1, 2, 3]), (8, [])] .fin), []⟩) (.go)) (.go)))))) _ (of_eq (show _ = (True ∧ (True ∧ (True ∧ (True ∧ ((True ∧ True) ∧ True))))) by kernel_rfl) ⟨trivial, ⟨trivial, ⟨trivial, ⟨trivial, ⟨⟨trivial, trivial⟩, trivial⟩⟩⟩⟩⟩)) fun _ K E H h => ?_
  unfold F at h
  split at h
  · exact cast (by kernel_rfl) h.h
  · exact h.elim
end zxe
namespace zye
noncomputable def body : Code := Tryz.f123.body.getD .skip
def vc (k0 : Option Addr) (number0 : Int) (head0 : ByteArray) (data0 : ByteArray) (K : ByteArray → HP) (E : VH) (h0 : Heap) : Prop :=
 nilc k0 fun a0 =>
 zzb.c (some (a0.add 44)) 1 (fun x0 h1 =>
 zhc.c k0 number0 data0 (fun x1 h2 =>
 zod.c k0 number0 head0 x1 (fun x2 h3 =>
 x1.size + x2.size ≤ 9223372036854775807 ∧
 K (x1 ++ x2) h3) E h2) E h1) E h0
structure c (k0 : Option Addr) (number0 : Int) (head0 : ByteArray) (data0 : ByteArray) (K : ByteArray → HP) (E : VH) (H : Heap) : Prop where
  h : vc k0 number0 head0 data0 (fun r0_0 H => ∃ H', Heap.Le H' H ∧ K r0_0 H') E H
def F : FT := fun args K E H => match args with
  | [(.pointer k0), (.int .i64 number0), (.string head0), (.string data0)] => c k0 number0 head0 data0 (fun r0_0 H => K (.string r0_0) H) E H
  | _ => False
noncomputable def Γ : FuncId → Option FT := Γof [(156, zod.F), (157, zzb.F), (158, zhc.F)]
theorem hΓ : ∀ f F, Γ f = some F → zca Tryz.prog f F := Γof_ok (consQ zod.ok (consQ zzb.ok (consQ zhc.ok (nilQ))))
theorem ok : zca Tryz.prog 123 F := by
  refine zia hΓ (fn := Tryz.f123) (c := body) (by kernel_rfl) (by kernel_rfl) (by kernel_rfl) (zba hΓ Tryz.hm (.go) _ (of_eq_true (by kernel_rfl))) fun _ K E H h => ?_
  unfold F at h
  split at h
  · exact cast (by kernel_rfl) h.h
  · exact h.elim
end zye
end Go.Sh
