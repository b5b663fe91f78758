/- A packet that comes once more changes nothing (part 3 of the walk and its laws) -/
import Derived.Test.YtkfkkkalcchpkaaGreatDoorTw2b
import Derived.Laws.Entries
namespace Go.Sh
abbrev FT := List Value → (Value → Heap → Prop) → (Value → Heap → Prop) → Heap → Prop
def wNil (v : Value) (K : Value → Prop) : Prop :=
  match v with
  | .pointer p => nilc p fun a => K (.pointer (some a))
  | .func (.func f) first captured => K (.func (.func f) first captured)
  | .iface t x => K (.iface t x)
  | _ => False
def wInt (op : BinOp) (k : IntKind) (x y : Int) (K : Value → Prop) : Prop :=
  match op with
  | .add => K (.int k (k.wrap (x + y)))
  | .sub => K (.int k (k.wrap (x - y)))
  | .mul => K (.int k (k.wrap (x * y)))
  | .quo => y ≠ 0 ∧ K (.int k (k.wrap (x.tdiv y)))
  | .rem => y ≠ 0 ∧ K (.int k (x.tmod y))
  | .and => K (.int k (bits .and k x y))
  | .or => K (.int k (bits .or k x y))
  | .xor => K (.int k (bits .xor k x y))
  | .andNot => K (.int k (bits .andNot k x y))
  | .eql => K (.bool (x == y))
  | .neq => K (.bool (x != y))
  | .lss => K (.bool (x < y))
  | .leq => K (.bool (x ≤ y))
  | .gtr => K (.bool (x > y))
  | .geq => K (.bool (x ≥ y))
  | _ => False
def shlI (k : IntKind) (x y : Int) : Int := k.wrap (x * 2 ^ (min y.toNat k.bits))
def shrI (k : IntKind) (x y : Int) : Int := x.fdiv (2 ^ (min y.toNat k.bits))
def wStr (op : BinOp) (x y : ByteArray) (K : Value → Prop) : Prop :=
  match op with
  | .add => x.size + y.size ≤ 9223372036854775807 ∧ K (.string (x ++ y))
  | .eql => K (.bool (x.toList == y.toList))
  | .neq => K (.bool !(x.toList == y.toList))
  | .lss => K (.bool (Op.bytesLess x.toList y.toList))
  | .leq => K (.bool (Op.bytesLess x.toList y.toList || x.toList == y.toList))
  | .gtr => K (.bool !(Op.bytesLess x.toList y.toList || x.toList == y.toList))
  | .geq => K (.bool !(Op.bytesLess x.toList y.toList))
  | _ => False
def eqLeaf : Leaf → Value → Value → Option Bool
  | .int k, .int k1 a, .int k2 b => if k1 = k then (if k2 = k then some (a == b) else none) else none
  | .bool, .bool a, .bool b => some (a == b)
  | .string, .string a, .string b => some (a == b)
  | _, _, _ => none
def eqCells : List Leaf → List Value → List Value → Option Bool
  | [], [], [] => some true
  | l :: ls, x :: xs, y :: ys => match eqLeaf l x y, eqCells ls xs ys with
    | some a, some b => some (a && b)
    | _, _ => none
  | _, _, _ => none
def flat (P : Program) : List Field → Nat → Option (List Leaf)
  | [], _ => some []
  | f :: fs, i => if f.name = "_" then none else if f.offset ≠ i then none else
    match (P.underlying f.type).bind leaf1, flat P fs (i + 1) with
    | some l, some ls => some (l :: ls)
    | _, _ => none
def wEqAgg (P : Program) (neg : Bool) (t : TypeId) (xs ys : Array Value) (K : Value → Prop) : Prop :=
  match P.underlying t with
  | some (.struct fs) => if P.stoodInHeld t then False else if P.eqGuardType P.depth t then False else
    match flat P fs.toList 0 with
    | some ls => match eqCells ls xs.toList ys.toList with
      | some b => K (.bool (if neg then !b else b))
      | none => False
    | none => False
  | _ => False
def wEqO (P : Program) (neg : Bool) (t : TypeId) (a b : Value) (K : Value → Prop) : Prop :=
  match a with
  | .bool x => match b with
    | .bool y => match P.underlying t with
      | some .bool => K (.bool (if neg then !(x == y) else (x == y)))
      | _ => False
    | _ => False
  | .pointer p => match b with
    | .pointer none => match P.underlying t with
      | some (.pointer _) => K (.bool (if neg then !p.isNone else p.isNone))
      | _ => False
    | _ => False
  | .slice p _ _ => match b with
    | .slice none _ _ => match P.underlying t with
      | some (.slice _) => K (.bool (if neg then !p.isNone else p.isNone))
      | _ => False
    | _ => False
  | .map p => match b with
    | .map none => match P.underlying t with
      | some (.map _ _) => K (.bool (if neg then !p.isNone else p.isNone))
      | _ => False
    | _ => False
  | .agg xs => match b with
    | .agg ys => wEqAgg P neg t xs ys K
    | _ => False
  | .nilIface => match b with
    | .nilIface => match P.underlying t with
      | some (.interface _) => K (.bool (!neg))
      | _ => False
    | .iface _ _ => match P.underlying t with
      | some (.interface _) => K (.bool neg)
      | _ => False
    | _ => False
  | .iface _ _ => match b with
    | .nilIface => match P.underlying t with
      | some (.interface _) => K (.bool neg)
      | _ => False
    | _ => False
  | _ => False
def wEqs (P : Program) (op : BinOp) (t : TypeId) (y0 : Bool) (a b : Value) (K : Value → Prop) : Prop :=
  match op with
  | .eql => if y0 then wEqO P false t a b K else False
  | .neq => if y0 then wEqO P true t a b K else False
  | _ => False
def wShift (op : BinOp) (a b : Value) (K : Value → Prop) : Prop :=
  match a, b with
  | .int k x, .int _ y => match op with
    | .shl => 0 ≤ y ∧ K (.int k (shlI k x y))
    | .shr => 0 ≤ y ∧ K (.int k (shrI k x y))
    | _ => False
  | _, _ => False
def wBin2 (P : Program) (op : BinOp) (t : TypeId) (y0 : Bool) (a b : Value) (K : Value → Prop) : Prop :=
  match a with
  | .int k x => match b with
    | .int k' y => if k = k' then wInt op k x y K else False
    | _ => False
  | .string x => match b with
    | .string y => wStr op x y K
    | _ => False
  | a => wEqs P op t y0 a b K
def isShift : BinOp → Bool
  | .shl | .shr => true
  | _ => false
def wBin (P : Program) (op : BinOp) (t : TypeId) (y0 : Bool) (a b : Value) (K : Value → Prop) : Prop :=
  if isShift op then wShift op a b K else wBin2 P op t y0 a b K
def isConstO : Operand → Bool
  | .const _ => true
  | _ => false
def eqSafe (x y : Operand) (a b : Value) : Bool :=
  match a, b with
  | .nilIface, .nilIface => isConstO x || isConstO y
  | _, _ => true
def zxb (s : ByteArray) : List Value := s.data.toList.map fun b => .int .u8 b.toNat
def rdBytes (H : Heap) (a : Option Addr) (n : Nat) (K : ByteArray → Prop) : Prop :=
  ∃ s : ByteArray, s.size = n ∧ (n = 0 → a = none ∨ a ≠ none) ∧ (∀ ad, a = some ad → ∀ i, i < n → H.cell? (ad.add i) = some (.int .u8 (s.data.toList.getD i 0).toNat)) ∧ (a = none → n = 0) ∧ K s
def wConv (P : Program) (s d : TypeId) (v : Value) (K : Value → Heap → Prop) (H : Heap) : Prop :=
  match P.underlying s with
  | none => False
  | some us => match P.underlying d with
    | some (.int k) => match v with
      | .int _ n => K (.int k (k.wrap n)) H
      | _ => False
    | some .string => match v with
      | .string x => K (.string x) H
      | .slice a n _ => match us with
        | .slice e => match P.underlying e with
          | some (.int .u8) => rdBytes H a n fun x => K (.string x) H
          | _ => False
        | _ => False
      | _ => False
    | some (.slice e) => match v with
      | .string x => match P.underlying e with
        | some (.int .u8) => ∀ j, newB (.cells ((zxb x).toArray ++ Array.replicate j (.int .u8 0)) e (x.size + j, x.size + j + 1)) (fun b H' => K (.slice (some ⟨b, 0, none⟩) x.size (x.size + j)) H') H
        | _ => False
      | _ => False
    | _ => False
def wField (P : Program) (s : TypeId) (f : Nat) (v : Value) (K : Value → Prop) : Prop :=
  match v with
  | .pointer (some a) => match P.underlying s with
    | some (.struct fs) => match fs[f]? with
      | some x => if P.cellsOf x.type = 0 then False else if (P.info? x.type).isSome then K (.pointer (some (a.add x.offset))) else False
      | none => False
    | _ => False
  | _ => False
def wIxA (P : Program) (t : TypeId) (v ix : Value) (K : Value → Prop) : Prop :=
  match ix with
  | .int _ i => match P.underlying t with
    | some (.slice e) => match v with
      | .slice p n _ => if (P.info? e).isSome then nilc p fun a => 0 ≤ i ∧ i < n ∧ K (.pointer (some (a.add (i.toNat * P.cellsOf e)))) else False
      | _ => False
    | some (.array n e) => match v with
      | .pointer (some a) => if (P.info? e).isSome then 0 ≤ i ∧ i < n ∧ K (.pointer (some (a.add (i.toNat * P.cellsOf e)))) else False
      | _ => False
    | _ => False
  | _ => False
def bt (s : ByteArray) (i : Int) : Int := ((s.data.toList.getD i.toNat 0).toNat : Int)
def leafOf (l : Leaf) (v : Value) (K : Value → Prop) : Prop :=
  match l with
  | .int k => ∃ n, v = .int k n ∧ K (.int k n)
  | .bool => ∃ n, v = .bool n ∧ K (.bool n)
  | .string => ∃ n, v = .string n ∧ K (.string n)
  | _ => False
def leafsAt : List Leaf → Array Value → Nat → (List Value → Prop) → Prop
  | [], _, _, K => K []
  | l :: ls, cs, j, K => ∃ x, cs[j]? = some x ∧ leafOf l x fun v => leafsAt ls cs (j + 1) fun vs => K (v :: vs)
def wIx (P : Program) (t : TypeId) (v ix : Value) (K : Value → Prop) : Prop :=
  match ix with
  | .int _ i => match P.underlying t with
    | some .string => match v with
      | .string s => 0 ≤ i ∧ i < s.size ∧ K (.int .u8 (bt s i))
      | _ => False
    | some (.array n e) => match v with
      | .agg cs => match (P.underlying e).bind leaf1 with
        | some l => if P.cellsOf e = 1 then 0 ≤ i ∧ i < n ∧ ∃ x, cs[i.toNat]? = some x ∧ leafOf l x K else False
        | none => match leaves P 8 e with
          | some ls => if ls.length = P.cellsOf e then 0 ≤ i ∧ i < n ∧ leafsAt ls cs (i.toNat * P.cellsOf e) (fun vs => K (.agg vs.toArray)) else False
          | none => False
      | _ => False
    | _ => False
  | _ => False
def bounds (len cap : Nat) (lo hi : Option Value) (K : Nat → Nat → Prop) : Prop :=
  match lo with
  | none => match hi with
    | none => len ≤ cap ∧ K 0 len
    | some (.int _ h) => 0 ≤ h ∧ h ≤ cap ∧ K 0 h.toNat
    | _ => False
  | some (.int _ l) => match hi with
    | none => 0 ≤ l ∧ l ≤ len ∧ len ≤ cap ∧ K l.toNat len
    | some (.int _ h) => 0 ≤ l ∧ l ≤ h ∧ h ≤ cap ∧ K l.toNat h.toNat
    | _ => False
  | _ => False
def slA (a : Option Addr) (c l size : Nat) : Option Addr := if c = l then a else a.map (·.add (l * size))
def wSl (P : Program) (t : TypeId) (v : Value) (lo hi : Option Value) (K : Value → Prop) : Prop :=
  match P.underlying t with
  | some .string => match v with
    | .string s => bounds s.size s.size lo hi fun l h => K (.string (s.extract l h))
    | _ => False
  | some (.slice e) => match v with
    | .slice a n c => if (P.info? e).isSome then bounds n c lo hi fun l h => K (.slice (slA a c l (P.cellsOf e)) (h - l) (c - l)) else False
    | _ => False
  | some (.array n e) => match v with
    | .pointer (some a) => if (P.info? e).isSome then bounds n n lo hi fun l h => K (.slice (slA (some a) n l (P.cellsOf e)) (h - l) (n - l)) else False
    | _ => False
  | _ => False
def keyIs (v : Value) (e : MapEntry) : Bool :=
  match v, e.key with
  | .int k a, .int k' b => k == k' && a == b
  | .string a, .string b => a == b
  | .bool a, .bool b => a == b
  | _, _ => false
def keyOk (d : TypeDesc) (v : Value) : Bool :=
  match d, v with
  | .int k, .int k' _ => k == k'
  | .string, .string _ => true
  | .bool, .bool _ => true
  | _, _ => false
def mfind (v : Value) (es : Array MapEntry) : Option Value := (es.toList.find? (keyIs v)).map (·.val)
def mput (v x : Value) (es : Array MapEntry) (clk : Nat) : Obj :=
  match es.toList.findIdx? (keyIs v) with
  | some i => .map (es.modify i fun e => { e with key := v, val := x }) clk
  | none => .map (es.push { key := v, val := x, born := clk }) (clk + 1)
def mdel (v : Value) (es : Array MapEntry) (clk : Nat) : Obj :=
  match es.toList.findIdx? (keyIs v) with
  | some i => .map (es.eraseIdxIfInBounds i) clk
  | none => .map es clk
def mapAt (d : TypeDesc) (r : Nat) (K : Array MapEntry → Nat → Prop) (H : Heap) : Prop :=
  ∃ es clk, H r = some (.map es clk) ∧ (∀ e ∈ es, keyOk d e.key = true) ∧ K es clk
def kinded (l : Leaf) (v : Value) (K : Value → Prop) : Prop :=
  match l with
  | .int k => ∃ n, v = .int k n ∧ K (.int k n)
  | .bool => ∃ n, v = .bool n ∧ K (.bool n)
  | .string => ∃ n, v = .string n ∧ K (.string n)
  | .pointer => ∃ n, v = .pointer n ∧ K (.pointer n)
  | .slice => ∃ a n c, v = .slice a n c ∧ K (.slice a n c)
  | .map => ∃ n, v = .map n ∧ K (.map n)
  | .any => K v
theorem kinded_elim {l : Leaf} {v : Value} {K : Value → Prop} (h : kinded l v K) : K v := by
  cases l <;> simp only [kinded] at h
  case any => exact h
  case slice => obtain ⟨a, n, c, rfl, h⟩ := h; exact h
  all_goals (obtain ⟨n, rfl, h⟩ := h; exact h)
def elemLeaf (P : Program) (e : TypeId) : Leaf :=
  match (P.underlying e).bind leaf1 with
  | some l => l
  | none => .any
def lkp (x : Option Value) (l : Leaf) (K1 : Value → Prop) (K0 : Prop) : Prop :=
  match x with
  | some v => kinded l v K1
  | none => K0
def wLook (P : Program) (t : TypeId) (m ix : Value) (ok : Bool) (K : Value → Prop) (H : Heap) : Prop :=
  match P.underlying t with
  | some (.map k e) => match P.underlying k with
    | some d => if keyOk d ix then (match P.info? e with
      | some i => match i.zero with
        | some z => match m with
          | .map none => K (if ok then .tuple #[z, .bool false] else z)
          | .map (some r) => mapAt d r (fun es _ => lkp (mfind ix es) (elemLeaf P e) (fun v => K (if ok then .tuple #[v, .bool true] else v)) (K (if ok then .tuple #[z, .bool false] else z))) H
          | _ => False
        | none => False
      | none => False) else False
    | none => False
  | _ => False
def wPut (P : Program) (t : TypeId) (m ix x : Value) (K : Heap → Prop) (H : Heap) : Prop :=
  match P.underlying t with
  | some (.map k _) => match P.underlying k with
    | some d => if keyOk d ix then (match m with
      | .map none => False
      | .map (some r) => mapAt d r (fun es clk => K (H.set r (mput ix x es clk))) H
      | _ => False) else False
    | none => False
  | _ => False
def wDel (P : Program) (t : TypeId) (m ix : Value) (K : Heap → Prop) (H : Heap) : Prop :=
  match P.underlying t with
  | some (.map k _) => match P.underlying k with
    | some d => if keyOk d ix then (match m with
      | .map none => False
      | .map (some r) => mapAt d r (fun es clk => K (H.set r (mdel ix es clk))) H
      | _ => False) else False
    | none => False
  | _ => False
section
variable {P : Program} {E : Value → Heap → Prop} {H : Heap} {K : Value → Heap → Prop}
theorem wInt_ok {op : BinOp} {t : TypeId} {k : IntKind} {x y : Int} (h : wInt op k x y fun v => K v H) : wpS P (binOp op t (.int k x) (.int k y)) K E H := by
  cases op <;> simp only [wInt] at h <;> first
    | exact h.elim
    | exact h
    | (simp only [binOp]; rw [if_neg (fun hn => hn rfl)]; exact h)
    | (simp only [binOp]; rw [if_neg (fun hn => hn rfl)]; simp only [Op.intDiv]; rw [if_neg h.1]; exact h.2)
theorem wStr_ok {op : BinOp} {t : TypeId} {x y : ByteArray} (h : wStr op x y fun v => K v H) : wpS P (binOp op t (.string x) (.string y)) K E H := by
  cases op <;> simp only [wStr] at h <;> first
    | exact h.elim
    | exact h
    | (simp only [binOp, Op.stringOp]
       rw [if_neg (by have := h.1; simp only [IntKind.max, IntKind.signed, IntKind.bits, if_true]; omega)]
       exact h.2)
theorem part1 {t : TypeId} {l : Leaf} {cs : Array Value} {off : Nat} {v : Value} {α : Type} {f : Value → Sem α} {K : α → Heap → Prop} (hl : (P.underlying t).bind leaf1 = some l)
    (hv : cs[off]? = some v) (k : wpS P (f v) K E H) : wpS P (part t cs off >>= f) K E H := by
  obtain ⟨d, hd, hl'⟩ := Option.bind_eq_some_iff.1 hl
  unfold part
  refine wpS_b (isAgg_ok hd ?_)
  have : isAggD d = false := by cases d <;> first | rfl | cases hl'
  rw [this]
  simp only [Bool.false_eq_true, if_false, hv]
  exact k
theorem eqLeaf_ok {t : TypeId} {l : Leaf} {x y : Value} {b : Bool} {n : Nat} {α : Type} {f : Bool → Sem α} {K : α → Heap → Prop} (hl : (P.underlying t).bind leaf1 = some l)
    (he : eqLeaf l x y = some b) (k : wpS P (f b) K E H) : wpS P (Op.equalIn (n + 1) t x y >>= f) K E H := by
  obtain ⟨d, hd, hl'⟩ := Option.bind_eq_some_iff.1 hl
  unfold Op.equalIn
  refine wpS_b (zse hd ?_)
  cases l with
  | int q =>
    cases x <;> cases y <;> simp only [eqLeaf] at he <;> try cases he
    rename_i k1 a k2 b'
    by_cases h1 : k1 = q
    · rw [if_pos h1] at he
      by_cases h2 : k2 = q
      · rw [if_pos h2] at he
        obtain rfl := Option.some.inj he
        subst h1; subst h2
        cases d <;> simp only [leaf1] at hl' <;> first
          | (cases hl'; done)
          | (show wpS P (if k2 = k2 then pure (a == b') else stuck _) _ _ _; rw [if_pos rfl]; exact k)
          | exact absurd hl' (by simp)
      · rw [if_neg h2] at he; cases he
    · rw [if_neg h1] at he; cases he
  | bool =>
    cases x <;> cases y <;> simp only [eqLeaf] at he <;> try cases he
    cases d <;> simp only [leaf1] at hl' <;> first | (cases hl'; done) | exact k | exact absurd hl' (by simp)
  | string =>
    cases x <;> cases y <;> simp only [eqLeaf] at he <;> try cases he
    cases d <;> simp only [leaf1] at hl' <;> first | (cases hl'; done) | exact k | exact absurd hl' (by simp)
  | _ => cases x <;> cases y <;> simp only [eqLeaf] at he <;> cases he
end
end Go.Sh
