/- A packet that comes once more changes nothing (part 2 of the walk and its laws) -/
import Derived.Test.YtkfkkkalcchpkaaGreatDoorTw2a
import Derived.Laws.Sem
namespace Go.Sh
abbrev Fr := List (Option Value)
def ev (fr : Fr) : Operand → Option Value
  | .tmp t => fr.getD t none
  | .const v => some v
  | .global g => some (.pointer (some ⟨g, 0, none⟩))
  | .func f => some (.func (.func f) #[] #[])
def put (fr : Fr) (dst : Option Tmp) (v : Value) : Fr :=
  match dst with
  | some d => fr.set d (some v)
  | none => fr
structure Fx where
  ds : List Deferred
  pin : Tmp → Option Value
def Fx.of (ds : List Deferred) : Fx := ⟨ds, fun _ => none⟩
def Keeps (X : Fx) (a : Act) : Prop := a.defers = X.ds ∧ ∀ t v, X.pin t = some v → a.tmps[t]? = some v
def NoDst (X : Fx) (o : Oper) : Prop := ∀ t, o.dst = some t → X.pin t = none
theorem Keeps.put {X : Fx} {a : Act} (h : Keeps X a) {dst : Option Tmp} (v : Value) (hp : ∀ t, dst = some t → X.pin t = none) : Keeps X (a.put dst v) := by
  cases dst with
  | none => exact h
  | some d =>
    refine ⟨h.1, fun t u hu => ?_⟩
    show (a.tmps.setIfInBounds d v)[t]? = _
    rw [Array.getElem?_setIfInBounds, if_neg (fun e => by subst e; rw [hp d rfl] at hu; cases hu)]
    exact h.2 t u hu
def R (Ds : Fx) (fr : Fr) (a : Act) : Prop := Keeps Ds a ∧ fr.length ≤ a.tmps.size ∧ ∀ t v, fr.getD t none = some v → a.tmps[t]? = some v
theorem R.eval {Ds : Fx} {fr : Fr} {a : Act} (h : R Ds fr a) {x : Operand} {v : Value} (e : ev fr x = some v) : a.eval x = v := by
  cases x with
  | tmp t =>
    have := h.2.2 t v e
    simp [Act.eval, this]
  | const u => exact Option.some.inj e
  | global g => exact Option.some.inj e
  | func f => exact Option.some.inj e
theorem getD_set_self (fr : Fr) (d : Nat) (v : Option Value) : (fr.set d v).getD d none = if d < fr.length then v else none := by
  rw [List.getD_eq_getElem?_getD, List.getElem?_set]
  by_cases h : d < fr.length <;> simp [h]
theorem getD_set_ne' (fr : Fr) {d t : Nat} (v : Option Value) (h : d ≠ t) : (fr.set d v).getD t none = fr.getD t none := by
  rw [List.getD_eq_getElem?_getD, List.getElem?_set, if_neg h, List.getD_eq_getElem?_getD]
theorem R.put {Ds : Fx} {fr : Fr} {a : Act} (h : R Ds fr a) (dst : Option Tmp) (v : Value) (hp : ∀ t, dst = some t → Ds.pin t = none) : R Ds (put fr dst v) (a.put dst v) := by
  cases dst with
  | none => exact h
  | some d =>
    refine ⟨h.1.put v hp, by simpa [Sh.put, Act.put] using h.2.1, fun t u hu => ?_⟩
    simp only [Sh.put] at hu
    show (a.tmps.setIfInBounds d v)[t]? = _
    by_cases e : d = t
    · subst e
      rw [getD_set_self] at hu
      split at hu
      · rename_i hl
        have : d < a.tmps.size := Nat.lt_of_lt_of_le hl h.2.1
        rw [Array.getElem?_setIfInBounds, if_pos rfl, if_pos this]
        exact hu
      · cases hu
    · rw [getD_set_ne' _ _ e] at hu
      rw [Array.getElem?_setIfInBounds, if_neg e]
      exact h.2.2 t u hu
theorem R.set_same {Ds : Fx} {fr : Fr} {a : Act} (h : R Ds fr a) {d : Nat} {v : Value} (e : fr.getD d none = some v) : R Ds (fr.set d (some v)) a := by
  refine ⟨h.1, by simpa using h.2.1, fun t u hu => ?_⟩
  by_cases x : d = t
  · subst x
    rw [getD_set_self] at hu
    split at hu
    · exact h.2.2 d u (e.trans hu)
    · cases hu
  · rw [getD_set_ne' _ _ x] at hu
    exact h.2.2 t u hu
def with1 (x : Option Value) (k : Value → Prop) : Prop :=
  match x with
  | some v => k v
  | none => False
theorem zsa {x : Option Value} {k : Value → Prop} (h : with1 x k) : ∃ v, x = some v ∧ k v := by
  cases x with
  | none => exact h.elim
  | some v => exact ⟨v, rfl, h⟩
def nilc (p : Option Addr) (K : Addr → Prop) : Prop := ∃ a, p = some a ∧ K a
def ldI (H : Heap) (k : IntKind) (a : Addr) (K : Int → Prop) : Prop := ∃ n, H.cell? a = some (.int k n) ∧ K n
def ldB (H : Heap) (a : Addr) (K : Bool → Prop) : Prop := ∃ b, H.cell? a = some (.bool b) ∧ K b
def ldS (H : Heap) (a : Addr) (K : ByteArray → Prop) : Prop := ∃ s, H.cell? a = some (.string s) ∧ K s
def ldP (H : Heap) (a : Addr) (K : Option Addr → Prop) : Prop := ∃ p, H.cell? a = some (.pointer p) ∧ K p
def ldSl (H : Heap) (a : Addr) (K : Option Addr → Nat → Nat → Prop) : Prop := ∃ p n c, H.cell? a = some (.slice p n c) ∧ K p n c
def ldM (H : Heap) (a : Addr) (K : Option Nat → Prop) : Prop := ∃ r, H.cell? a = some (.map r) ∧ K r
def ldV (H : Heap) (a : Addr) (K : Value → Prop) : Prop := ∃ v, H.cell? a = some v ∧ K v
def ldRow (H : Heap) (a : Addr) (n : Nat) (K : List Value → Prop) : Prop :=
  ∃ cs : List Value, cs.length = n ∧ (∀ (i : Nat) (v : Value), cs[i]? = some v → H.cell? (a.add i) = some v) ∧ K cs
inductive Leaf where
  | int (k : IntKind) | bool | string | pointer | slice | map | any
  deriving DecidableEq, Repr
def ldLeaf (H : Heap) : Leaf → Addr → (Value → Prop) → Prop
  | .int k, a, K => ldI H k a fun n => K (.int k n)
  | .bool, a, K => ldB H a fun b => K (.bool b)
  | .string, a, K => ldS H a fun s => K (.string s)
  | .pointer, a, K => ldP H a fun p => K (.pointer p)
  | .slice, a, K => ldSl H a fun p n c => K (.slice p n c)
  | .map, a, K => ldM H a fun r => K (.map r)
  | .any, a, K => ldV H a K
theorem zyc {H : Heap} {l : Leaf} {a : Addr} {K : Value → Prop} (h : ldLeaf H l a K) : ∃ v, H.cell? a = some v ∧ K v := by
  cases l <;> simp only [ldLeaf, ldI, ldB, ldS, ldP, ldSl, ldM, ldV] at h
  case slice => obtain ⟨p, n, c, h1, h2⟩ := h; exact ⟨_, h1, h2⟩
  all_goals (obtain ⟨n, h1, h2⟩ := h; exact ⟨_, h1, h2⟩)
def ldLeaves (H : Heap) (a : Addr) : List Leaf → Nat → List Value → (List Value → Prop) → Prop
  | [], _, acc, K => K acc.reverse
  | l :: ls, i, acc, K => ldLeaf H l (a.add i) fun v => ldLeaves H a ls (i + 1) (v :: acc) K
def leaf1 : TypeDesc → Option Leaf
  | .int k => some (.int k)
  | .bool => some .bool
  | .string => some .string
  | .pointer _ => some .pointer
  | .slice _ => some .slice
  | .map _ _ => some .map
  | .func _ _ _ => some .any
  | .interface _ => some .any
  | _ => none
def leavesF (f : TypeId → Option (List Leaf)) : List Field → Option (List Leaf)
  | [] => some []
  | x :: xs => match f x.type, leavesF f xs with
    | some a, some b => some (a ++ b)
    | _, _ => none
def leaves (P : Program) : Nat → TypeId → Option (List Leaf)
  | 0, _ => none
  | d + 1, t => match P.underlying t with
    | some (.struct fs) => leavesF (leaves P d) fs.toList
    | some (.array n e) => (leaves P d e).map fun l => (List.replicate n l).flatten
    | some x => (leaf1 x).map fun l => [l]
    | none => none
def ldAgg (P : Program) (H : Heap) (t : TypeId) (a : Addr) (K : Value → Prop) : Prop :=
  match leaves P 8 t with
  | some ls => if ls.length = P.cellsOf t then ldLeaves H a ls 0 [] fun vs => K (.agg vs.toArray) else False
  | none => False
def ldVar (P : Program) (H : Heap) (t : TypeId) (a : Addr) (K : Value → Prop) : Prop :=
  match P.underlying t with
  | some (.struct _) => ldAgg P H t a K
  | some (.array n _) => if n ≤ 16 then ldAgg P H t a K else ldRow H a (P.cellsOf t) fun cs => K (.agg cs.toArray)
  | some x => match leaf1 x with
    | some l => ldLeaf H l a K
    | none => False
  | none => False
def stc (H : Heap) (a : Addr) (v : Value) (K : Heap → Prop) : Prop := (H.cell? a).isSome = true ∧ H.frozen? a = false ∧ K (H.setCell a v)
def stcs (a : Addr) : List Value → Nat → (Heap → Prop) → Heap → Prop
  | [], _, K, H => K H
  | v :: vs, i, K, H => stc H (a.add i) v fun H' => stcs a vs (i + 1) K H'
def stRow (a : Addr) (cs : List Value) (K : Heap → Prop) (H : Heap) : Prop :=
  (∀ v ∈ cs, (∀ x, v ≠ .agg x) ∧ (∀ x, v ≠ .tuple x)) ∧ stcs a cs 0 K H
def znd : Value → Bool
  | .agg _ | .tuple _ => false
  | _ => true
def stc1 (H : Heap) (a : Addr) (v : Value) (K : Heap → Prop) : Prop :=
  match v with
  | .agg _ => False
  | .tuple _ => False
  | v => stc H a v K
def stAgg (a : Addr) (n : Nat) (v : Value) (K : Heap → Prop) (H : Heap) : Prop :=
  match v with
  | .agg cs => if cs.toList.length = n then (if cs.toList.all znd then stcs a cs.toList 0 K H else False) else False
  | _ => False
def stArr (a : Addr) (n : Nat) (v : Value) (K : Heap → Prop) (H : Heap) : Prop :=
  match v with
  | .agg cs => cs.size = n ∧ stRow a cs.toList K H
  | _ => False
def stVar (P : Program) (t : TypeId) (a : Addr) (v : Value) (K : Heap → Prop) (H : Heap) : Prop :=
  match P.underlying t with
  | some (.array _ _) => stArr a (P.cellsOf t) v K H
  | some (.struct _) => stAgg a (P.cellsOf t) v K H
  | some _ => if P.cellsOf t = 1 then stc1 H a v K else False
  | none => False
def newB (o : Obj) (K : Nat → Heap → Prop) (H : Heap) : Prop := ∀ b, H b = none → K b (H.set b o)
section
variable {P : Program} {E : Value → Heap → Prop}
theorem zse {t : TypeId} {d : TypeDesc} {α : Type} {f : TypeDesc → Sem α} {K : α → Heap → Prop} {H : Heap} (h : P.underlying t = some d) (k : wpS P (f d) K E H) :
    wpS P (underlying t >>= f) K E H := by
  show wpS P (Sem.program fun p => (match p.underlying t with | some d => pure d | none => stuck "no such type" : Sem TypeDesc).bind f) K E H
  simp only [wpS, h]
  exact k
theorem wpS_typeInfo {t : TypeId} {i : TypeInfo} {α : Type} {f : TypeInfo → Sem α} {K : α → Heap → Prop} {H : Heap} (h : P.info? t = some i) (k : wpS P (f i) K E H) :
    wpS P (typeInfo t >>= f) K E H := by
  show wpS P (Sem.program fun p => (match p.info? t with | some d => pure d | none => stuck "no such type" : Sem TypeInfo).bind f) K E H
  simp only [wpS, h]
  exact k
theorem wpS_sizeOf {t : TypeId} {α : Type} {f : Nat → Sem α} {K : α → Heap → Prop} {H : Heap} (h : (P.info? t).isSome = true) (k : wpS P (f (P.cellsOf t)) K E H) :
    wpS P (sizeOf t >>= f) K E H := by
  obtain ⟨i, hi⟩ := Option.isSome_iff_exists.1 h
  have e : P.cellsOf t = i.size := by simp [Program.cellsOf, hi]
  rw [e] at k
  show wpS P ((typeInfo t >>= fun i => pure i.size) >>= f) K E H
  exact wpS_bind P _ _ H (wpS_typeInfo hi k)
theorem wpS_b {α β : Type} {s : Sem α} {f : α → Sem β} {K : β → Heap → Prop} {H : Heap} (h : wpS P s (fun a H' => wpS P (f a) K E H') E H) : wpS P (s >>= f) K E H :=
  wpS_bind P s f H h
theorem zbf {t : TypeId} {d : TypeDesc} (h : P.underlying t = some d) : (P.info? t).isSome = true := by
  unfold Program.underlying at h
  cases e : P.info? t with
  | none => simp [e] at h
  | some i => rfl
theorem wpS_load {a : Addr} {v : Value} {α : Type} {f : Value → Sem α} {K : α → Heap → Prop} {H : Heap} (h : H.cell? a = some v) (k : wpS P (f v) K E H) : wpS P (load a >>= f) K E H := by
  show wpS P (Sem.load .plain a fun v => (Sem.pure v).bind f) K E H
  simp only [wpS, h]
  exact k
theorem loadCells_ok {a : Addr} {K : Array Value → Heap → Prop} {H : Heap} : ∀ (cs : List Value) (i : Nat) (acc : Array Value),
    (∀ (j : Nat) (v : Value), cs[j]? = some v → H.cell? (a.add (i + j)) = some v) → K (acc ++ cs.toArray) H → wpS P (loadCellsFrom a i cs.length acc) K E H := by
  intro cs
  induction cs with
  | nil => intro i acc _ hK; rw [show acc ++ ([] : List Value).toArray = acc by simp] at hK; exact hK
  | cons c cs ih =>
    intro i acc h hK
    refine wpS_load (h 0 c rfl) (ih (i + 1) (acc.push c) (fun j v hj => ?_) ?_)
    · have := h (j + 1) v (by simpa using hj)
      rw [show i + 1 + j = i + (j + 1) by omega]
      exact this
    · rw [show acc.push c ++ cs.toArray = acc ++ (c :: cs).toArray by simp]
      exact hK
def isAggD : TypeDesc → Bool
  | .struct _ | .array _ _ => true
  | _ => false
theorem isAgg_ok {t : TypeId} {d : TypeDesc} {α : Type} {f : Bool → Sem α} {K : α → Heap → Prop} {H : Heap} (h : P.underlying t = some d)
    (k : wpS P (f (isAggD d)) K E H) : wpS P (isAgg t >>= f) K E H := by
  refine wpS_b (zse h ?_)
  cases d <;> exact k
theorem ldLeaves_elim {H : Heap} {a : Addr} {K : List Value → Prop} : ∀ (ls : List Leaf) (i : Nat) (acc : List Value), ldLeaves H a ls i acc K →
    ∃ cs : List Value, cs.length = ls.length ∧ (∀ (j : Nat) (v : Value), cs[j]? = some v → H.cell? (a.add (i + j)) = some v) ∧ K (acc.reverse ++ cs) := by
  intro ls
  induction ls with
  | nil => intro i acc h; exact ⟨[], rfl, by simp, by simpa [ldLeaves] using h⟩
  | cons l ls ih =>
    intro i acc h
    obtain ⟨v, hv, hk⟩ := zyc h
    obtain ⟨cs, h1, h2, h3⟩ := ih (i + 1) (v :: acc) hk
    refine ⟨v :: cs, by simp [h1], fun j u hj => ?_, by simpa using h3⟩
    cases j with
    | zero => simp at hj; subst hj; exact hv
    | succ j => rw [show i + (j + 1) = i + 1 + j by omega]; exact h2 j u (by simpa using hj)
theorem ldVar_ok {t : TypeId} {a : Addr} {K : Value → Heap → Prop} {H : Heap} (h : ldVar P H t a fun v => K v H) : wpS P (Instr.loadAt t (.pointer (some a))) K E H := by
  show wpS P (loadVar t a) K E H
  unfold ldVar at h
  unfold loadVar
  cases hu : P.underlying t with
  | none => simp [hu] at h
  | some d =>
    rw [hu] at h
    refine isAgg_ok hu ?_
    have one : (∃ v, H.cell? a = some v ∧ K v H) → wpS P (load a) K E H := by
      rintro ⟨v, hv, hk⟩
      show wpS P (Sem.load .plain a Sem.pure) K E H
      simp only [wpS, hv]
      exact hk
    have agg : (∃ cs : List Value, cs.length = P.cellsOf t ∧ (∀ (i : Nat) (v : Value), cs[i]? = some v → H.cell? (a.add i) = some v) ∧ K (.agg cs.toArray) H) →
        wpS P (do pure (.agg (← loadCells a (← sizeOf t)))) K E H := by
      rintro ⟨cs, h1, h2, h3⟩
      refine wpS_sizeOf (zbf hu) (wpS_b ?_)
      rw [← h1]
      exact loadCells_ok cs 0 #[] (fun j v hj => by rw [Nat.zero_add]; exact h2 j v hj) (by rw [show (#[] : Array Value) ++ cs.toArray = cs.toArray by simp]; exact h3)
    have sagg : ldAgg P H t a (fun v => K v H) → wpS P (do pure (.agg (← loadCells a (← sizeOf t)))) K E H := by
      intro h
      unfold ldAgg at h
      cases hl : leaves P 8 t with
      | none => simp [hl] at h
      | some ls =>
        simp only [hl] at h
        by_cases he : ls.length = P.cellsOf t
        · rw [if_pos he] at h
          obtain ⟨cs, h1, h2, h3⟩ := ldLeaves_elim ls 0 [] h
          exact agg ⟨cs, h1.trans he, fun i v hi => by have := h2 i v hi; rwa [Nat.zero_add] at this, by simpa using h3⟩
        · rw [if_neg he] at h; exact h.elim
    cases d with
    | struct fs => exact sagg h
    | array n e =>
      dsimp only at h
      by_cases hn : n ≤ 16
      · rw [if_pos hn] at h; exact sagg h
      · rw [if_neg hn] at h; exact agg h
    | int k => exact one (zyc h)
    | bool => exact one (zyc h)
    | string => exact one (zyc h)
    | pointer e => exact one (zyc h)
    | slice e => exact one (zyc h)
    | map k e => exact one (zyc h)
    | func ps rs v => exact one (zyc h)
    | interface ms => exact one (zyc h)
    | _ => exact h.elim
theorem stc_ok {a : Addr} {v : Value} {α : Type} {k : Sem α} {K : α → Heap → Prop} {H : Heap} (hv : znd v = true) (h : stc H a v fun H' => wpS P k K E H') :
    wpS P (store a v >>= fun _ => k) K E H := by
  show wpS P (Sem.store .plain a v ((Sem.pure ()).bind fun _ => k)) K E H
  cases v <;> simp only [znd] at hv <;> first | exact h | cases hv
theorem storeCells_ok {a : Addr} {K : Unit → Heap → Prop} : ∀ (cs : List Value) (i : Nat) (H : Heap), cs.all znd = true → stcs a cs i (fun H' => K () H') H →
    wpS P (storeCells a cs i) K E H := by
  intro cs
  induction cs with
  | nil => intro i H _ h; exact h
  | cons c cs ih =>
    intro i H hp h
    simp only [List.all_cons, Bool.and_eq_true] at hp
    obtain ⟨h1, h2, h3⟩ := h
    exact stc_ok hp.1 ⟨h1, h2, ih (i + 1) _ hp.2 h3⟩
theorem plainCell1_of {v : Value} (h : (∀ x, v ≠ .agg x) ∧ (∀ x, v ≠ .tuple x)) : znd v = true := by
  cases v <;> first | rfl | exact absurd rfl (h.1 _) | exact absurd rfl (h.2 _)
theorem stVar_ok {t : TypeId} {a : Addr} {v : Value} {K : Unit → Heap → Prop} {H : Heap} (h : stVar P t a v (fun H' => K () H') H) : wpS P (Instr.storeAt t (.pointer (some a)) v) K E H := by
  show wpS P (storeVar t a v) K E H
  unfold stVar at h
  unfold storeVar
  cases hu : P.underlying t with
  | none => simp [hu] at h
  | some d =>
    rw [hu] at h
    refine wpS_sizeOf (zbf hu) ?_
    have core : v.cells.size = P.cellsOf t → v.cells.toList.all znd = true → stcs a v.cells.toList 0 (fun H' => K () H') H → wpS P (storeCells a v.cells.toList) K E H :=
      fun h1 h2 h3 => storeCells_ok _ _ _ h2 h3
    have main : v.cells.size = P.cellsOf t ∧ wpS P (storeCells a v.cells.toList) K E H := by
      have one : (if P.cellsOf t = 1 then stc1 H a v (fun H' => K () H') else False) → v.cells.size = P.cellsOf t ∧ wpS P (storeCells a v.cells.toList) K E H := by
        intro h
        by_cases hc : P.cellsOf t = 1
        · rw [if_pos hc] at h
          cases v <;> first
            | exact h.elim
            | exact ⟨hc.symm, core hc.symm rfl (by
                show stc H (a.add 0) _ fun H' => K () H'
                exact h)⟩
        · rw [if_neg hc] at h; exact h.elim
      cases d with
      | struct fs =>
        cases v with
        | agg cs =>
          change (if cs.toList.length = P.cellsOf t then (if cs.toList.all znd then stcs a cs.toList 0 (fun H' => K () H') H else False) else False) at h
          by_cases he : cs.toList.length = P.cellsOf t
          · rw [if_pos he] at h
            by_cases hp : cs.toList.all znd = true
            · rw [if_pos hp] at h
              exact ⟨he, core he hp h⟩
            · rw [if_neg hp] at h; exact h.elim
          · rw [if_neg he] at h; exact h.elim
        | _ => exact h.elim
      | array n e =>
        cases v with
        | agg cs =>
          obtain ⟨h1, h2, h3⟩ := h
          exact ⟨h1, core h1 (List.all_eq_true.2 fun x hx => plainCell1_of (h2 x hx)) h3⟩
        | _ => exact h.elim
      | _ => exact one h
    dsimp only
    rw [if_neg (fun hne => hne main.1)]
    exact main.2
end
end Go.Sh
