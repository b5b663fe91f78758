/- A packet that comes once more changes nothing (part 10 of the walk and its laws) -/
import Derived.Test.YtkfkkkalcchpkaaGreatDoorTw2i
namespace Go.Sh
def Det (X : (Value → Prop) → Prop) : Prop := ∀ K, X K → ∃ v, K v ∧ ∀ K', K' v → X K'
section
variable {P : Program} {Γ : FuncId → Option FT} {H : Heap}
theorem zuc {x : Option Value} {f : Value → (Value → Prop) → Prop} (h : ∀ v, Det (f v)) : Det fun K => with1 x fun v => f v K := by
  intro K hk
  cases x with
  | none => exact hk.elim
  | some v => exact h v K hk
theorem det_withs {x : Option (List Value)} {f : List Value → (Value → Prop) → Prop} (h : ∀ v, Det (f v)) : Det fun K => withs x fun v => f v K := by
  intro K hk
  cases x with
  | none => exact hk.elim
  | some v => exact h v K hk
theorem zue (v : Value) : Det fun K => K v := fun K h => ⟨v, h, fun K' h' => h'⟩
theorem zjf : Det fun _ => False := fun K h => h.elim
theorem zde {p : Prop} {X : (Value → Prop) → Prop} (h : Det X) : Det fun K => p ∧ X K := by
  rintro K ⟨hp, hk⟩
  obtain ⟨v, h1, h2⟩ := h K hk
  exact ⟨v, h1, fun K' h' => ⟨hp, h2 K' h'⟩⟩
theorem det_if {p : Prop} [Decidable p] {X Y : (Value → Prop) → Prop} (hx : Det X) (hy : Det Y) : Det fun K => if p then X K else Y K := by
  intro K hk
  by_cases hp : p
  · simp only [if_pos hp] at hk ⊢; exact hx K hk
  · simp only [if_neg hp] at hk ⊢; exact hy K hk
theorem det_ex {α : Type} {X : α → (Value → Prop) → Prop} (h : ∀ a, Det (X a)) : Det fun K => ∃ a, X a K := by
  rintro K ⟨a, hk⟩
  obtain ⟨v, h1, h2⟩ := h a K hk
  exact ⟨v, h1, fun K' h' => ⟨a, h2 K' h'⟩⟩
theorem det_pure {s : Sem Value} : Det fun K => wPure P s K := by
  intro K hk
  obtain ⟨v, hv, h⟩ := wPure_elim hk
  exact ⟨v, h, fun K' h' => by unfold wPure; rw [hv]; exact h'⟩
theorem det_pick {c : Value} {a b : Option Value} : Det fun K => wPick c a b K := by
  intro K hk
  cases c <;> simp only [wPick] at hk <;> try exact hk.elim
  exact det_if (zuc zue) (zuc zue) K hk
theorem det_nil {v : Value} : Det fun K => wNil v K := by
  intro K hk
  cases v <;> simp only [wNil] at hk <;> try exact hk.elim
  case pointer p => obtain ⟨a, rfl, h⟩ := hk; exact ⟨_, h, fun K' h' => ⟨a, rfl, h'⟩⟩
  case func fn xs ys =>
    cases fn <;> simp only at hk <;> try exact hk.elim
    exact ⟨_, hk, fun K' h' => h'⟩
  case iface t x => exact ⟨_, hk, fun K' h' => h'⟩
theorem det_int {op : BinOp} {k : IntKind} {x y : Int} : Det fun K => wInt op k x y K := by
  intro K hk
  cases op <;> simp only [wInt] at hk <;> first
    | exact hk.elim
    | exact ⟨_, hk, fun K' h' => h'⟩
    | exact ⟨_, hk.2, fun K' h' => ⟨hk.1, h'⟩⟩
theorem det_str {op : BinOp} {x y : ByteArray} : Det fun K => wStr op x y K := by
  intro K hk
  cases op <;> simp only [wStr] at hk <;> first
    | exact hk.elim
    | exact ⟨_, hk, fun K' h' => h'⟩
    | exact ⟨_, hk.2, fun K' h' => ⟨hk.1, h'⟩⟩
theorem det_eqAgg {neg : Bool} {t : TypeId} {xs ys : Array Value} : Det fun K => wEqAgg P neg t xs ys K := by
  intro K hk
  unfold wEqAgg at hk
  cases hu : P.underlying t with
  | none => simp [hu] at hk
  | some d =>
    rw [hu] at hk
    cases d <;> simp only at hk <;> try exact hk.elim
    rename_i fs
    by_cases h1 : P.stoodInHeld t = true
    · rw [if_pos h1] at hk; exact hk.elim
    · rw [if_neg h1] at hk
      by_cases h2 : P.eqGuardType P.depth t = true
      · rw [if_pos h2] at hk; exact hk.elim
      · rw [if_neg h2] at hk
        cases hf : flat P fs.toList 0 with
        | none => simp [hf] at hk
        | some ls =>
          simp only [hf] at hk
          cases hq : eqCells ls xs.toList ys.toList with
          | none => simp [hq] at hk
          | some r =>
            simp only [hq] at hk
            refine ⟨_, hk, fun K' h' => ?_⟩
            unfold wEqAgg
            simp only [hu, if_neg h1, if_neg h2, hf, hq]
            exact h'
theorem det_eqO {neg : Bool} {t : TypeId} {a b : Value} : Det fun K => wEqO P neg t a b K := by
  intro K hk
  cases a <;> simp only [wEqO] at hk <;> try exact hk.elim
  case agg xs =>
    cases b <;> (try dsimp only at hk) <;> try exact hk.elim
    exact det_eqAgg K hk
  case pointer p =>
    cases b <;> (try dsimp only at hk) <;> try exact hk.elim
    rename_i q
    cases q <;> (try dsimp only at hk) <;> try exact hk.elim
    cases hu : P.underlying t with
    | none => simp [hu] at hk
    | some d => rw [hu] at hk; cases d <;> simp only at hk <;> first | exact hk.elim | (refine ⟨_, hk, fun K' h' => ?_⟩; simp only [wEqO, hu]; exact h')
  case slice p n c =>
    cases b <;> (try dsimp only at hk) <;> try exact hk.elim
    rename_i q _ _
    cases q <;> (try dsimp only at hk) <;> try exact hk.elim
    cases hu : P.underlying t with
    | none => simp [hu] at hk
    | some d => rw [hu] at hk; cases d <;> simp only at hk <;> first | exact hk.elim | (refine ⟨_, hk, fun K' h' => ?_⟩; simp only [wEqO, hu]; exact h')
  case map p =>
    cases b <;> (try dsimp only at hk) <;> try exact hk.elim
    rename_i q
    cases q <;> (try dsimp only at hk) <;> try exact hk.elim
    cases hu : P.underlying t with
    | none => simp [hu] at hk
    | some d => rw [hu] at hk; cases d <;> simp only at hk <;> first | exact hk.elim | (refine ⟨_, hk, fun K' h' => ?_⟩; simp only [wEqO, hu]; exact h')
  all_goals
    cases b <;> (try dsimp only at hk) <;> try exact hk.elim
  all_goals
    cases hu : P.underlying t with
    | none => simp [hu] at hk
    | some d => rw [hu] at hk; cases d <;> simp only at hk <;> first | exact hk.elim | (refine ⟨_, hk, fun K' h' => ?_⟩; simp only [wEqO, hu]; exact h')
theorem det_bin {op : BinOp} {t : TypeId} {s : Bool} {a b : Value} : Det fun K => wBin P op t s a b K := by
  intro K hk
  dsimp only at hk ⊢
  unfold wBin at hk ⊢
  by_cases hs : isShift op = true
  · simp only [if_pos hs] at hk ⊢
    cases a <;> cases b <;> simp only [wShift] at hk <;> try exact hk.elim
    cases op <;> simp only at hk <;> first | exact hk.elim | exact ⟨_, hk.2, fun K' h' => ⟨hk.1, h'⟩⟩
  · simp only [if_neg hs] at hk ⊢
    have eqs : wEqs P op t s a b K → ∃ v, K v ∧ ∀ K' : Value → Prop, K' v → wEqs P op t s a b K' := by
      intro h
      cases op <;> simp only [wEqs] at h <;> try exact h.elim
      all_goals
        cases s with
        | false => simp at h
        | true =>
          simp only [if_true] at h
          obtain ⟨v, h1, h2⟩ := det_eqO K h
          exact ⟨v, h1, fun K' h' => by simp only [wEqs, if_true]; exact h2 K' h'⟩
    cases a with
    | int k x =>
      cases b <;> simp only [wBin2] at hk <;> try exact hk.elim
      exact det_if det_int zjf K hk
    | string x =>
      cases b <;> simp only [wBin2] at hk <;> try exact hk.elim
      exact det_str K hk
    | _ => exact eqs hk
theorem det_mk {t : TypeId} {v : Value} : Det fun K => wMk P t v K := by
  intro K hk
  dsimp only at hk ⊢
  unfold wMk at hk ⊢
  cases hu : P.underlying t with
  | none => simp [hu] at hk
  | some d => rw [hu] at hk; cases d <;> first | exact hk.elim | exact ⟨_, hk, fun K' h' => h'⟩
theorem det_field {s : TypeId} {f : Nat} {v : Value} : Det fun K => wField P s f v K := by
  intro K hk
  match v, hk with
  | .pointer (some a), hk =>
    dsimp only at hk ⊢
    unfold wField at hk ⊢
    dsimp only at hk ⊢
    cases hu : P.underlying s with
    | none => simp [hu] at hk
    | some d =>
      rw [hu] at hk
      cases d <;> try exact hk.elim
      rename_i fs
      dsimp only at hk ⊢
      cases hf : fs[f]? with
      | none => simp [hf] at hk
      | some x =>
        rw [hf] at hk
        exact det_if zjf (det_if (zue _) zjf) K hk
theorem det_ixA {t : TypeId} {v ix : Value} : Det fun K => wIxA P t v ix K := by
  intro K hk
  cases ix <;> simp only [wIxA] at hk <;> try exact hk.elim
  rename_i k i
  dsimp only
  unfold wIxA
  dsimp only
  cases hu : P.underlying t with
  | none => simp [hu] at hk
  | some d =>
    rw [hu] at hk
    cases d <;> try exact hk.elim
    case slice e =>
      cases v <;> dsimp only at hk <;> try exact hk.elim
      exact det_if (det_ex fun a => zde (zde (zde (zue _)))) zjf K hk
    case array n e =>
      match v, hk with
      | .pointer (some a), hk => exact det_if (zde (zde (zue _))) zjf K hk
theorem det_leafOf {l : Leaf} {v : Value} : Det fun K => leafOf l v K := by
  intro K hk
  cases l <;> simp only [leafOf] at hk <;> try exact hk.elim
  all_goals (obtain ⟨n, rfl, h⟩ := hk; exact ⟨_, h, fun K' h' => ⟨n, rfl, h'⟩⟩)
theorem det_leafsAt : ∀ (ls : List Leaf) (cs : Array Value) (j : Nat) (f : List Value → Value), Det fun K => leafsAt ls cs j fun vs => K (f vs)
  | [], cs, j, f => zue (f [])
  | l :: ls, cs, j, f => by
    rintro K ⟨x, hx, hk⟩
    have ih := fun v => det_leafsAt ls cs (j + 1) (fun vs => f (v :: vs))
    cases l <;> simp only [leafOf] at hk <;> try exact hk.elim
    all_goals
      obtain ⟨n, rfl, h⟩ := hk
      obtain ⟨v, h1, h2⟩ := ih _ K h
      exact ⟨v, h1, fun K' h' => ⟨_, hx, n, rfl, h2 K' h'⟩⟩
theorem det_ix {t : TypeId} {v ix : Value} : Det fun K => wIx P t v ix K := by
  intro K hk
  cases ix <;> simp only [wIx] at hk <;> try exact hk.elim
  rename_i k i
  dsimp only
  unfold wIx
  dsimp only
  cases hu : P.underlying t with
  | none => simp [hu] at hk
  | some d =>
    rw [hu] at hk
    cases d <;> try exact hk.elim
    case string =>
      cases v <;> dsimp only at hk <;> try exact hk.elim
      exact zde (zde (zue _)) K hk
    case array n e =>
      cases v <;> dsimp only at hk <;> try exact hk.elim
      dsimp only
      cases hl : (P.underlying e).bind leaf1 with
      | none =>
        rw [hl] at hk
        dsimp only at hk ⊢
        cases hv : leaves P 8 e with
        | none => simp [hv] at hk
        | some ls =>
          rw [hv] at hk
          exact det_if (zde (zde (det_leafsAt ls _ _ (fun vs => Value.agg vs.toArray)))) zjf K hk
      | some l =>
        rw [hl] at hk
        exact det_if (zde (zde (det_ex fun x => zde det_leafOf))) zjf K hk
theorem det_bounds {len cap : Nat} {lo hi : Option Value} {f : Nat → Nat → Value} : Det fun K => bounds len cap lo hi fun l h => K (f l h) := by
  intro K hk
  dsimp only at hk ⊢
  unfold bounds at hk ⊢
  cases lo with
  | none =>
    cases hi with
    | none => exact zde (zue _) K hk
    | some v => cases v <;> dsimp only at hk <;> first | exact hk.elim | exact zde (zde (zue _)) K hk
  | some u =>
    cases u <;> dsimp only at hk <;> try exact hk.elim
    cases hi with
    | none => exact zde (zde (zde (zue _))) K hk
    | some v => cases v <;> dsimp only at hk <;> first | exact hk.elim | exact zde (zde (zde (zue _))) K hk
theorem det_sl {t : TypeId} {v : Value} {lo hi : Option Value} : Det fun K => wSl P t v lo hi K := by
  intro K hk
  dsimp only at hk ⊢
  unfold wSl at hk ⊢
  cases hu : P.underlying t with
  | none => simp [hu] at hk
  | some d =>
    rw [hu] at hk
    cases d <;> try exact hk.elim
    case string => cases v <;> dsimp only at hk <;> first | exact hk.elim | exact det_bounds K hk
    case slice e => cases v <;> dsimp only at hk <;> first | exact hk.elim | exact det_if det_bounds zjf K hk
    case array n e =>
      match v, hk with
      | .pointer (some a), hk => exact det_if det_bounds zjf K hk
theorem det_leaf {l : Leaf} {a : Addr} : Det fun K => ldLeaf H l a K := by
  intro K hk
  cases l <;> simp only [ldLeaf, ldI, ldB, ldS, ldP, ldSl, ldM, ldV] at hk
  case slice => obtain ⟨p, n, c, h1, h2⟩ := hk; exact ⟨_, h2, fun K' h' => ⟨p, n, c, h1, h'⟩⟩
  all_goals (obtain ⟨n, h1, h2⟩ := hk; exact ⟨_, h2, fun K' h' => ⟨n, h1, h'⟩⟩)
theorem det_leaves {a : Addr} : ∀ (ls : List Leaf) (i : Nat) (acc : List Value) (f : List Value → Value), Det fun K => ldLeaves H a ls i acc fun vs => K (f vs) := by
  intro ls
  induction ls with
  | nil => intro i acc f; exact zue _
  | cons l ls ih =>
    intro i acc f K hk
    have hk : ldLeaf H l (a.add i) fun v => ldLeaves H a ls (i + 1) (v :: acc) fun vs => K (f vs) := hk
    obtain ⟨v, h1, h2⟩ := det_leaf (fun v => ldLeaves H a ls (i + 1) (v :: acc) fun vs => K (f vs)) hk
    obtain ⟨u, g1, g2⟩ := ih (i + 1) (v :: acc) f K h1
    exact ⟨u, g1, fun K' h' => h2 (fun v => ldLeaves H a ls (i + 1) (v :: acc) fun vs => K' (f vs)) (g2 K' h')⟩
theorem det_var {t : TypeId} {a : Addr} : Det fun K => ldVar P H t a K := by
  intro K hk
  dsimp only at hk ⊢
  unfold ldVar at hk ⊢
  cases hu : P.underlying t with
  | none => simp [hu] at hk
  | some d =>
    rw [hu] at hk
    have one : (match leaf1 d with | some l => ldLeaf H l a K | none => False) → ∃ v, K v ∧ ∀ K' : Value → Prop, K' v → (match leaf1 d with | some l => ldLeaf H l a K' | none => False) := by
      intro h
      cases hl : leaf1 d with
      | none => simp [hl] at h
      | some l => rw [hl] at h; exact det_leaf K h
    have sagg : ldAgg P H t a K → ∃ v, K v ∧ ∀ K' : Value → Prop, K' v → ldAgg P H t a K' := by
      intro h
      unfold ldAgg at h ⊢
      cases hl : leaves P 8 t with
      | none => simp [hl] at h
      | some ls => rw [hl] at h; exact det_if (det_leaves ls 0 [] _) zjf K h
    cases d with
    | struct fs => exact sagg hk
    | array n e =>
      dsimp only at hk ⊢
      by_cases hn : n ≤ 16
      · rw [if_pos hn] at hk
        simp only [if_pos hn]
        exact sagg hk
      · rw [if_neg hn] at hk
        simp only [if_neg hn]
        obtain ⟨cs, h1, h2, h3⟩ := hk
        exact ⟨_, h3, fun K' h' => ⟨cs, h1, h2, h'⟩⟩
    | _ => exact one hk
theorem det_load {t : TypeId} {v : Value} : Det fun K => wLoad P t v K H := by
  intro K hk
  match v, hk with
  | .pointer (some a), hk => exact det_var K hk
theorem det_kinded {l : Leaf} {v : Value} {f : Value → Value} : Det fun K => kinded l v fun v => K (f v) := by
  intro K hk
  cases l <;> simp only [kinded] at hk
  case any => exact ⟨_, hk, fun K' h' => h'⟩
  case slice => obtain ⟨a, n, c, rfl, h⟩ := hk; exact ⟨_, h, fun K' h' => ⟨a, n, c, rfl, h'⟩⟩
  all_goals (obtain ⟨n, rfl, h⟩ := hk; exact ⟨_, h, fun K' h' => ⟨n, rfl, h'⟩⟩)
theorem det_look {t : TypeId} {m ix : Value} {ok : Bool} : Det fun K => wLook P t m ix ok K H := by
  intro K hk
  dsimp only at hk ⊢
  unfold wLook at hk ⊢
  cases hu : P.underlying t with
  | none => simp [hu] at hk
  | some d =>
    rw [hu] at hk
    cases d <;> try exact hk.elim
    rename_i k e
    dsimp only at hk ⊢
    cases hkk : P.underlying k with
    | none => simp [hkk] at hk
    | some dk =>
      rw [hkk] at hk
      dsimp only at hk ⊢
      by_cases hko : keyOk dk ix = true
      · simp only [if_pos hko] at hk ⊢
        cases hi : P.info? e with
        | none => simp [hi] at hk
        | some i =>
          rw [hi] at hk
          dsimp only at hk ⊢
          cases hz : i.zero with
          | none => simp [hz] at hk
          | some z =>
            rw [hz] at hk
            dsimp only at hk ⊢
            match m, hk with
            | .map none, hk => exact zue _ K hk
            | .map (some r), hk =>
              obtain ⟨es, clk, h1, h2, h3⟩ := hk
              cases hf : mfind ix es with
              | none =>
                rw [hf] at h3
                exact ⟨_, h3, fun K' h' => ⟨es, clk, h1, h2, by dsimp only; rw [hf]; exact h'⟩⟩
              | some v =>
                rw [hf] at h3
                have h3 : kinded (elemLeaf P e) v fun v => K (if ok = true then .tuple #[v, .bool true] else v) := h3
                obtain ⟨u, g1, g2⟩ := det_kinded (f := fun v => if ok = true then .tuple #[v, .bool true] else v) K h3
                exact ⟨u, g1, fun K' h' => ⟨es, clk, h1, h2, by dsimp only; rw [hf]; exact g2 K' h'⟩⟩
      · simp only [if_neg hko] at hk
theorem det_lenMap {m : Value} : Det fun K => wLenMap m K H := by
  intro K hk
  match m, hk with
  | .map none, hk => exact ⟨_, hk, fun K' h' => h'⟩
  | .map (some r), hk => obtain ⟨es, clk, h1, h2⟩ := hk; exact ⟨_, h2, fun K' h' => ⟨es, clk, h1, h'⟩⟩
theorem det_rdBytes {a : Option Addr} {n : Nat} : Det fun K => rdBytes H a n fun x => K (.string x) := by
  rintro K ⟨s, h1, h2, h3, h4, h5⟩
  exact ⟨_, h5, fun K' h' => ⟨s, h1, h2, h3, h4, h'⟩⟩
def convQuiet (P : Program) (d : TypeId) : Bool :=
  match P.underlying d with
  | some (.slice _) => false
  | _ => true
theorem det_conv {s d : TypeId} {v : Value} (hq : convQuiet P d = true) : ∀ K : Value → Heap → Prop, wConv P s d v K H → ∃ u, K u H ∧ ∀ K' : Value → Heap → Prop, K' u H → wConv P s d v K' H := by
  intro K hk
  unfold wConv at hk ⊢
  unfold convQuiet at hq
  cases hs : P.underlying s with
  | none => simp [hs] at hk
  | some us =>
    rw [hs] at hk
    dsimp only at hk ⊢
    cases hd : P.underlying d with
    | none => simp [hd] at hk
    | some ud =>
      rw [hd] at hk hq
      cases ud <;> (try dsimp only at hk ⊢ hq) <;> try exact hk.elim
      case int k => cases v <;> dsimp only at hk <;> first | exact hk.elim | exact ⟨_, hk, fun K' h' => h'⟩
      case string =>
        cases v <;> (try dsimp only at hk) <;> try exact hk.elim
        case string x => exact ⟨_, hk, fun K' h' => h'⟩
        case slice a n c =>
          cases us <;> (try dsimp only at hk) <;> try exact hk.elim
          rename_i e
          dsimp only
          cases he : P.underlying e with
          | none => simp [he] at hk
          | some de =>
            rw [he] at hk
            cases de <;> (try dsimp only at hk) <;> try exact hk.elim
            rename_i k
            cases k <;> (try dsimp only at hk) <;> try exact hk.elim
            obtain ⟨u, g1, g2⟩ := det_rdBytes (fun v => K v H) hk
            exact ⟨u, g1, fun K' h' => g2 (fun v => K' v H) h'⟩
      case slice e => cases hq
end
end Go.Sh
