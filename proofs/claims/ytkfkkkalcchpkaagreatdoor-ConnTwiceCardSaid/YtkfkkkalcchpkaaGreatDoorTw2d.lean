/- A packet that comes once more changes nothing (part 4 of the walk and its laws) -/
import Derived.Test.YtkfkkkalcchpkaaGreatDoorTw2c
namespace Go.Sh
section
variable {P : Program} {E : Value → Heap → Prop} {H : Heap} {K : Value → Heap → Prop}
theorem flat_cons {f : Field} {fs : List Field} {i : Nat} {ls : List Leaf} (h : flat P (f :: fs) i = some ls) :
    f.name ≠ "_" ∧ f.offset = i ∧ ∃ l ls', (P.underlying f.type).bind leaf1 = some l ∧ flat P fs (i + 1) = some ls' ∧ ls = l :: ls' := by
  unfold flat at h
  by_cases h1 : f.name = "_"
  · rw [if_pos h1] at h; cases h
  · rw [if_neg h1] at h
    by_cases h2 : f.offset ≠ i
    · rw [if_pos h2] at h; cases h
    · rw [if_neg h2] at h
      refine ⟨h1, Decidable.not_not.1 h2, ?_⟩
      cases hl : (P.underlying f.type).bind leaf1 with
      | none => simp [hl] at h
      | some l =>
        cases hr : flat P fs (i + 1) with
        | none => simp [hl, hr] at h
        | some ls' =>
          simp only [hl, hr, Option.some.injEq] at h
          exact ⟨l, ls', rfl, rfl, h.symm⟩
theorem eqCells_cons {l : Leaf} {ls : List Leaf} {xs ys : List Value} {b : Bool} (h : eqCells (l :: ls) xs ys = some b) :
    ∃ x xs' y ys' b1 b2, xs = x :: xs' ∧ ys = y :: ys' ∧ eqLeaf l x y = some b1 ∧ eqCells ls xs' ys' = some b2 ∧ b = (b1 && b2) := by
  cases xs with
  | nil => cases ys <;> simp [eqCells] at h
  | cons x xs' =>
    cases ys with
    | nil => simp [eqCells] at h
    | cons y ys' =>
      simp only [eqCells] at h
      cases h1 : eqLeaf l x y with
      | none => simp [h1] at h
      | some b1 =>
        cases h2 : eqCells ls xs' ys' with
        | none => simp [h1, h2] at h
        | some b2 =>
          simp only [h1, h2, Option.some.injEq] at h
          exact ⟨x, xs', y, ys', b1, b2, rfl, rfl, h1, h2, h.symm⟩
theorem eqFields_ok {n : Nat} {xs ys : Array Value} {K : Option Bool × Unit → Heap → Prop} : ∀ (fs : List Field) (i : Nat) (ls : List Leaf) (b : Bool),
    flat P fs i = some ls → eqCells ls (xs.toList.drop i) (ys.toList.drop i) = some b → K (if b then none else some false, ()) H →
    wpS P (forIn fs (none, ()) fun f (__s : Option Bool × Unit) =>
        if f.name ≠ "_" then do
          let a ← part f.type xs f.offset
          let c ← part f.type ys f.offset
          let e ← Op.equalIn (n + 1) f.type a c
          if (!e) = true then pure (ForInStep.done (some false, ())) else pure (ForInStep.yield (none, ()))
        else pure (ForInStep.yield (none, ()))) K E H := by
  intro fs
  induction fs with
  | nil =>
    intro i ls b h1 h2 hK
    have : ls = [] := by simpa [flat] using h1.symm
    subst this
    have hb : b = true := by
      cases hx : xs.toList.drop i <;> cases hy : ys.toList.drop i <;> simp only [hx, hy, eqCells, Option.some.injEq, reduceCtorEq] at h2
      exact h2.symm
    subst hb
    exact hK
  | cons f fs ih =>
    intro i ls b h1 h2 hK
    obtain ⟨hn, ho, l, ls', hl, hr, rfl⟩ := flat_cons h1
    obtain ⟨x, xs', y, ys', b1, b2, hx, hy, e1, e2, rfl⟩ := eqCells_cons h2
    have gx : xs[i]? = some x := by
      have := congrArg (·[0]?) hx
      simpa using this
    have gy : ys[i]? = some y := by
      have := congrArg (·[0]?) hy
      simpa using this
    have dx : xs.toList.drop (i + 1) = xs' := by rw [← List.drop_drop, hx]; rfl
    have dy : ys.toList.drop (i + 1) = ys' := by rw [← List.drop_drop, hy]; rfl
    rw [List.forIn_cons]
    rw [if_pos hn]
    subst ho
    refine wpS_b (part1 hl gx (part1 hl gy (eqLeaf_ok hl e1 ?_)))
    cases b1 with
    | false =>
      show wpS P (Sem.pure (ForInStep.done (some false, ()))) _ _ _
      exact hK
    | true =>
      show wpS P (Sem.pure (ForInStep.yield (none, ()))) _ _ _
      rw [Bool.true_and] at hK
      have := ih (f.offset + 1) ls' b2 hr (by rw [dx, dy]; exact e2) hK
      exact this
theorem equalAgg_ok {t : TypeId} {fs : Array Field} {xs ys : Array Value} {ls : List Leaf} {b : Bool} {K : Bool → Heap → Prop} (hu : P.underlying t = some (.struct fs)) (hst : P.stoodInHeld t = false)
    (hf : flat P fs.toList 0 = some ls) (he : eqCells ls xs.toList ys.toList = some b) (hK : K b H) : wpS P (Op.equal t (.agg xs) (.agg ys)) K E H := by
  show wpS P (Op.equalIn (9998 + 1 + 1) t (.agg xs) (.agg ys)) K E H
  unfold Op.equalIn
  refine zse hu ?_
  dsimp only
  show wpS P (if P.stoodInHeld t = true then _ else _) K E H
  rw [if_neg (by rw [hst]; simp)]
  rw [← Array.forIn_toList]
  exact wpS_b (eqFields_ok (n := 9998) fs.toList 0 ls b hf he (by cases b <;> exact hK))
theorem wEqO_ok {neg : Bool} {t : TypeId} {a b : Value} (h : wEqO P neg t a b fun v => K v H) :
    wpS P (Op.equal t a b) (fun r H' => K (.bool (if neg then !r else r)) H') E H := by
  have unf : ∀ {d : TypeDesc} {c d' : Value} {K' : Bool → Heap → Prop}, P.underlying t = some d →
      wpS P (Op.equal t c d') K' E H = wpS P (Op.equalIn (9999 + 1) t c d') K' E H := fun _ => rfl
  cases a <;> simp only [wEqO] at h <;> try exact h.elim
  case bool x =>
    cases b <;> (try dsimp only at h) <;> try exact h.elim
    cases hu : P.underlying t with
    | none => simp [hu] at h
    | some d =>
      rw [hu] at h
      cases d <;> (try dsimp only at h) <;> try exact h.elim
      rw [unf hu]; unfold Op.equalIn; exact zse hu h
  case pointer p =>
    cases b <;> (try dsimp only at h) <;> try exact h.elim
    rename_i q
    cases q <;> (try dsimp only at h) <;> try exact h.elim
    cases hu : P.underlying t with
    | none => simp [hu] at h
    | some d =>
      rw [hu] at h
      cases d <;> (try dsimp only at h) <;> try exact h.elim
      rw [unf hu]; unfold Op.equalIn; refine zse hu ?_
      cases p <;> exact h
  case slice p n c =>
    cases b <;> (try dsimp only at h) <;> try exact h.elim
    rename_i q _ _
    cases q <;> (try dsimp only at h) <;> try exact h.elim
    cases hu : P.underlying t with
    | none => simp [hu] at h
    | some d =>
      rw [hu] at h
      cases d <;> (try dsimp only at h) <;> try exact h.elim
      rw [unf hu]; unfold Op.equalIn; refine zse hu ?_
      cases p <;> exact h
  case map p =>
    cases b <;> (try dsimp only at h) <;> try exact h.elim
    rename_i q
    cases q <;> (try dsimp only at h) <;> try exact h.elim
    cases hu : P.underlying t with
    | none => simp [hu] at h
    | some d =>
      rw [hu] at h
      cases d <;> (try dsimp only at h) <;> try exact h.elim
      rw [unf hu]; unfold Op.equalIn; refine zse hu ?_
      cases p <;> exact h
  case agg xs =>
    cases b <;> (try dsimp only at h) <;> try exact h.elim
    rename_i ys
    unfold wEqAgg at h
    cases hu : P.underlying t with
    | none => simp [hu] at h
    | some d =>
      rw [hu] at h
      cases d <;> (try dsimp only at h) <;> try exact h.elim
      rename_i fs
      cases hs : P.stoodInHeld t with
      | true => rw [hs, if_pos rfl] at h; exact h.elim
      | false =>
        rw [hs, if_neg (by simp)] at h
        cases hg : P.eqGuardType P.depth t with
        | true => rw [hg, if_pos rfl] at h; exact h.elim
        | false =>
          rw [hg, if_neg (by simp)] at h
          cases hf : flat P fs.toList 0 with
          | none => simp [hf] at h
          | some ls =>
            simp only [hf] at h
            cases hq : eqCells ls xs.toList ys.toList with
            | none => simp [hq] at h
            | some r =>
              simp only [hq] at h
              exact equalAgg_ok hu hs hf hq h
  case iface u x =>
    cases b <;> (try dsimp only at h) <;> try exact h.elim
    cases hu : P.underlying t with
    | none => simp [hu] at h
    | some d =>
      rw [hu] at h
      cases d <;> (try dsimp only at h) <;> try exact h.elim
      rw [unf hu]; unfold Op.equalIn; refine zse hu ?_
      cases neg <;> exact h
  case nilIface =>
    cases b <;> (try dsimp only at h) <;> try exact h.elim
    all_goals
      cases hu : P.underlying t with
      | none => simp [hu] at h
      | some d =>
        rw [hu] at h
        cases d <;> (try dsimp only at h) <;> try exact h.elim
        rw [unf hu]; unfold Op.equalIn; refine zse hu ?_
        cases neg <;> exact h
theorem guard_ok {op : BinOp} {t : TypeId} {x y : Operand} {a b : Value} {α : Type} {f : Unit → Sem α} {K : α → Heap → Prop} (hs : eqSafe x y a b = true)
    (hg : ∀ xs ys, a = .agg xs → b = .agg ys → P.eqGuardType P.depth t = false) (h : wpS P (f ()) K E H) : wpS P (eqGuard op t x y a b >>= f) K E H := by
  refine wpS_b ?_
  have two : wpS P (match a, b with
      | .nilIface, .nilIface => do
        if (x matches .const _) || (y matches .const _) then return
        if ← Op.eqGuardIn Op.maxDepth t a b then unsupported (.noEntry "binop/eql: two nil values of an interface type with methods, neither of them the literal nil")
      | .agg _, .agg _ => do
        if !(← program).eqGuardType (← program).depth t then return
        if ← Op.eqGuardIn Op.maxDepth t a b then unsupported (.noEntry "binop/eql: two nil values of an interface type with methods, in a part of a struct or an array")
      | _, _ => pure ()) (fun u H' => wpS P (f u) K E H') E H := by
    cases a <;> cases b <;> try exact h
    case agg.agg xs ys =>
      dsimp only
      show wpS P (if (!P.eqGuardType P.depth t) = true then _ else _) _ E H
      rw [hg xs ys rfl rfl]
      exact h
    case nilIface.nilIface =>
      cases x <;> cases y <;> first | exact h | (simp [eqSafe, isConstO] at hs; done)
  unfold eqGuard
  cases op <;> first
    | exact h
    | (refine Eq.mp ?_ two; rfl)
theorem wBin_ok {op : BinOp} {t : TypeId} {x y : Operand} {a b : Value} (h : wBin P op t (eqSafe x y a b) a b fun v => K v H) :
    wpS P (do eqGuard op t x y a b; binOp op t a b) K E H := by
  have plain : eqSafe x y a b = true → (∀ xs ys, a = .agg xs → b = .agg ys → P.eqGuardType P.depth t = false) → wpS P (binOp op t a b) K E H → wpS P (do eqGuard op t x y a b; binOp op t a b) K E H :=
    fun h1 h2 h3 => guard_ok h1 h2 h3
  unfold wBin at h
  by_cases hsh : isShift op = true
  · rw [if_pos hsh] at h
    cases a <;> cases b <;> simp only [wShift] at h <;> try exact h.elim
    refine plain rfl (fun _ _ h _ => by cases h) ?_
    cases op <;> simp only [isShift, Bool.false_eq_true] at hsh
    all_goals
      simp only [binOp, Op.shift]
      rw [if_neg (by have := h.1; omega)]
      exact h.2
  · rw [if_neg hsh] at h
    have eqs : wEqs P op t (eqSafe x y a b) a b (fun v => K v H) → (∀ k n, a ≠ .int k n) → (∀ s, a ≠ .string s) → wpS P (do eqGuard op t x y a b; binOp op t a b) K E H := by
      intro h hi hs
      unfold wEqs at h
      cases op <;> try exact h.elim
      all_goals
        dsimp only at h
        cases he : eqSafe x y a b with
        | false => rw [he, if_neg (by simp)] at h; exact h.elim
        | true =>
          rw [he, if_pos rfl] at h
          refine plain he (fun xs ys ha hb => ?_) ?_
          · subst ha; subst hb
            simp only [wEqO, wEqAgg] at h
            cases hg : P.eqGuardType P.depth t with
            | false => rfl
            | true =>
              rw [hg] at h
              exfalso
              revert h
              cases P.underlying t with
              | none => exact id
              | some d => cases d <;> simp
          · have := wEqO_ok (E := E) h
            cases a <;> cases b <;> first
              | exact absurd rfl (hi _ _)
              | exact absurd rfl (hs _)
              | exact wpS_b this
              | (simp only [wEqO] at h; done)
    cases a with
    | int k m =>
      cases b <;> simp only [wBin2] at h <;> try exact h.elim
      rename_i k' n
      by_cases hk : k = k'
      · rw [if_pos hk] at h
        subst hk
        exact plain rfl (fun _ _ h _ => by cases h) (wInt_ok h)
      · rw [if_neg hk] at h; exact h.elim
    | string s =>
      cases b <;> simp only [wBin2] at h <;> try exact h.elim
      exact plain rfl (fun _ _ h _ => by cases h) (wStr_ok h)
    | _ => exact eqs h (fun _ _ h => by cases h) (fun _ h => by cases h)
end
end Go.Sh
