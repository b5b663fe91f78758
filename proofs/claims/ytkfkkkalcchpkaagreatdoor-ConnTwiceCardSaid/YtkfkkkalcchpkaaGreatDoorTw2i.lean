/- A packet that comes once more changes nothing (part 9 of the walk and its laws) -/
import Derived.Test.YtkfkkkalcchpkaaGreatDoorTw2h
namespace Go.Sh
def rd? (P : Program) {α : Type} : Sem α → Heap → Option α
  | .pure a, _ => some a
  | .load _ a k, H => match H.cell? a with
    | some v => rd? P (k v) H
    | none => none
  | .program k, H => rd? P (k P) H
  | .mark _ k, H => rd? P k H
  | _, _ => none
theorem rd?_run {P : Program} {α : Type} {H : Heap} {w : World} {v : α} (hS : Sub H w) (s : Sem α) : rd? P s H = some v → s.run P w = .ok v w := by
  induction s with
  | pure a => intro h; simp only [rd?, Option.some.injEq] at h; subst h; rfl
  | load m a k ih =>
    intro h
    simp only [rd?] at h
    cases hc : H.cell? a with
    | none => simp [hc] at h
    | some u =>
      rw [hc] at h
      simp only [Sem.run, hS.cell hc]
      exact ih u h
  | program k ih => intro h; simp only [Sem.run]; exact ih _ h
  | mark m k ih => intro h; simp only [Sem.run]; exact ih h
  | _ => intro h; simp [rd?] at h
theorem rd?_bind {P : Program} {α β : Type} {H : Heap} (s : Sem α) (f : α → Sem β) : rd? P (s >>= f) H = (rd? P s H).bind fun a => rd? P (f a) H := by
  show rd? P (s.bind f) H = _
  induction s with
  | pure a => rfl
  | load m a k ih =>
    simp only [rd?, Sem.bind]
    cases hc : H.cell? a with
    | none => rfl
    | some u => exact ih u
  | program k ih => simp only [rd?, Sem.bind]; exact ih _
  | mark m k ih => simp only [rd?, Sem.bind]; exact ih
  | _ => rfl
theorem rd?_underlying {P : Program} {t : TypeId} {d : TypeDesc} {H : Heap} (h : P.underlying t = some d) : rd? P (underlying t) H = some d := by
  show rd? P (Sem.program fun p => (match p.underlying t with | some d => pure d | none => stuck "no such type" : Sem TypeDesc)) H = _
  simp only [rd?, h]
  rfl
theorem rd?_size {P : Program} {t : TypeId} {H : Heap} (h : (P.info? t).isSome = true) : rd? P (sizeOf t) H = some (P.cellsOf t) := by
  obtain ⟨i, hi⟩ := Option.isSome_iff_exists.1 h
  have e : P.cellsOf t = i.size := by simp [Program.cellsOf, hi]
  show rd? P (typeInfo t >>= fun i => pure i.size) H = _
  rw [rd?_bind]
  have : rd? P (typeInfo t) H = some i := by
    show rd? P (Sem.program fun p => (match p.info? t with | some d => pure d | none => stuck "no such type" : Sem TypeInfo)) H = _
    simp only [rd?, hi]
    rfl
  rw [this, e]
  rfl
theorem rd?_load {P : Program} {a : Addr} {v : Value} {H : Heap} (h : H.cell? a = some v) : rd? P (load a) H = some v := by
  show rd? P (Sem.load .plain a Sem.pure) H = _
  simp only [rd?, h]
theorem rd?_cells {P : Program} {a : Addr} {H : Heap} : ∀ (cs : List Value) (i : Nat) (acc : Array Value), (∀ (j : Nat) (v : Value), cs[j]? = some v → H.cell? (a.add (i + j)) = some v) →
    rd? P (loadCellsFrom a i cs.length acc) H = some (acc ++ cs.toArray) := by
  intro cs
  induction cs with
  | nil => intro i acc _; show some acc = _; simp
  | cons c cs ih =>
    intro i acc h
    show rd? P (load (a.add i) >>= fun v => loadCellsFrom a (i + 1) cs.length (acc.push v)) H = _
    have h0 : H.cell? (a.add i) = some c := h 0 c rfl
    rw [rd?_bind, rd?_load h0]
    show rd? P (loadCellsFrom a (i + 1) cs.length (acc.push c)) H = _
    rw [ih (i + 1) (acc.push c) fun j v hj => by
      have := h (j + 1) v (by simpa using hj)
      rw [show i + 1 + j = i + (j + 1) by omega]
      exact this]
    simp
theorem ldVar_rd {P : Program} {t : TypeId} {a : Addr} {K : Value → Prop} {H : Heap} (h : ldVar P H t a K) : ∃ v, rd? P (loadVar t a) H = some v ∧ K v := by
  unfold ldVar at h
  unfold loadVar
  cases hu : P.underlying t with
  | none => simp [hu] at h
  | some d =>
    rw [hu] at h
    have hag : rd? P (isAgg t) H = some (isAggD d) := by
      unfold isAgg
      rw [rd?_bind, rd?_underlying hu]
      cases d <;> rfl
    rw [rd?_bind, hag, Option.bind_some]
    have one : isAggD d = false → (∃ v, H.cell? a = some v ∧ K v) → ∃ v, rd? P (if isAggD d = true then (do pure (.agg (← loadCells a (← sizeOf t)))) else load a) H = some v ∧ K v := by
      rintro hd ⟨v, hv, hk⟩
      rw [hd]
      exact ⟨v, rd?_load hv, hk⟩
    have agg : isAggD d = true → (∃ cs : List Value, cs.length = P.cellsOf t ∧ (∀ (i : Nat) (v : Value), cs[i]? = some v → H.cell? (a.add i) = some v) ∧ K (.agg cs.toArray)) →
        ∃ v, rd? P (if isAggD d = true then (do pure (.agg (← loadCells a (← sizeOf t)))) else load a) H = some v ∧ K v := by
      rintro hd ⟨cs, h1, h2, h3⟩
      rw [hd, if_pos rfl]
      refine ⟨.agg cs.toArray, ?_, h3⟩
      rw [rd?_bind, rd?_size (zbf hu), Option.bind_some, rd?_bind, ← h1]
      show (rd? P (loadCellsFrom a 0 cs.length #[]) H).bind _ = _
      rw [rd?_cells cs 0 #[] fun j v hj => by rw [Nat.zero_add]; exact h2 j v hj]
      show some (Value.agg (#[] ++ cs.toArray)) = _
      simp
    have sagg : isAggD d = true → ldAgg P H t a K → ∃ v, rd? P (if isAggD d = true then (do pure (.agg (← loadCells a (← sizeOf t)))) else load a) H = some v ∧ K v := by
      intro hd h
      unfold ldAgg at h
      cases hl : leaves P 8 t with
      | none => simp [hl] at h
      | some ls =>
        simp only [hl] at h
        by_cases he : ls.length = P.cellsOf t
        · rw [if_pos he] at h
          obtain ⟨cs, h1, h2, h3⟩ := ldLeaves_elim ls 0 [] h
          exact agg hd ⟨cs, h1.trans he, fun i v hi => by have := h2 i v hi; rwa [Nat.zero_add] at this, by simpa using h3⟩
        · rw [if_neg he] at h; exact h.elim
    cases d with
    | struct fs => exact sagg rfl h
    | array n e =>
      dsimp only at h
      by_cases hn : n ≤ 16
      · rw [if_pos hn] at h; exact sagg rfl h
      · rw [if_neg hn] at h; exact agg rfl h
    | int k => exact one rfl (zyc h)
    | bool => exact one rfl (zyc h)
    | string => exact one rfl (zyc h)
    | pointer e => exact one rfl (zyc h)
    | slice e => exact one rfl (zyc h)
    | map k e => exact one rfl (zyc h)
    | func ps rs v => exact one rfl (zyc h)
    | interface ms => exact one rfl (zyc h)
    | _ => exact h.elim
def mkF (len : Nat) (l : List (Nat × Value)) : Fr := l.foldl (fun fr p => fr.set p.1 (some p.2)) (List.replicate len none)
def keep (ks : List Nat) (fr : Fr) : Fr := ks.foldl (fun acc k => acc.set k (fr.getD k none)) (List.replicate fr.length none)
theorem replicate_getD (n t : Nat) : (List.replicate n (none : Option Value)).getD t none = none := by
  rw [List.getD_eq_getElem?_getD, List.getElem?_replicate]; split <;> rfl
theorem mk_get : ∀ (l : List (Nat × Value)) (fr0 : Fr) (t : Nat) (v : Value), (l.foldl (fun fr p => fr.set p.1 (some p.2)) fr0).getD t none = some v →
    (∃ p ∈ l, p.1 = t ∧ p.2 = v) ∨ fr0.getD t none = some v := by
  intro l
  induction l with
  | nil => intro fr0 t v h; exact .inr h
  | cons p l ih =>
    intro fr0 t v h
    rcases ih _ t v h with ⟨q, hq, h1, h2⟩ | h1
    · exact .inl ⟨q, by simp [hq], h1, h2⟩
    · by_cases e : p.1 = t
      · subst e
        rw [getD_set_self] at h1
        split at h1
        · exact .inl ⟨p, by simp, rfl, Option.some.inj h1⟩
        · cases h1
      · rw [getD_set_ne' _ _ e] at h1
        exact .inr h1
theorem fold_len {α : Type} (f : Fr → α → Fr) (hf : ∀ fr x, (f fr x).length = fr.length) : ∀ (l : List α) (fr0 : Fr), (l.foldl f fr0).length = fr0.length := by
  intro l
  induction l with
  | nil => intro fr0; rfl
  | cons x l ih => intro fr0; rw [List.foldl_cons, ih, hf]
theorem R.mk {Ds : Fx} {fr : Fr} {a : Act} {len : Nat} {l : List (Nat × Value)} (h : R Ds fr a) (hl : len ≤ fr.length) (hv : ∀ p ∈ l, fr.getD p.1 none = some p.2) : R Ds (mkF len l) a := by
  refine ⟨h.1, ?_, fun t v ht => ?_⟩
  · unfold Sh.mkF
    rw [fold_len _ (fun fr x => List.length_set), List.length_replicate]
    exact Nat.le_trans hl h.2.1
  · rcases mk_get l _ t v ht with ⟨p, hp, h1, h2⟩ | h1
    · subst h1; subst h2; exact h.2.2 _ _ (hv p hp)
    · rw [replicate_getD] at h1; cases h1
theorem keep_get (fr : Fr) : ∀ (ks : List Nat) (fr0 : Fr) (t : Nat) (v : Value), (ks.foldl (fun acc k => acc.set k (fr.getD k none)) fr0).getD t none = some v →
    fr.getD t none = some v ∨ fr0.getD t none = some v := by
  intro ks
  induction ks with
  | nil => intro fr0 t v h; exact .inr h
  | cons k ks ih =>
    intro fr0 t v h
    rcases ih _ t v h with h1 | h1
    · exact .inl h1
    · by_cases e : k = t
      · subst e
        rw [getD_set_self] at h1
        split at h1
        · exact .inl h1
        · cases h1
      · rw [getD_set_ne' _ _ e] at h1
        exact .inr h1
theorem R.keep {Ds : Fx} {fr : Fr} {a : Act} (h : R Ds fr a) (ks : List Nat) : R Ds (keep ks fr) a := by
  refine ⟨h.1, ?_, fun t v ht => ?_⟩
  · unfold Sh.keep
    rw [fold_len _ (fun fr x => List.length_set), List.length_replicate]
    exact h.2.1
  · rcases keep_get fr ks _ t v ht with h1 | h1
    · exact h.2.2 _ _ h1
    · rw [replicate_getD] at h1; cases h1
def lenIs (n : Nat) (fr : Fr) (K : Prop) : Prop := if fr.length = n then K else False
theorem zga {n : Nat} {fr : Fr} {K : Prop} (h : lenIs n fr K) : fr.length = n ∧ K := by
  unfold lenIs at h; split at h
  · rename_i e; exact ⟨e, h⟩
  · exact h.elim
def slI (fr : Fr) (t : Nat) (k : IntKind) (K : Int → Prop) : Prop :=
  match fr.getD t none with
  | some (.int k' n) => if k' = k then K n else False
  | _ => False
def slB (fr : Fr) (t : Nat) (K : Bool → Prop) : Prop :=
  match fr.getD t none with
  | some (.bool n) => K n
  | _ => False
def slS (fr : Fr) (t : Nat) (K : ByteArray → Prop) : Prop :=
  match fr.getD t none with
  | some (.string n) => K n
  | _ => False
def slP (fr : Fr) (t : Nat) (K : Option Addr → Prop) : Prop :=
  match fr.getD t none with
  | some (.pointer n) => K n
  | _ => False
def slSl (fr : Fr) (t : Nat) (K : Option Addr → Nat → Nat → Prop) : Prop :=
  match fr.getD t none with
  | some (.slice a n c) => K a n c
  | _ => False
theorem zfa {fr : Fr} {t : Nat} {k : IntKind} {K : Int → Prop} (h : slI fr t k K) : ∃ n, fr.getD t none = some (.int k n) ∧ K n := by
  unfold slI at h
  cases e : fr.getD t none with
  | none => rw [e] at h; exact h.elim
  | some v =>
    rw [e] at h
    cases v <;> simp only at h <;> try exact h.elim
    split at h
    · rename_i hk; subst hk; exact ⟨_, rfl, h⟩
    · exact h.elim
theorem zwa {fr : Fr} {t : Nat} {K : Bool → Prop} (h : slB fr t K) : ∃ n, fr.getD t none = some (.bool n) ∧ K n := by
  unfold slB at h
  cases e : fr.getD t none with
  | none => rw [e] at h; exact h.elim
  | some v => rw [e] at h; cases v <;> simp only at h <;> first | exact ⟨_, rfl, h⟩ | exact h.elim
theorem zfb {fr : Fr} {t : Nat} {K : ByteArray → Prop} (h : slS fr t K) : ∃ n, fr.getD t none = some (.string n) ∧ K n := by
  unfold slS at h
  cases e : fr.getD t none with
  | none => rw [e] at h; exact h.elim
  | some v => rw [e] at h; cases v <;> simp only at h <;> first | exact ⟨_, rfl, h⟩ | exact h.elim
theorem zja {fr : Fr} {t : Nat} {K : Option Addr → Prop} (h : slP fr t K) : ∃ n, fr.getD t none = some (.pointer n) ∧ K n := by
  unfold slP at h
  cases e : fr.getD t none with
  | none => rw [e] at h; exact h.elim
  | some v => rw [e] at h; cases v <;> simp only at h <;> first | exact ⟨_, rfl, h⟩ | exact h.elim
theorem zta {fr : Fr} {t : Nat} {K : Option Addr → Nat → Nat → Prop} (h : slSl fr t K) : ∃ a n c, fr.getD t none = some (.slice a n c) ∧ K a n c := by
  unfold slSl at h
  cases e : fr.getD t none with
  | none => rw [e] at h; exact h.elim
  | some v => rw [e] at h; cases v <;> simp only at h <;> first | exact ⟨_, _, _, rfl, h⟩ | exact h.elim
def keepT (kn kr : List Nat) (kx : Nat → List Nat) (A : CT) : CT := fun Q E fr H =>
  A (fun e fr' H' => match e with | .normal => Q .normal (keep kn fr') H' | .exit id => Q (.exit id) (keep (kx id) fr') H' | .ret => Q .ret (keep kr fr') H') E fr H
section
variable {P : Program} {Γ : FuncId → Option FT}
theorem zea {c : Code} {A : CT} (kn kr : List Nat) (kx : Nat → List Nat) (h : zaa P c A) : zaa P c (keepT kn kr kx A) := by
  intro ro nf Ds Q QA E fr H a w hnp hg hR hS hk
  refine h ro nf Ds _ _ E fr H a w hnp ⟨?_, hg.pan⟩ hR hS hk
  intro e fr' H' a' w' h1 h2 h3 h4
  cases e with
  | normal => exact hg.ends .normal _ H' a' w' (h1.keep kn) h2 h3 h4
  | exit id => exact hg.ends (.exit id) _ H' a' w' (h1.keep (kx id)) h2 h3 h4
  | ret => exact hg.ends .ret _ H' a' w' (h1.keep kr) h2 h3 h4
theorem consQ {α : Type} {p : α → Prop} {a : α} {l : List α} (h : p a) (t : ∀ x ∈ l, p x) : ∀ x ∈ a :: l, p x := List.forall_mem_cons.2 ⟨h, t⟩
theorem nilQ {α : Type} {p : α → Prop} : ∀ x ∈ ([] : List α), p x := fun _ h => nomatch h
theorem zda {c : Code} {A T : CT} (h : zaa P c A) (hT : ∀ Q E fr H, T Q E fr H → ∃ fr0, (∀ {Ds : Fx} (a : Act), R Ds fr a → R Ds fr0 a) ∧ A Q E fr0 H) : zaa P c T := by
  intro ro nf Ds Q QA E fr H a w hnp hg hR hS hk
  obtain ⟨fr0, h1, h2⟩ := hT QA E fr H hk
  exact h ro nf Ds Q QA E fr0 H a w hnp hg (h1 a hR) hS h2
def loopN (A : CT) : Nat → CT
  | 0 => fun _ _ _ _ => False
  | n + 1 => fun Q E fr H => A (fun e fr' H' => match e with | .normal => loopN A n Q E fr' H' | .exit id => Q (.exit id) fr' H' | .ret => Q .ret fr' H') E fr H
theorem zqa {c : Code} {A : CT} (h : zaa P c A) : zaa P (.loop c) (fun Q E fr H => ∃ n, loopN A n Q E fr H) := by
  intro ro nf Ds Q QA E fr H a w hnp hg hR hS hk b k cs hro hb0 hr0
  obtain ⟨n, hk⟩ := hk
  have key : ∀ n fr H a w, Good Ds Q QA E H w → R Ds fr a → Sub H w → loopN A n QA E fr H →
      ∃ e a' w', Q e a' w' ∧ ArrivesIn (Machine.fenced P (wideR ro)) P (lone (b.atR a (.code c :: .inLoop c :: k)) cs w) b k cs e a' w' := by
    intro n
    induction n with
    | zero => intro fr H a w _ _ _ h; exact h.elim
    | succ n ih =>
      intro fr H a w hg hR hS hk
      have hb := h ro nf Ds (Exit.then (fun a' w' => ∃ e a2 w2, Q e a2 w2 ∧ ArrivesIn (Machine.fenced P (wideR ro)) P (lone (b.atR a' (.code c :: .inLoop c :: k)) cs w') b k cs e a2 w2) Q) _ E fr H a w hnp ⟨?_, ?_⟩ hR hS hk
      · obtain ⟨e, a₁, w₁, hq, harr⟩ := hb b (.inLoop c :: k) cs hro hb0 hr0
        cases e with
        | normal =>
          obtain ⟨e₂, a₂, w₂, hq₂, harr₂⟩ := hq
          exact ⟨e₂, a₂, w₂, hq₂, .of_steps (StepsIn.trans harr (.one (fenced_calm hb0 hr0 rfl) stepR_inLoop)) harr₂⟩
        | exit id => exact ⟨_, a₁, w₁, hq, .pass (x := .inLoop c) rfl (fun _ _ => .inl (by simp)) harr⟩
        | goto l => exact ⟨_, a₁, w₁, hq, .pass (x := .inLoop c) rfl (fun _ _ => .inl (by simp)) harr⟩
        | ret => exact ⟨_, a₁, w₁, hq, .pass (x := .inLoop c) rfl (fun _ _ => .inl (by simp)) harr⟩
        | panic ch => exact ⟨_, a₁, w₁, hq, .pass (x := .inLoop c) rfl (fun _ _ => .inl (by simp)) harr⟩
        | outgrown => exact ⟨_, a₁, w₁, hq, .pass (x := .inLoop c) rfl (fun _ _ => .inl (by simp)) harr⟩
      · intro e fr' H' a' w' h1 h2 h3 h4
        cases e with
        | normal => exact ih fr' H' a' w' (hg.later h3) h1 h2 h4
        | exit id => exact hg.ends (.exit id) fr' H' a' w' h1 h2 h3 h4
        | ret => exact hg.ends .ret fr' H' a' w' h1 h2 h3 h4
      · intro v H' a' w' h1 h2 h3 h4
        exact hg.pan v H' a' w' h1 h2 h3 h4
  obtain ⟨e, a', w', hq, harr⟩ := key n fr H a w hg hR hS hk
  exact ⟨e, a', w', hq, .of_steps (.one (fenced_calm hb0 hr0 rfl) stepR_loop) harr⟩
def loopS {σ : Type} (B : (σ → Heap → Prop) → σ → Heap → Prop) : Nat → σ → Heap → Prop
  | 0, _, _ => False
  | n + 1, s, H => B (fun s' H' => loopS B n s' H') s H
def Loop {σ : Type} (B : (σ → Heap → Prop) → σ → Heap → Prop) (s : σ) (H : Heap) : Prop := ∃ n, loopS B n s H
theorem zib {σ : Type} {B : (σ → Heap → Prop) → σ → Heap → Prop} {A : CT} {m : σ → Fr} {Q : Ex → Fr → Heap → Prop} {E : Value → Heap → Prop}
    (h : ∀ (RR : Fr → Heap → Prop) (s : σ) (H : Heap), B (fun s' H' => RR (m s') H') s H = A (fun e fr' H' => match e with | .normal => RR fr' H' | .exit id => Q (.exit id) fr' H' | .ret => Q .ret fr' H') E (m s) H) :
    ∀ n s H, loopS B n s H = loopN A n Q E (m s) H := by
  intro n
  induction n with
  | zero => intro s H; rfl
  | succ n ih =>
    intro s H
    show B (fun s' H' => loopS B n s' H') s H = A _ E (m s) H
    rw [← h (fun fr' H' => loopN A n Q E fr' H') s H]
    congr 1
    funext s' H'
    exact ih s' H'
def resW (P : Program) (fr : Fr) (H : Heap) : List ResultVar → List Value → (Value → Prop) → Prop
  | [], acc, K => match acc with
    | [v] => K v
    | vs => K (.tuple vs.reverse.toArray)
  | .tmp t :: rs, acc, K => with1 (fr.getD t none) fun v => resW P fr H rs (v :: acc) K
  | .cell a t :: rs, acc, K => with1 (fr.getD a none) fun p => wLoad P t p (fun v => resW P fr H rs (v :: acc) K) H
def Fg (K : Value → Heap → Prop) (v : Value) (H : Heap) : Prop := ∃ H', Heap.Le H' H ∧ K v H'
theorem Fg.same {K : Value → Heap → Prop} {v : Value} {H : Heap} (h : K v H) : Fg K v H := ⟨H, Heap.Le.refl H, h⟩
def fnT (P : Program) (fn : Func) (T : CT) (args : List Value) (K E : Value → Heap → Prop) (H : Heap) : Prop :=
  T (fun e fr H' => match e with
    | .normal => resW P fr H' fn.results.toList [] fun v => K v H'
    | .ret => resW P fr H' fn.results.toList [] fun v => K v H'
    | .exit _ => False) E (args.map some ++ List.replicate (fn.ntmps - args.length) none) H
def resF (tmps : Array Value) : ResultVar → Sem Value
  | .tmp t => pure (tmps.getD t undef)
  | .cell a t => do loadVar t (← asAddr (tmps.getD a undef))
theorem resW_run {Ds : Fx} {fr : Fr} {H : Heap} {a : Act} {w : World} (hR : R Ds fr a) (hS : Sub H w) : ∀ (rs : List ResultVar) (acc : List Value) (K : Value → Prop), resW P fr H rs acc K →
    ∃ vs : List Value, (rs.mapM (resF a.tmps)).run P w = .ok vs w ∧ K (match (acc.reverse ++ vs) with | [v] => v | xs => .tuple xs.toArray) := by
  intro rs
  induction rs with
  | nil =>
    intro acc K h
    refine ⟨[], rfl, ?_⟩
    rw [List.append_nil]
    match acc, h with
    | [], h => exact h
    | [v], h => exact h
    | x :: y :: zs, h =>
      have : ∀ l : List Value, l.length ≥ 2 → K (.tuple l.toArray) → K (match l with | [v] => v | xs => .tuple xs.toArray) := by
        intro l hl hk
        match l, hl with
        | _ :: _ :: _, _ => exact hk
      exact this _ (by simp) h
  | cons r rs ih =>
    intro acc K h
    cases r with
    | tmp t =>
      obtain ⟨v, hv, hk⟩ := zsa h
      obtain ⟨vs, h1, h2⟩ := ih (v :: acc) K hk
      have ht := hR.2.2 t v hv
      refine ⟨v :: vs, ?_, by simpa using h2⟩
      rw [List.mapM_cons]
      have e : resF a.tmps (.tmp t) = pure v := by simp [resF, ht]
      rw [e]
      simp only [Sem.run_bind, Sem.run_pure, Result.andThen_ok, h1]
    | cell x t =>
      obtain ⟨p, hp, hk⟩ := zsa h
      have hx := hR.2.2 x p hp
      match p, hk, hx with
      | .pointer (some ad), hk, hx =>
        have hk : ldVar P H t ad (fun v => resW P fr H rs (v :: acc) K) := hk
        obtain ⟨v, hv, hk⟩ := ldVar_rd hk
        obtain ⟨vs, h1, h2⟩ := ih (v :: acc) K hk
        refine ⟨v :: vs, ?_, by simpa using h2⟩
        rw [List.mapM_cons]
        have e : resF a.tmps (.cell x t) = loadVar t ad := by
          simp only [resF, Array.getD_eq_getD_getElem?, hx, Option.getD_some]
          rfl
        rw [e]
        simp only [Sem.run_bind, rd?_run hS _ hv, Result.andThen_ok, h1, Sem.run_pure]
theorem results_run {Ds : Fx} {fn : Func} {fr : Fr} {H : Heap} {a : Act} {w : World} {K : Value → Prop} (hR : R Ds fr a) (hS : Sub H w) (h : resW P fr H fn.results.toList [] K) :
    ∃ v, (results fn a.tmps).run P w = .ok v w ∧ K v := by
  obtain ⟨vs, h1, h2⟩ := resW_run hR hS _ _ _ h
  rw [List.reverse_nil, List.nil_append] at h2
  have e : (fn.results.mapM (resF a.tmps)).run P w = .ok vs.toArray w := by
    rw [Array.mapM_eq_mapM_toList]
    show (fn.results.toList.mapM (resF a.tmps) >>= fun l => pure l.toArray : Sem (Array Value)).run P w = _
    simp only [Sem.run_bind, h1, Result.andThen_ok, Sem.run_pure]
  have e' : (results fn a.tmps).run P w = (fn.results.mapM (resF a.tmps) >>= fun vs => pure (if h : vs.size = 1 then vs[0] else .tuple vs) : Sem Value).run P w := by
    unfold results
    congr 2
  rw [e', Sem.run_bind, e, Result.andThen_ok, Sem.run_pure]
  refine ⟨_, rfl, ?_⟩
  match vs, h2 with
  | [], h2 => exact h2
  | [v], h2 => exact h2
  | x :: y :: zs, h2 =>
    rw [dif_neg (by simp)]
    exact h2
theorem zia (hΓ : ∀ f F, Γ f = some F → zca P f F) {f : FuncId} {fn : Func} {c : Code} {T : CT} {F : FT} (hf : P.funcs[f]? = some fn) (hb : fn.body = some c) (hn : (fn.name == "runtime.NumGoroutine") = false)
    (hT : zaa P c T) (hF : ∀ args K E H, F args K E H → fnT P fn T args (Fg K) E H) : zca P f F := by
  intro args K E H w hS h
  have hk := hF args K E H h
  have hr : (callFunc f args.toArray).run P w = .ok (.enter f args.toArray) w := by
    have hbody : fn.body.isNone = false := by rw [hb]; rfl
    show (match P.funcs[f]? with | none => stuck "call: no such function" | some fn => _ : Sem Next).run P w = _
    rw [hf]
    simp only [hn, hbody, Bool.false_eq_true, if_false]
    rfl
  rw [hr]
  refine calls_of_wp hf hb ?_
  refine (wpIn_wide (n := 0)).1 (hT none 0 (Fx.of []) _ _ E _ H _ w (NoPin.none c) ⟨?_, ?_⟩ ?_ hS hk)
  · intro e fr' H' a' w' h1 h2 h3 h4
    have fin : resW P fr' H' fn.results.toList [] (fun v => Fg K v H') → a'.defers = [] ∧ ∃ v, (results fn a'.tmps).run P w' = .ok v w' ∧
        (∃ H'', Sub H'' w' ∧ Ext H w H'' w' ∧ K v H'') := by
      intro hres
      obtain ⟨v, hv, H'', hle, hK⟩ := results_run h1 h2 hres
      exact ⟨h1.1.1, v, hv, H'', h2.of_le hle, h3.of_le hle, hK⟩
    cases e with
    | normal => exact fin h4
    | ret => exact fin h4
    | exit id => exact h4.elim
  · intro v H' a' w' h1 h2 h3 h4
    exact ⟨h1.1, v, H', rfl, h2, h3, h4⟩
  · refine ⟨⟨rfl, fun _ _ e => by cases e⟩, ?_, fun t v ht => ?_⟩
    · simp
    · rw [List.getD_eq_getElem?_getD] at ht
      show (args.toArray ++ Array.replicate (fn.ntmps - args.toArray.size) undef)[t]? = some v
      by_cases hl : t < args.length
      · rw [List.getElem?_append_left (by simpa using hl)] at ht
        rw [Array.getElem?_append, if_pos (by simpa using hl)]
        simpa [List.getElem?_map, hl] using ht
      · rw [List.getElem?_append_right (by simpa using hl), List.getElem?_replicate] at ht
        split at ht <;> cases ht
end
end Go.Sh
