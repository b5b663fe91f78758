/- A packet that comes once more changes nothing (part 14 of the walk and its laws) -/
import Derived.Test.YtkfkkkalcchpkaaGreatDoorTw2m
import Derived.Scope
namespace Go.Sh
inductive Plan where
  | go
  | use (T : CT)
  | seq (a b : Plan)
  | cond (a b : Plan)
  | block (a : Plan)
  | scope (a : Plan)
  | draw (p : DPlan)
def seqT (A B : CT) : CT := fun Q E fr H => A (fun e fr' H' => match e with | .normal => B Q E fr' H' | .exit id => Q (.exit id) fr' H' | .ret => Q .ret fr' H') E fr H
def condT (c : Operand) (A B : CT) : CT := fun Q E fr H =>
  match ev fr c with
  | some (.bool t) => if t = true then A Q E fr H else B Q E fr H
  | _ => False
def blockT (id : Nat) (A : CT) : CT := fun Q E fr H => A (fun e fr' H' => match e with | .normal => Q .normal fr' H' | .exit i => if i = id then Q .normal fr' H' else Q (.exit i) fr' H' | .ret => Q .ret fr' H') E fr H
def wC (P : Program) (Γ : FuncId → Option FT) : Plan → Code → CT
  | .use T, _ => T
  | .seq p q, .seq a b => seqT (wC P Γ p a) (wC P Γ q b)
  | .cond p q, .cond c a b => condT c (wC P Γ p a) (wC P Γ q b)
  | .block p, .block id a => blockT id (wC P Γ p a)
  | .scope p, .scope a => wC P Γ p a
  | .draw p, .region _ ops true => fun Q E fr H => if drawOk P ops p = true then wDraw P Γ ops p E (fun fr' H' => Q .normal fr' H') fr H else False
  | .go, .skip => fun Q _ fr H => Q .normal fr H
  | .go, .label _ => fun Q _ fr H => Q .normal fr H
  | .go, .ret => fun Q _ fr H => Q .ret fr H
  | .go, .exit id => fun Q _ fr H => Q (.exit id) fr H
  | .go, .region _ ops false => fun Q E fr H => wReg P Γ ops E (fun fr' H' => Q .normal fr' H') ops.toList fr H
  | .go, .seq a b => seqT (wC P Γ .go a) (wC P Γ .go b)
  | .go, .cond c a b => condT c (wC P Γ .go a) (wC P Γ .go b)
  | .go, .block id a => blockT id (wC P Γ .go a)
  | .go, .scope a => wC P Γ .go a
  | _, _ => fun _ _ _ _ => False
def PlanOk (P : Program) : Plan → Code → Prop
  | .use T, c => zaa P c T
  | .seq p q, .seq a b => PlanOk P p a ∧ PlanOk P q b
  | .cond p q, .cond _ a b => PlanOk P p a ∧ PlanOk P q b
  | .block p, .block _ a => PlanOk P p a
  | .scope p, .scope a => PlanOk P p a
  | _, _ => True
section
variable {P : Program} {Γ : FuncId → Option FT}
theorem seqT_sound {x y : Code} {A B : CT} (hA : zaa P x A) (hB : zaa P y B) : zaa P (.seq x y) (seqT A B) := by
  intro ro nf Ds Q QA E fr H a w hnp hg hR hS h
  refine wpIn_seq (hA ro nf Ds _ _ E fr H a w hnp.1 ⟨?_, ?_⟩ hR hS h)
  · intro e fr' H' a' w' h1 h2 h3 h4
    cases e with
    | normal => exact hB ro nf Ds Q QA E fr' H' a' w' hnp.2 (hg.later h3) h1 h2 h4
    | exit id => exact hg.ends (.exit id) fr' H' a' w' h1 h2 h3 h4
    | ret => exact hg.ends .ret fr' H' a' w' h1 h2 h3 h4
  · intro v H' a' w' h1 h2 h3 h4
    exact hg.pan v H' a' w' h1 h2 h3 h4
theorem condT_sound {c : Operand} {x y : Code} {A B : CT} (hA : zaa P x A) (hB : zaa P y B) : zaa P (.cond c x y) (condT c A B) := by
  intro ro nf Ds Q QA E fr H a w hnp hg hR hS h
  unfold condT at h
  cases hc : ev fr c with
  | none => simp [hc] at h
  | some v =>
    rw [hc] at h
    cases v <;> simp only at h <;> try exact h.elim
    rename_i t
    have he := hR.eval hc
    split at h
    · rename_i ht; subst ht; exact wpIn_cond_true he (hA ro nf Ds Q QA E fr H a w hnp.1 hg hR hS h)
    · rename_i ht
      have ht : t = false := by simpa using ht
      subst ht
      exact wpIn_cond_false he (hB ro nf Ds Q QA E fr H a w hnp.2 hg hR hS h)
theorem blockT_sound {id : Nat} {x : Code} {A : CT} (hA : zaa P x A) : zaa P (.block id x) (blockT id A) := by
  intro ro nf Ds Q QA E fr H a w hnp hg hR hS h
  refine wpIn_block (hA ro nf Ds _ _ E fr H a w hnp ⟨?_, ?_⟩ hR hS h)
  · intro e fr' H' a' w' h1 h2 h3 h4
    cases e with
    | normal => exact hg.ends .normal fr' H' a' w' h1 h2 h3 h4
    | exit i =>
      dsimp only at h4
      simp only [Ex.toExit, Exit.inBlock]
      split
      · rename_i hi; rw [if_pos hi] at h4; exact hg.ends .normal fr' H' a' w' h1 h2 h3 h4
      · rename_i hi; rw [if_neg hi] at h4; exact hg.ends (.exit i) fr' H' a' w' h1 h2 h3 h4
    | ret => exact hg.ends .ret fr' H' a' w' h1 h2 h3 h4
  · intro v H' a' w' h1 h2 h3 h4
    exact hg.pan v H' a' w' h1 h2 h3 h4
theorem stepR_scope {b : Frame} {a : Act} {k : List Item} {cs : List Frame} {w : World} {c : Code} : step P (lone (b.atR a (.code (.scope c) :: k)) cs w) = .next (lone (b.atR a (.code c :: .inScope c :: k)) cs w) :=
  step_lone_go (by simp [_root_.Go.stepG, _root_.Go.stepG.exec, Frame.atR])
theorem stepR_inScope {b : Frame} {a : Act} {k : List Item} {cs : List Frame} {w : World} {c : Code} : step P (lone (b.atR a (.inScope c :: k)) cs w) = .next (lone (b.atR a k) cs w) :=
  step_lone_go (by simp [_root_.Go.stepG, _root_.Go.stepG.exec, Frame.atR])
theorem wpIn_scope_straight {F : Fence} {n : Nat} {Q : Exit → Act → World → Prop} {a : Act} {w : World} {c : Code} (h : c.wpIn F n P (Exit.noGoto Q) a w) : (Code.scope c).wpIn F n P Q a w := by
  intro b k cs hro hb hr
  obtain ⟨e, a₁, w₁, hq, harr⟩ := h b (.inScope c :: k) cs hro hb hr
  cases e with
  | normal => exact ⟨.normal, a₁, w₁, hq, .head (fenced_calm hb hr rfl) stepR_scope (StepsIn.trans harr (.one (fenced_calm hb hr rfl) stepR_inScope))⟩
  | exit id => exact ⟨.exit id, a₁, w₁, hq, fun k' hk => .head (fenced_calm hb hr rfl) stepR_scope (harr.1 k' (by simp [exitTo, hk])), fun hr' hk => let ⟨k₁, h1, h2⟩ := harr.2 hr' (by simpa [exitTo] using hk); ⟨k₁, h1, .head (fenced_calm hb hr rfl) stepR_scope h2⟩⟩
  | goto l => exact hq.elim
  | ret => exact ⟨_, a₁, w₁, hq, .of_steps (.one (fenced_calm hb hr rfl) stepR_scope) harr⟩
  | panic ch => exact ⟨_, a₁, w₁, hq, .of_steps (.one (fenced_calm hb hr rfl) stepR_scope) harr⟩
  | outgrown => exact ⟨_, a₁, w₁, hq, .of_steps (.one (fenced_calm hb hr rfl) stepR_scope) harr⟩
theorem scopeT_sound {x : Code} {A : CT} (hA : zaa P x A) : zaa P (.scope x) A := by
  intro ro nf Ds Q QA E fr H a w hnp hg hR hS h
  refine wpIn_scope_straight (hA ro nf Ds _ _ E fr H a w hnp ⟨?_, ?_⟩ hR hS h)
  · intro e fr' H' a' w' h1 h2 h3 h4
    have := hg.ends e fr' H' a' w' h1 h2 h3 h4
    cases e <;> exact this
  · intro v H' a' w' h1 h2 h3 h4
    exact hg.pan v H' a' w' h1 h2 h3 h4
theorem wC_go_sound (hΓ : ∀ f F, Γ f = some F → zca P f F) : ∀ (c : Code), zaa P c (wC P Γ .go c) := by
  intro c
  induction c with
  | skip => intro ro nf Ds Q QA E fr H a w hnp hg hR hS h; exact wpIn_skip (hg.ends .normal fr H a w hR hS (Ext.refl H w) h)
  | label l => intro ro nf Ds Q QA E fr H a w hnp hg hR hS h; exact wpIn_label (hg.ends .normal fr H a w hR hS (Ext.refl H w) h)
  | ret => intro ro nf Ds Q QA E fr H a w hnp hg hR hS h; exact wpIn_ret (hg.ends .ret fr H a w hR hS (Ext.refl H w) h)
  | exit id => intro ro nf Ds Q QA E fr H a w hnp hg hR hS h; exact wpIn_exit (hg.ends (.exit id) fr H a w hR hS (Ext.refl H w) h)
  | region id ops draw =>
    intro ro nf Ds Q QA E fr H a w hnp hg hR hS h
    cases draw with
    | true => exact h.elim
    | false =>
      refine wpIn_region ?_
      have := wReg_sound (ro := ro) (nf := nf) hΓ (Q := Q) ops.toList 0 (by simp) hnp fr H a w hR hS (fun fr' H' a' w' h1 h2 h3 h4 => hg.ends .normal fr' H' a' w' h1 h2 h3 h4) (fun v H' a' w' h1 h2 h3 h4 => hg.pan v H' a' w' h1 h2 h3 h4) h
      rw [List.range_eq_range']
      simpa using this
  | seq x y hx hy => exact seqT_sound hx hy
  | cond c x y hx hy => exact condT_sound hx hy
  | block id x hx => exact blockT_sound hx
  | loop x _ => intro ro nf Ds Q QA E fr H a w hnp hg hR hS h; exact h.elim
  | rangeFunc f ps x y _ _ => intro ro nf Ds Q QA E fr H a w hnp hg hR hS h; exact h.elim
  | scope x hx => exact scopeT_sound hx
  | goto l => intro ro nf Ds Q QA E fr H a w hnp hg hR hS h; exact h.elim
  | refuse s => intro ro nf Ds Q QA E fr H a w hnp hg hR hS h; exact h.elim
theorem zba (hΓ : ∀ f F, Γ f = some F → zca P f F) (hm : P.follows .mixedOrders = true) : ∀ (p : Plan) (c : Code), PlanOk P p c → zaa P c (wC P Γ p c) := by
  intro p
  induction p with
  | go => intro c _; exact wC_go_sound hΓ c
  | use T => intro c h; cases c <;> exact h
  | seq p q hp hq =>
    intro c h
    cases c <;> try (intro ro nf Ds Q QA E fr H a w hnp hg hR hS h; exact h.elim)
    exact seqT_sound (hp _ h.1) (hq _ h.2)
  | cond p q hp hq =>
    intro c h
    cases c <;> try (intro ro nf Ds Q QA E fr H a w hnp hg hR hS h; exact h.elim)
    exact condT_sound (hp _ h.1) (hq _ h.2)
  | block p hp =>
    intro c h
    cases c <;> try (intro ro nf Ds Q QA E fr H a w hnp hg hR hS h; exact h.elim)
    exact blockT_sound (hp _ h)
  | scope p hp =>
    intro c h
    cases c <;> try (intro ro nf Ds Q QA E fr H a w hnp hg hR hS h; exact h.elim)
    exact scopeT_sound (hp _ h)
  | draw p =>
    intro c _
    cases c with
    | region id ops draw =>
      intro ro nf Ds Q QA E fr H a w hnp hg hR hS h
      cases draw with
      | false => exact h.elim
      | true =>
        have h : (if drawOk P ops p = true then wDraw P Γ ops p E (fun fr' H' => QA .normal fr' H') fr H else False) := h
        split at h
        · rename_i hk
          exact wDraw_sound hnp hΓ hm hk hR hS h (fun fr' H' a' w' h1 h2 h3 h4 => hg.ends .normal fr' H' a' w' h1 h2 h3 h4) (fun v H' a' w' h1 h2 h3 h4 => hg.pan v H' a' w' h1 h2 h3 h4)
        · exact h.elim
    | _ => intro ro nf Ds Q QA E fr H a w hnp hg hR hS h; exact h.elim
end
end Go.Sh
