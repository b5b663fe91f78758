/- A packet that comes once more changes nothing (part 8 of the walk and its laws) -/
import Derived.Test.YtkfkkkalcchpkaaGreatDoorTw2g
namespace Go.Sh
def guardDst (ops : Array Oper) (j : Nat) : Option Tmp := (ops[j]?).bind (·.dst)
def stepIf (P : Program) (Γ : FuncId → Option FT) (o : Oper) (want : Bool) (K : Fr → Heap → Prop) (E : Value → Heap → Prop) (H : Heap) (fr : Fr) (b : Bool) : Prop :=
  if (b == want) = true then opW P Γ o (ev fr) (fun v H' => K (put fr o.dst v) H') E H else K (put fr o.dst undef) H
def stepG (P : Program) (Γ : FuncId → Option FT) (ops : Array Oper) (o : Oper) (K : Fr → Heap → Prop) (E : Value → Heap → Prop) (fr : Fr) (H : Heap) : Prop :=
  match o.guard with
  | none => opW P Γ o (ev fr) (fun v H' => K (put fr o.dst v) H') E H
  | some (j, want) => match guardDst ops j with
    | none => False
    | some d => match fr.getD d none with
      | some (.bool t) => if t = true then stepIf P Γ o want K E H (fr.set d (some (.bool true))) true else stepIf P Γ o want K E H (fr.set d (some (.bool false))) false
      | some (.tuple _) => K (put fr o.dst undef) H
      | _ => False
def wReg (P : Program) (Γ : FuncId → Option FT) (ops : Array Oper) (E : Value → Heap → Prop) (K : Fr → Heap → Prop) : List Oper → Fr → Heap → Prop
  | [], fr, H => K fr H
  | o :: rest, fr, H => stepG P Γ ops o (fun fr' H' => wReg P Γ ops E K rest fr' H') E fr H
inductive Ex where
  | normal
  | exit (id : Nat)
  | ret
def Ex.toExit : Ex → Exit
  | .normal => .normal
  | .exit id => .exit id
  | .ret => .ret
structure Good (Ds : Fx) (Q : Exit → Act → World → Prop) (QA : Ex → Fr → Heap → Prop) (E : Value → Heap → Prop) (H : Heap) (w : World) : Prop where
  ends : ∀ e fr' H' a' w', R Ds fr' a' → Sub H' w' → Ext H w H' w' → QA e fr' H' → Q e.toExit a' w'
  pan : ∀ v H' a' w', Keeps Ds a' → Sub H' w' → Ext H w H' w' → E v H' → Q (.panic [{ v, recovered := false }]) a' w'
theorem Good.later {Ds : Fx} {Q : Exit → Act → World → Prop} {QA : Ex → Fr → Heap → Prop} {E : Value → Heap → Prop} {H H1 : Heap} {w w1 : World} (h : Good Ds Q QA E H w) (k : Ext H w H1 w1) : Good Ds Q QA E H1 w1 :=
  ⟨fun e fr' H' a' w' h1 h2 h3 h4 => h.ends e fr' H' a' w' h1 h2 (k.trans h3) h4, fun v H' a' w' h1 h2 h3 h4 => h.pan v H' a' w' h1 h2 (k.trans h3) h4⟩
abbrev CT := (Ex → Fr → Heap → Prop) → (Value → Heap → Prop) → Fr → Heap → Prop
def NoPin (X : Fx) : Code → Prop
  | .region _ ops _ => ∀ o ∈ ops.toList, NoDst X o
  | .seq x y => NoPin X x ∧ NoPin X y
  | .cond _ x y => NoPin X x ∧ NoPin X y
  | .block _ x => NoPin X x
  | .loop x => NoPin X x
  | .scope x => NoPin X x
  | _ => True
theorem NoPin.free {X : Fx} (h : ∀ t, X.pin t = none) : ∀ c, NoPin X c := by
  intro c
  induction c with
  | region id ops draw => exact fun o _ t _ => h t
  | seq x y hx hy => exact ⟨hx, hy⟩
  | cond c x y hx hy => exact ⟨hx, hy⟩
  | block id x hx => exact hx
  | loop x hx => exact hx
  | scope x hx => exact hx
  | _ => trivial
theorem NoPin.none {ds : List Deferred} (c : Code) : NoPin (Fx.of ds) c := NoPin.free (fun _ => rfl) c
def noPinB (ts : List Tmp) : Code → Bool
  | .region _ ops _ => ops.toList.all fun o => match o.dst with | some t => !ts.contains t | none => true
  | .seq x y => noPinB ts x && noPinB ts y
  | .cond _ x y => noPinB ts x && noPinB ts y
  | .block _ x => noPinB ts x
  | .loop x => noPinB ts x
  | .scope x => noPinB ts x
  | _ => true
theorem NoPin.of {X : Fx} {ts : List Tmp} (h : ∀ t, t ∉ ts → X.pin t = Option.none) : ∀ c, noPinB ts c = true → NoPin X c := by
  intro c
  induction c with
  | region id ops draw =>
    intro hb o ho t ht
    have := List.all_eq_true.1 hb o ho
    rw [ht] at this
    exact h t (by simpa using this)
  | seq x y hx hy =>
    intro hb
    have hb := Bool.and_eq_true_iff.1 hb
    exact ⟨hx hb.1, hy hb.2⟩
  | cond c x y hx hy =>
    intro hb
    have hb := Bool.and_eq_true_iff.1 hb
    exact ⟨hx hb.1, hy hb.2⟩
  | block id x hx => exact fun hb => hx hb
  | loop x hx => exact fun hb => hx hb
  | scope x hx => exact fun hb => hx hb
  | _ => exact fun _ => trivial
def zaa (P : Program) (c : Code) (T : CT) : Prop :=
  ∀ (ro : Option Nat) (nf : Nat) (Ds : Fx) Q QA E fr H a w, NoPin Ds c → Good Ds Q QA E H w → R Ds fr a → Sub H w → T QA E fr H → c.wpIn (wideR ro) nf P Q a w
section
variable {P : Program} {Γ : FuncId → Option FT} {ro : Option Nat} {nf : Nat} {Ds : Fx}
theorem stepG_sound (hΓ : ∀ f F, Γ f = some F → zca P f F) {ops : Array Oper} {i : Nat} {o : Oper} (hi : ops[i]? = some o) {K : Fr → Heap → Prop} {E : Value → Heap → Prop} {fr : Fr} {H : Heap} {a : Act} {w : World}
    {next : Act → World → Prop} {Q : Exit → Act → World → Prop} (hnp : NoDst Ds o) (hR : R Ds fr a) (hS : Sub H w) (h : stepG P Γ ops o K E fr H)
    (hn : ∀ fr' H' a' w', R Ds fr' a' → Sub H' w' → Ext H w H' w' → K fr' H' → next a' w') (hp : ∀ v H' w', Sub H' w' → Ext H w H' w' → E v H' → Q (.panic [{ v, recovered := false }]) a w') :
    wpOpIn (wideR ro) nf P ops Q i next a w := by
  unfold wpOpIn
  simp only [hi]
  have run : ∀ {fr : Fr}, R Ds fr a → opW P Γ o (ev fr) (fun v H' => K (put fr o.dst v) H') E H → o.wpIn (wideR ro) nf P a w next Q := fun hR h =>
    opW_sound hΓ (fun x _ v hv => hR.eval hv) hS ⟨fun v H' w' h1 h2 h3 => hn _ _ _ _ (hR.put o.dst v hnp) h1 h2 h3, hp⟩ h
  unfold stepG at h
  cases hg : o.guard with
  | none =>
    rw [hg] at h
    rw [if_pos (by simp [Region.wanted, hg])]
    exact run hR h
  | some jw =>
    obtain ⟨j, want⟩ := jw
    rw [hg] at h
    dsimp only at h
    cases hd : guardDst ops j with
    | none => simp [hd] at h
    | some d =>
      rw [hd] at h
      dsimp only at h
      have hy : ∀ v, fr.getD d none = some v → a.tmps[d]? = some v := fun v hv => hR.2.2 d v hv
      cases hv : fr.getD d none with
      | none => rw [hv] at h; exact h.elim
      | some v =>
        rw [hv] at h
        have ht := hy v hv
        have hyl : yielded ops a.tmps j = match v with | .bool b => some b | _ => none := by
          unfold yielded
          have : (ops[j]?).bind (·.dst) = some d := hd
          rw [this]
          simp only [Option.bind_some, ht]
          cases v <;> rfl
        cases v <;> simp only at h <;> try exact h.elim
        case bool t =>
          have core : ∀ b, t = b → stepIf P Γ o want K E H (fr.set d (some (.bool b))) b → if Region.wanted o (yielded ops a.tmps) = true then o.wpIn (wideR ro) nf P a w next Q else (∀ f, o.about P w a.eval = some f → (wideR ro).fn f) ∧ next (a.put o.dst undef) w := by
            intro b hb h
            subst hb
            have hR' := hR.set_same hv
            have hw : Region.wanted o (yielded ops a.tmps) = (t == want) := by
              simp only [Region.wanted, hg, hyl]
              cases t <;> cases want <;> rfl
            unfold stepIf at h
            rw [hw]
            split at h
            · rename_i hb; rw [if_pos hb]; exact run hR' h
            · rename_i hb; rw [if_neg hb]; exact ⟨fun _ _ => trivial, hn _ _ _ _ (hR'.put o.dst undef hnp) hS (Ext.refl H w) h⟩
          split at h
          · rename_i hb; exact core true hb h
          · rename_i hb; exact core false (by simpa using hb) h
        case tuple vs =>
          have hw : Region.wanted o (yielded ops a.tmps) = false := by
            simp only [Region.wanted, hg, hyl]
            cases want <;> rfl
          rw [hw, if_neg (by simp)]
          exact ⟨fun _ _ => trivial, hn _ _ _ _ (hR.put o.dst undef hnp) hS (Ext.refl H w) h⟩
theorem wReg_sound (hΓ : ∀ f F, Γ f = some F → zca P f F) {ops : Array Oper} {K : Fr → Heap → Prop} {E : Value → Heap → Prop} {Q : Exit → Act → World → Prop} : ∀ (l : List Oper) (k : Nat), ops.toList.drop k = l → (∀ o ∈ l, NoDst Ds o) → ∀ (fr : Fr) (H : Heap) (a : Act) (w : World),
    R Ds fr a → Sub H w → (∀ fr' H' a' w', R Ds fr' a' → Sub H' w' → Ext H w H' w' → K fr' H' → Q .normal a' w') → (∀ v H' a' w', Keeps Ds a' → Sub H' w' → Ext H w H' w' → E v H' → Q (.panic [{ v, recovered := false }]) a' w') →
    wReg P Γ ops E K l fr H → wpOpsIn (wideR ro) nf P ops Q (List.range' k l.length) a w := by
  intro l
  induction l with
  | nil => intro k _ _ fr H a w hR hS hn _ h; exact hn fr H a w hR hS (Ext.refl H w) h
  | cons o l ih =>
    intro k hk hnp fr H a w hR hS hn hp h
    have hi : ops[k]? = some o := by
      have := congrArg (·[0]?) hk
      simpa using this
    have hk' : ops.toList.drop (k + 1) = l := by rw [← List.drop_drop, hk]; rfl
    rw [List.length_cons, List.range'_succ, wpOpsIn_cons]
    refine stepG_sound hΓ hi (hnp o (by simp)) hR hS h (fun fr' H' a' w' h1 h2 h3 h4 => ?_) (fun v H' w' h1 h2 h3 => hp v H' a w' hR.1 h1 h2 h3)
    exact ih (k + 1) hk' (fun o' ho' => hnp o' (by simp [ho'])) fr' H' a' w' h1 h2 (fun fr2 H2 a2 w2 g1 g2 g3 g4 => hn fr2 H2 a2 w2 g1 g2 (h3.trans g3) g4) (fun v H2 a2 w2 g1 g2 g3 g4 => hp v H2 a2 w2 g1 g2 (h3.trans g3) g4) h4
end
end Go.Sh
