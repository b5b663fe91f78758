/- A packet that comes once more changes nothing (part 12 of the walk and its laws) -/
import Derived.Test.YtkfkkkalcchpkaaGreatDoorTw2k
namespace Go.Sh
def zrd (ops : Array Oper) (j : Nat) : List Nat :=
  match ops[j]? with
  | some o => (o.after.toList.filter (Region.binds .any)).map (·.on)
  | none => []
def dstOf (ops : Array Oper) (j : Nat) : Option Tmp := (ops[j]?).bind (·.dst)
def looksOf (ops : Array Oper) (j : Nat) : List Tmp :=
  match ops[j]? with
  | some o => o.looksAt ops
  | none => []
def eqv (H H1 : Heap) (x : Option Value) (v : Value) : Prop := H1 = H ∧ x = some v
def slotOf (o : Oper) (fr : Fr) : Option Value :=
  match o.dst with
  | some d => fr.getD d none
  | none => none
def wantF (ops : Array Oper) (o : Oper) (fr : Fr) : Option Bool :=
  match o.guard with
  | none => some true
  | some (j, want) => match guardDst ops j with
    | none => none
    | some d => match fr.getD d none with
      | some (.bool t) => some (t == want)
      | some (.tuple _) => some false
      | _ => none
def againG (P : Program) (Γ : FuncId → Option FT) (ops : Array Oper) (o : Oper) (fr : Fr) (H : Heap) : Prop :=
  match wantF ops o fr with
  | some true => opW P Γ o (ev fr) (fun v H1 => eqv H H1 (slotOf o fr) v) (fun _ _ => False) H
  | some false => True
  | none => False
def recheck (P : Program) (Γ : FuncId → Option FT) (ops : Array Oper) (anc : List Nat) : List Nat → Fr → Heap → Prop → Prop
  | [], _, _, C => C
  | j :: D, fr, H, C => match ops[j]? with
    | none => False
    | some o => if (!quietK P o || pureK o || anc.contains j) = true then recheck P Γ ops anc D fr H C else againG P Γ ops o fr H ∧ recheck P Γ ops anc D fr H C
inductive DT where
  | fin
  | one (i : Nat) (anc : List Nat) (rest : DT)
  | alt (a b : DT)
def DT.heads : DT → List Nat
  | .fin => []
  | .one i _ _ => [i]
  | .alt a b => a.heads ++ b.heads
def dl : List (Nat × List Nat) → DT → DT
  | [], t => t
  | (i, anc) :: l, t => .one i anc (dl l t)
def wB (P : Program) (Γ : FuncId → Option FT) (ops : Array Oper) (E : Value → Heap → Prop) (K : Fr → Heap → Prop) : DT → List Nat → Fr → Heap → Prop
  | .fin, _, fr, H => K fr H
  | .one i anc rest, D, fr, H => match ops[i]? with
    | none => False
    | some o => if quietK P o = true then stepG P Γ ops o (fun fr' H' => wB P Γ ops E K rest (i :: D) fr' H') E fr H
      else stepG P Γ ops o (fun fr' H' => recheck P Γ ops anc D fr' H' (wB P Γ ops E K rest (i :: D) fr' H')) E fr H
  | .alt a b, D, fr, H => wB P Γ ops E K a D fr H ∧ wB P Γ ops E K b D fr H
def wA (P : Program) (Γ : FuncId → Option FT) (ops : Array Oper) (E : Value → Heap → Prop) (K : Fr → Heap → Prop) : List Nat → Fr → Heap → Prop
  | [], fr, H => K fr H
  | i :: rest, fr, H => match ops[i]? with
    | none => False
    | some o => stepG P Γ ops o (fun fr' H' => wA P Γ ops E K rest fr' H') E fr H
structure DPlan where
  all : List Nat
  steps : DT
  asg : List Nat
def wDraw (P : Program) (Γ : FuncId → Option FT) (ops : Array Oper) (p : DPlan) (E : Value → Heap → Prop) (K : Fr → Heap → Prop) (fr : Fr) (H : Heap) : Prop :=
  wB P Γ ops E (fun fr' H' => wA P Γ ops E K p.asg fr' H') p.steps [] fr H
def ancOk (ops : Array Oper) (e : Nat) : List Nat → List Nat → Bool
  | [], _ => true
  | j :: js, seen => ((zrd ops e).contains j || seen.any fun k => (zrd ops k).contains j) && ancOk ops e js (j :: seen)
def covOk (ops : Array Oper) (hs D : List Nat) : Bool := (List.range ops.size).all fun k => D.contains k || hs.contains k || (zrd ops k).any fun p => !D.contains p
def stepsOk (P : Program) (ops : Array Oper) (B : List Nat) : Bool → DT → List Nat → Bool
  | _, .fin, D => B.all fun i => D.contains i
  | top, .one i anc rest, D => !D.contains i && (zrd ops i).all (fun p => D.contains p) && B.contains i &&
    (match ops[i]? with
     | none => false
     | some o => if quietK P o then top else ancOk ops i anc [] && (!top || covOk ops [i] D)) &&
    stepsOk P ops B true rest (i :: D)
  | top, .alt a b, D => (!top || covOk ops (a.heads ++ b.heads) D) && !a.heads.isEmpty && stepsOk P ops B false a D && stepsOk P ops B false b D
def isAssign (ops : Array Oper) (i : Nat) : Bool :=
  match ops[i]? with
  | some o => (match o.op with | .assign _ => true | _ => false) && o.guard.isNone
  | none => false
def apartOk (ops : Array Oper) (B : List Nat) : Bool :=
  B.all fun i => match dstOf ops i with
    | none => true
    | some d => B.all fun j => (!(looksOf ops j).contains d || (j != i && (zrd ops j).contains i)) && (j == i || dstOf ops j != some d)
def asgOk (ops : Array Oper) (B A : List Nat) : Bool :=
  A.all fun i => isAssign ops i && B.all (fun b => (zrd ops i).contains b) && A.all fun j => (match dstOf ops i with
    | none => false
    | some d => !(looksOf ops j).contains d && (j == i || dstOf ops j != some d))
def topoOk (ops : Array Oper) : Bool := (List.range ops.size).all fun i => (zrd ops i).all fun p => decide (p < i)
def drawOk (P : Program) (ops : Array Oper) (p : DPlan) : Bool :=
  topoOk ops && stepsOk P ops p.all true p.steps [] && apartOk ops p.all && asgOk ops p.all p.asg &&
  ((List.range ops.size).all fun k => p.all.contains k || p.asg.contains k) && decide p.asg.Nodup && (p.asg.all fun i => !p.all.contains i) && p.all.all fun i => decide (i < ops.size)
section
variable {P : Program} {Γ : FuncId → Option FT} {ops : Array Oper}
theorem set_same_eq {fr : Fr} {d : Nat} {v : Value} (h : fr.getD d none = some v) : fr.set d (some v) = fr := by
  rw [List.getD_eq_getElem?_getD] at h
  cases e : fr[d]? with
  | none => rw [e] at h; cases h
  | some x =>
    rw [e] at h
    have hx : x = some v := h
    subst hx
    obtain ⟨hl, he⟩ := List.getElem?_eq_some_iff.1 e
    rw [← he]
    exact List.set_getElem_self hl
theorem stepG_iff {o : Oper} {K : Fr → Heap → Prop} {E : Value → Heap → Prop} {fr : Fr} {H : Heap} (h : stepG P Γ ops o K E fr H) :
    (wantF ops o fr = some true ∧ opW P Γ o (ev fr) (fun v H' => K (put fr o.dst v) H') E H) ∨ (wantF ops o fr = some false ∧ K (put fr o.dst undef) H) := by
  unfold stepG at h
  unfold wantF
  cases hg : o.guard with
  | none => rw [hg] at h; exact .inl ⟨rfl, h⟩
  | some jw =>
    obtain ⟨j, want⟩ := jw
    rw [hg] at h
    dsimp only at h ⊢
    cases hd : guardDst ops j with
    | none => rw [hd] at h; exact h.elim
    | some d =>
      rw [hd] at h
      dsimp only at h ⊢
      cases hv : fr.getD d none with
      | none => rw [hv] at h; exact h.elim
      | some v =>
        rw [hv] at h
        cases v <;> try exact h.elim
        case bool t =>
          have core : ∀ b, t = b → stepIf P Γ o want K E H (fr.set d (some (.bool b))) b → (some (t == want) = some true ∧ opW P Γ o (ev fr) (fun v H' => K (put fr o.dst v) H') E H) ∨ (some (t == want) = some false ∧ K (put fr o.dst undef) H) := by
            intro b hb h
            subst hb
            rw [set_same_eq hv] at h
            unfold stepIf at h
            split at h
            · rename_i hb; exact .inl ⟨by rw [hb], h⟩
            · rename_i hb; exact .inr ⟨by simpa using hb, h⟩
          dsimp only at h ⊢
          split at h
          · rename_i hb; exact core true hb h
          · rename_i hb; exact core false (by simpa using hb) h
        case tuple vs => exact .inr ⟨rfl, h⟩
theorem put_get_ne {fr : Fr} {dst : Option Tmp} {v : Value} {t : Nat} (h : dst ≠ some t) : (put fr dst v).getD t none = fr.getD t none := by
  cases dst with
  | none => rfl
  | some d => exact getD_set_ne' fr _ (fun e => h (by rw [e]))
theorem put_get_self {fr : Fr} {d : Nat} {v : Value} (h : d < fr.length) : (put fr (some d) v).getD d none = some v := by
  show (fr.set d (some v)).getD d none = _
  rw [getD_set_self, if_pos h]
theorem put_len (fr : Fr) (dst : Option Tmp) (v : Value) : (put fr dst v).length = fr.length := by
  cases dst with
  | none => rfl
  | some d => exact List.length_set
theorem get_lt {fr : Fr} {t : Nat} {v : Value} (h : fr.getD t none = some v) : t < fr.length := by
  rcases Nat.lt_or_ge t fr.length with hl | hg
  · exact hl
  · rw [List.getD_eq_getElem?_getD, List.getElem?_eq_none hg] at h; cases h
theorem ev_agree {o : Oper} {fr fr' : Fr} (h : ∀ t ∈ o.looksAt ops, fr'.getD t none = fr.getD t none) : ∀ x ∈ o.op.operands, ev fr' x = ev fr x := by
  intro x hx
  cases x with
  | tmp t => exact h t (List.mem_append_left _ (List.mem_filterMap.2 ⟨.tmp t, by simpa using hx, rfl⟩))
  | _ => rfl
theorem want_agree {o : Oper} {fr fr' : Fr} (h : ∀ t ∈ o.looksAt ops, fr'.getD t none = fr.getD t none) : wantF ops o fr' = wantF ops o fr := by
  unfold wantF
  cases hg : o.guard with
  | none => rfl
  | some jw =>
    obtain ⟨j, want⟩ := jw
    dsimp only
    cases hd : guardDst ops j with
    | none => rfl
    | some d =>
      dsimp only
      rw [h d (List.mem_append_right _ (by
        have : (ops[j]?).bind (·.dst) = some d := hd
        simp [hg, this]))]
theorem wpOp_of {ro : Option Nat} {nf : Nat} (hΓ : ∀ f F, Γ f = some F → zca P f F) {i : Nat} {o : Oper} (hi : ops[i]? = some o) {KV E : Value → Heap → Prop} {fr : Fr} {H : Heap} {a : Act} {w : World} {next : Act → World → Prop} {Q : Exit → Act → World → Prop}
    (hag : ∀ t ∈ o.looksAt ops, ∀ v, fr.getD t none = some v → a.tmps[t]? = some v) (hS : Sub H w)
    (h : (wantF ops o fr = some true ∧ opW P Γ o (ev fr) KV E H) ∨ (wantF ops o fr = some false ∧ KV undef H))
    (hn : ∀ v H' w', Sub H' w' → Ext H w H' w' → KV v H' → next (a.put o.dst v) w') (hp : ∀ v H' w', Sub H' w' → Ext H w H' w' → E v H' → Q (.panic [{ v, recovered := false }]) a w') : wpOpIn (wideR ro) nf P ops Q i next a w := by
  unfold wpOpIn
  simp only [hi]
  have hw : ∀ b, wantF ops o fr = some b → Region.wanted o (yielded ops a.tmps) = b := by
    intro b hb
    unfold wantF at hb
    unfold Region.wanted
    cases hg : o.guard with
    | none => rw [hg] at hb; exact Option.some.inj hb
    | some jw =>
      obtain ⟨j, want⟩ := jw
      rw [hg] at hb
      dsimp only at hb ⊢
      cases hd : guardDst ops j with
      | none => rw [hd] at hb; cases hb
      | some d =>
        rw [hd] at hb
        dsimp only at hb
        have hd' : (ops[j]?).bind (·.dst) = some d := hd
        have hmem : d ∈ o.looksAt ops := List.mem_append_right _ (by simp [hg, hd'])
        cases hv : fr.getD d none with
        | none => rw [hv] at hb; cases hb
        | some v =>
          rw [hv] at hb
          have ht := hag d hmem v hv
          have hy : yielded ops a.tmps j = match v with | .bool b => some b | _ => none := by
            unfold yielded
            rw [hd']
            simp only [Option.bind_some, ht]
            cases v <;> rfl
          rw [hy]
          cases v <;> try (cases hb; done)
          case bool t => simp only [Option.some.injEq] at hb; subst hb; cases t <;> cases want <;> rfl
          case tuple vs => simp only [Option.some.injEq] at hb; subst hb; cases want <;> rfl
  rcases h with ⟨h1, h2⟩ | ⟨h1, h2⟩
  · rw [hw true h1, if_pos rfl]
    refine opW_sound hΓ (fun x hx v hv => ?_) hS ⟨hn, hp⟩ h2
    cases x with
    | tmp t =>
      have := hag t (List.mem_append_left _ (List.mem_filterMap.2 ⟨.tmp t, by simpa using hx, rfl⟩)) v hv
      simp [Act.eval, this]
    | const u => exact Option.some.inj hv
    | global g => exact Option.some.inj hv
    | func f => exact Option.some.inj hv
  · rw [hw false h1, if_neg (by simp)]
    exact ⟨fun _ _ => trivial, hn _ _ _ hS (Ext.refl H w) h2⟩
theorem recheck_elim {anc : List Nat} {fr : Fr} {H : Heap} {C : Prop} : ∀ (D : List Nat), recheck P Γ ops anc D fr H C → C ∧ ∀ j ∈ D, ∀ o, ops[j]? = some o → quietK P o = true → pureK o = false → anc.contains j = false → againG P Γ ops o fr H := by
  intro D
  induction D with
  | nil => intro h; exact ⟨h, by simp⟩
  | cons j D ih =>
    intro h
    unfold recheck at h
    cases hj : ops[j]? with
    | none => rw [hj] at h; exact h.elim
    | some o =>
      rw [hj] at h
      dsimp only at h
      split at h
      · rename_i hs
        obtain ⟨h1, h2⟩ := ih h
        refine ⟨h1, fun k hk o' ho' hq hp ha => ?_⟩
        rcases List.mem_cons.1 hk with rfl | hk
        · rw [hj] at ho'; cases ho'
          rw [hq, hp, ha] at hs; cases hs
        · exact h2 k hk o' ho' hq hp ha
      · obtain ⟨h0, h⟩ := h
        obtain ⟨h1, h2⟩ := ih h
        refine ⟨h1, fun k hk o' ho' hq hp ha => ?_⟩
        rcases List.mem_cons.1 hk with rfl | hk
        · rw [hj] at ho'; cases ho'; exact h0
        · exact h2 k hk o' ho' hq hp ha
end
end Go.Sh
