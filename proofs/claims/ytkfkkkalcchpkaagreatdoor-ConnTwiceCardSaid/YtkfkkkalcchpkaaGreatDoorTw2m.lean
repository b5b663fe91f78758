/- A packet that comes once more changes nothing (part 13 of the walk and its laws) -/
import Derived.Test.YtkfkkkalcchpkaaGreatDoorTw2l
namespace Go.Sh
theorem count_lt {p q : Nat → Bool} : ∀ (l : List Nat), (∀ x ∈ l, q x = true → p x = true) → (∃ x ∈ l, p x = true ∧ q x = false) → l.countP q < l.countP p := by
  intro l
  induction l with
  | nil => rintro _ ⟨x, hx, _⟩; cases hx
  | cons y l ih =>
    intro h1 h2
    have le : ∀ l : List Nat, (∀ x ∈ l, q x = true → p x = true) → l.countP q ≤ l.countP p := by
      intro l
      induction l with
      | nil => intro _; simp
      | cons z l ih =>
        intro h
        have := ih fun x hx => h x (by simp [hx])
        have hz := h z (by simp)
        rw [List.countP_cons, List.countP_cons]
        cases e1 : q z <;> cases e2 : p z <;> simp [e1, e2] at hz ⊢ <;> omega
    rw [List.countP_cons, List.countP_cons]
    have hle := le l fun x hx => h1 x (by simp [hx])
    have hy := h1 y (by simp)
    obtain ⟨x, hx, px, qx⟩ := h2
    rcases List.mem_cons.1 hx with rfl | hx
    · simp [px, qx]; omega
    · have := ih (fun x hx => h1 x (by simp [hx])) ⟨x, hx, px, qx⟩
      cases e1 : q y <;> cases e2 : p y <;> simp [e1, e2] at hy ⊢ <;> omega
section
variable {P : Program} {Γ : FuncId → Option FT} {ops : Array Oper}
def unl (listed : Array Bool) : Nat → Bool := fun i => !listed.getD i false
theorem getD_set (listed : Array Bool) (i j : Nat) (hi : i < listed.size) : (listed.setIfInBounds i true).getD j false = if j = i then true else listed.getD j false := by
  by_cases h : j = i
  · subst h; simp [hi]
  · rw [if_neg h, getD_set_ne false (fun e => h e.symm)]
theorem getD_bool (listed : Array Bool) (j : Nat) (h : j < listed.size) : listed.getD j true = listed.getD j false := by
  simp [h]
theorem unl_lt {n : Nat} {listed : Array Bool} {i : Nat} (hs : listed.size = n) (hi : i < n) (hu : listed.getD i false = false) :
    (List.range n).countP (unl (listed.setIfInBounds i true)) < (List.range n).countP (unl listed) := by
  refine count_lt _ (fun x _ hx => ?_) ⟨i, by simpa using hi, by simp only [unl, hu]; rfl, ?_⟩
  · simp only [unl, getD_set listed i x (by omega)] at hx ⊢
    split at hx
    · cases hx
    · exact hx
  · simp only [unl, getD_set listed i i (by omega), if_pos]; rfl
theorem unl_zero {n : Nat} {listed : Array Bool} (h : (List.range n).countP (unl listed) = 0) : ∀ i, i < n → listed.getD i false = true := by
  intro i hi
  have := List.countP_eq_zero.1 h i (by simpa using hi)
  simpa [unl] using this
theorem mem_preds {j : Nat} {o : Oper} (hj : ops[j]? = some o) {p : Nat} : p ∈ zrd ops j ↔ ∃ e ∈ o.after, Region.binds .any e = true ∧ e.on = p := by
  unfold zrd
  rw [hj]
  simp only [List.mem_map, List.mem_filter, Array.mem_toList_iff]
  constructor
  · rintro ⟨e, ⟨h1, h2⟩, h3⟩; exact ⟨e, h1, h2, h3⟩
  · rintro ⟨e, h1, h2, h3⟩; exact ⟨e, ⟨h1, h2⟩, h3⟩
theorem ready_iff {listed : Array Bool} (hs : listed.size = ops.size) {j : Nat} : j ∈ Region.ready .any ops listed ↔ j < ops.size ∧ listed.getD j false = false ∧ ∀ p ∈ zrd ops j, listed.getD p false = true := by
  rw [mem_ready]
  constructor
  · rintro ⟨h0, o, ho, h⟩
    have hl : j < ops.size := (Array.getElem?_eq_some_iff.1 ho).1
    refine ⟨hl, by rw [← getD_bool listed j (by omega)]; exact h0, fun p hp => ?_⟩
    obtain ⟨e, he, hb, rfl⟩ := (mem_preds ho).1 hp
    exact h e he hb
  · rintro ⟨hl, h0, h⟩
    obtain ⟨o, ho⟩ : ∃ o, ops[j]? = some o := ⟨ops[j], Array.getElem?_eq_getElem hl⟩
    exact ⟨by rw [getD_bool listed j (by omega)]; exact h0, o, ho, fun e he hb => h _ ((mem_preds ho).2 ⟨e, he, hb, rfl⟩)⟩
theorem all_listed (ht : topoOk ops = true) {listed : Array Bool} (hs : listed.size = ops.size) (hr : Region.ready .any ops listed = []) : ∀ i, i < ops.size → listed.getD i false = true := by
  intro i
  induction i using Nat.strongRecOn with
  | _ i ih =>
    intro hi
    cases hl : listed.getD i false with
    | true => rfl
    | false =>
      exfalso
      have h1 := List.all_eq_true.1 ht i (by simpa using hi)
      have : i ∈ Region.ready .any ops listed := (ready_iff hs).2 ⟨hi, hl, fun p hp => by
        have hlt : p < i := by simpa using List.all_eq_true.1 h1 p hp
        exact ih p hlt (by omega)⟩
      rw [hr] at this
      cases this
def Out (ops : Array Oper) (frF : Fr) (i : Nat) : Prop := ∃ o x v d, ops[i]? = some o ∧ o.op = .assign x ∧ o.guard = none ∧ o.dst = some d ∧ ev frF x = some v ∧ (d < frF.length → frF.getD d none = some v)
theorem asg_spec {B A : List Nat} (h : asgOk ops B A = true) {i : Nat} (hi : i ∈ A) : (∃ o x d, ops[i]? = some o ∧ o.op = .assign x ∧ o.guard = none ∧ o.dst = some d ∧ ∀ j ∈ A, d ∉ looksOf ops j ∧ (j ≠ i → dstOf ops j ≠ some d)) ∧
    ∀ b ∈ B, b ∈ zrd ops i := by
  have h1 := List.all_eq_true.1 h i hi
  simp only [Bool.and_eq_true] at h1
  obtain ⟨⟨h2, h3⟩, h4⟩ := h1
  refine ⟨?_, fun b hb => by have := List.all_eq_true.1 h3 b hb; simpa using this⟩
  unfold isAssign at h2
  cases ho : ops[i]? with
  | none => rw [ho] at h2; cases h2
  | some o =>
    rw [ho] at h2
    simp only [Bool.and_eq_true] at h2
    obtain ⟨h5, h6⟩ := h2
    have hgd : o.guard = none := by simpa using h6
    cases hop : o.op <;> simp only [hop] at h5 <;> try (cases h5; done)
    rename_i x
    cases hd : dstOf ops i with
    | none =>
      have h7 := List.all_eq_true.1 h4 i hi
      rw [hd] at h7
      cases h7
    | some d =>
      have hd' : o.dst = some d := by simpa [dstOf, ho] using hd
      refine ⟨o, x, d, rfl, hop, hgd, hd', fun j hj => ?_⟩
      have h7 := List.all_eq_true.1 h4 j hj
      rw [hd] at h7
      simp only [Bool.and_eq_true, Bool.or_eq_true, Bool.not_eq_true', beq_iff_eq, bne_iff_ne, ne_eq] at h7
      exact ⟨by simpa using h7.1, fun hne => h7.2.resolve_left hne⟩
theorem ev_same {x : Operand} {fr fr' : Fr} (h : ∀ t, x = .tmp t → fr'.getD t none = fr.getD t none) : ev fr' x = ev fr x := by
  cases x with
  | tmp t => exact h t rfl
  | _ => rfl
theorem wA_fin {B A : List Nat} (hA : asgOk ops B A = true) {E : Value → Heap → Prop} {K : Fr → Heap → Prop} {H : Heap} : ∀ (l : List Nat), l.Nodup → (∀ i ∈ l, i ∈ A) → ∀ fr, wA P Γ ops E K l fr H →
    ∃ frF, K frF H ∧ frF.length = fr.length ∧ (∀ t, (∀ i ∈ l, dstOf ops i ≠ some t) → frF.getD t none = fr.getD t none) ∧ ∀ i ∈ l, Out ops frF i := by
  intro l
  induction l with
  | nil => intro _ _ fr h; exact ⟨fr, h, rfl, fun _ _ => rfl, by simp⟩
  | cons i l ih =>
    intro hnd hl fr h
    obtain ⟨hni, hnd'⟩ := List.nodup_cons.1 hnd
    obtain ⟨⟨o, x, d, ho, hop, hg, hd, hap⟩, _⟩ := asg_spec hA (hl i (by simp))
    unfold wA at h
    rw [ho] at h
    dsimp only at h
    rcases stepG_iff h with ⟨_, h⟩ | ⟨hw, _⟩
    · unfold opW at h
      simp only [hop] at h
      obtain ⟨v, hv, h⟩ := zsa h
      obtain ⟨frF, h1, h2, h3, h4⟩ := ih hnd' (fun j hj => hl j (by simp [hj])) _ h
      have hdi : ∀ j ∈ l, dstOf ops j ≠ some d := fun j hj => (hap j (hl j (by simp [hj]))).2 (fun e => hni (e ▸ hj))
      refine ⟨frF, h1, by rw [h2, put_len], fun t ht => ?_, fun j hj => ?_⟩
      · rw [h3 t fun k hk => ht k (by simp [hk])]
        refine put_get_ne ?_
        have := ht i (by simp)
        simpa [dstOf, ho] using this
      · rcases List.mem_cons.1 hj with rfl | hj
        · refine ⟨o, x, v, d, ho, hop, hg, hd, ?_, fun hlt => ?_⟩
          · rw [← hv]
            refine ev_same fun t ht => ?_
            subst ht
            have hlk : ∀ k ∈ A, dstOf ops k ≠ some t := by
              intro k hk hkt
              obtain ⟨⟨ok, xk, dk, hok, _, _, hdk, hapk⟩, _⟩ := asg_spec hA hk
              have : dk = t := by simpa [dstOf, hok, hdk] using hkt
              subst this
              refine (hapk j (hl j (by simp))).1 ?_
              unfold looksOf
              rw [ho]
              exact List.mem_append_left _ (List.mem_filterMap.2 ⟨.tmp dk, by rw [hop]; simp [Op.operands], rfl⟩)
            rw [h3 t fun k hk => hlk k (hl k (by simp [hk]))]
            exact put_get_ne (by have := hlk j (hl j (by simp)); simpa [dstOf, ho] using this)
          · rw [h3 d hdi, hd]
            rw [h2, put_len] at hlt
            exact put_get_self hlt
        · exact h4 j hj
    · unfold wantF at hw
      rw [hg] at hw
      cases hw
theorem simA {ro : Option Nat} {nf : Nat} {Ds : Fx} (hnp : ∀ (i : Nat) (o : Oper), ops[i]? = some o → NoDst Ds o) {B A : List Nat} (ht : topoOk ops = true) (hA : asgOk ops B A = true) (hall : ∀ k, k < ops.size → k ∈ B ∨ k ∈ A) {Q : Exit → Act → World → Prop} {frF : Fr} {w : World} (hQ : ∀ a, R Ds frF a → Q .normal a w) (hout : ∀ i ∈ A, Out ops frF i) :
    ∀ (fuel : Nat) (listed : Array Bool) (a : Act), listed.size = ops.size → (List.range ops.size).countP (unl listed) ≤ fuel → (∀ i ∈ B, listed.getD i false = true) → Keeps Ds a → frF.length ≤ a.tmps.size →
      (∀ t v, frF.getD t none = some v → (∀ j ∈ A, listed.getD j false = false → j < ops.size → dstOf ops j ≠ some t) → a.tmps[t]? = some v) → wpAnyIn (wideR ro) nf P .any ops Q fuel listed a w := by
  have done : ∀ (listed : Array Bool) (a : Act), (∀ i, i < ops.size → listed.getD i false = true) → Keeps Ds a → frF.length ≤ a.tmps.size →
      (∀ t v, frF.getD t none = some v → (∀ j ∈ A, listed.getD j false = false → j < ops.size → dstOf ops j ≠ some t) → a.tmps[t]? = some v) → Q .normal a w := by
    intro listed a hl h1 h2 h3
    exact hQ a ⟨h1, h2, fun t v hv => h3 t v hv fun j _ hj hlt => by rw [hl j hlt] at hj; cases hj⟩
  intro fuel
  induction fuel with
  | zero =>
    intro listed a hs hc hB h1 h2 h3
    have hl := unl_zero (Nat.le_zero.1 hc)
    refine ⟨?_, done listed a hl h1 h2 h3⟩
    cases hr : Region.ready .any ops listed with
    | nil => rfl
    | cons i rs =>
      have := (ready_iff hs).1 (by rw [hr]; simp : i ∈ Region.ready .any ops listed)
      rw [hl i this.1] at this
      cases this.2.1
  | succ fuel ih =>
    intro listed a hs hc hB h1 h2 h3
    refine ⟨fun hr => ?_, fun i hi => ?_⟩
    · exact done listed a (all_listed ht hs hr) h1 h2 h3
    · obtain ⟨hlt, hli, _⟩ := (ready_iff hs).1 hi
      have hiA : i ∈ A := (hall i hlt).resolve_left fun hb => by rw [hB i hb] at hli; cases hli
      obtain ⟨o, x, v, d, ho, hop, hg, hd, hv, hslot⟩ := hout i hiA
      obtain ⟨⟨o', x', d', ho', hop', _, hd', hap⟩, _⟩ := asg_spec hA hiA
      rw [ho] at ho'; cases ho'
      rw [hd] at hd'; cases hd'
      have hev : a.eval x = v := by
        cases x with
        | tmp t =>
          have ht : frF.getD t none = some v := hv
          have := h3 t v ht fun j hj _ _ hjt => by
            obtain ⟨⟨oj, xj, dj, hoj, _, _, hdj, hapj⟩, _⟩ := asg_spec hA hj
            have e : dj = t := by simpa [dstOf, hoj, hdj] using hjt
            subst e
            refine (hapj i hiA).1 ?_
            unfold looksOf
            rw [ho]
            exact List.mem_append_left _ (List.mem_filterMap.2 ⟨.tmp dj, by rw [hop]; simp [Op.operands], rfl⟩)
          simp [Act.eval, this]
        | const u => exact Option.some.inj hv
        | global g => exact Option.some.inj hv
        | func f => exact Option.some.inj hv
      unfold wpOpIn
      simp only [ho]
      rw [if_pos (by simp [Region.wanted, hg])]
      have hrun : (execOp a.eval o).run P w = .ok (.value v) w := by simp only [execOp, hop, hev]; rfl
      refine wpIn_of (by simp [hop]) ?_
      rw [hrun]
      show wpAnyIn (wideR ro) nf P .any ops Q fuel (listed.setIfInBounds i true) (a.put o.dst v) w
      have hcnt := unl_lt hs hlt hli
      refine ih _ _ (by simpa using hs) (by omega) (fun j hj => ?_) (h1.put v (hnp i o ho)) (by rw [hd]; simpa [Act.put] using h2) (fun t u ht hj => ?_)
      · rw [getD_set listed i j (by omega)]
        split
        · rfl
        · exact hB j hj
      · rw [hd]
        show (a.tmps.setIfInBounds d v)[t]? = some u
        by_cases e : d = t
        · subst e
          have hl := get_lt ht
          rw [hslot hl] at ht
          cases ht
          rw [Array.getElem?_setIfInBounds, if_pos rfl, if_pos (by omega)]
        · rw [Array.getElem?_setIfInBounds, if_neg e]
          refine h3 t u ht fun j hjA hjl hjlt => ?_
          by_cases hji : j = i
          · subst hji
            intro hjt
            have : d = t := by simpa [dstOf, ho, hd] using hjt
            exact e this
          · exact hj j hjA (by rw [getD_set listed i j (by omega), if_neg hji]; exact hjl) hjlt
def Stay (P : Program) (Γ : FuncId → Option FT) (ops : Array Oper) (fr : Fr) (H : Heap) (j : Nat) : Prop :=
  ∃ o, ops[j]? = some o ∧ quietK P o = true ∧ ((wantF ops o fr = some true ∧ ∃ v, (∀ d, o.dst = some d → d < fr.length → fr.getD d none = some v) ∧ ∀ K' E' : Value → Heap → Prop, K' v H → opW P Γ o (ev fr) K' E' H) ∨
    (wantF ops o fr = some false ∧ ∀ d, o.dst = some d → d < fr.length → fr.getD d none = some undef))
structure Inv (Ds : Fx) (P : Program) (Γ : FuncId → Option FT) (ops : Array Oper) (D : List Nat) (listed : Array Bool) (fr : Fr) (H : Heap) (a : Act) (w : World) : Prop where
  sz : listed.size = ops.size
  sub : ∀ i, listed.getD i false = true → i ∈ D
  eff : ∀ i ∈ D, ∀ o, ops[i]? = some o → quietK P o = false → listed.getD i false = true
  clo : ∀ i, listed.getD i false = true → ∀ p ∈ zrd ops i, listed.getD p false = true
  top : ∀ j ∈ D, ∀ p ∈ zrd ops j, p ∈ D
  df : Keeps Ds a
  len : fr.length ≤ a.tmps.size
  agr : ∀ t v, fr.getD t none = some v → (∀ j ∈ D, listed.getD j false = false → dstOf ops j ≠ some t) → a.tmps[t]? = some v
  stay : ∀ j ∈ D, listed.getD j false = false → Stay P Γ ops fr H j
  hs : Sub H w
theorem apart_spec {B : List Nat} (h : apartOk ops B = true) {i j : Nat} (hi : i ∈ B) (hj : j ∈ B) {d : Tmp} (hd : dstOf ops i = some d) :
    (d ∈ looksOf ops j → j ≠ i ∧ i ∈ zrd ops j) ∧ (j ≠ i → dstOf ops j ≠ some d) := by
  have h1 := List.all_eq_true.1 h i hi
  rw [hd] at h1
  have h2 := List.all_eq_true.1 h1 j hj
  simp only [Bool.and_eq_true, Bool.or_eq_true, Bool.not_eq_true', beq_iff_eq, bne_iff_ne, ne_eq] at h2
  refine ⟨fun hm => ?_, fun hne => h2.2.resolve_left hne⟩
  rcases h2.1 with h3 | h3
  · exfalso
    have : (looksOf ops j).contains d = true := by simpa using hm
    rw [h3] at this
    cases this
  · exact ⟨h3.1, by simpa using h3.2⟩
theorem looks_eq {j : Nat} {o : Oper} (h : ops[j]? = some o) : looksOf ops j = o.looksAt ops := by unfold looksOf; rw [h]
theorem dst_eq {j : Nat} {o : Oper} (h : ops[j]? = some o) : dstOf ops j = o.dst := by unfold dstOf; rw [h]; rfl
theorem Stay.put {B : List Nat} (hB : apartOk ops B = true) {fr : Fr} {H : Heap} {i j : Nat} (hi : i ∈ B) (hj : j ∈ B) (hne : j ≠ i) (hno : i ∉ zrd ops j) (v : Value) (h : Stay P Γ ops fr H j) : Stay P Γ ops (put fr (dstOf ops i) v) H j := by
  obtain ⟨o, ho, hq, h⟩ := h
  have hag : ∀ t ∈ o.looksAt ops, (Sh.put fr (dstOf ops i) v).getD t none = fr.getD t none := fun t ht => put_get_ne fun hd => hno ((apart_spec hB hi hj hd).1 (by rw [looks_eq ho]; exact ht)).2
  have hslot : ∀ d, o.dst = some d → (Sh.put fr (dstOf ops i) v).getD d none = fr.getD d none := fun d hd => put_get_ne fun hdi => (apart_spec hB hi hj hdi).2 hne (by rw [dst_eq ho]; exact hd)
  refine ⟨o, ho, hq, ?_⟩
  rw [want_agree hag, put_len]
  rcases h with ⟨h1, u, h2, h3⟩ | ⟨h1, h2⟩
  · refine .inl ⟨h1, u, fun d hd hl => by rw [hslot d hd]; exact h2 d hd hl, fun K' E' hk => ?_⟩
    rw [opW_congr (ev_agree hag)]
    exact h3 K' E' hk
  · exact .inr ⟨h1, fun d hd hl => by rw [hslot d hd]; exact h2 d hd hl⟩
def still (P : Program) (ops : Array Oper) : DT → Bool
  | .fin => true
  | .one i _ _ => match ops[i]? with
    | some o => !quietK P o
    | none => false
  | .alt _ _ => true
theorem pick {B : List Nat} {E : Value → Heap → Prop} {K : Fr → Heap → Prop} {D : List Nat} {fr : Fr} {H : Heap} {i : Nat} : ∀ (t : DT) (top : Bool), stepsOk P ops B top t D = true → (top = true → still P ops t = true) → i ∈ t.heads → wB P Γ ops E K t D fr H →
    ∃ anc rest o, ops[i]? = some o ∧ quietK P o = false ∧ i ∉ D ∧ i ∈ B ∧ (∀ p ∈ zrd ops i, p ∈ D) ∧ ancOk ops i anc [] = true ∧ stepsOk P ops B true rest (i :: D) = true ∧
      stepG P Γ ops o (fun fr' H' => recheck P Γ ops anc D fr' H' (wB P Γ ops E K rest (i :: D) fr' H')) E fr H := by
  intro t
  induction t with
  | fin => intro top _ _ hi; cases hi
  | one j anc rest _ =>
    intro top h hs hi hw
    have hi : i = j := by simpa [DT.heads] using hi
    subst hi
    unfold stepsOk at h
    simp only [Bool.and_eq_true] at h
    obtain ⟨⟨⟨⟨hnD, hpD⟩, hinB⟩, hstep⟩, hrest⟩ := h
    cases ho : ops[i]? with
    | none => rw [ho] at hstep; cases hstep
    | some o =>
      rw [ho] at hstep
      dsimp only at hstep
      have hq : quietK P o = false := by
        cases hq : quietK P o with
        | false => rfl
        | true =>
          rw [if_pos hq] at hstep
          have := hs hstep
          simp [still, ho, hq] at this
      rw [if_neg (by rw [hq]; simp)] at hstep
      simp only [Bool.and_eq_true] at hstep
      unfold wB at hw
      rw [ho] at hw
      dsimp only at hw
      rw [if_neg (by rw [hq]; simp)] at hw
      exact ⟨anc, rest, o, rfl, hq, by simpa using hnD, by simpa using hinB, fun p hp => by simpa using List.all_eq_true.1 hpD p hp, hstep.1, hrest, hw⟩
  | alt x y ihx ihy =>
    intro top h _ hi hw
    unfold stepsOk at h
    simp only [Bool.and_eq_true] at h
    obtain ⟨⟨_, hx⟩, hy⟩ := h
    unfold wB at hw
    rcases List.mem_append.1 hi with hi | hi
    · exact ihx false hx (fun e => by cases e) hi hw.1
    · exact ihy false hy (fun e => by cases e) hi hw.2
theorem cov {B : List Nat} {D : List Nat} {t : DT} (h : stepsOk P ops B true t D = true) (hs : still P ops t = true) : (∀ i ∈ B, i ∈ D) ∨ (t.heads ≠ [] ∧ ∀ k, k < ops.size → k ∈ D ∨ k ∈ t.heads ∨ ∃ p ∈ zrd ops k, p ∉ D) := by
  have fin : ∀ hd : List Nat, covOk ops hd D = true → ∀ k, k < ops.size → k ∈ D ∨ k ∈ hd ∨ ∃ p ∈ zrd ops k, p ∉ D := by
    intro hd h k hk
    have := List.all_eq_true.1 h k (by simpa using hk)
    simp only [Bool.or_eq_true, List.any_eq_true] at this
    rcases this with (h | h) | ⟨p, h1, h2⟩
    · exact .inl (by simpa using h)
    · exact .inr (.inl (by simpa using h))
    · exact .inr (.inr ⟨p, h1, by simpa using h2⟩)
  cases t with
  | fin =>
    refine .inl fun i hi => ?_
    unfold stepsOk at h
    simpa using List.all_eq_true.1 h i hi
  | one i anc rest =>
    refine .inr ⟨by simp [DT.heads], ?_⟩
    unfold stepsOk at h
    simp only [still] at hs
    cases ho : ops[i]? with
    | none => rw [ho] at hs; cases hs
    | some o =>
      rw [ho] at hs h
      dsimp only at hs h
      have hq : quietK P o = false := by simpa using hs
      rw [if_neg (by rw [hq]; simp)] at h
      simp only [Bool.and_eq_true, Bool.not_true, Bool.false_or] at h
      exact fin [i] h.1.2.2
  | alt x y =>
    unfold stepsOk at h
    simp only [Bool.and_eq_true, Bool.not_true, Bool.false_or] at h
    refine .inr ⟨fun e => ?_, fin _ h.1.1.1⟩
    have hx := h.1.1.2
    have e := (List.append_eq_nil_iff.1 e).1
    rw [e] at hx
    simp at hx
theorem advance {Ds : Fx} {B : List Nat} (hB : apartOk ops B = true) {E : Value → Heap → Prop} {K : Fr → Heap → Prop} : ∀ (steps : DT) (D : List Nat) (fr : Fr) (H : Heap) (listed : Array Bool) (a : Act) (w : World),
    (∀ i, i ∈ D → i ∈ B) → stepsOk P ops B true steps D = true → Inv Ds P Γ ops D listed fr H a w → wB P Γ ops E K steps D fr H →
    ∃ steps' D' fr', (∀ i, i ∈ D' → i ∈ B) ∧ stepsOk P ops B true steps' D' = true ∧ Inv Ds P Γ ops D' listed fr' H a w ∧ wB P Γ ops E K steps' D' fr' H ∧ fr'.length = fr.length ∧ still P ops steps' = true := by
  intro steps
  induction steps with
  | fin => intro D fr H listed a w h1 h2 h3 h4; exact ⟨.fin, D, fr, h1, h2, h3, h4, rfl, rfl⟩
  | alt x y _ _ => intro D fr H listed a w h1 h2 h3 h4; exact ⟨.alt x y, D, fr, h1, h2, h3, h4, rfl, rfl⟩
  | one i anc rest ih =>
    intro D fr H listed a w h1 h2 h3 h4
    have h2' := h2
    unfold stepsOk at h2'
    simp only [Bool.and_eq_true] at h2'
    obtain ⟨⟨⟨⟨hnD, hpD⟩, hinB⟩, hstep⟩, hrest⟩ := h2'
    have hnD : i ∉ D := by simpa using hnD
    cases ho : ops[i]? with
    | none => rw [ho] at hstep; cases hstep
    | some o =>
      cases hq : quietK P o with
      | false => exact ⟨.one i anc rest, D, fr, h1, h2, h3, h4, rfl, by simp [still, ho, hq]⟩
      | true =>
        have hiB : i ∈ B := by simpa using hinB
        have hil : listed.getD i false = false := by
          cases hl : listed.getD i false with
          | false => rfl
          | true => exact absurd (h3.sub i hl) hnD
        have hli : ∀ t ∈ o.looksAt ops, ∀ x, (put fr o.dst x).getD t none = fr.getD t none := fun t ht x => put_get_ne fun hd => ((apart_spec hB hiB hiB (by rw [dst_eq ho]; exact hd)).1 (by rw [looks_eq ho]; exact ht)).1 rfl
        unfold wB at h4
        rw [ho] at h4
        dsimp only at h4
        rw [if_pos hq] at h4
        have core : ∃ x, wB P Γ ops E K rest (i :: D) (put fr o.dst x) H ∧ Stay P Γ ops (put fr o.dst x) H i := by
          rcases stepG_iff h4 with ⟨hw, h⟩ | ⟨hw, h⟩
          · obtain ⟨v, hv, hall⟩ := quiet_det hq h
            refine ⟨v, hv, o, ho, hq, .inl ⟨by rw [want_agree fun t ht => hli t ht v]; exact hw, v, fun d hd hl => ?_, fun K' E' hk => ?_⟩⟩
            · rw [put_len] at hl; rw [hd]; exact put_get_self hl
            · rw [opW_congr (ev_agree fun t ht => hli t ht v)]; exact hall K' E' hk
          · refine ⟨undef, h, o, ho, hq, .inr ⟨by rw [want_agree fun t ht => hli t ht undef]; exact hw, fun d hd hl => ?_⟩⟩
            rw [put_len] at hl; rw [hd]; exact put_get_self hl
        obtain ⟨x, hx, hst⟩ := core
        have hpd : ∀ p ∈ zrd ops i, p ∈ D := fun p hp => by simpa using List.all_eq_true.1 hpD p hp
        obtain ⟨s', D', fr', g1, g2, g3, g4, g5, g6⟩ := ih (i :: D) (put fr o.dst x) H listed a w (fun k hk => by
            rcases List.mem_cons.1 hk with rfl | hk
            · exact hiB
            · exact h1 k hk) hrest
          { sz := h3.sz
            sub := fun k hk => by simp [h3.sub k hk]
            eff := fun k hk ok hok hqk => by
              rcases List.mem_cons.1 hk with rfl | hk
              · rw [ho] at hok; cases hok; rw [hq] at hqk; cases hqk
              · exact h3.eff k hk ok hok hqk
            clo := h3.clo
            top := fun k hk p hp => by
              rcases List.mem_cons.1 hk with rfl | hk
              · simp [hpd p hp]
              · simp [h3.top k hk p hp]
            df := h3.df
            len := by rw [put_len]; exact h3.len
            agr := fun t v ht hno => by
              have hne : o.dst ≠ some t := by have := hno i (by simp) hil; rwa [dst_eq ho] at this
              rw [put_get_ne hne] at ht
              exact h3.agr t v ht fun k hk hkl => hno k (by simp [hk]) hkl
            stay := fun k hk hkl => by
              rcases List.mem_cons.1 hk with rfl | hk
              · exact hst
              · rw [← dst_eq ho]
                exact Stay.put hB hiB (h1 k hk) (fun e => hnD (e ▸ hk)) (fun hp => hnD (h3.top k hk i hp)) x (h3.stay k hk hkl)
            hs := h3.hs } hx
        exact ⟨s', D', fr', g1, g2, g3, g4, g5.trans (put_len _ _ _), g6⟩
theorem anc_listed {listed : Array Bool} {e : Nat} (he : ∀ p ∈ zrd ops e, listed.getD p false = true) (hc : ∀ i, listed.getD i false = true → ∀ p ∈ zrd ops i, listed.getD p false = true) :
    ∀ (anc seen : List Nat), (∀ k ∈ seen, listed.getD k false = true) → ancOk ops e anc seen = true → ∀ j ∈ anc, listed.getD j false = true := by
  intro anc
  induction anc with
  | nil => intro _ _ _ j hj; cases hj
  | cons k anc ih =>
    intro seen hs h j hj
    unfold ancOk at h
    simp only [Bool.and_eq_true, Bool.or_eq_true, List.any_eq_true] at h
    have hk : listed.getD k false = true := by
      rcases h.1 with h1 | ⟨m, hm, h1⟩
      · exact he k (by simpa using h1)
      · exact hc m (hs m hm) k (by simpa using h1)
    rcases List.mem_cons.1 hj with rfl | hj
    · exact hk
    · exact ih (k :: seen) (fun m hm => by
        rcases List.mem_cons.1 hm with rfl | hm
        · exact hk
        · exact hs m hm) h.2 j hj
theorem simB {ro : Option Nat} {nf : Nat} {Ds : Fx} (hnp : ∀ (i : Nat) (o : Oper), ops[i]? = some o → NoDst Ds o) (hΓ : ∀ f F, Γ f = some F → zca P f F) {B A : List Nat} (ht : topoOk ops = true) (hB : apartOk ops B = true) (hA : asgOk ops B A = true) (hall : ∀ k, k < ops.size → k ∈ B ∨ k ∈ A) (hAn : A.Nodup) (hAB : ∀ i ∈ A, i ∉ B) (hBlt : ∀ i ∈ B, i < ops.size)
    {Q : Exit → Act → World → Prop} {K : Fr → Heap → Prop} {E : Value → Heap → Prop} :
    ∀ (fuel : Nat) (listed : Array Bool) (a : Act) (w : World) (D : List Nat) (fr : Fr) (H : Heap) (steps : DT), (List.range ops.size).countP (unl listed) ≤ fuel →
      (∀ i, i ∈ D → i ∈ B) → stepsOk P ops B true steps D = true → Inv Ds P Γ ops D listed fr H a w → wB P Γ ops E (fun fr' H' => wA P Γ ops E K A fr' H') steps D fr H →
      (∀ fr' H' a' w', R Ds fr' a' → Sub H' w' → Ext H w H' w' → K fr' H' → Q .normal a' w') → (∀ v H' a' w', Keeps Ds a' → Sub H' w' → Ext H w H' w' → E v H' → Q (.panic [{ v, recovered := false }]) a' w') →
      wpAnyIn (wideR ro) nf P .any ops Q fuel listed a w := by
  -- all of B is done
  have last : ∀ (fuel : Nat) (listed : Array Bool) (a : Act) (w : World) (D : List Nat) (fr : Fr) (H : Heap), (List.range ops.size).countP (unl listed) ≤ fuel → (∀ i, i ∈ D ↔ i ∈ B) → Inv Ds P Γ ops D listed fr H a w → (∀ i ∈ B, listed.getD i false = true) →
      wA P Γ ops E K A fr H → (∀ fr' H' a' w', R Ds fr' a' → Sub H' w' → Ext H w H' w' → K fr' H' → Q .normal a' w') → wpAnyIn (wideR ro) nf P .any ops Q fuel listed a w := by
    intro fuel listed a w D fr H hc hD hI hBl hk hQ
    obtain ⟨frF, h1, h2, h3, h4⟩ := wA_fin hA A hAn (fun _ h => h) fr hk
    refine simA hnp ht hA hall (frF := frF) (fun a' hR => hQ frF H a' w hR hI.hs (Ext.refl H w) h1) h4 fuel listed a hI.sz hc hBl hI.df (by rw [h2]; exact hI.len) (fun t v hv hno => ?_)
    have hnA : ∀ i ∈ A, dstOf ops i ≠ some t := by
      intro i hi
      obtain ⟨⟨o, x, d, ho, _, _, hd, _⟩, _⟩ := asg_spec hA hi
      refine hno i hi ?_ (Array.getElem?_eq_some_iff.1 ho).1
      cases hl : listed.getD i false with
      | false => rfl
      | true => exact absurd ((hD i).1 (hI.sub i hl)) (hAB i hi)
    rw [h3 t hnA] at hv
    exact hI.agr t v hv fun j hj hjl => by rw [hBl j ((hD j).1 hj)] at hjl; cases hjl
  have fin : ∀ (fuel : Nat) (listed : Array Bool) (a : Act) (w : World) (t : DT) (D : List Nat) (fr : Fr) (H : Heap), (List.range ops.size).countP (unl listed) ≤ fuel → (∀ i, i ∈ D → i ∈ B) → stepsOk P ops B true t D = true → Inv Ds P Γ ops D listed fr H a w → still P ops t = true → (∀ i ∈ B, listed.getD i false = true) →
      wB P Γ ops E (fun fr' H' => wA P Γ ops E K A fr' H') t D fr H → (∀ fr' H' a' w', R Ds fr' a' → Sub H' w' → Ext H w H' w' → K fr' H' → Q .normal a' w') → wpAnyIn (wideR ro) nf P .any ops Q fuel listed a w := by
    intro fuel listed a w t D fr H hc g1 g2 hI hs hBl hk hQ
    have hBD : ∀ i ∈ B, i ∈ D := fun i hi => hI.sub i (hBl i hi)
    cases t with
    | fin => exact last fuel listed a w D fr H hc (fun i => ⟨g1 i, hBD i⟩) hI hBl hk hQ
    | one i anc rest =>
      exfalso
      obtain ⟨_, _, _, _, _, h1, h2, _⟩ := pick (i := i) _ true g2 (fun _ => hs) (by simp [DT.heads]) hk
      exact h1 (hBD i h2)
    | alt x y =>
      exfalso
      rcases cov g2 hs with h | ⟨h, _⟩
      · unfold stepsOk at g2
        simp only [Bool.and_eq_true] at g2
        have hx := g2.1.1.2
        cases hh : x.heads with
        | nil => rw [hh] at hx; simp at hx
        | cons i l =>
          obtain ⟨_, _, _, _, _, h1, h2, _⟩ := pick (i := i) (.alt x y) true (by unfold stepsOk; simp only [Bool.and_eq_true]; exact g2) (fun _ => hs) (by simp [DT.heads, hh]) hk
          exact h1 (hBD i h2)
      · cases hh : (DT.alt x y).heads with
        | nil => exact h hh
        | cons i l =>
          obtain ⟨_, _, _, _, _, h1, h2, _⟩ := pick (i := i) (.alt x y) true g2 (fun _ => hs) (by rw [hh]; simp) hk
          exact h1 (hBD i h2)
  intro fuel
  induction fuel with
  | zero =>
    intro listed a w D fr H steps hc hsteps hok hI hk hQ hp
    have hl := unl_zero (Nat.le_zero.1 hc)
    obtain ⟨s', D', fr', g1, g2, g3, g4, g5, g6⟩ := advance hB steps D fr H listed a w hsteps hok hI hk
    have hBs : ∀ i ∈ B, i < ops.size → listed.getD i false = true := fun i _ hi => hl i hi
    have hBD : ∀ i ∈ B, i ∈ D' := fun i hi => g3.sub i (hl i (hBlt i hi))
    refine fin 0 listed a w s' D' fr' H hc g1 g2 g3 g6 (fun i hi => hl i (hBlt i hi)) g4 hQ
  | succ fuel ih =>
    intro listed a w D0 fr0 H steps0 hc hsteps hok hI0 hk hQ hp
    obtain ⟨steps, D, fr, g1, g2, hI, g4, _, g6⟩ := advance hB steps0 D0 fr0 H listed a w hsteps hok hI0 hk
    by_cases hBl : ∀ i ∈ B, listed.getD i false = true
    · exact fin (fuel + 1) listed a w steps D fr H hc g1 g2 hI g6 hBl g4 hQ
    · refine ⟨fun hr => absurd (fun i hi => all_listed ht hI.sz hr i (hBlt i hi)) hBl, fun i hi => ?_⟩
      obtain ⟨hlt, hli, hpl⟩ := (ready_iff hI.sz).1 hi
      have hiB : i ∈ B := (hall i hlt).resolve_right fun hiA => hBl fun b hb => hpl b ((asg_spec hA hiA).2 b hb)
      obtain ⟨o, ho⟩ : ∃ o, ops[i]? = some o := ⟨ops[i], Array.getElem?_eq_getElem hlt⟩
      -- what it looks at is there
      have hag : ∀ t ∈ o.looksAt ops, ∀ v, fr.getD t none = some v → a.tmps[t]? = some v := by
        intro t htl v hv
        refine hI.agr t v hv fun j hj hjl hjt => ?_
        have := (apart_spec hB (g1 j hj) hiB hjt).1 (by rw [looks_eq ho]; exact htl)
        rw [hpl j this.2] at hjl
        cases hjl
      have hcnt := unl_lt hI.sz hlt hli
      have hgs : ∀ k, (listed.setIfInBounds i true).getD k false = if k = i then true else listed.getD k false := fun k => getD_set listed i k (by rw [hI.sz]; exact hlt)
      have unlisted : ∀ k, (listed.setIfInBounds i true).getD k false = false → k ≠ i ∧ listed.getD k false = false := by
        intro k hk
        rw [hgs] at hk
        split at hk
        · cases hk
        · rename_i hne; exact ⟨hne, hk⟩
      have hclo : ∀ k, (listed.setIfInBounds i true).getD k false = true → ∀ p ∈ zrd ops k, (listed.setIfInBounds i true).getD p false = true := by
        intro k hk p hp
        rw [hgs]
        split
        · rfl
        · rw [hgs] at hk
          split at hk
          · rename_i _ he; subst he; exact hpl p hp
          · exact hI.clo k hk p hp
      have put_t : ∀ (v : Value) (t : Nat), (a.put o.dst v).tmps[t]? = if o.dst = some t ∧ t < a.tmps.size then some v else a.tmps[t]? := by
        intro v t
        cases hd : o.dst with
        | none => simp [Act.put]
        | some d =>
          show (a.tmps.setIfInBounds d v)[t]? = _
          rw [Array.getElem?_setIfInBounds]
          by_cases hdt : d = t
          · subst hdt
            by_cases hl : d < a.tmps.size
            · simp [hl]
            · simp [hl]
          · simp [hdt]
      have put_df : ∀ v, Keeps Ds (a.put o.dst v) := fun v => hI.df.put v (hnp i o ho)
      have put_sz : ∀ v, (a.put o.dst v).tmps.size = a.tmps.size := fun v => by cases o.dst <;> simp [Act.put]
      by_cases hiD : i ∈ D
      · -- it was read ahead
        obtain ⟨o', ho', hq, hst⟩ := hI.stay i hiD hli
        rw [ho] at ho'; cases ho'
        have core : ∃ v, (∀ d, o.dst = some d → d < fr.length → fr.getD d none = some v) ∧ ((wantF ops o fr = some true ∧ opW P Γ o (ev fr) (fun v' H' => H' = H ∧ v' = v) E H) ∨ (wantF ops o fr = some false ∧ (fun v' H' => H' = H ∧ v' = v) undef H)) := by
          rcases hst with ⟨h1, v, h2, h3⟩ | ⟨h1, h2⟩
          · exact ⟨v, h2, .inl ⟨h1, h3 _ _ ⟨rfl, rfl⟩⟩⟩
          · exact ⟨undef, h2, .inr ⟨h1, rfl, rfl⟩⟩
        obtain ⟨v, hslot, hrun⟩ := core
        refine wpOp_of hΓ ho hag hI.hs hrun (fun v' H' w' h1 h2 h3 => ?_) (fun v' H' w' h1 h2 h3 => hp v' H' a w' hI.df h1 h2 h3)
        obtain ⟨rfl, rfl⟩ := h3
        refine ih _ _ w' D fr H' steps (by omega) g1 g2 ?_ g4 (fun fr2 H2 a2 w2 q1 q2 q3 q4 => hQ fr2 H2 a2 w2 q1 q2 (h2.trans q3) q4) (fun v2 H2 a2 w2 q1 q2 q3 q4 => hp v2 H2 a2 w2 q1 q2 (h2.trans q3) q4)
        exact
          { sz := by simpa using hI.sz
            sub := fun k hk => by
              rw [hgs] at hk
              split at hk
              · rename_i he; subst he; exact hiD
              · exact hI.sub k hk
            eff := fun k hk ok hok hqk => by
              rw [hgs]
              split
              · rfl
              · exact hI.eff k hk ok hok hqk
            clo := hclo
            top := hI.top
            df := put_df v'
            len := by rw [put_sz]; exact hI.len
            agr := fun t u hu hno => by
              rw [put_t]
              by_cases hdt : o.dst = some t
              · have hl := get_lt hu
                rw [hslot t hdt hl] at hu
                rw [if_pos ⟨hdt, by have := hI.len; omega⟩]
                exact hu
              · rw [if_neg (fun h => hdt h.1)]
                refine hI.agr t u hu fun j hj hjl => ?_
                by_cases hji : j = i
                · subst hji; rw [dst_eq ho]; exact hdt
                · exact hno j hj (by rw [hgs, if_neg hji]; exact hjl)
            stay := fun k hk hkl => hI.stay k hk (unlisted k hkl).2
            hs := h1 }
      · -- it acts
        · have hhd : i ∈ steps.heads := by
            rcases cov g2 g6 with h | ⟨_, h⟩
            · exact absurd (h i hiB) hiD
            · rcases h i hlt with h | h | ⟨p, hp1, hp2⟩
              · exact absurd h hiD
              · exact h
              · exact absurd (hI.sub p (hpl p hp1)) hp2
          obtain ⟨anc, rest, oe, hoe, hqe, hnD, _, hpD, hanc, hrest, g4⟩ := pick steps true g2 (fun _ => g6) hhd g4
          rw [ho] at hoe; cases hoe
          refine wpOp_of hΓ ho hag hI.hs (KV := fun v H' => recheck P Γ ops anc D (put fr o.dst v) H' (wB P Γ ops E (fun fr' H' => wA P Γ ops E K A fr' H') rest (i :: D) (put fr o.dst v) H')) (E := E) (stepG_iff g4) (fun v H' w' h1 h2 h3 => ?_) (fun v' H' w' h1 h2 h3 => hp v' H' a w' hI.df h1 h2 h3)
          obtain ⟨hwb, hre⟩ := recheck_elim D h3
          refine ih _ _ w' (i :: D) (put fr o.dst v) H' rest (by omega) (fun k hk => by
              rcases List.mem_cons.1 hk with rfl | hk
              · exact hiB
              · exact g1 k hk) hrest ?_ hwb (fun fr2 H2 a2 w2 q1 q2 q3 q4 => hQ fr2 H2 a2 w2 q1 q2 (h2.trans q3) q4) (fun v2 H2 a2 w2 q1 q2 q3 q4 => hp v2 H2 a2 w2 q1 q2 (h2.trans q3) q4)
          exact
            { sz := by simpa using hI.sz
              sub := fun k hk => by
                rw [hgs] at hk
                split at hk
                · rename_i he; subst he; simp
                · simp [hI.sub k hk]
              eff := fun k hk ok hok hqk => by
                rw [hgs]
                split
                · rfl
                · rename_i hne
                  rcases List.mem_cons.1 hk with he | hk
                  · exact absurd he hne
                  · exact hI.eff k hk ok hok hqk
              clo := hclo
              top := fun k hk p hp => by
                rcases List.mem_cons.1 hk with rfl | hk
                · simp [hI.sub p (hpl p hp)]
                · simp [hI.top k hk p hp]
              df := put_df v
              len := by rw [put_sz, put_len]; exact hI.len
              agr := fun t u hu hno => by
                rw [put_t]
                by_cases hdt : o.dst = some t
                · have hl := get_lt hu
                  rw [put_len] at hl
                  rw [hdt, put_get_self hl] at hu
                  rw [if_pos ⟨hdt, by have := hI.len; omega⟩]
                  exact hu
                · rw [if_neg (fun h => hdt h.1)]
                  rw [put_get_ne hdt] at hu
                  refine hI.agr t u hu fun j hj hjl => ?_
                  exact hno j (by simp [hj]) (by rw [hgs, if_neg (fun (e : j = i) => hiD (e ▸ hj))]; exact hjl)
              stay := fun k hk hkl => by
                obtain ⟨hki, hkl⟩ := unlisted k hkl
                have hk : k ∈ D := (List.mem_cons.1 hk).resolve_left hki
                have hkB : k ∈ B := g1 k hk
                have hno : i ∉ zrd ops k := fun h => hiD (hI.top k hk i h)
                have hold := hI.stay k hk hkl
                have hput := Stay.put hB hiB hkB hki hno v hold
                rw [dst_eq ho] at hput
                obtain ⟨ok, hok, hqk, hcase⟩ := hput
                refine ⟨ok, hok, hqk, ?_⟩
                rcases hcase with ⟨h5, u, h6, h7⟩ | h5
                · by_cases hpk : pureK ok = true
                  · obtain ⟨u', hu', hall'⟩ := pure_det (Γ := Γ) (P := P) (E := fun _ _ => False) hpk (h7 (fun v' _ => v' = u) (fun _ _ => False) rfl)
                    subst hu'
                    exact .inl ⟨h5, u', h6, fun K' E' hk' => hall' K' E' H' hk'⟩
                  · have hpk : pureK ok = false := by simpa using hpk
                    have hna : anc.contains k = false := by
                      cases hc' : anc.contains k with
                      | false => rfl
                      | true =>
                        have := anc_listed hpl hI.clo anc [] (by simp) hanc k (by simpa using hc')
                        rw [this] at hkl
                        cases hkl
                    have hag' := hre k hk ok hok hqk hpk hna
                    unfold againG at hag'
                    rw [h5] at hag'
                    obtain ⟨u', ⟨_, hu'⟩, hall'⟩ := quiet_det hqk hag'
                    refine .inl ⟨h5, u', fun d hd hl => ?_, hall'⟩
                    rw [slotOf, hd] at hu'
                    exact hu'
                · exact .inr h5
              hs := h1 }
theorem wDraw_sound {ro : Option Nat} {nf : Nat} {Ds : Fx} (hnp : ∀ o ∈ ops.toList, NoDst Ds o) (hΓ : ∀ f F, Γ f = some F → zca P f F) (hm : P.follows .mixedOrders = true) {p : DPlan} (hok : drawOk P ops p = true) {id : Nat} {Q : Exit → Act → World → Prop} {K : Fr → Heap → Prop} {E : Value → Heap → Prop} {fr : Fr} {H : Heap} {a : Act} {w : World}
    (hR : R Ds fr a) (hS : Sub H w) (h : wDraw P Γ ops p E K fr H)
    (hQ : ∀ fr' H' a' w', R Ds fr' a' → Sub H' w' → Ext H w H' w' → K fr' H' → Q .normal a' w') (hp : ∀ v H' a' w', Keeps Ds a' → Sub H' w' → Ext H w H' w' → E v H' → Q (.panic [{ v, recovered := false }]) a' w') :
    (Code.region id ops true).wpIn (wideR ro) nf P Q a w := by
  unfold drawOk at hok
  simp only [Bool.and_eq_true] at hok
  obtain ⟨⟨⟨⟨⟨⟨⟨ht, hst⟩, hap⟩, hasg⟩, hcov⟩, hnd⟩, hdis⟩, hlt⟩ := hok
  refine wpIn_region_any hm ?_
  refine simB (fun i o ho => hnp o (List.mem_of_getElem? (by simpa using ho))) hΓ (B := p.all) (A := p.asg) ht hap hasg (fun k hk => ?_) (by simpa using hnd) (fun i hi => ?_) (fun i hi => of_decide_eq_true (List.all_eq_true.1 hlt i hi)) ops.size _ a _ [] fr H p.steps ?_ (fun i hi => by cases hi) hst ?_ h (fun fr' H' a' w' h1 h2 h3 h4 => hQ fr' H' a' w' h1 h2 ((Ext.drew H w _).trans h3) h4) (fun v H' a' w' h1 h2 h3 h4 => hp v H' a' w' h1 h2 ((Ext.drew H w _).trans h3) h4)
  · have := List.all_eq_true.1 hcov k (by simpa using hk)
    simpa using this
  · have := List.all_eq_true.1 hdis i hi
    simpa using this
  · exact Nat.le_trans List.countP_le_length (by simp)
  · exact
      { sz := by simp
        sub := fun i hi => by
          exfalso
          by_cases hl : i < ops.size <;> simp [hl] at hi
        eff := fun i hi => by cases hi
        clo := fun i hi => by
          exfalso
          by_cases hl : i < ops.size <;> simp [hl] at hi
        top := fun i hi => by cases hi
        df := hR.1
        len := hR.2.1
        agr := fun t v hv _ => hR.2.2 t v hv
        stay := fun i hi => by cases hi
        hs := hS }
end
end Go.Sh
