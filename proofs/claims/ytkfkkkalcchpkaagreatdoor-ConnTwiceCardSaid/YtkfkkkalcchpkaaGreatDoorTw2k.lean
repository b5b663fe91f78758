/- A packet that comes once more changes nothing (part 11 of the walk and its laws) -/
import Derived.Test.YtkfkkkalcchpkaaGreatDoorTw2j
namespace Go.Sh
def callQuiet (c : Call) : Bool :=
  match c.callee with
  | .builtin .len | .builtin .min | .builtin .max => true
  | _ => false
def quietK (P : Program) (o : Oper) : Bool :=
  match o.op with
  | .move _ | .assign _ | .pick _ _ _ | .load _ _ | .nilCheck _ | .binOp _ _ _ _ _ | .unOp _ _ _ | .extract _ _ | .field _ _ _ | .build _ _ | .makeFunc _ _ _ | .makeInterface _ _
  | .fieldAddr _ _ _ | .indexAddr _ _ _ | .index _ _ _ | .lookup _ _ _ _ => true
  | .slice _ _ _ _ none => true
  | .convert _ d _ => convQuiet P d
  | .call c => callQuiet c
  | _ => false
def pureK (o : Oper) : Bool :=
  match o.op with
  | .move _ | .assign _ | .pick _ _ _ | .nilCheck _ | .binOp _ _ _ _ _ | .unOp _ _ _ | .extract _ _ | .field _ _ _ | .build _ _ | .makeFunc _ _ _ | .makeInterface _ _
  | .fieldAddr _ _ _ | .indexAddr _ _ _ | .index _ _ _ => true
  | .slice _ _ _ _ none => true
  | _ => false
section
variable {P : Program} {Γ : FuncId → Option FT}
theorem det_optEv {ρ : Operand → Option Value} {x : Option Operand} {f : Option Value → (Value → Prop) → Prop} (h : ∀ v, Det (f v)) : Det fun K => optEv ρ x fun v => f v K := by
  intro K hk
  cases x with
  | none => exact h none K hk
  | some y => exact zuc (fun v => h (some v)) K hk
theorem pure_det {o : Oper} {ρ : Operand → Option Value} {K E : Value → Heap → Prop} {H : Heap} (hp : pureK o = true) (h : opW P Γ o ρ K E H) :
    ∃ v, K v H ∧ ∀ (K' E' : Value → Heap → Prop) (H' : Heap), K' v H' → opW P Γ o ρ K' E' H' := by
  have fin : ∀ {X : (Value → Prop) → Prop}, Det X → (∀ (K' E' : Value → Heap → Prop) (H' : Heap), opW P Γ o ρ K' E' H' = X fun v => K' v H') → ∃ v, K v H ∧ ∀ (K' E' : Value → Heap → Prop) (H' : Heap), K' v H' → opW P Γ o ρ K' E' H' := by
    intro X hd he
    rw [he K E H] at h
    obtain ⟨v, h1, h2⟩ := hd (fun v => K v H) h
    exact ⟨v, h1, fun K' E' H' h' => by rw [he K' E' H']; exact h2 (fun v => K' v H') h'⟩
  cases ho : o.op <;> simp only [pureK, ho] at hp <;> try (cases hp; done)
  case move x => exact fin (X := fun K => with1 (ρ x) fun v => K v) (zuc zue) (fun _ _ _ => by unfold opW; simp only [ho])
  case assign x => exact fin (X := fun K => with1 (ρ x) fun v => K v) (zuc zue) (fun _ _ _ => by unfold opW; simp only [ho])
  case pick c x y => exact fin (X := fun K => with1 (ρ c) fun c => wPick c (ρ x) (ρ y) K) (zuc fun _ => det_pick) (fun _ _ _ => by unfold opW; simp only [ho])
  case nilCheck x => exact fin (X := fun K => with1 (ρ x) fun v => wNil v K) (zuc fun _ => det_nil) (fun _ _ _ => by unfold opW; simp only [ho])
  case binOp op t x y yt => exact fin (X := fun K => with1 (ρ x) fun a => with1 (ρ y) fun b => wBin P op t (eqSafe x y a b) a b K) (zuc fun _ => zuc fun _ => det_bin) (fun _ _ _ => by unfold opW; simp only [ho])
  case unOp op t x => exact fin (X := fun K => with1 (ρ x) fun v => wPure P (Op.unary op v) K) (zuc fun _ => det_pure) (fun _ _ _ => by unfold opW; simp only [ho])
  case extract x i => exact fin (X := fun K => with1 (ρ x) fun v => wPure P (Instr.extract v i) K) (zuc fun _ => det_pure) (fun _ _ _ => by unfold opW; simp only [ho])
  case field t x f => exact fin (X := fun K => with1 (ρ x) fun v => wPure P (Instr.field t v f) K) (zuc fun _ => det_pure) (fun _ _ _ => by unfold opW; simp only [ho])
  case build t ps => exact fin (X := fun K => withs (evs ρ (ps.toList.map (·.2))) fun vs => wPure P (Instr.build t ((ps.toList.map (·.1)).zip vs).toArray) K) (det_withs fun _ => det_pure) (fun _ _ _ => by unfold opW; simp only [ho])
  case makeFunc fn xs ys => exact fin (X := fun K => withs (evs ρ xs.toList) fun us => withs (evs ρ ys.toList) fun vs => K (.func fn us.toArray vs.toArray)) (det_withs fun _ => det_withs fun _ => zue _) (fun _ _ _ => by unfold opW; simp only [ho])
  case makeInterface t x => exact fin (X := fun K => with1 (ρ x) fun v => wMk P t v K) (zuc fun _ => det_mk) (fun _ _ _ => by unfold opW; simp only [ho])
  case fieldAddr s x f => exact fin (X := fun K => with1 (ρ x) fun v => wField P s f v K) (zuc fun _ => det_field) (fun _ _ _ => by unfold opW; simp only [ho])
  case indexAddr t x i => exact fin (X := fun K => with1 (ρ x) fun v => with1 (ρ i) fun i => wIxA P t v i K) (zuc fun _ => zuc fun _ => det_ixA) (fun _ _ _ => by unfold opW; simp only [ho])
  case index t x i => exact fin (X := fun K => with1 (ρ x) fun v => with1 (ρ i) fun i => wIx P t v i K) (zuc fun _ => zuc fun _ => det_ix) (fun _ _ _ => by unfold opW; simp only [ho])
  case slice t x lo hi mx =>
    cases mx with
    | some m => cases hp
    | none => exact fin (X := fun K => with1 (ρ x) fun v => optEv ρ lo fun lo => optEv ρ hi fun hi => wSl P t v lo hi K) (zuc fun _ => det_optEv fun _ => det_optEv fun _ => det_sl) (fun _ _ _ => by unfold opW; simp only [ho])
theorem quiet_det {o : Oper} {ρ : Operand → Option Value} {K E : Value → Heap → Prop} {H : Heap} (hq : quietK P o = true) (h : opW P Γ o ρ K E H) :
    ∃ v, K v H ∧ ∀ (K' E' : Value → Heap → Prop), K' v H → opW P Γ o ρ K' E' H := by
  by_cases hp : pureK o = true
  · obtain ⟨v, h1, h2⟩ := pure_det hp h
    exact ⟨v, h1, fun K' E' h' => h2 K' E' H h'⟩
  · have fin : ∀ {X : (Value → Prop) → Prop}, Det X → (∀ (K' E' : Value → Heap → Prop), opW P Γ o ρ K' E' H = X fun v => K' v H) → ∃ v, K v H ∧ ∀ (K' E' : Value → Heap → Prop), K' v H → opW P Γ o ρ K' E' H := by
      intro X hd he
      rw [he K E] at h
      obtain ⟨v, h1, h2⟩ := hd (fun v => K v H) h
      exact ⟨v, h1, fun K' E' h' => by rw [he K' E']; exact h2 (fun v => K' v H) h'⟩
    cases ho : o.op <;> simp only [quietK, pureK, ho] at hq hp <;> try first | (cases hq; done) | exact absurd trivial hp | exact absurd rfl hp
    case load t x => exact fin (X := fun K => with1 (ρ x) fun p => wLoad P t p K H) (zuc fun _ => det_load) (fun _ _ => by unfold opW; simp only [ho])
    case lookup t m k ok => exact fin (X := fun K => with1 (ρ m) fun m => with1 (ρ k) fun k => wLook P t m k ok K H) (zuc fun _ => zuc fun _ => det_look) (fun _ _ => by unfold opW; simp only [ho])
    case slice t x lo hi mx =>
      cases mx with
      | some m => cases hq
      | none => first | exact absurd trivial hp | exact absurd rfl hp
    case convert s d x =>
      unfold opW at h
      simp only [ho] at h
      obtain ⟨u, hu, hk⟩ := zsa h
      obtain ⟨v, g1, g2⟩ := det_conv hq K hk
      exact ⟨v, g1, fun K' E' h' => by unfold opW; simp only [ho, hu]; exact g2 K' h'⟩
    case call c =>
      cases hc : c.callee with
      | value f => simp [callQuiet, hc] at hq
      | invoke r m => simp [callQuiet, hc] at hq
      | builtin b =>
        cases b <;> simp only [callQuiet, hc] at hq <;> try (cases hq; done)
        case len =>
          cases hu : (c.argTypes[0]?).bind P.underlying with
          | none => unfold opW at h; simp only [ho, wCall, hc, hu] at h
          | some d =>
            cases d
            case map k e =>
              refine fin (X := fun K => withs (evs ρ c.args.toList) fun vs => match vs with | [m] => wLenMap m K H | _ => False) (det_withs fun vs => ?_) (fun _ _ => by unfold opW; simp only [ho, wCall, hc, hu]; rfl)
              match vs with
              | [m] => exact det_lenMap
              | [] => exact zjf
              | _ :: _ :: _ => exact zjf
            all_goals exact fin (X := fun K => withs (evs ρ c.args.toList) fun vs => wPure P (Builtin.len_ c.argTypes 0 vs.toArray) K) (det_withs fun _ => det_pure) (fun _ _ => by unfold opW; simp only [ho, wCall, hc, hu])
        case min => exact fin (X := fun K => withs (evs ρ c.args.toList) fun vs => wPure P (Builtin.min_ c.argTypes 0 vs.toArray) K) (det_withs fun _ => det_pure) (fun _ _ => by unfold opW; simp only [ho, wCall, hc])
        case max => exact fin (X := fun K => withs (evs ρ c.args.toList) fun vs => wPure P (Builtin.max_ c.argTypes 0 vs.toArray) K) (det_withs fun _ => det_pure) (fun _ _ => by unfold opW; simp only [ho, wCall, hc])
theorem evs_congr {ρ ρ' : Operand → Option Value} : ∀ (xs : List Operand), (∀ x ∈ xs, ρ x = ρ' x) → evs ρ xs = evs ρ' xs := by
  intro xs
  induction xs with
  | nil => intro _; rfl
  | cons x xs ih => intro h; simp only [evs, h x (by simp), ih fun y hy => h y (by simp [hy])]
theorem optEv_congr {ρ ρ' : Operand → Option Value} {x : Option Operand} {k : Option Value → Prop} (h : ∀ y, x = some y → ρ y = ρ' y) : optEv ρ x k = optEv ρ' x k := by
  cases x with
  | none => rfl
  | some y => simp only [optEv, h y rfl]
theorem opW_congr {o : Oper} {ρ ρ' : Operand → Option Value} {K E : Value → Heap → Prop} {H : Heap} (hr : ∀ x ∈ o.op.operands, ρ x = ρ' x) : opW P Γ o ρ K E H = opW P Γ o ρ' K E H := by
  have hall : o.op.operands.toList.all (fun x => (ρ x).isSome) = o.op.operands.toList.all (fun x => (ρ' x).isSome) := by
    rw [Bool.eq_iff_iff, List.all_eq_true, List.all_eq_true]
    constructor
    · intro h x hx; rw [← hr x (by simpa using hx)]; exact h x hx
    · intro h x hx; rw [hr x (by simpa using hx)]; exact h x hx
  have gen : (∀ cs b, o.op ≠ .select cs b) → (if o.op.operands.toList.all (fun x => (ρ x).isSome) then wpS P (execOp (fun x => (ρ x).getD undef) o) (fun n H' => match n with | .value v => K v H' | .skip => K undef H' | _ => False) E H else False) =
      (if o.op.operands.toList.all (fun x => (ρ' x).isSome) then wpS P (execOp (fun x => (ρ' x).getD undef) o) (fun n H' => match n with | .value v => K v H' | .skip => K undef H' | _ => False) E H else False) := by
    intro hs
    rw [hall, execOp_congr o hs fun x hx => by rw [hr x hx]]
  unfold opW
  dsimp only
  have mem : ∀ {x : Operand}, x ∈ o.op.operands → ρ x = ρ' x := fun h => hr _ h
  cases ho : o.op <;> simp only [ho] at gen mem ⊢ <;> try first
    | rfl
    | exact gen (by simp)
  case slice t x lo hi mx =>
    cases mx with
    | some m => exact gen (by simp)
    | none =>
      dsimp only
      rw [mem (x := x) (by simp [Op.operands])]
      congr 1
      funext v
      rw [optEv_congr (x := lo) fun y hy => mem (by simp [Op.operands, hy])]
      congr 1
      funext l
      rw [optEv_congr (x := hi) fun y hy => mem (by simp [Op.operands, hy])]
  case makeMap t r =>
    cases r with
    | some m => exact gen (by simp)
    | none => rfl
  case build t ps => rw [evs_congr _ fun x hx => mem (by simpa [Op.operands] using hx)]
  case makeFunc fn xs ys =>
    rw [evs_congr xs.toList fun x hx => mem (by simp only [Op.operands, Array.mem_append]; exact .inl (by simpa using hx)), evs_congr ys.toList fun x hx => mem (by simp only [Op.operands, Array.mem_append]; exact .inr (by simpa using hx))]
  case call c =>
    have args : evs ρ c.args.toList = evs ρ' c.args.toList := evs_congr _ fun x hx => mem (by simp only [Op.operands, Call.operands, Array.mem_append]; exact .inr (by simpa using hx))
    unfold wCall
    cases hc : c.callee with
    | value f => simp only [args, mem (x := f) (by simp [Op.operands, Call.operands, hc])]
    | invoke r m => rfl
    | builtin b =>
      cases b <;> simp only [args] <;> try first | rfl | exact gen (by simp)
  case move x => rw [mem (x := x) (by simp [Op.operands])]
  case assign x => rw [mem (x := x) (by simp [Op.operands])]
  case box e x => rw [mem (x := x) (by simp [Op.operands])]
  case load t x => rw [mem (x := x) (by simp [Op.operands])]
  case nilCheck x => rw [mem (x := x) (by simp [Op.operands])]
  case unOp op t x => rw [mem (x := x) (by simp [Op.operands])]
  case convert s d x => rw [mem (x := x) (by simp [Op.operands])]
  case makeInterface t x => rw [mem (x := x) (by simp [Op.operands])]
  case fieldAddr s x f => rw [mem (x := x) (by simp [Op.operands])]
  case field s x f => rw [mem (x := x) (by simp [Op.operands])]
  case extract x i => rw [mem (x := x) (by simp [Op.operands])]
  case range t x => rw [mem (x := x) (by simp [Op.operands])]
  case next x s => rw [mem (x := x) (by simp [Op.operands])]
  case entry x => rw [mem (x := x) (by simp [Op.operands])]
  case store t x y => rw [mem (x := x) (by simp [Op.operands]), mem (x := y) (by simp [Op.operands])]
  case binOp op t x y yt => rw [mem (x := x) (by simp [Op.operands]), mem (x := y) (by simp [Op.operands])]
  case makeSlice t x y => rw [mem (x := x) (by simp [Op.operands]), mem (x := y) (by simp [Op.operands])]
  case indexAddr t x y => rw [mem (x := x) (by simp [Op.operands]), mem (x := y) (by simp [Op.operands])]
  case index t x y => rw [mem (x := x) (by simp [Op.operands]), mem (x := y) (by simp [Op.operands])]
  case lookup t x y ok => rw [mem (x := x) (by simp [Op.operands]), mem (x := y) (by simp [Op.operands])]
  case pick x y z => rw [mem (x := x) (by simp [Op.operands]), mem (x := y) (by simp [Op.operands]), mem (x := z) (by simp [Op.operands])]
  case mapUpdate t x y z => rw [mem (x := x) (by simp [Op.operands]), mem (x := y) (by simp [Op.operands]), mem (x := z) (by simp [Op.operands])]
  case insert t x y z => rw [mem (x := x) (by simp [Op.operands]), mem (x := y) (by simp [Op.operands]), mem (x := z) (by simp [Op.operands])]
end
end Go.Sh
