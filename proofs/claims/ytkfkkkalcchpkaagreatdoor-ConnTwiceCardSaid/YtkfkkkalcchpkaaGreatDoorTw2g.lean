/- A packet that comes once more changes nothing (part 7 of the walk and its laws) -/
import Derived.Test.YtkfkkkalcchpkaaGreatDoorTw2f
import Derived.OrdersIn
namespace Go.Sh
def wCall (P : Program) (Γ : FuncId → Option FT) (ρ : Operand → Option Value) (c : Call) (K E : Value → Heap → Prop) (gen : Prop) (H : Heap) : Prop :=
  match c.callee with
  | .value f => with1 (ρ f) fun fv => withs (evs ρ c.args.toList) fun vs => wFunc Γ fv vs K E H
  | .builtin .append => withs (evs ρ c.args.toList) fun vs => match vs with
    | [s, x] => wApp P c.argTypes s x K H
    | _ => False
  | .builtin .copy => withs (evs ρ c.args.toList) fun vs => match vs with
    | [d, x] => wCopy P c.argTypes[0]? d x K H
    | _ => False
  | .builtin .delete => withs (evs ρ c.args.toList) fun vs => match vs with
    | [m, k] => match c.argTypes[0]? with
      | some t => wDel P t m k (fun H' => K (.tuple #[]) H') H
      | none => False
    | _ => False
  | .builtin .len => match (c.argTypes[0]?).bind P.underlying with
    | some (.map _ _) => withs (evs ρ c.args.toList) fun vs => match vs with
      | [m] => wLenMap m (fun v => K v H) H
      | _ => False
    | some _ => withs (evs ρ c.args.toList) fun vs => wPure P (Builtin.len_ c.argTypes 0 vs.toArray) fun v => K v H
    | none => False
  | .builtin .min => withs (evs ρ c.args.toList) fun vs => wPure P (Builtin.min_ c.argTypes 0 vs.toArray) fun v => K v H
  | .builtin .max => withs (evs ρ c.args.toList) fun vs => wPure P (Builtin.max_ c.argTypes 0 vs.toArray) fun v => K v H
  | .builtin .clear => withs (evs ρ c.args.toList) fun vs => match vs with
    | [m] => match c.argTypes[0]? with
      | some t => wClr P t m (fun H' => K (.tuple #[]) H') H
      | none => False
    | _ => False
  | .builtin .recover => False
  | .builtin .print => False
  | .builtin .println => False
  | .builtin _ => gen
  | .invoke _ _ => False
def opW (P : Program) (Γ : FuncId → Option FT) (o : Oper) (ρ : Operand → Option Value) (K E : Value → Heap → Prop) (H : Heap) : Prop :=
  let gen : Prop := if o.op.operands.toList.all (fun x => (ρ x).isSome) then
      wpS P (execOp (fun x => (ρ x).getD undef) o) (fun n H' => match n with | .value v => K v H' | .skip => K undef H' | _ => False) E H
    else False
  match o.op with
  | .move x => with1 (ρ x) fun v => K v H
  | .assign x => with1 (ρ x) fun v => K v H
  | .pick c a b => with1 (ρ c) fun c => wPick c (ρ a) (ρ b) fun v => K v H
  | .alloc e => wAlloc P e K H
  | .box e x => with1 (ρ x) fun v => newB (.cells v.cells e) (fun b H' => K (.pointer (some ⟨b, 0, none⟩)) H') H
  | .load t x => with1 (ρ x) fun p => wLoad P t p (fun v => K v H) H
  | .store t x y => with1 (ρ x) fun p => with1 (ρ y) fun v => wStore P t p v (fun H' => K undef H') H
  | .nilCheck x => with1 (ρ x) fun v => wNil v fun v => K v H
  | .binOp op t x y _ => with1 (ρ x) fun a => with1 (ρ y) fun b => wBin P op t (eqSafe x y a b) a b fun v => K v H
  | .unOp op _ x => with1 (ρ x) fun v => wPure P (Op.unary op v) fun v => K v H
  | .extract x i => with1 (ρ x) fun v => wPure P (Instr.extract v i) fun v => K v H
  | .field t x f => with1 (ρ x) fun v => wPure P (Instr.field t v f) fun v => K v H
  | .build t ps => withs (evs ρ (ps.toList.map (·.2))) fun vs => wPure P (Instr.build t ((ps.toList.map (·.1)).zip vs).toArray) fun v => K v H
  | .makeFunc fn first captured => withs (evs ρ first.toList) fun xs => withs (evs ρ captured.toList) fun ys => K (.func fn xs.toArray ys.toArray) H
  | .convert s d x => with1 (ρ x) fun v => wConv P s d v K H
  | .makeInterface t x => with1 (ρ x) fun v => wMk P t v fun v => K v H
  | .makeMap _ none => newB (.map #[] 0) (fun b H' => K (.map (some b)) H') H
  | .makeSlice t l c => with1 (ρ l) fun l => with1 (ρ c) fun c => wMake P t l c K H
  | .slice t x lo hi none => with1 (ρ x) fun v => optEv ρ lo fun lo => optEv ρ hi fun hi => wSl P t v lo hi fun v => K v H
  | .fieldAddr s x f => with1 (ρ x) fun v => wField P s f v fun v => K v H
  | .indexAddr t x ix => with1 (ρ x) fun v => with1 (ρ ix) fun i => wIxA P t v i fun v => K v H
  | .index t x ix => with1 (ρ x) fun v => with1 (ρ ix) fun i => wIx P t v i fun v => K v H
  | .lookup t x ix ok => with1 (ρ x) fun m => with1 (ρ ix) fun k => wLook P t m k ok (fun v => K v H) H
  | .mapUpdate t m k x => with1 (ρ m) fun m => with1 (ρ k) fun k => with1 (ρ x) fun x => wPut P t m k x (fun H' => K undef H') H
  | .insert t m k x => with1 (ρ m) fun m => with1 (ρ k) fun k => with1 (ρ x) fun x => wPut P t m k x (fun H' => K undef H') H
  | .range t x => with1 (ρ x) fun x => wRange P t x K H
  | .next x s => with1 (ρ x) fun x => wNext x s K H
  | .entry x => with1 (ρ x) fun x => wEntry x K H
  | .call c => wCall P Γ ρ c K E gen H
  | .go _ => False
  | .defer _ => False
  | .send _ _ => False
  | .recv _ _ _ => False
  | .select _ _ => False
  | _ => gen
def wideR (ro : Option Nat) : Fence := { Fence.wide with round := ro }
theorem callsIn_R {ro : Option Nat} {n : Nat} {P : Program} {f : FuncId} {args : Array Value} {w : World} {R : Ending → World → Prop} (h : Calls P f args w R) : CallsIn (wideR ro) n P f args w R := callsIn_wide (n := n) |>.2 h
section
variable {P : Program} {Γ : FuncId → Option FT} {E : Value → Heap → Prop} {H : Heap} {K : Value → Heap → Prop} {ro : Option Nat} {nf : Nat}
theorem wpIn_of {o : Oper} {a : Act} {w : World} {next : Act → World → Prop} {Q : Exit → Act → World → Prop} (hnd : ∀ c, o.op ≠ .defer c) (h : o.uponIn (wideR ro) nf P a next Q ((execOp a.eval o).run P w)) : o.wpIn (wideR ro) nf P a w next Q := by
  refine ⟨fun _ _ => trivial, ?_⟩
  show o.uponIn (wideR ro) nf P a next Q ((o.semAt ro a.eval).run P w)
  rw [Oper.semAt_eq _ _ _ hnd]
  exact h
structure Goes (H : Heap) (w : World) (K E : Value → Heap → Prop) (a : Act) (dst : Option Tmp) (next : Act → World → Prop) (Q : Exit → Act → World → Prop) : Prop where
  next : ∀ v H' w', Sub H' w' → Ext H w H' w' → K v H' → next (a.put dst v) w'
  pan : ∀ v H' w', Sub H' w' → Ext H w H' w' → E v H' → Q (.panic [{ v, recovered := false }]) a w'
theorem of_wpS {o : Oper} {a : Act} {w : World} {next : Act → World → Prop} {Q : Exit → Act → World → Prop} (hnd : ∀ c, o.op ≠ .defer c) (hS : Sub H w) (g : Goes H w K E a o.dst next Q)
    (h : wpS P (execOp a.eval o) (fun n H' => match n with | .value v => K v H' | .skip => K undef H' | _ => False) E H) : o.wpIn (wideR ro) nf P a w next Q := by
  have hr := wpS_sound P (execOp a.eval o) H w hS h
  refine wpIn_of hnd ?_
  cases hx : (execOp a.eval o).run P w with
  | ok n w' =>
    rw [hx] at hr
    obtain ⟨H', h1, h2, h3⟩ := hr
    cases n <;> try exact h3.elim
    · exact g.next _ _ _ h1 h2 h3
    · exact g.next _ _ _ h1 h2 h3
  | halt x w' =>
    rw [hx] at hr
    cases x <;> try exact hr.elim
    obtain ⟨H', h1, h2, h3⟩ := hr
    exact g.pan _ _ _ h1 h2 h3
theorem v_iff {s : Sem Value} {K : Value → Heap → Prop} (h : wpS P s K E H) : wpS P (do pure (.value (← s)) : Sem Next) (fun n H' => match n with | .value v => K v H' | .skip => K undef H' | _ => False) E H := by
  simp only [zha]
  exact h
theorem u_iff {s : Sem Unit} {K : Value → Heap → Prop} (h : wpS P s (fun _ H' => K undef H') E H) : wpS P (do s; pure .skip : Sem Next) (fun n H' => match n with | .value v => K v H' | .skip => K undef H' | _ => False) E H := by
  simp only [zha]
  exact h
theorem evs_elim {ρ : Operand → Option Value} {σ : Operand → Value} : ∀ (xs : List Operand), (∀ x ∈ xs, ∀ v, ρ x = some v → σ x = v) → ∀ (vs : List Value), evs ρ xs = some vs → xs.map σ = vs := by
  intro xs
  induction xs with
  | nil => intro _ vs h; simpa [evs] using h
  | cons x xs ih =>
    intro hρ vs h
    unfold evs at h
    cases h1 : ρ x with
    | none => simp [h1] at h
    | some v =>
      cases h2 : evs ρ xs with
      | none => simp [h1, h2] at h
      | some vs' =>
        simp only [h1, h2, Option.some.injEq] at h
        subst h
        rw [List.map_cons, hρ x (by simp) v h1, ih (fun y hy => hρ y (by simp [hy])) vs' h2]
theorem zze {x : Option (List Value)} {k : List Value → Prop} (h : withs x k) : ∃ vs, x = some vs ∧ k vs := by
  cases x with
  | none => exact h.elim
  | some v => exact ⟨v, rfl, h⟩
theorem args_map {c : Array Operand} {σ : Operand → Value} {vs : List Value} (h : c.toList.map σ = vs) : c.map σ = vs.toArray := by
  apply Array.toList_inj.1
  simpa using h
theorem callee_goes (hΓ : ∀ f F, Γ f = some F → zca P f F) {o : Oper} {c : Call} {a : Act} {w : World} {next : Act → World → Prop} {Q : Exit → Act → World → Prop} (ho : o.op = .call c) {x : Operand} (hc : c.callee = .value x)
    (hS : Sub H w) (g : Goes H w K E a o.dst next Q) {vs : List Value} (hargs : c.args.map a.eval = vs.toArray) (h : wFunc Γ (a.eval x) vs K E H) : o.wpIn (wideR ro) nf P a w next Q := by
  unfold wFunc at h
  cases hf : a.eval x <;> simp only [hf] at h <;> try exact h.elim
  rename_i fn first captured
  cases fn <;> dsimp only at h <;> try exact h.elim
  rename_i i
  cases hG : Γ i with
  | none => simp [hG] at h
  | some F =>
    rw [hG] at h
    dsimp only at h
    have hk := hΓ i F hG _ K E H w hS h
    have hx : (execOp a.eval o).run P w = (callFunc i (first.toList ++ vs ++ captured.toList).toArray).run P w := by
      have : execOp a.eval o = callFunc i (first ++ vs.toArray ++ captured) := by
        unfold execOp
        simp only [ho, resolve, hc, hf, hargs]
        rfl
      rw [this]
      congr 2
      apply Array.toList_inj.1
      simp
    refine wpIn_of (by simp [ho]) ?_
    rw [hx]
    cases hr : (callFunc i (first.toList ++ vs ++ captured.toList).toArray).run P w with
    | halt y w' => rw [hr] at hk; exact hk.elim
    | ok n w' =>
      rw [hr] at hk
      cases n <;> try exact hk.elim
      case value v =>
        obtain ⟨H', h1, h2, h3⟩ := hk
        exact g.next _ _ _ h1 h2 h3
      case enter f' as' =>
        refine ⟨(fun h => by cases h), callsIn_R (Calls.mono hk fun e w'' he => ?_)⟩
        cases e with
        | returned v => obtain ⟨H', h1, h2, h3⟩ := he; exact g.next _ _ _ h1 h2 h3
        | panicked chain => obtain ⟨v, H', rfl, h1, h2, h3⟩ := he; exact g.pan _ _ _ h1 h2 h3
        | outgrown => exact he.elim
theorem builtin_run {o : Oper} {c : Call} {a : Act} {b : Builtin} (ho : o.op = .call c) (hc : c.callee = .builtin b) {vs : List Value} (hargs : c.args.map a.eval = vs.toArray) :
    execOp a.eval o = builtin b c.argTypes o.type (c.args.map fun | .const _ => true | _ => false) vs.toArray := by
  unfold execOp
  simp only [ho, resolve, hc, hargs]
  rfl
theorem opW_sound (hΓ : ∀ f F, Γ f = some F → zca P f F) {o : Oper} {ρ : Operand → Option Value} {a : Act} {w : World} {next : Act → World → Prop} {Q : Exit → Act → World → Prop}
    (hρ₀ : ∀ x ∈ o.op.operands, ∀ v, ρ x = some v → a.eval x = v) (hS : Sub H w) (g : Goes H w K E a o.dst next Q) (h : opW P Γ o ρ K E H) : o.wpIn (wideR ro) nf P a w next Q := by
  have hnd : ∀ c, o.op ≠ .defer c := by
    intro c hc
    unfold opW at h
    rw [hc] at h
    exact h.elim
  have gen : (if o.op.operands.toList.all (fun x => (ρ x).isSome) then
      wpS P (execOp (fun x => (ρ x).getD undef) o) (fun n H' => match n with | .value v => K v H' | .skip => K undef H' | _ => False) E H
    else False) → (∀ cs b, o.op ≠ .select cs b) → o.wpIn (wideR ro) nf P a w next Q := by
    intro h hs
    by_cases ha : o.op.operands.toList.all (fun x => (ρ x).isSome) = true
    · rw [if_pos ha] at h
      have he : execOp (fun x => (ρ x).getD undef) o = execOp a.eval o := execOp_congr o hs fun x hx => by
        have := List.all_eq_true.1 ha x (by simpa using hx)
        obtain ⟨v, hv⟩ := Option.isSome_iff_exists.1 this
        rw [hρ₀ x (by simpa using hx) v hv, hv]; rfl
      rw [he] at h
      exact of_wpS hnd hS g h
    · rw [if_neg ha] at h; exact h.elim
  have val : ∀ {s : Sem Value}, execOp a.eval o = (do pure (.value (← s)) : Sem Next) → wpS P s K E H → o.wpIn (wideR ro) nf P a w next Q := fun he hk =>
    of_wpS hnd hS g (by rw [he]; exact v_iff hk)
  have unt : ∀ {s : Sem Unit}, execOp a.eval o = (do s; pure .skip : Sem Next) → wpS P s (fun _ H' => K undef H') E H → o.wpIn (wideR ro) nf P a w next Q := fun he hk =>
    of_wpS hnd hS g (by rw [he]; exact u_iff hk)
  unfold opW at h
  dsimp only at h
  cases ho : o.op <;> simp only [ho] at h gen <;> try first | exact h.elim | exact gen h (by simp)
  case move x =>
    obtain ⟨v, hv, hk⟩ := zsa h
    exact of_wpS hnd hS g (by simp only [execOp, ho, hρ₀ _ (by rw [ho]; simp [Op.operands]) _ hv]; exact hk)
  case assign x =>
    obtain ⟨v, hv, hk⟩ := zsa h
    exact of_wpS hnd hS g (by simp only [execOp, ho, hρ₀ _ (by rw [ho]; simp [Op.operands]) _ hv]; exact hk)
  case pick c x y =>
    obtain ⟨v, hv, hk⟩ := zsa h
    cases v <;> simp only [wPick] at hk <;> try exact hk.elim
    rename_i t
    cases t with
    | true =>
      rw [if_pos rfl] at hk
      obtain ⟨u, hu, hk⟩ := zsa hk
      exact of_wpS hnd hS g (by simp only [execOp, ho, hρ₀ _ (by rw [ho]; simp [Op.operands]) _ hv, hρ₀ _ (by rw [ho]; simp [Op.operands]) _ hu]; exact hk)
    | false =>
      rw [if_neg (by simp)] at hk
      obtain ⟨u, hu, hk⟩ := zsa hk
      exact of_wpS hnd hS g (by simp only [execOp, ho, hρ₀ _ (by rw [ho]; simp [Op.operands]) _ hv, hρ₀ _ (by rw [ho]; simp [Op.operands]) _ hu]; exact hk)
  case alloc e =>
    refine val (s := Instr.alloc e true (.tuple #[])) (by simp only [execOp, ho]) ?_
    unfold wAlloc at h
    cases hz : (P.info? e).bind (·.zero) with
    | none => simp [hz] at h
    | some z =>
      rw [hz] at h
      obtain ⟨i, hi, hz⟩ := Option.bind_eq_some_iff.1 hz
      have zero : ∀ {K : Value → Heap → Prop} {H : Heap}, wpS P (zeroValue e) K E H ↔ K z H := by
        intro K H
        simp only [zeroValue, zha, zjc hi, hz]
        exact Iff.rfl
      simp only [Instr.alloc, zha, zero]
      exact fun b hb => h b hb
  case box e x =>
    obtain ⟨v, hv, hk⟩ := zsa h
    refine val (s := Instr.box e v) (by simp only [execOp, ho, hρ₀ _ (by rw [ho]; simp [Op.operands]) _ hv]) ?_
    exact fun b hb => hk b hb
  case load t x =>
    obtain ⟨v, hv, hk⟩ := zsa h
    refine val (s := Instr.loadAt t v) (by simp only [execOp, ho, hρ₀ _ (by rw [ho]; simp [Op.operands]) _ hv]) ?_
    cases v <;> simp only [wLoad] at hk <;> try exact hk.elim
    rename_i p
    cases p with
    | none => exact hk.elim
    | some ad => exact ldVar_ok hk
  case store t x y =>
    obtain ⟨v, hv, hk⟩ := zsa h
    obtain ⟨u, hu, hk⟩ := zsa hk
    refine unt (s := Instr.storeAt t v u) (by simp only [execOp, ho, hρ₀ _ (by rw [ho]; simp [Op.operands]) _ hv, hρ₀ _ (by rw [ho]; simp [Op.operands]) _ hu]) ?_
    match v, hk with
    | .pointer (some ad), hk => exact stVar_ok hk
  case nilCheck x =>
    obtain ⟨v, hv, hk⟩ := zsa h
    cases v <;> simp only [wNil] at hk <;> try exact hk.elim
    case pointer p =>
      obtain ⟨ad, rfl, hk⟩ := hk
      exact of_wpS hnd hS g (by simp only [execOp, ho, hρ₀ _ (by rw [ho]; simp [Op.operands]) _ hv]; exact hk)
    case func fn first captured =>
      cases fn <;> simp only at hk <;> try exact hk.elim
      exact of_wpS hnd hS g (by simp only [execOp, ho, hρ₀ _ (by rw [ho]; simp [Op.operands]) _ hv]; exact hk)
    case iface t y => exact of_wpS hnd hS g (by simp only [execOp, ho, hρ₀ _ (by rw [ho]; simp [Op.operands]) _ hv]; exact hk)
  case binOp op t x y yt =>
    obtain ⟨v, hv, hk⟩ := zsa h
    obtain ⟨u, hu, hk⟩ := zsa hk
    refine val (s := do eqGuard op t x y v u; binOp op t v u) (by simp only [execOp, ho, hρ₀ _ (by rw [ho]; simp [Op.operands]) _ hv, hρ₀ _ (by rw [ho]; simp [Op.operands]) _ hu]) ?_
    exact wBin_ok hk
  case unOp op t x =>
    obtain ⟨v, hv, hk⟩ := zsa h
    refine val (s := Op.unary op v) (by simp only [execOp, ho, hρ₀ _ (by rw [ho]; simp [Op.operands]) _ hv]) (wPure_ok hk)
  case extract x i =>
    obtain ⟨v, hv, hk⟩ := zsa h
    refine val (s := Instr.extract v i) (by simp only [execOp, ho, hρ₀ _ (by rw [ho]; simp [Op.operands]) _ hv]) (wPure_ok hk)
  case field t x f =>
    obtain ⟨v, hv, hk⟩ := zsa h
    refine val (s := Instr.field t v f) (by simp only [execOp, ho, hρ₀ _ (by rw [ho]; simp [Op.operands]) _ hv]) (wPure_ok hk)
  case build t ps =>
    obtain ⟨vs, he, hk⟩ := zze h
    have e : (ps.map fun (i, x) => (i, a.eval x)) = ((ps.toList.map (·.1)).zip vs).toArray := by
      apply Array.toList_inj.1
      rw [← evs_elim _ (fun x hx v h => hρ₀ x (by rw [ho]; simpa [Op.operands] using hx) v h) _ he]
      simp only [Array.toList_map, List.map_map]
      generalize ps.toList = l
      induction l with
      | nil => rfl
      | cons x l ih => simp only [List.map_cons, List.zip_cons_cons, ih]; rfl
    refine val (s := Instr.build t ((ps.toList.map (·.1)).zip vs).toArray) (by simp only [execOp, ho, e]) (wPure_ok hk)
  case makeFunc fn first captured =>
    obtain ⟨xs, h1, hk⟩ := zze h
    obtain ⟨ys, h2, hk⟩ := zze hk
    refine val (s := Instr.makeFunc fn xs.toArray ys.toArray) (by simp only [execOp, ho, args_map (evs_elim _ (fun x hx v h => hρ₀ x (by rw [ho]; simp only [Op.operands, Array.mem_append]; exact .inl (by simpa using hx)) v h) _ h1), args_map (evs_elim _ (fun x hx v h => hρ₀ x (by rw [ho]; simp only [Op.operands, Array.mem_append]; exact .inr (by simpa using hx)) v h) _ h2)]) hk
  case convert s d x =>
    obtain ⟨v, hv, hk⟩ := zsa h
    refine val (s := convert s d v) (by simp only [execOp, ho, hρ₀ _ (by rw [ho]; simp [Op.operands]) _ hv]) ?_
    exact wConv_ok hk
  case makeInterface t x =>
    obtain ⟨v, hv, hk⟩ := zsa h
    refine val (s := Instr.makeInterface t v) (by simp only [execOp, ho, hρ₀ _ (by rw [ho]; simp [Op.operands]) _ hv]) ?_
    unfold wMk at hk
    cases hu : P.underlying t with
    | none => simp [hu] at hk
    | some d =>
      rw [hu] at hk
      simp only [Instr.makeInterface, zha, zka hu]
      cases d <;> first | exact hk.elim | exact hk
  case makeMap t r =>
    cases r with
    | some r => exact gen h (by simp)
    | none =>
      refine val (s := Instr.makeMap t none) (by simp only [execOp, ho]; rfl) ?_
      exact fun b hb => h b hb
  case makeSlice t l c =>
    obtain ⟨v, hv, hk⟩ := zsa h
    obtain ⟨u, hu, hk⟩ := zsa hk
    refine val (s := Instr.makeSlice t v u) (by simp only [execOp, ho, hρ₀ _ (by rw [ho]; simp [Op.operands]) _ hv, hρ₀ _ (by rw [ho]; simp [Op.operands]) _ hu]) ?_
    exact wMake_ok hk
  case slice t x lo hi mx =>
    cases mx with
    | some m => exact gen h (by simp)
    | none =>
      obtain ⟨v, hv, hk⟩ := zsa h
      have opt : ∀ {y : Option Operand} {k : Option Value → Prop}, (∀ z, y = some z → z ∈ o.op.operands) → optEv ρ y k → k (y.map a.eval) := by
        intro y k hm h
        cases y with
        | none => exact h
        | some y => obtain ⟨u, hu, hk⟩ := zsa h; rw [Option.map_some, hρ₀ _ (hm y rfl) _ hu]; exact hk
      have hk := opt (y := hi) (fun z hz => by rw [ho]; simp [Op.operands, hz]) (opt (y := lo) (fun z hz => by rw [ho]; simp [Op.operands, hz]) hk)
      refine val (s := Instr.sliceAt t v (lo.map a.eval) (hi.map a.eval) none) (by simp only [execOp, ho, hρ₀ _ (by rw [ho]; simp [Op.operands]) _ hv]; rfl) ?_
      exact wSl_ok hk
  case fieldAddr s x f =>
    obtain ⟨v, hv, hk⟩ := zsa h
    refine val (s := Instr.fieldAt s v f) (by simp only [execOp, ho, hρ₀ _ (by rw [ho]; simp [Op.operands]) _ hv]) ?_
    exact wField_ok hk
  case indexAddr t x ix =>
    obtain ⟨v, hv, hk⟩ := zsa h
    obtain ⟨u, hu, hk⟩ := zsa hk
    refine val (s := Instr.indexAt t v u) (by simp only [execOp, ho, hρ₀ _ (by rw [ho]; simp [Op.operands]) _ hv, hρ₀ _ (by rw [ho]; simp [Op.operands]) _ hu]) ?_
    exact wIxA_ok hk
  case index t x ix =>
    obtain ⟨v, hv, hk⟩ := zsa h
    obtain ⟨u, hu, hk⟩ := zsa hk
    refine val (s := Instr.index t v u) (by simp only [execOp, ho, hρ₀ _ (by rw [ho]; simp [Op.operands]) _ hv, hρ₀ _ (by rw [ho]; simp [Op.operands]) _ hu]) ?_
    exact wIx_ok hk
  case lookup t x ix ok =>
    obtain ⟨v, hv, hk⟩ := zsa h
    obtain ⟨u, hu, hk⟩ := zsa hk
    refine val (s := Instr.lookup t v u ok) (by simp only [execOp, ho, hρ₀ _ (by rw [ho]; simp [Op.operands]) _ hv, hρ₀ _ (by rw [ho]; simp [Op.operands]) _ hu]) ?_
    exact wLook_ok hk
  case mapUpdate t m k x =>
    obtain ⟨v, hv, hk⟩ := zsa h
    obtain ⟨u, hu, hk⟩ := zsa hk
    obtain ⟨z, hz, hk⟩ := zsa hk
    refine unt (s := Instr.mapUpdate t v u z) (by simp only [execOp, ho, hρ₀ _ (by rw [ho]; simp [Op.operands]) _ hv, hρ₀ _ (by rw [ho]; simp [Op.operands]) _ hu, hρ₀ _ (by rw [ho]; simp [Op.operands]) _ hz]) ?_
    exact wPut_ok hk
  case insert t m k x =>
    obtain ⟨v, hv, hk⟩ := zsa h
    obtain ⟨u, hu, hk⟩ := zsa hk
    obtain ⟨z, hz, hk⟩ := zsa hk
    refine unt (s := Instr.mapUpdate t v u z) (by simp only [execOp, ho, hρ₀ _ (by rw [ho]; simp [Op.operands]) _ hv, hρ₀ _ (by rw [ho]; simp [Op.operands]) _ hu, hρ₀ _ (by rw [ho]; simp [Op.operands]) _ hz]) ?_
    exact wPut_ok hk
  case range t x =>
    obtain ⟨v, hv, hk⟩ := zsa h
    refine val (s := Instr.range t v) (by simp only [execOp, ho, hρ₀ _ (by rw [ho]; simp [Op.operands]) _ hv]) ?_
    exact wRange_ok hk
  case next x s =>
    obtain ⟨v, hv, hk⟩ := zsa h
    refine val (s := Instr.next v s o.type) (by simp only [execOp, ho, hρ₀ _ (by rw [ho]; simp [Op.operands]) _ hv]) ?_
    exact wNext_ok hk
  case entry x =>
    obtain ⟨v, hv, hk⟩ := zsa h
    refine val (s := Instr.entry v) (by simp only [execOp, ho, hρ₀ _ (by rw [ho]; simp [Op.operands]) _ hv]) ?_
    exact wEntry_ok hk
  case call c =>
    have hsel : ∀ (cs : Array SelectCase) (b : Bool), Op.call c ≠ Op.select cs b := by simp
    unfold wCall at h
    have args : ∀ {vs : List Value}, evs ρ c.args.toList = some vs → c.args.map a.eval = vs.toArray := fun he => args_map (evs_elim _ (fun x hx v h => hρ₀ x (by rw [ho]; simp only [Op.operands, Call.operands, Array.mem_append]; exact .inr (by simpa using hx)) v h) _ he)
    cases hc : c.callee with
    | value x =>
      simp only [hc] at h
      obtain ⟨v, hv, hk⟩ := zsa h
      obtain ⟨vs, he, hk⟩ := zze hk
      exact callee_goes hΓ ho hc hS g (args he) (by rw [hρ₀ _ (by rw [ho]; simp [Op.operands, Call.operands, hc]) _ hv]; exact hk)
    | invoke r m => simp only [hc] at h
    | builtin b =>
      simp only [hc] at h
      have go : ∀ {vs : List Value} {s : Sem Value}, evs ρ c.args.toList = some vs → builtin b c.argTypes o.type (c.args.map fun | .const _ => true | _ => false) vs.toArray = (do pure (.value (← s)) : Sem Next) → wpS P s K E H → o.wpIn (wideR ro) nf P a w next Q :=
        fun he hb hk => val (by rw [builtin_run ho hc (args he)]; exact hb) hk
      cases b <;> simp only at h <;> try first | exact h.elim | exact gen h hsel
      case append =>
        obtain ⟨vs, he, hk⟩ := zze h
        match vs, hk with
        | [s, x], hk => exact go he rfl (wApp_ok hk)
      case copy =>
        obtain ⟨vs, he, hk⟩ := zze h
        match vs, hk with
        | [s, x], hk => exact go he rfl (wCopy_ok hk)
      case delete =>
        obtain ⟨vs, he, hk⟩ := zze h
        match vs, hk with
        | [m, k], hk =>
          cases h0 : c.argTypes[0]? with
          | none => simp [h0] at hk
          | some t => rw [h0] at hk; exact go he rfl (wDel_ok h0 hk)
      case clear =>
        obtain ⟨vs, he, hk⟩ := zze h
        match vs, hk with
        | [m], hk =>
          cases h0 : c.argTypes[0]? with
          | none => simp [h0] at hk
          | some t => rw [h0] at hk; exact go he rfl (wClr_ok h0 hk)
      case len =>
        cases h0 : c.argTypes[0]? with
        | none => rw [h0] at h; exact h.elim
        | some t =>
          cases hu : P.underlying t with
          | none => rw [h0, Option.bind_some, hu] at h; exact h.elim
          | some d =>
            rw [h0, Option.bind_some, hu] at h
            cases d
            case map k e =>
              obtain ⟨vs, he, hk⟩ := zze h
              match vs, hk with
              | [m], hk => exact go he rfl (wLenMap_ok h0 hu hk)
            all_goals
              obtain ⟨vs, he, hk⟩ := zze h
              exact go he rfl (wPure_ok hk)
      case min =>
        obtain ⟨vs, he, hk⟩ := zze h
        exact go he rfl (wPure_ok hk)
      case max =>
        obtain ⟨vs, he, hk⟩ := zze h
        exact go he rfl (wPure_ok hk)
end
end Go.Sh
