/- A packet that comes once more changes nothing (part 6 of the walk and its laws) -/
import Derived.Test.YtkfkkkalcchpkaaGreatDoorTw2e
import Derived.Laws.AppendOwn
namespace Go.Sh
def zca (P : Program) (f : FuncId) (F : FT) : Prop :=
  ∀ (args : List Value) (K E : Value → Heap → Prop) (H : Heap) (w : World), Sub H w → F args K E H →
    match (callFunc f args.toArray).run P w with
    | .ok (.value v) w' => ∃ H', Sub H' w' ∧ Ext H w H' w' ∧ K v H'
    | .ok (.enter f' as') w' => Calls P f' as' w' fun
      | .returned v, w'' => ∃ H', Sub H' w'' ∧ Ext H w H' w'' ∧ K v H'
      | .panicked chain, w'' => ∃ v H', chain = [{ v, recovered := false }] ∧ Sub H' w'' ∧ Ext H w H' w'' ∧ E v H'
      | .outgrown, _ => False
    | _ => False
def evs (ρ : Operand → Option Value) : List Operand → Option (List Value)
  | [] => some []
  | x :: xs => match ρ x, evs ρ xs with
    | some v, some vs => some (v :: vs)
    | _, _ => none
def withs (x : Option (List Value)) (k : List Value → Prop) : Prop :=
  match x with
  | some vs => k vs
  | none => False
def wMk (P : Program) (t : TypeId) (v : Value) (K : Value → Prop) : Prop :=
  match P.underlying t with
  | some (.interface _) => False
  | some _ => K (.iface t v)
  | none => False
def wLoad (P : Program) (t : TypeId) (v : Value) (K : Value → Prop) (H : Heap) : Prop :=
  match v with
  | .pointer (some a) => ldVar P H t a K
  | _ => False
def wStore (P : Program) (t : TypeId) (p v : Value) (K : Heap → Prop) (H : Heap) : Prop :=
  match p with
  | .pointer (some a) => stVar P t a v K H
  | _ => False
def wPick (c : Value) (a b : Option Value) (K : Value → Prop) : Prop :=
  match c with
  | .bool t => if t = true then with1 a K else with1 b K
  | _ => False
def wAlloc (P : Program) (e : TypeId) (K : Value → Heap → Prop) (H : Heap) : Prop :=
  match (P.info? e).bind (·.zero) with
  | some z => newB (.cells z.cells e) (fun b H' => K (.pointer (some ⟨b, 0, none⟩)) H') H
  | none => False
def wLenMap (m : Value) (K : Value → Prop) (H : Heap) : Prop :=
  match m with
  | .map none => K (goInt 0)
  | .map (some r) => ∃ es clk, H r = some (.map es clk) ∧ K (goInt es.size)
  | _ => False
def optEv (ρ : Operand → Option Value) (x : Option Operand) (k : Option Value → Prop) : Prop :=
  match x with
  | none => k none
  | some y => with1 (ρ y) fun v => k (some v)
def wFunc (Γ : FuncId → Option FT) (f : Value) (args : List Value) (K E : Value → Heap → Prop) (H : Heap) : Prop :=
  match f with
  | .func (.func i) first captured => match Γ i with
    | some F => F (first.toList ++ args ++ captured.toList) K E H
    | none => False
  | _ => False
def rdRow (H : Heap) (a : Option Addr) (n : Nat) (K : List Value → Prop) : Prop :=
  ∃ cs : List Value, cs.length = n ∧ (∀ ad, a = some ad → ∀ (i : Nat) (v : Value), cs[i]? = some v → H.cell? (ad.add i) = some v) ∧ (a = none → n = 0) ∧ K cs
def zub (z : Value) (n : Nat) : List Value := (Builtin.zeroCells z.cells n).toList
def wSrc (P : Program) (H : Heap) (t : Option TypeId) (z : Value) (size bytes : Nat) (x : Value) (K : Nat → List Value → Prop) : Prop :=
  match t with
  | none => False
  | some t => match P.underlying t with
    | some (.int _) => match x with
      | .int _ l => if z.cells.size = size then 0 ≤ l ∧ l ≤ 9223372036854775807 ∧ l * bytes ≤ 281474976710656 ∧ K l.toNat (zub z l.toNat) else False
      | _ => False
    | some (.slice _) => match x with
      | .slice a m _ => rdRow H a (m * size) fun cs => K m cs
      | _ => False
    | some .string => match x with
      | .string s => if size = 1 then K s.size (zxb s) else False
      | _ => False
    | _ => False
def appRoom (a : Option Addr) (n m c size : Nat) (new : List Value) (K : Value → Heap → Prop) (H : Heap) : Prop :=
  match a with
  | some ad => (∀ v ∈ new, znd v = true) ∧ stcs (ad.add (n * size)) new 0 (fun H' => K (.slice (some ad) (n + m) c) H') H
  | none => K (.slice none (n + m) c) H
def appGrow (e : TypeId) (z : Value) (a : Option Addr) (n m size : Nat) (new : List Value) (K : Value → Heap → Prop) (H : Heap) : Prop :=
  rdRow H a (n * size) fun old => ∀ cap, n + m ≤ cap → newB (.cells (old ++ new ++ zub z (cap - (n + m))).toArray e) (fun b H' => K (.slice (some ⟨b, 0, none⟩) (n + m) cap) H') H
def wApp (P : Program) (argTypes : Array TypeId) (s x : Value) (K : Value → Heap → Prop) (H : Heap) : Prop :=
  match argTypes[0]? with
  | none => False
  | some t => match P.underlying t with
    | some (.slice e) => match P.info? e with
      | none => False
      | some i => match i.zero with
        | none => False
        | some z => match s with
          | .slice a n c => wSrc P H argTypes[1]? z i.size i.bytes x fun m new =>
            (n + m) * i.bytes ≤ 140737488355328 ∧ n + m ≤ 4611686018427387904 ∧ (n + m ≤ c → appRoom a n m c i.size new K H) ∧ (c < n + m → appGrow e z a n m i.size new K H)
          | _ => False
    | _ => False
section
variable {P : Program} {E : Value → Heap → Prop} {H : Heap} {K : Value → Heap → Prop}
theorem zqf {size n : Nat} {a : Option Addr} {m c : Nat} {cs : List Value} {K : Array Value → Heap → Prop} (h1 : cs.length = n * size)
    (h2 : ∀ ad, a = some ad → ∀ (i : Nat) (v : Value), cs[i]? = some v → H.cell? (ad.add i) = some v) (h3 : a = none → n * size = 0) (hK : K cs.toArray H) :
    wpS P (Builtin.firstCells size n (.slice a m c)) K E H := by
  cases a with
  | none =>
    have : cs = [] := List.eq_nil_of_length_eq_zero (h1.trans (h3 rfl))
    subst this
    exact hK
  | some ad => exact loadCells_iff h1 (h2 ad rfl) hK
theorem int_max : IntKind.i64.max = 9223372036854775807 := by decide
theorem choose_cap {need old : Nat} {e : TypeId} {K : Nat → Heap → Prop} (hn : need ≤ 4611686018427387904) (h : ∀ cap, need ≤ cap → K cap H) : wpS P (choose (.appendCap need old e)) K E H := by
  show ∀ t, K (Question.cut (.appendCap need old e) t) H
  intro t
  exact h _ (by show need ≤ need + _; omega)
theorem askRoom_iff {n : Nat} {K : Unit → Heap → Prop} : wpS P (askRoom n) K E H ↔ K () H := by
  unfold askRoom; split <;> exact Iff.rfl
theorem wrap_i64 {l : Int} (h0 : 0 ≤ l) (h1 : l ≤ 9223372036854775807) : IntKind.i64.wrap l = l := by
  have e : l % 2 ^ 64 = l := Int.emod_eq_of_lt h0 (by omega)
  simp only [IntKind.wrap, IntKind.signed, IntKind.bits, e]
  rw [if_neg (by simp; omega)]
theorem wApp_ok {argTypes : Array TypeId} {ty : TypeId} {s x : Value} (h : wApp P argTypes s x K H) : wpS P (Builtin.append_ argTypes ty #[s, x]) K E H := by
  unfold wApp at h
  cases h0 : argTypes[0]? with
  | none => simp [h0] at h
  | some t =>
    rw [h0] at h
    dsimp only at h
    cases hu : P.underlying t with
    | none => simp [hu] at h
    | some d =>
      rw [hu] at h
      cases d <;> try exact h.elim
      rename_i e
      dsimp only at h
      cases hi : P.info? e with
      | none => simp [hi] at h
      | some i =>
        rw [hi] at h
        dsimp only at h
        have hsome : (P.info? e).isSome = true := by rw [hi]; rfl
        have hsz : P.cellsOf e = i.size := by simp [Program.cellsOf, hi]
        cases hz : i.zero with
        | none => simp [hz] at h
        | some z =>
          rw [hz] at h
          cases s <;> try exact h.elim
          rename_i a n c
          dsimp only at h
          cases h1 : argTypes[1]? with
          | none => rw [h1] at h; exact h.elim
          | some t1 =>
            rw [h1] at h
            unfold wSrc at h
            dsimp only at h
            cases hu1 : P.underlying t1 with
            | none => simp [hu1] at h
            | some d1 =>
              rw [hu1] at h
              have zero : ∀ {K : Value → Heap → Prop} {H : Heap}, wpS P (zeroValue e) K E H ↔ K z H := by
                intro K H
                simp only [zeroValue, zha, zjc hi, hz]
                exact Iff.rfl
              have e0 : ∀ u v : Value, (#[u, v] : Array Value)[0]? = some u := fun _ _ => rfl
              have e1 : ∀ u v : Value, (#[u, v] : Array Value)[1]? = some v := fun _ _ => rfl
              have grow : ∀ (m : Nat) (new : List Value) {appended : Sem (Array Value)} {K2 : Array Value → Heap → Prop}, (∀ {K : Array Value → Heap → Prop}, K new.toArray H → wpS P appended K E H) → appGrow e z a n m i.size new K H →
                  (∀ old : List Value, (∀ cap, n + m ≤ cap → newB (.cells (old ++ new ++ zub z (cap - (n + m))).toArray e) (fun b H' => K (.slice (some ⟨b, 0, none⟩) (n + m) cap) H') H) → K2 old.toArray H) →
                  wpS P (Builtin.firstCells i.size n (.slice a n c)) K2 E H := by
                intro m new appended K2 happ hg hk
                obtain ⟨old, g1, g2, g3, hcap⟩ := hg
                exact zqf g1 g2 g3 (hk old hcap)
              have nrow : ∀ {m cap : Nat} {old new : List Value}, newB (.cells (old ++ new ++ zub z (cap - (n + m))).toArray e) (fun b H' => K (.slice (some ⟨b, 0, none⟩) (n + m) cap) H') H →
                  wpS P (newRow e (old.toArray ++ new.toArray ++ Builtin.zeroCells z.cells (cap - (n + m)))) (fun b H' => K (.slice (some b) (n + m) cap) H') E H := by
                intro m cap old new h
                have ee : (old ++ new ++ zub z (cap - (n + m))).toArray = old.toArray ++ new.toArray ++ Builtin.zeroCells z.cells (cap - (n + m)) := by
                  simp [zub]
                rw [ee] at h
                exact fun b hb => h b hb
              cases d1 <;> try exact h.elim
              case slice e1' =>
                cases x <;> try exact h.elim
                case slice a2 m c2 =>
                  dsimp only at h
                  obtain ⟨cs, g1, g2, g3, hb, hm, hroom, hgrow⟩ := h
                  by_cases hc : n + m ≤ c
                  · have hr := hroom hc
                    cases a <;> simp only [Builtin.append_, h0, h1, e0, e1, zha, zka hu, zka hu1, zqc hsome, hsz, zab, Bool.false_eq_true, if_false, Builtin.lenOf,
                      hc, if_true, Bool.not_false]
                    · exact zqf g1 g2 g3 hr
                    · exact zqf g1 g2 g3 (storeCells_ok _ _ _ (List.all_eq_true.2 hr.1) hr.2)
                  · have hg := hgrow (by omega)
                    have hfit := growslice_fits (need := n + m) (old := c) (bytes := i.bytes) (by omega) hb
                    simp only [Builtin.append_, h0, h1, e0, e1, zha, zka hu, zka hu1, zqc hsome, hsz, zab, Bool.false_eq_true, if_false, Builtin.lenOf,
                      hc, if_true, Bool.not_false, zjc hi, false_or]
                    rw [if_neg (by rw [int_max]; omega), zha, zjc hi, if_neg (by omega), zha]
                    refine choose_cap hm fun cap hcap => ?_
                    simp only [zha, zjc hi, askRoom_iff]
                    refine grow m cs (appended := Builtin.firstCells i.size m (.slice a2 m c2)) (zqf g1 g2 g3) hg fun old hold => ?_
                    refine zqf g1 g2 g3 ?_
                    simp only [zero, zab]
                    exact nrow (hold cap hcap)
              case string =>
                cases x <;> try exact h.elim
                rename_i s
                dsimp only at h
                by_cases hs1 : i.size = 1
                · rw [if_pos hs1] at h
                  obtain ⟨hb, hm, hroom, hgrow⟩ := h
                  have hbv : ((s.extract 0 s.size).data.map fun b => Value.int .u8 b.toNat) = (zxb s).toArray := by
                    apply Array.toList_inj.1; simp [zxb]
                  by_cases hc : n + s.size ≤ c
                  · have hr := hroom hc
                    cases a <;> simp only [Builtin.append_, h0, h1, e0, e1, zha, zka hu, zka hu1, zqc hsome, hsz, zab, Bool.false_eq_true, if_false, Builtin.lenOf,
                      hc, if_true, Bool.not_false, Builtin.firstCells, hbv]
                    · exact hr
                    · exact storeCells_ok _ _ _ (List.all_eq_true.2 hr.1) hr.2
                  · have hg := hgrow (by omega)
                    have hfit := growslice_fits (need := n + s.size) (old := c) (bytes := i.bytes) (by omega) hb
                    simp only [Builtin.append_, h0, h1, e0, e1, zha, zka hu, zka hu1, zqc hsome, hsz, zab, Bool.false_eq_true, if_false, Builtin.lenOf,
                      hc, if_true, Bool.not_false, zjc hi, false_or]
                    rw [if_neg (by rw [int_max]; omega), zha, zjc hi, if_neg (by omega), zha]
                    refine choose_cap hm fun cap hcap => ?_
                    simp only [zha, zjc hi, askRoom_iff]
                    refine grow s.size (zxb s) (appended := pure (zxb s).toArray) (fun h => h) hg fun old hold => ?_
                    show wpS P (pure ((s.extract 0 s.size).data.map fun b => Value.int .u8 b.toNat)) _ E H
                    rw [hbv]
                    simp only [zero, zab]
                    exact nrow (hold cap hcap)
                · rw [if_neg hs1] at h; exact h.elim
              case int k1 =>
                cases x <;> try exact h.elim
                rename_i k2 l
                dsimp only at h
                by_cases hzs : z.cells.size = i.size
                · rw [if_pos hzs] at h
                  obtain ⟨l0, l1, l2, hb, hm, hroom, hgrow⟩ := h
                  have hw : IntKind.i64.wrap l = l := wrap_i64 l0 l1
                  have e48 : (2 : Int) ^ 48 = 281474976710656 := by decide
                  have happ : ∀ {K : Array Value → Heap → Prop}, K (zub z l.toNat).toArray H → wpS P (if l.toNat * i.size = 0 then pure #[] else do pure (Builtin.zeroCells (← zeroValue e).cells l.toNat)) K E H := by
                    intro K h
                    by_cases h0 : l.toNat * i.size = 0
                    · rw [if_pos h0]
                      have : zub z l.toNat = [] := by simp [zub, Builtin.zeroCells, hzs, h0]
                      rw [this] at h
                      exact h
                    · rw [if_neg h0]
                      simp only [zha, zero, zab]
                      simpa [zub] using h
                  by_cases hc : n + l.toNat ≤ c
                  · have hr := hroom hc
                    cases a <;> simp only [Builtin.append_, h0, h1, e0, e1, zha, zka hu, zka hu1, zqc hsome, hsz, zab, Bool.false_eq_true, if_false, Builtin.lenOf,
                      if_true, Bool.not_false, Bool.not_true, wpS_asInt, hw]
                    · rw [if_neg (by omega), zha, zjc hi, if_neg (by rw [e48]; exact Int.not_lt.2 l2)]
                      simp only [zha, zab, hc, if_true]
                      exact happ hr
                    · rw [if_neg (by omega), zha, zjc hi, if_neg (by rw [e48]; exact Int.not_lt.2 l2)]
                      simp only [zha, zab, hc, if_true]
                      exact happ (storeCells_ok _ _ _ (List.all_eq_true.2 hr.1) hr.2)
                  · have hg := hgrow (by omega)
                    have hfit := growslice_fits (need := n + l.toNat) (old := c) (bytes := i.bytes) (by omega) hb
                    simp only [Builtin.append_, h0, h1, e0, e1, zha, zka hu, zka hu1, zqc hsome, hsz, zab, Bool.false_eq_true, if_false, Builtin.lenOf,
                      if_true, Bool.not_false, Bool.not_true, wpS_asInt, hw]
                    rw [if_neg (by omega), zha, zjc hi, if_neg (by rw [e48]; exact Int.not_lt.2 l2)]
                    simp only [zha, zab, hc, if_false, zjc hi]
                    rw [if_neg (by rw [int_max]; omega), zha, zjc hi, if_neg (by omega), zha]
                    refine choose_cap hm fun cap hcap => ?_
                    simp only [zha, zjc hi, askRoom_iff]
                    refine grow l.toNat (zub z l.toNat) (appended := pure (zub z l.toNat).toArray) (fun h => h) hg fun old hold => ?_
                    refine happ ?_
                    simp only [zero, zab]
                    exact nrow (hold cap hcap)
                · rw [if_neg hzs] at h; exact h.elim
end
def wMake (P : Program) (t : TypeId) (l c : Value) (K : Value → Heap → Prop) (H : Heap) : Prop :=
  match P.underlying t with
  | some (.slice e) => match P.info? e with
    | none => False
    | some i => match i.zero with
      | none => False
      | some z => match l with
        | .int _ l => match c with
          | .int _ c => if z.cells.size = i.size then 0 ≤ l ∧ l ≤ c ∧ c ≤ 9223372036854775807 ∧ c * i.bytes ≤ 281474976710656 ∧
              newB (.cells (zub z c.toNat).toArray e) (fun b H' => K (.slice (some ⟨b, 0, none⟩) l.toNat c.toNat) H') H else False
          | _ => False
        | _ => False
  | _ => False
def wCopySrc (H : Heap) (size n : Nat) (x : Value) (K : Nat → List Value → Prop) : Prop :=
  match x with
  | .slice b m _ => rdRow H b (Nat.min m n * size) fun cs => K (Nat.min m n) cs
  | .string s => if size = 1 then K (Nat.min s.size n) ((zxb s).take (Nat.min s.size n)) else False
  | _ => False
def wCopySt (a : Option Addr) (cs : List Value) (K : Heap → Prop) (H : Heap) : Prop :=
  match a with
  | some ad => (∀ v ∈ cs, znd v = true) ∧ stcs ad cs 0 K H
  | none => K H
def wCopy (P : Program) (t : Option TypeId) (d x : Value) (K : Value → Heap → Prop) (H : Heap) : Prop :=
  match t with
  | none => False
  | some t => match P.underlying t with
    | some (.slice e) => if (P.info? e).isSome then (match d with
      | .slice a n _ => wCopySrc H (P.cellsOf e) n x fun k cs => wCopySt a cs (fun H' => K (goInt k) H') H
      | _ => False) else False
    | _ => False
section
variable {P : Program} {E : Value → Heap → Prop} {H : Heap} {K : Value → Heap → Prop}
theorem wMake_ok {t : TypeId} {l c : Value} (h : wMake P t l c K H) : wpS P (Instr.makeSlice t l c) K E H := by
  unfold wMake at h
  cases hu : P.underlying t with
  | none => simp [hu] at h
  | some d =>
    rw [hu] at h
    cases d <;> try exact h.elim
    rename_i e
    dsimp only at h
    cases hi : P.info? e with
    | none => simp [hi] at h
    | some i =>
      rw [hi] at h
      dsimp only at h
      have hsome : (P.info? e).isSome = true := by rw [hi]; rfl
      have hsz : P.cellsOf e = i.size := by simp [Program.cellsOf, hi]
      cases hz : i.zero with
      | none => simp [hz] at h
      | some z =>
        rw [hz] at h
        cases l <;> try exact h.elim
        cases c <;> try exact h.elim
        rename_i k1 l k2 c
        dsimp only at h
        by_cases hzs : z.cells.size = i.size
        · rw [if_pos hzs] at h
          obtain ⟨h1, h2, h3, h4, hk⟩ := h
          have e48 : (2 : Int) ^ 48 = 281474976710656 := by decide
          have hc : IntKind.i64.wrap c = c := wrap_i64 (by omega) h3
          have hl : IntKind.i64.wrap l = l := wrap_i64 h1 (by omega)
          have hmul : (i.bytes : Int) * c = c * i.bytes := Int.mul_comm _ _
          have big : (decide (c < 0) || decide ((i.bytes : Int) * c > 2 ^ 48)) = false := by
            rw [e48, hmul]
            simp only [Bool.or_eq_false_iff, decide_eq_false_iff_not]
            exact ⟨by omega, Int.not_lt.2 h4⟩
          have zero : ∀ {K : Value → Heap → Prop} {H : Heap}, wpS P (zeroValue e) K E H ↔ K z H := by
            intro K H
            simp only [zeroValue, zha, zjc hi, hz]
            exact Iff.rfl
          simp only [Instr.makeSlice, zha, zka hu, wpS_asInt, zjc hi, hc, hl, big, Bool.false_or]
          rw [if_neg (by simp; omega)]
          simp only [zha, askRoom_iff, zqc hsome, hsz]
          by_cases h0 : c.toNat * i.size = 0
          · rw [if_pos h0]
            simp only [zha, zab]
            have e1 : (Array.range (c.toNat * i.size)).map (fun j => (#[] : Array Value)[j % (#[] : Array Value).size]!) = (zub z c.toNat).toArray := by
              simp [zub, Builtin.zeroCells, hzs, h0]
            rw [e1]
            exact fun b hb => hk b hb
          · rw [if_neg h0]
            simp only [zha, zab, zero]
            have e1 : (Array.range (c.toNat * i.size)).map (fun j => z.cells[j % z.cells.size]!) = (zub z c.toNat).toArray := by
              apply Array.toList_inj.1
              simp [zub, Builtin.zeroCells, hzs]
            rw [e1]
            exact fun b hb => hk b hb
        · rw [if_neg hzs] at h; exact h.elim
theorem wCopy_ok {argTypes : Array TypeId} {ty : TypeId} {d x : Value} (h : wCopy P argTypes[0]? d x K H) : wpS P (Builtin.copy_ argTypes ty #[d, x]) K E H := by
  unfold wCopy at h
  cases h0 : argTypes[0]? with
  | none => simp [h0] at h
  | some t =>
    rw [h0] at h
    dsimp only at h
    cases hu : P.underlying t with
    | none => simp [hu] at h
    | some u =>
      rw [hu] at h
      cases u <;> try exact h.elim
      rename_i e
      dsimp only at h
      by_cases hi : (P.info? e).isSome = true
      · rw [if_pos hi] at h
        cases d <;> try exact h.elim
        rename_i a n c
        dsimp only at h
        have e0 : ∀ u v : Value, (#[u, v] : Array Value)[0]? = some u := fun _ _ => rfl
        have e1 : ∀ u v : Value, (#[u, v] : Array Value)[1]? = some v := fun _ _ => rfl
        have fin : ∀ (k : Nat) (cs : List Value), wCopySt a cs (fun H' => K (goInt k) H') H → wpS P (match a with
            | some a => do storeCells a cs.toArray.toList; pure (goInt k)
            | none => pure (goInt k)) K E H := by
          intro k cs h
          cases a with
          | none => exact h
          | some ad => simp only [zha]; exact storeCells_ok _ _ _ (List.all_eq_true.2 h.1) h.2
        cases x <;> try exact h.elim
        case slice b m c2 =>
          obtain ⟨cs, g1, g2, g3, hk⟩ := h
          simp only [Builtin.copy_, h0, e0, e1, zha, zka hu, Builtin.lenOf, zab, zqc hi]
          refine zqf g1 g2 g3 ?_
          have := fin _ cs hk
          cases a <;> exact this
        case string s =>
          unfold wCopySrc at h
          dsimp only at h
          by_cases hs : P.cellsOf e = 1
          · rw [if_pos hs] at h
            simp only [Builtin.copy_, h0, e0, e1, zha, zka hu, Builtin.lenOf, zab, zqc hi, Builtin.firstCells]
            have := fin _ _ h
            have hb : ((s.extract 0 (Nat.min s.size n)).data.map fun b => Value.int .u8 b.toNat) = ((zxb s).take (Nat.min s.size n)).toArray := by
              apply Array.toList_inj.1
              simp [zxb, List.map_take]
            rw [hb]
            cases a <;> exact this
          · rw [if_neg hs] at h; exact h.elim
      · rw [if_neg hi] at h; exact h.elim
theorem wDel_ok {argTypes : Array TypeId} {ty : TypeId} {t : TypeId} {m ix : Value} {K : Value → Heap → Prop} (h0 : argTypes[0]? = some t) (h : wDel P t m ix (fun H' => K (.tuple #[]) H') H) :
    wpS P (Builtin.delete_ argTypes ty #[m, ix]) K E H := by
  unfold wDel at h
  cases hu : P.underlying t with
  | none => simp [hu] at h
  | some d =>
    rw [hu] at h
    cases d <;> try exact h.elim
    rename_i k e
    dsimp only at h
    cases hk : P.underlying k with
    | none => simp [hk] at h
    | some dk =>
      rw [hk] at h
      dsimp only at h
      by_cases hko : keyOk dk ix = true
      · rw [if_pos hko] at h
        cases m <;> try exact h.elim
        rename_i r
        cases r with
        | none => exact h.elim
        | some r =>
          obtain ⟨es, clk, hr, hes, hl⟩ := mapAt_elim h
          have e0 : ∀ u v : Value, (#[u, v] : Array Value)[0]? = some u := fun _ _ => rfl
          have e1 : ∀ u v : Value, (#[u, v] : Array Value)[1]? = some v := fun _ _ => rfl
          simp only [Builtin.delete_, h0, e0, e1, zha, zka hu, getMap_iff hr]
          rw [checkKey_iff hk hko, findKey_iff hk hko hes]
          unfold mdel at hl
          cases hf : es.toList.findIdx? (keyIs ix) with
          | none =>
            rw [hf] at hl
            simp only [Option.map_none, zha]
            rw [setMap_iff hr]
            exact hl
          | some j =>
            rw [hf] at hl
            simp only [Option.map_some, zha]
            rw [setMap_iff hr]
            exact hl
      · rw [if_neg hko] at h; exact h.elim
theorem wLenMap_ok {argTypes : Array TypeId} {ty : TypeId} {t k e : TypeId} {m : Value} (h0 : argTypes[0]? = some t) (hu : P.underlying t = some (.map k e)) (h : wLenMap m (fun v => K v H) H) :
    wpS P (Builtin.len_ argTypes ty #[m]) K E H := by
  have e0 : (#[m] : Array Value)[0]? = some m := rfl
  cases m <;> try exact h.elim
  rename_i r
  cases r with
  | none =>
    simp only [Builtin.len_, h0, e0, zha, zka hu, zab]
    exact h
  | some r =>
    obtain ⟨es, clk, hr, hk⟩ := h
    simp only [Builtin.len_, h0, e0, zha, zka hu, getMap_iff hr, zab]
    exact hk
end
def clrW (m : Option Nat) (K : Heap → Prop) (H : Heap) : Prop :=
  match m with
  | some r => ∃ es clk, H r = some (.map es clk) ∧ K (H.set r (.map #[] clk))
  | none => K H
def wClr (P : Program) (t : TypeId) (m : Value) (K : Heap → Prop) (H : Heap) : Prop :=
  match P.underlying t with
  | some (.map _ _) => match m with
    | .map r => clrW r K H
    | _ => False
  | _ => False
def rangeW (m : Option Nat) (K : Nat → Heap → Prop) (H : Heap) : Prop :=
  match m with
  | some r => ∃ es clk, H r = some (.map es clk) ∧ newB (.mapIter (some r) clk #[] clk) K H
  | none => newB (.mapIter none 0 #[] 0) K H
def wRange (P : Program) (t : TypeId) (x : Value) (K : Value → Heap → Prop) (H : Heap) : Prop :=
  match P.underlying t with
  | some (.map _ _) => match x with
    | .map r => rangeW r (fun b H' => K (.pointer (some ⟨b, 0, none⟩)) H') H
    | _ => False
  | some .string => match x with
    | .string s => newB (.stringIter s 0) (fun b H' => K (.pointer (some ⟨b, 0, none⟩)) H') H
    | _ => False
  | _ => False
def nextS (a : Addr) (K0 : Heap → Prop) (K1 : Nat → Nat → Heap → Prop) (H : Heap) : Prop :=
  a.off = 0 ∧ ∃ s pos, H a.block = some (.stringIter s pos) ∧ (pos < s.size → K1 pos (Utf8.decode s pos).1 (H.set a.block (.stringIter s (pos + (Utf8.decode s pos).2)))) ∧ (¬ pos < s.size → K0 H)
def nextW (a : Addr) (K0 : Heap → Prop) (K1 : Value → Value → Heap → Prop) (H : Heap) : Prop :=
  a.off = 0 ∧ ∃ r since seen last es clk, H a.block = some (.mapIter (some r) since seen last) ∧ H r = some (.map es clk) ∧ (∀ e ∈ es.toList, e.born < since ∧ e.born < last) ∧
    ((∀ e ∈ es.toList, seen.contains e.born = true) → K0 H) ∧ (∀ e ∈ es.toList, seen.contains e.born = false → K1 e.key e.val (H.set a.block (.mapIter (some r) since (seen.push e.born) clk)))
def wNext (v : Value) (s : Bool) (K : Value → Heap → Prop) (H : Heap) : Prop :=
  match s with
  | true => match v with
    | .pointer (some a) => nextS a (fun H' => K (.tuple #[.bool false]) H') (fun i c H' => K (.tuple #[.bool true, .int .i64 i, .int .i32 c]) H') H
    | _ => False
  | false => match v with
    | .pointer (some a) => nextW a (fun H' => K (.tuple #[.bool false]) H') (fun k x H' => K (.tuple #[.bool true, k, x]) H') H
    | _ => False
def entryW (a : Addr) (K : Int → Value → Heap → Prop) (H : Heap) : Prop :=
  a.off = 0 ∧ ∃ r since seen last es stamp e n, H a.block = some (.mapIter (some r) since seen last) ∧ H r = some (.map es last) ∧ seen.back? = some stamp ∧ es.find? (fun e => e.born == stamp) = some e ∧ e.key = .int .i64 n ∧ K n e.val H
def wEntry (v : Value) (K : Value → Heap → Prop) (H : Heap) : Prop :=
  match v with
  | .pointer (some a) => entryW a (fun n x H' => K (.tuple #[.int .i64 n, x]) H') H
  | _ => False
section
variable {P : Program} {E : Value → Heap → Prop} {H : Heap} {K : Value → Heap → Prop}
theorem getIt_iff {r : Nat} {m : Option Nat} {since : Nat} {seen : Array Nat} {last : Nat} {K : Obj → Heap → Prop} (h : H r = some (.mapIter m since seen last)) : wpS P (getObj r) K E H ↔ K (.mapIter m since seen last) H := by
  show wpS P (Sem.getObj r Sem.pure) K E H ↔ _
  simp only [wpS, h]
theorem setIt_iff {r : Nat} {m : Option Nat} {since : Nat} {seen : Array Nat} {last : Nat} {o : Obj} {K : Unit → Heap → Prop} (h : H r = some (.mapIter m since seen last)) : wpS P (setObj r o) K E H ↔ K () (H.set r o) := by
  show wpS P (Sem.setObj r o (Sem.pure ())) K E H ↔ _
  simp only [wpS, h]
theorem wClr_ok {argTypes : Array TypeId} {ty : TypeId} {t : TypeId} {m : Value} {K : Value → Heap → Prop} (h0 : argTypes[0]? = some t) (h : wClr P t m (fun H' => K (.tuple #[]) H') H) :
    wpS P (Builtin.clear_ argTypes ty #[m]) K E H := by
  unfold wClr at h
  cases hu : P.underlying t with
  | none => simp [hu] at h
  | some d =>
    rw [hu] at h
    cases d <;> try exact h.elim
    dsimp only at h
    cases m <;> try exact h.elim
    rename_i r
    have e0 : (#[Value.map r] : Array Value)[0]? = some (.map r) := rfl
    cases r with
    | none =>
      simp only [Builtin.clear_, h0, e0, zha, zka hu]
      exact h
    | some r =>
      obtain ⟨es, clk, hr, hl⟩ := h
      simp only [Builtin.clear_, h0, e0, zha, zka hu, getMap_iff hr]
      rw [setMap_iff hr]
      exact hl
theorem wRange_ok {t : TypeId} {x : Value} (h : wRange P t x K H) : wpS P (Instr.range t x) K E H := by
  unfold wRange at h
  cases hu : P.underlying t with
  | none => simp [hu] at h
  | some d =>
    rw [hu] at h
    cases d <;> try exact h.elim
    case string =>
      dsimp only at h
      cases x <;> try exact h.elim
      simp only [Instr.range, zha, zka hu]
      exact h
    dsimp only at h
    cases x <;> try exact h.elim
    rename_i r
    cases r with
    | none =>
      simp only [Instr.range, zha, zka hu]
      exact h
    | some r =>
      obtain ⟨es, clk, hr, hl⟩ := h
      simp only [Instr.range, zha, zka hu, getMap_iff hr]
      exact hl
theorem choose_next {n : Nat} {K : Nat → Heap → Prop} (h0 : 0 < n) (h : ∀ i, i < n → K i H) : wpS P (choose (.mapNext n)) K E H := by
  show if Question.forced (.mapNext n) then K 0 H else ∀ t, K (Question.cut (.mapNext n) t) H
  split
  · exact h 0 h0
  · intro t; exact h _ (Nat.mod_lt _ h0)
theorem wNext_ok {v : Value} {s : Bool} {t : TypeId} (h : wNext v s K H) : wpS P (Instr.next v s t) K E H := by
  unfold wNext at h
  cases s with
  | true =>
    dsimp only at h
    split at h
    · rename_i a
      obtain ⟨h0, s, pos, hi, h1, h2⟩ := h
      obtain ⟨ab, ao, sp⟩ := a
      dsimp only at h0 hi h1 h2
      subst h0
      have hg : ∀ {K : Obj → Heap → Prop}, wpS P (getObj ab) K E H ↔ K (.stringIter s pos) H := fun {K} => by
        show wpS P (Sem.getObj ab Sem.pure) K E H ↔ _
        simp only [wpS, hi]
      have hs : ∀ {K : Unit → Heap → Prop} {o : Obj}, wpS P (setObj ab o) K E H ↔ K () (H.set ab o) := fun {K o} => by
        show wpS P (Sem.setObj ab o (Sem.pure ())) K E H ↔ _
        simp only [wpS, hi]
      simp only [Instr.next, zha, hg]
      by_cases hp : pos < s.size
      · rw [if_pos hp]
        simp only [zha, hs]
        exact h1 hp
      · rw [if_neg hp]
        exact h2 hp
    · exact h.elim
  | false =>
    dsimp only at h
    split at h
    · rename_i a
      obtain ⟨h0, r, since, seen, last, es, clk, hi, hm, hb, hk0, hk1⟩ := h
      obtain ⟨ab, ao, sp⟩ := a
      dsimp only at h0 hi hk1
      subst h0
      simp only [Instr.next, zha, getIt_iff hi, getMap_iff hm]
      have hfalse : (!seen.isEmpty && !es.isEmpty && es.all (fun e => decide (e.born ≥ last))) = false := by
        cases hes : es.isEmpty with
        | true => simp
        | false =>
          have : es.all (fun e => decide (e.born ≥ last)) = false := by
            rw [Bool.eq_false_iff]
            intro hall
            rw [Array.all_eq_true'] at hall
            have hne : es.toList ≠ [] := by
              intro h; rw [Array.isEmpty_eq_false_iff] at hes
              exact hes (Array.toList_eq_nil_iff.1 h)
            obtain ⟨e, he⟩ := List.exists_mem_of_ne_nil _ hne
            have h1 := hall e (by simpa using he)
            have h2 := (hb e he).2
            simp only [decide_eq_true_eq] at h1
            omega
          rw [this]; simp
      rw [hfalse]
      simp only [Bool.false_eq_true, if_false, zha]
      have hnew : (Array.filter (fun e => decide (e.born ≥ since)) (Array.filter (fun e => !seen.contains e.born) es)) = #[] := by
        rw [Array.filter_eq_empty_iff]
        intro e he
        have := (hb e (by simpa using (Array.mem_filter.1 he).1)).1
        simp only [decide_eq_true_eq]; omega
      have hold : (Array.filter (fun e => decide (e.born < since)) (Array.filter (fun e => !seen.contains e.born) es)) = Array.filter (fun e => !seen.contains e.born) es := by
        rw [Array.filter_eq_self]
        intro e he
        have := (hb e (by simpa using (Array.mem_filter.1 he).1)).1
        simpa using this
      rw [hnew, hold]
      generalize hL : Array.filter (fun e => !seen.contains e.born) es = left
      have hmem : ∀ e, e ∈ left ↔ e ∈ es ∧ seen.contains e.born = false := by
        intro e; rw [← hL, Array.mem_filter]; simp
      by_cases hle : left = #[]
      · subst hle
        have hK := hk0 fun e he => by
          cases hc : seen.contains e.born with
          | true => rfl
          | false => exact absurd ((hmem e).2 ⟨by simpa using he, hc⟩) (by simp)
        simp only [Array.isEmpty_empty, if_true, Array.empty_append, Array.map_empty, Array.append_empty]
        refine choose_next (by simp) fun i hi => ?_
        have : i = 0 := by simpa using hi
        subst this
        exact hK
      · have hne : left.isEmpty = false := by rw [Array.isEmpty_eq_false_iff]; exact hle
        rw [hne]
        simp only [Bool.false_eq_true, if_false, Array.append_empty, Array.empty_append]
        have hpos : 0 < left.size := by
          rcases Nat.eq_zero_or_pos left.size with h | h
          · exact absurd (Array.eq_empty_of_size_eq_zero h) hle
          · exact h
        refine choose_next (by simpa using hpos) fun i hil => ?_
        have hi2 : i < left.size := by simpa using hil
        have hx : (left.map some)[i]? = some (some left[i]) := by
          rw [Array.getElem?_map, Array.getElem?_eq_getElem hi2]; rfl
        rw [hx]
        have hin := (hmem left[i]).1 (Array.getElem_mem hi2)
        simp only [zha]
        rw [setIt_iff hi]
        exact hk1 left[i] (by simpa using hin.1) hin.2
    · exact h.elim
theorem wEntry_ok {v : Value} (h : wEntry v K H) : wpS P (Instr.entry v) K E H := by
  unfold wEntry at h
  split at h
  · rename_i a
    obtain ⟨h0, r, since, seen, last, es, stamp, e, n, hi, hm, hs, hf, hk, hK⟩ := h
    obtain ⟨ab, ao, sp⟩ := a
    dsimp only at h0 hi
    subst h0
    simp only [Instr.entry, zha, getIt_iff hi, hs, getMap_iff hm]
    rw [if_neg (by simp)]
    simp only [zha, hf, hk]
    exact hK
  · exact h.elim
end
end Go.Sh
