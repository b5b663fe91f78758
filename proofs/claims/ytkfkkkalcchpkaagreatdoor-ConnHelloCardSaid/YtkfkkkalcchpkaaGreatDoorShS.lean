/- Arguments as they are read: kinds, ranges, sizes, rows. -/
import Derived.Test.YtkfkkkalcchpkaaGreatDoorShR
import Derived.ChangeArms
import Derived.SizedLaws
namespace Go.Sh
open Go.ChangeShapes Go.WideShapes Go.RowKit
/-- The cells are read as data of the type, in some reading that is not too heavy. -/
def TrodOk {H : Type} (enc : TypeId × Value → H) (P : Program) (W : World) (t : TypeId) (cs : List Value) : Prop :=
  ∃ fuel d ps, DataW.trod enc P W 0 (fun _ => true) true fuel t cs = some (d, ps) ∧ ∀ x ∈ d.weights P t, x ≤ reachBytes
section
variable {H : Type} {enc : TypeId × Value → H} {P : Program} {W : World} {t : TypeId} {cs : List Value}
theorem TrodOk.int {k : IntKind} (ht : P.underlying t = some (.int k)) (h : TrodOk enc P W t cs) : ∃ n, cs = [.int k n] ∧ k.has n := by
  obtain ⟨fuel, d, ps, h, _⟩ := h
  cases fuel with
  | zero => simp [DataW.trod] at h
  | succ m =>
    unfold DataW.trod at h
    rw [ht] at h
    split at h <;> simp_all
    rename_i k' n
    obtain ⟨⟨rfl, hw⟩, _⟩ := h
    simp only [Lit.wf, Bool.and_eq_true, decide_eq_true_eq] at hw
    exact hw
theorem TrodOk.bool (ht : P.underlying t = some .bool) (h : TrodOk enc P W t cs) : ∃ n, cs = [.bool n] := by
  obtain ⟨fuel, d, ps, h, _⟩ := h
  cases fuel with
  | zero => simp [DataW.trod] at h
  | succ m =>
    unfold DataW.trod at h
    rw [ht] at h
    split at h <;> simp_all
theorem TrodOk.string (ht : P.underlying t = some .string) (h : TrodOk enc P W t cs) : ∃ s : ByteArray, cs = [.string s] ∧ s.size ≤ reachBytes := by
  obtain ⟨fuel, d, ps, h, hw⟩ := h
  cases fuel with
  | zero => simp [DataW.trod] at h
  | succ m =>
    unfold DataW.trod at h
    rw [ht] at h
    split at h <;> simp_all
    rename_i s
    obtain ⟨_, rfl, _⟩ := h
    have := hw s.data.toList.length (by simp [DataW.weights])
    simpa using this
theorem weights_field {ts : List TypeId} {ys : List (DataW H)} {i : Nat} {u : TypeId} {y : DataW H} (ht : ts[i]? = some u) (hy : ys[i]? = some y) : ∀ x ∈ y.weights P u, x ∈ DataW.weightsEach P ts ys := by
  induction ts generalizing ys i with
  | nil => simp at ht
  | cons a ts ih =>
    cases ys with
    | nil => simp at hy
    | cons b ys =>
      intro x hx
      unfold DataW.weightsEach
      cases i with
      | zero =>
        simp only [List.getElem?_cons_zero, Option.some.injEq] at ht hy
        subst ht; subst hy
        exact List.mem_append_left _ hx
      | succ i =>
        simp only [List.getElem?_cons_succ] at ht hy
        exact List.mem_append_right _ (ih ht hy x hx)
theorem weights_elem {e : TypeId} {ys : List (DataW H)} {y : DataW H} (hy : y ∈ ys) : ∀ x ∈ y.weights P e, x ∈ DataW.weightsAll P e ys := by
  induction ys with
  | nil => cases hy
  | cons b ys ih =>
    intro x hx
    unfold DataW.weightsAll
    rcases List.mem_cons.1 hy with rfl | hy
    · exact List.mem_append_left _ hx
    · exact List.mem_append_right _ (ih hy x hx)
theorem TrodOk.struct {fs : Array Field} (ht : P.underlying t = some (.struct fs)) (h : TrodOk enc P W t cs) :
    cs.length = P.cellsOf t ∧ ∀ (i : Nat) (f : Field), fs[i]? = some f → TrodOk enc P W f.type ((cs.drop f.offset).take (P.cellsOf f.type)) := by
  obtain ⟨fuel, d, ps, h, hw⟩ := h
  obtain ⟨xs, n, rfl, hx, hl, hlen, hf⟩ := DataW.trod_struct ht h
  simp only [Prod.mk.injEq] at hx
  obtain ⟨rfl, rfl⟩ := hx
  refine ⟨hl, fun i f hi => ?_⟩
  have h1 := hf i f hi
  have hlt : i < fs.size := (Array.getElem?_eq_some_iff.1 hi).1
  have hxs : xs[i]? = some (xs[i]'(by omega)) := List.getElem?_eq_getElem (by omega)
  rw [hxs] at h1
  refine ⟨n, _, _, h1, fun x hx => hw x ?_⟩
  have : (DataW.agg (xs.map (·.1)) : DataW H).weights P t = DataW.weightsEach P (fs.toList.map (·.type)) (xs.map (·.1)) := by
    unfold DataW.weights; rw [ht]
  rw [this]
  refine weights_field (i := i) (u := f.type) (y := (xs[i]'(by omega)).1) (by simp [hi]) (by simp [hxs]) x hx
theorem cells_of {a : Addr} {n : Nat} {es : List Value} (h : W.cells? 0 a n = some es) : es.length = n ∧ ∀ (j : Nat) (v : Value), es[j]? = some v → W.cell? (a.add j) = some v := by
  unfold World.cells? at h
  rw [if_pos (Nat.zero_le _)] at h
  have hl := mapM_some_length h
  simp only [List.length_range] at hl
  refine ⟨hl, fun j v hj => ?_⟩
  have hlt : j < n := by rw [← hl]; exact (List.getElem?_eq_some_iff.1 hj).1
  have := mapM_some_get h j j (by simp [hlt])
  rw [this]; exact hj
theorem TrodOk.slice {e : TypeId} (ht : P.underlying t = some (.slice e)) (h : TrodOk enc P W t cs) : cs = [.slice none 0 0] ∨
    ∃ a n c, cs = [.slice (some a) n c] ∧ n ≤ c ∧ c * P.bytesOf e ≤ reachBytes ∧ ∀ i, i < n → ∃ es, es.length = P.cellsOf e ∧ (∀ (j : Nat) (v : Value), es[j]? = some v → W.cell? ((a.add (i * P.cellsOf e)).add j) = some v) ∧ TrodOk enc P W e es := by
  obtain ⟨fuel, d, ps, h, hw⟩ := h
  rcases DataW.trod_slice ht h with ⟨rfl, _⟩ | ⟨a, len, cap, elems, rest, n, rfl, rfl, hx, _, hlc, _, hel, hf, hr, _⟩
  · exact .inl rfl
  · refine .inr ⟨a, len, cap, rfl, hlc, ?_, fun i hi => ?_⟩
    · simp only [Prod.mk.injEq] at hx
      obtain ⟨rfl, _⟩ := hx
      have h2 := (hr rfl).1
      have e1 : (DataW.slice (elems.map (·.1)) (rest.map (·.1)) : DataW H).weights P t = ((elems.map (·.1)).length + (rest.map (·.1)).length) * P.bytesOf e :: (DataW.weightsAll P e (elems.map (·.1)) ++ DataW.weightsAll P e (rest.map (·.1))) := by
        unfold DataW.weights; rw [ht]
      have := hw (((elems.map (·.1)).length + (rest.map (·.1)).length) * P.bytesOf e) (by rw [e1]; simp)
      rw [List.length_map, List.length_map, hel, h2, show len + (cap - len) = cap by omega] at this
      exact this
    · simp only [Prod.mk.injEq] at hx
      obtain ⟨rfl, _⟩ := hx
      have h1 := hf i hi
      have hxs : elems[i]? = some (elems[i]'(by omega)) := List.getElem?_eq_getElem (by omega)
      rw [hxs] at h1
      simp only [Option.bind_eq_some_iff] at h1
      obtain ⟨es, hc, ht2⟩ := h1
      obtain ⟨h3, h4⟩ := cells_of hc
      refine ⟨es, h3, h4, n, _, _, ht2, fun x hx => hw x ?_⟩
      have e1 : (DataW.slice (elems.map (·.1)) (rest.map (·.1)) : DataW H).weights P t = ((elems.map (·.1)).length + (rest.map (·.1)).length) * P.bytesOf e :: (DataW.weightsAll P e (elems.map (·.1)) ++ DataW.weightsAll P e (rest.map (·.1))) := by
        unfold DataW.weights; rw [ht]
      rw [e1]
      refine List.mem_cons_of_mem _ (List.mem_append_left _ (weights_elem (y := (elems[i]'(by omega)).1) ?_ x hx))
      exact List.mem_map_of_mem (List.getElem_mem _)
theorem exists_list {α : Type} {Q : Nat → α → Prop} : ∀ (n : Nat), (∀ i, i < n → ∃ x, Q i x) → ∃ l : List α, l.length = n ∧ ∀ (i : Nat) (x : α), l[i]? = some x → Q i x
  | 0, _ => ⟨[], rfl, fun i x h => by simp at h⟩
  | n + 1, h => by
    obtain ⟨l, hl, hq⟩ := exists_list n fun i hi => h i (by omega)
    obtain ⟨x, hx⟩ := h n (by omega)
    refine ⟨l ++ [x], by simp [hl], fun i y hi => ?_⟩
    by_cases hin : i < n
    · rw [List.getElem?_append_left (by omega)] at hi
      exact hq i y hi
    · have : i < (l ++ [x]).length := (List.getElem?_eq_some_iff.1 hi).1
      simp only [List.length_append, List.length_cons, List.length_nil, hl] at this
      have e : i = n := by omega
      subst e
      rw [List.getElem?_append_right (by omega), hl] at hi
      simp at hi
      subst hi
      exact hx
def fieldAt (P : Program) (t : TypeId) (i : Nat) : Option (TypeId × Nat) :=
  match P.underlying t with
  | some (.struct fs) => fs[i]?.map fun f => (f.type, f.offset)
  | _ => none
theorem TrodOk.field {i ft off n : Nat} (hf : fieldAt P t i = some (ft, off)) (hn : P.cellsOf ft = n) (h : TrodOk enc P W t cs) : TrodOk enc P W ft ((cs.drop off).take n) := by
  unfold fieldAt at hf
  cases hu : P.underlying t with
  | none => rw [hu] at hf; cases hf
  | some d =>
    rw [hu] at hf
    cases d with
    | struct fs =>
      simp only [Option.map_eq_some_iff, Prod.mk.injEq] at hf
      obtain ⟨f, h1, rfl, rfl⟩ := hf
      rw [← hn]
      exact (TrodOk.struct hu h).2 i f h1
    | _ => cases hf
theorem TrodOk.len {n : Nat} (hs : isStructT P t = true) (hn : P.cellsOf t = n) (h : TrodOk enc P W t cs) : cs.length = n := by
  unfold isStructT at hs
  cases hu : P.underlying t with
  | none => rw [hu] at hs; cases hs
  | some d =>
    rw [hu] at hs
    cases d with
    | struct fs => rw [← hn]; exact (TrodOk.struct hu h).1
    | _ => cases hs
/-- The elements of a slice stand in known memory. -/
def RowsAt (H : Heap) (p : Option Addr) (n sz : Nat) (rows : List (List Value)) : Prop :=
  rows.length = n ∧ (p = none → n = 0) ∧ ∀ a, p = some a → ∀ (i : Nat) (es : List Value), rows[i]? = some es → es.length = sz ∧ ∀ (j : Nat) (v : Value), es[j]? = some v → H.cell? ((a.add (i * sz)).add j) = some v
theorem heapOf_cell {a : Addr} {v : Value} (h : W.cell? a = some v) : (heapOf W).cell? a = some v := by
  unfold World.cell? at h
  unfold Heap.cell? heapOf
  cases hb : W.heap[a.block]? with
  | none => rw [hb] at h; simp at h
  | some o => rw [hb] at h; cases o <;> simp_all
theorem TrodOk.rows {e sz by_ : Nat} (ht : P.underlying t = some (.slice e)) (hn : P.cellsOf e = sz) (hb : P.bytesOf e = by_) (h : TrodOk enc P W t cs) :
    ∃ p n c, cs = [.slice p n c] ∧ n ≤ c ∧ c * by_ ≤ reachBytes ∧ ∃ rows, RowsAt (heapOf W) p n sz rows ∧ ∀ es ∈ rows, TrodOk enc P W e es := by
  rcases TrodOk.slice ht h with rfl | ⟨a, n, c, rfl, h1, h2, h3⟩
  · exact ⟨none, 0, 0, rfl, Nat.le_refl _, by omega, [], ⟨rfl, fun _ => rfl, (fun a ha => by cases ha)⟩, (fun es he => by cases he)⟩
  · obtain ⟨rows, hl, hr⟩ := exists_list n h3
    refine ⟨some a, n, c, rfl, h1, by rw [← hb]; exact h2, rows, ⟨hl, (fun h => by cases h), ?_⟩, ?_⟩
    · intro a' ha i es hi
      cases ha
      obtain ⟨k1, k2, _⟩ := hr i es hi
      rw [hn] at k1 k2
      exact ⟨k1, fun j v hj => heapOf_cell (k2 j v hj)⟩
    · intro es he
      obtain ⟨i, hi⟩ := List.getElem?_of_mem he
      exact (hr i es hi).2.2
theorem cell_slice {r : Reach} {b0 : Nat} {v : Value} {e : TypeId} (ht : P.underlying t = some (.slice e)) (h : Cell.okWide P W r b0 t v) : ∃ p n c, v = .slice p n c := by
  unfold Cell.okWide at h
  rw [ht] at h
  cases v <;> simp only [Cell.ok, ht] at h
  exact ⟨_, _, _, rfl⟩
theorem trodAll_at {ts : List TypeId} {vs : List Value} {ds : List (DataW H)} {ps : List MemPlace} (h : DataW.TrodAll enc P W 0 (fun _ => true) true ts vs ds ps) (rest : List TypeId) (rd : List (DataW H)) :
    (∀ x ∈ DataW.weightsEach P (ts ++ rest) (ds ++ rd), x ≤ reachBytes) → ∀ (j : Nat) (u : TypeId) (v : Value), ts[j]? = some u → vs[j]? = some v → TrodOk enc P W u v.cells.toList := by
  induction ts generalizing vs ds ps with
  | nil => intro _ j u v hj; simp at hj
  | cons a ts ih =>
    obtain ⟨v0, vs1, d0, ds1, p, q, rfl, rfl, rfl, ⟨fuel, h1⟩, h2⟩ := trodAll_cons h
    intro hw j u v hj hv
    have hw' : ∀ x ∈ d0.weights P a ++ DataW.weightsEach P (ts ++ rest) (ds1 ++ rd), x ≤ reachBytes := hw
    cases j with
    | zero =>
      simp only [List.getElem?_cons_zero, Option.some.injEq] at hj hv
      subst hj; subst hv
      exact ⟨fuel, d0, p, h1, fun x hx => hw' x (List.mem_append_left _ hx)⟩
    | succ j =>
      simp only [List.getElem?_cons_succ] at hj hv
      exact ih h2 (fun x hx => hw' x (List.mem_append_right _ hx)) j u v hj hv
end
/-- The row of a law, from the contract of its function. -/
theorem law_sized {H : Type} {enc : TypeId × Value → H} {a : Assume} {C : Checked} {os : Os} {f : FuncId} {fn : Func} {s : ChangeSpec} {conds : List PathCond} {apart fresh handsOn : Bool} {F : FT} {t : TypeId}
    (own : ownKnob C.prog.godebug = none) (started : os.Started) (noInit : C.prog.inits.idxOf? f = none) (hfn : C.prog.funcs[f]? = some fn)
    (witness : ∃ (w : World) (tape : Tape) (i : Input), w.os = os ∧ (w.forCall tape i).Shaped C.prog ∧ i.vars = [] ∧ Input.okWide C.prog (w.forCall tape i) .any w.heap.size f i ∧
      s.pre6 enc C.prog fn conds apart (w.forCall tape i).memory i.args ∧ a.holds C.prog (lone (Frame.enter C.prog f i.args .normal) [] (w.forCall tape i)))
    (hok : CalleeOk C.prog f F) (hbody : fn.body.isNone = false) (hname : (fn.name == "runtime.NumGoroutine") = false)
    (hl : laidOutB C.prog = true) (hvars : s.vars = []) (hts : ∀ t ∈ fn.params.toList, C.prog.readableRec t = true ∧ t < C.prog.types.size)
    (hsf : ∀ ds : List (DataW H), ds.length = fn.params.toList.length → s.fn H ds = { results := [.lit (.bool true)], args := ds }) (hrt : fn.resultTypes = #[t]) (ht : C.prog.underlying t = some .bool)
    (run : ∀ (W : World) (base : Nat) (args : List Value), args.length = fn.params.toList.length → (∀ (j : Nat) (u : TypeId) (v : Value), fn.params.toList[j]? = some u → args[j]? = some v → Value.okWide C.prog W .any base u v ∧ TrodOk enc C.prog W u v.cells.toList) →
      F args (fun v H' => v = .bool true ∧ Heap.Le (heapOf W) H') (fun _ _ => False) (heapOf W)) :
    ReturnsInHanded a C os f .any (s.pre6 enc C.prog fn conds apart) (s.post enc C.prog fn apart fresh handsOn false) := by
  refine returnsInHanded_of_change_sized own started noInit hfn witness ?_
  intro W base args ds gs before hval hW hcnd hwt _
  have hW' := hW
  obtain ⟨p, q, hA, hV, rfl, _, _⟩ := hW
  rw [hvars] at hV
  obtain ⟨rfl, rfl⟩ := trodVars_none hV
  have hw : ∀ x ∈ DataW.weightsEach C.prog (fn.params.toList ++ s.plain.varTypes C.prog) (ds ++ []), x ≤ reachBytes := fun x hx => by simpa using List.all_eq_true.1 hwt x hx
  have h := hok args.toList _ _ (heapOf W) W (sub_heapOf W) (run W base args.toList (trodAll_vlen hA) fun j u v hj hv => ⟨hval j u v (by simpa using hj) (by simpa using hv), trodAll_at hA _ _ hw j u v hj hv⟩)
  have hr : (callFunc f args.toList.toArray).run C.prog W = .ok (.enter f args) W := by
    show (match C.prog.funcs[f]? with | none => stuck "call: no such function" | some fn => _ : Sem Next).run C.prog W = _
    rw [hfn]
    simp only [hname, hbody, Bool.false_eq_true, if_false]
    rfl
  rw [hr] at h
  refine Calls.mono h fun e W' he => ?_
  cases e with
  | returned v =>
    obtain ⟨H', h1, h2, rfl, h4⟩ := he
    refine ⟨_, rfl, law_post hl hvars hts hsf hrt ht ⟨h2.os, h2.tape, h2.output, h2.size, fun k hk => ?_⟩ hW'⟩
    cases hk' : W.heap[k]? with
    | none =>
      have : W.heap.size ≤ k := by simpa using hk'
      omega
    | some o => exact h1 k o (h4 k o hk')
  | panicked ch =>
    obtain ⟨_, _, _, _, _, hf⟩ := he
    exact hf.elim
  | outgrown => exact he.elim
end Go.Sh
