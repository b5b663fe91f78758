/- A packet that comes once more changes nothing (part 23 of the walk and its laws) -/
import Derived.Test.YtkfkkkalcchpkaaGreatDoorTw2v
import Derived.LaidMore
import Derived.OpenShut
import Derived.Stop.Joined
namespace Go.Sh
open Go.ChangeShapes Go.WideShapes Go.RowKit
theorem law_laid {H : Type} {enc : TypeId × Value → H} {a : Assume} {C : Checked} {os : Os} {f : FuncId} {fn : Func} {s : ChangeSpec} {conds : List PathCond} {apart fresh handsOn : Bool} {F : FT} {t : TypeId} {laid : List (String × DataW Unit)}
    (own : ownKnob C.prog.godebug = none) (started : os.Started) (noInit : C.prog.inits.idxOf? f = none) (hfn : C.prog.funcs[f]? = some fn)
    (witness : ∃ (w : World) (tape : Tape) (i : Input), w.os = os ∧ (w.forCall tape i).Shaped C.prog ∧ i.vars = [] ∧ Input.okWide C.prog (w.forCall tape i) .any w.heap.size f i ∧
      ((s.pre enc C.prog fn conds apart (w.forCall tape i).memory i.args ∧ laidMetH C.prog laid (w.forCall tape i).memory) ∧ sizedMet enc C.prog fn (OpenSpec.ofChange s) apart (w.forCall tape i).memory i.args) ∧ a.holds C.prog (lone (Frame.enter C.prog f i.args .normal) [] (w.forCall tape i)))
    (hok : zca C.prog f F) (hbody : fn.body.isNone = false) (hname : (fn.name == "runtime.NumGoroutine") = false)
    (hl : laidOutB C.prog = true) (hvars : s.vars = []) (hts : ∀ t ∈ fn.params.toList, C.prog.readableRec t = true ∧ t < C.prog.types.size)
    (hsf : ∀ ds : List (DataW H), ds.length = fn.params.toList.length → s.fn H ds = { results := [.lit (.bool true)], args := ds }) (hrt : fn.resultTypes = #[t]) (ht : C.prog.underlying t = some .bool)
    (run : ∀ (W : World) (base : Nat) (args : List Value), laidMetH C.prog laid W → args.length = fn.params.toList.length → (∀ (j : Nat) (u : TypeId) (v : Value), fn.params.toList[j]? = some u → args[j]? = some v → Value.okWide C.prog W .any base u v ∧ TrodOk enc C.prog W u v.cells.toList) →
      F args (fun v H' => v = .bool true ∧ Heap.Le (heapOf W) H') (fun _ _ => False) (heapOf W)) :
    ReturnsInHanded a C os f .any (fun w args => (s.pre enc C.prog fn conds apart w args ∧ laidMetH C.prog laid w) ∧ sizedMet enc C.prog fn (OpenSpec.ofChange s) apart w args) (s.post enc C.prog fn apart fresh handsOn false) := by
  refine returnsInHanded_of_change_and (C := C) (X := fun w _ => laidMetH C.prog laid w) (fun _ _ _ hh h => h.of_heap hh) own started noInit hfn witness ?_
  intro W base args ds gs before hval hW hcnd hwt hlaid _
  have hW' := hW
  obtain ⟨p, q, hA, hV, rfl, _, _⟩ := hW
  rw [hvars] at hV
  obtain ⟨rfl, rfl⟩ := trodVars_none hV
  have hw : ∀ x ∈ DataW.weightsEach C.prog (fn.params.toList ++ s.plain.varTypes C.prog) (ds ++ []), x ≤ reachBytes := fun x hx => by simpa using List.all_eq_true.1 hwt x hx
  have h := hok args.toList _ _ (heapOf W) W (sub_heapOf W) (run W base args.toList hlaid (trodAll_vlen hA) fun j u v hj hv => ⟨hval j u v (by simpa using hj) (by simpa using hv), trodAll_at hA _ _ hw j u v hj hv⟩)
  have hr : (callFunc f args.toList.toArray).run C.prog W = .ok (.enter f args) W := by
    show (match C.prog.funcs[f]? with | none => stuck "call: no such function" | some fn => _ : Sem Next).run C.prog W = _
    rw [hfn]
    simp only [hname, hbody, Bool.false_eq_true, if_false]
    rfl
  rw [hr] at h
  refine Calls.mono h fun e W' he => ?_
  cases e with
  | returned v =>
    obtain ⟨H', h1, h2, rfl, h4⟩ := he
    refine ⟨_, rfl, law_post hl hvars hts hsf hrt ht ⟨h2.os, h2.tape, h2.output, h2.size, fun k hk => ?_⟩ hW'⟩
    cases hk' : W.heap[k]? with
    | none =>
      have : W.heap.size ≤ k := by simpa using hk'
      omega
    | some o => exact h1 k o (h4 k o hk')
  | panicked ch =>
    obtain ⟨_, _, _, _, _, hf⟩ := he
    exact hf.elim
  | outgrown => exact he.elim
def IntsIn (H : Heap) (g : Nat) (k : IntKind) (xs : List Int) : Prop := ∀ (i : Nat) (x : Int), xs[i]? = some x → H.cell? ⟨g, i, none⟩ = some (.int k x)
theorem trod_ints {P : Program} {W : World} {enc : TypeId × Value → Unit} {e t : TypeId} {n : Nat} {k : IntKind} {xs : List Int} {sp : Nat → Bool} {fuel : Nat} {hd : Bool} {cs : List Value} {p : List MemPlace} (ht : P.underlying t = some (.array n e)) (he : P.underlying e = some (.int k)) (hc : P.cellsOf e = 1)
    (h : DataW.trod enc P W 0 sp hd fuel t cs = some (.agg (xs.map fun x => .lit (.int k x)), p)) : ∀ (i : Nat) (x : Int), xs[i]? = some x → cs[i]? = some (.int k x) := by
  obtain ⟨ys, m, rfl, hx, hlen, hn, hel⟩ := DataW.trod_array ht h
  simp only [Prod.mk.injEq, DataW.agg.injEq] at hx
  intro i x hi
  have hi2 : (xs.map fun x => (DataW.lit (.int k x) : DataW Unit))[i]? = some (.lit (.int k x)) := by simp [hi]
  rw [hx.1, List.getElem?_map, Option.map_eq_some_iff] at hi2
  obtain ⟨y, hy, hy2⟩ := hi2
  have hin : i < n := by
    have h1 := (List.getElem?_eq_some_iff.1 hy).1
    omega
  have h0 := hel i hin
  rw [hy, hc] at h0
  obtain ⟨r, e1, e2, _⟩ := DataW.trod_int he h0
  rw [e2] at hy2
  have hr : r = x := by simpa using hy2
  subst hr
  have e3 := congrArg (fun l => l[0]?) e1
  simp only [List.getElem?_take, List.getElem?_drop] at e3
  simpa using e3
theorem laid_ints {P : Program} {W : World} {nm : String} {g : Nat} {t e : TypeId} {n : Nat} {k : IntKind} {xs : List Int} {r : List (String × DataW Unit)} {ps : List MemPlace} (hg : P.globalNamed nm = some g) (hgt : (P.globals[g]?).map (·.type) = some t) (ht : P.underlying t = some (.array n e)) (he : P.underlying e = some (.int k)) (hc : P.cellsOf e = 1)
    (h : DataW.LaidVars P W ((nm, .agg (xs.map fun x => .lit (.int k x))) :: r) ps) : IntsIn (heapOf W) g k xs ∧ ∃ q, DataW.LaidVars P W r q := by
  obtain ⟨g0, t0, cs, fuel, p, q, hg0, ht0, hv, hd, hr, _⟩ := h
  obtain rfl := Option.some.inj (hg.symm.trans hg0)
  obtain rfl := Option.some.inj (hgt.symm.trans ht0)
  refine ⟨fun i x hi => ?_, q, hr⟩
  have h2 := trod_ints ht he hc hd i x hi
  exact heapOf_cell ((World.var?_cell hg hv i).trans (by simpa using h2))
theorem laid_plain {P : Program} {W : World} {l : List (String × DataW Unit)} (hp : (l.filter fun x => x.2.handleName?.isSome) = []) (h : laidMetH P l W) : ∃ ps, DataW.LaidVars P W l ps := by
  unfold laidMetH at h
  rw [hp] at h
  obtain ⟨ps, h, _⟩ := h
  exact ⟨ps, h⟩
end Go.Sh
