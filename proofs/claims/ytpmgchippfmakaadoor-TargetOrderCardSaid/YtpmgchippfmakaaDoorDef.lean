/- Functions with one deferred call, that catches what is thrown. -/
import Derived.Test.YtpmgchippfmakaaDoorShV
import Derived.DefersIn
import Derived.RecoverIn
namespace Go.Sh
open Go.RowKit
set_option maxRecDepth 8000
/-- A region that defers a call. -/
theorem defer_one {P : Program} {nf id : Nat} {o : Oper} {g : FuncId} {t : Tmp} {T : Array TypeId} {a : Act} {w : World} {Q : Exit → Act → World → Prop} (ho : o.op = .defer { callee := .value (.func g), args := #[.tmp t], argTypes := T }) (hg : o.guard = none) (hd : o.dst = none)
    (h : Q .normal { a with defers := { target := .fn (.func g) #[], args := #[a.eval (.tmp t)] } :: a.defers } w) : (Code.region id #[o] false).wpIn (wideR none) nf P Q a w := by
  refine wpIn_region ?_
  show wpOpsIn (wideR none) nf P #[o] Q (List.range' 0 1) a w
  rw [List.range'_succ, wpOpsIn_cons]
  unfold wpOpIn
  simp only [show (#[o] : Array Oper)[0]? = some o from rfl]
  rw [if_pos (by simp [Region.wanted, hg])]
  refine ⟨fun _ _ => trivial, ?_⟩
  have e : (o.semAt (wideR none).round a.eval).run P w = .ok (.defer { target := .fn (.func g) #[], args := #[a.eval (.tmp t)] }) w := by
    show (execOp a.eval o).run P w = _
    simp [execOp, ho, resolve, go_sem, Act.eval]
  rw [e, Oper.uponIn_defer, hd]
  exact h
/-- A function that is called deferred, with the address of a number: it does nothing behind a return; it lays what was thrown there. -/
structure CatchOk (P : Program) (g : FuncId) (te : TypeId) : Prop where
  idle : ∀ n p H w, Sub H w → CallsDIn (wideR none) n P g #[.pointer (some p)] .returning w fun e u' w' => e = .returned (.tuple #[]) ∧ u' = .returning ∧ Sub H w' ∧ Ext H w H w'
  pan : ∀ n p x H w (K : Heap → Prop), Sub H w → stc H p (.int .i64 x) K → CallsDIn (wideR none) n P g #[.pointer (some p)] (.panicking [{ v := .iface te (.int .i64 x), recovered := false }]) w fun e u' w' =>
    e = .returned (.tuple #[]) ∧ u' = .panicking [{ v := .iface te (.int .i64 x), recovered := true }] ∧ ∃ H', Sub H' w' ∧ Ext H w H' w' ∧ K H'
theorem recover_region {P : Program} {n id : Nat} {o : Oper} {a : Act} {c₀ : Frame} {cs : List Frame} {w : World} {Q : Exit → Act → List Frame → World → Prop} (ho : o.op = .call { callee := .builtin .recover, args := #[], argTypes := #[] }) (hg : o.guard = none) {v : Value} {u' : FrameMode}
    (hv : (c₀.mode = .returning ∧ v = .nilIface ∧ u' = .returning) ∨ (∃ te x older, c₀.mode = .panicking ({ v := .iface te x, recovered := false } :: older) ∧ v = .iface te x ∧ u' = .panicking ({ v := .iface te x, recovered := true } :: older)))
    (h : Q .normal (a.put o.dst v) ({ c₀ with mode := u' } :: cs) w) : (Code.region id #[o] false).wpSIn (wideR none) n P Q a (c₀ :: cs) w := by
  apply wpSIn_region
  show wpOpsSIn (wideR none) n P #[o] Q [0] a (c₀ :: cs) w
  unfold wpOpsSIn
  simp only [show (#[o] : Array Oper)[0]? = some o from rfl]
  refine ⟨fun _ _ => trivial, ?_⟩
  rw [if_pos (by simp [Region.wanted, hg])]
  have e : (execOp a.eval o).run P w = .ok .recover w := by simp [execOp, ho, resolve, go_sem]
  rw [e]
  dsimp only
  rcases hv with ⟨hm, rfl, rfl⟩ | ⟨te, x, older, hm, rfl, rfl⟩
  · have hr : recoverD (c₀ :: cs) = none := by simp [recoverD, hm]
    rw [hr]
    dsimp only
    unfold wpOpsSIn
    have hc : { c₀ with mode := FrameMode.returning } = c₀ := by cases c₀; simp_all
    rw [hc] at h
    exact h
  · have hr : recoverD (c₀ :: cs) = some (.iface te x, { c₀ with mode := .panicking ({ v := .iface te x, recovered := true } :: older) } :: cs) := by simp [recoverD, hm]
    rw [hr]
    dsimp only
    unfold wpOpsSIn
    exact h
/-- A deferred function that asks first what was thrown. -/
theorem catch_of {P : Program} {g : FuncId} {fn : Func} {te : TypeId} {id : Nat} {o : Oper} {d : Tmp} {C : Code} {T : CT} (hf : P.funcs[g]? = some fn) (hb : fn.body = some (.seq (.region id #[o] false) C)) (ho : o.op = .call { callee := .builtin .recover, args := #[], argTypes := #[] }) (hg : o.guard = none) (hd : o.dst = some d)
    (hres : fn.results = #[]) (hC : SoundCode P C T)
    (h0 : ∀ p H, T (fun e _ H' => e = .normal ∧ H' = H) (fun _ _ => False) (([some (.pointer (some p))] ++ List.replicate (fn.ntmps - 1) none : Fr).set d (some .nilIface)) H)
    (h1 : ∀ p x H (K : Heap → Prop), stc H p (.int .i64 x) K → T (fun e _ H' => e = .normal ∧ K H') (fun _ _ => False) (([some (.pointer (some p))] ++ List.replicate (fn.ntmps - 1) none : Fr).set d (some (.iface te (.int .i64 x)))) H) : CatchOk P g te := by
  have hR : ∀ (p : Addr) (v : Value), R (Fx.of []) (([some (.pointer (some p))] ++ List.replicate (fn.ntmps - 1) none : Fr).set d (some v)) (({ tmps := #[.pointer (some p)] ++ Array.replicate (fn.ntmps - 1) undef, defers := [] } : Act).put o.dst v) := fun p v => by
    rw [hd]
    have hR0 : R (Fx.of []) ([some (.pointer (some p))] ++ List.replicate (fn.ntmps - 1) none) { tmps := #[.pointer (some p)] ++ Array.replicate (fn.ntmps - 1) undef, defers := [] } := by
      refine ⟨⟨rfl, fun _ _ e => by cases e⟩, by simp; omega, fun t u ht => ?_⟩
      match t, ht with
      | 0, ht => cases ht; rw [Array.getElem?_append_left (by simp)]; rfl
      | t + 1, ht =>
        exfalso
        have : (List.replicate (fn.ntmps - 1) (none : Option Value)).getD t none = some u := ht
        rw [replicate_getD] at this
        cases this
    exact hR0.put (some d) v (fun _ _ => rfl)
  have post : ∀ (c₀ : Frame) (cs : List Frame) (u' : FrameMode) (a' : Act) (w' : World) (Rr : Ending → FrameMode → World → Prop), a'.defers = [] → Rr (.returned (.tuple #[])) u' w' → bodyPostS P fn c₀ cs Rr .normal a' ({ c₀ with mode := u' } :: cs) w' := fun c₀ cs u' a' w' Rr h1 h2 => by
    refine ⟨h1, u', rfl, .tuple #[], ?_, h2⟩
    simp [results, hres]
  refine ⟨fun n p H w hS => ?_, fun n p x H w K hS hK => ?_⟩
  · refine callsDIn_of_wpSIn hf hb trivial fun c₀ cs hu => ?_
    apply wpSIn_seq
    refine recover_region ho hg (.inl ⟨hu, rfl, rfl⟩) ?_
    refine wpSIn_of_wpIn rfl ?_
    refine hC none n (Fx.of []) _ _ (fun _ _ => False) _ H _ w (NoPin.none C) ⟨?_, fun v H' a' w' _ _ _ h => h.elim⟩ (hR p .nilIface) hS (h0 p H)
    rintro e fr' H' a' w' hR' hS' hE' ⟨rfl, rfl⟩
    exact post c₀ cs .returning a' w' _ hR'.1.1 ⟨rfl, rfl, hS', hE'⟩
  · refine callsDIn_of_wpSIn hf hb trivial fun c₀ cs hu => ?_
    apply wpSIn_seq
    refine recover_region ho hg (.inr ⟨_, _, [], hu, rfl, rfl⟩) ?_
    refine wpSIn_of_wpIn rfl ?_
    refine hC none n (Fx.of []) _ _ (fun _ _ => False) _ H _ w (NoPin.none C) ⟨?_, fun v H' a' w' _ _ _ h => h.elim⟩ (hR p (.iface te (.int .i64 x))) hS (h1 p x H K hK)
    rintro e fr' H' a' w' hR' hS' hE' ⟨rfl, hk⟩
    exact post c₀ cs _ a' w' _ hR'.1.1 ⟨rfl, rfl, H', hS', hE', hk⟩
/-- What is to be shown of such a function: A lays the variables, B is the rest. -/
def catchT (P : Program) (fn : Func) (TA TB : CT) (t : Tmp) (te : TypeId) (pins : List Tmp) (args : List Value) (K : Value → Heap → Prop) (H : Heap) : Prop :=
  TA (fun e fr1 H1 => e = .normal ∧ ∃ p pinF, fr1.getD t none = some (.pointer (some p)) ∧ (∀ s v, pinF.getD s none = some v → fr1.getD s none = some v ∧ s ∈ pins) ∧ (∃ l v, pinF = l ++ [some v]) ∧
    TB (fun e fr2 H2 => (e = .normal ∨ e = .ret) ∧ resW P fr2 H2 fn.results.toList [] fun v => Fg K v H2)
      (fun v H2 => ∃ x, v = .iface te (.int .i64 x) ∧ stc H2 p (.int .i64 x) fun H3 => resW P pinF H3 fn.results.toList [] fun v => Fg K v H3) fr1 H1)
    (fun _ _ => False) (args.map some ++ List.replicate (fn.ntmps - args.length) none) H
theorem catch_ok {P : Program} {f : FuncId} {fn : Func} {A B : Code} {id : Nat} {o : Oper} {g : FuncId} {t : Tmp} {T : Array TypeId} {TA TB : CT} {F : FT} {te : TypeId} {pins : List Tmp} (hf : P.funcs[f]? = some fn) (hb : fn.body = some (.seq A (.seq (.region id #[o] false) B))) (hn : (fn.name == "runtime.NumGoroutine") = false)
    (ho : o.op = .defer { callee := .value (.func g), args := #[.tmp t], argTypes := T }) (hg : o.guard = none) (hd : o.dst = none) (hc : CatchOk P g te) (hbody : ∃ fg, P.funcs[g]? = some fg ∧ (fg.name == "runtime.NumGoroutine") = false ∧ fg.body.isNone = false)
    (hA : SoundCode P A TA) (hB : SoundCode P B TB) (hpin : noPinB pins B = true) (hF : ∀ args K E H, F args K E H → catchT P fn TA TB t te pins args K H) : CalleeOk P f F := by
  intro args K E H w hS h
  have hk := hF args K E H h
  have enters : ∀ (f : FuncId) (fn : Func) (args : Array Value) (w : World), P.funcs[f]? = some fn → (fn.name == "runtime.NumGoroutine") = false → fn.body.isNone = false → (callFunc f args).run P w = .ok (.enter f args) w := by
    intro f fn args w hf hn hbody
    show (match P.funcs[f]? with | none => stuck "call: no such function" | some fn => _ : Sem Next).run P w = _
    rw [hf]
    simp only [hn, hbody, Bool.false_eq_true, if_false]
    rfl
  rw [enters f fn args.toArray w hf hn (by rw [hb]; rfl)]
  obtain ⟨fg, hfg, hng, hbg⟩ := hbody
  refine (callsIn_wide (n := 10)).1 (callsIn_of_wp_defers (F := wideR none) (n := 10) hf hb trivial ?_ rfl)
  refine wpIn_seq (hA none 10 (Fx.of []) _ _ (fun _ _ => False) _ H _ w (NoPin.none A) ⟨?_, fun v H' a' w' _ _ _ h => h.elim⟩ ?_ hS hk)
  · rintro e fr1 H1 a1 w1 hR1 hS1 hE1 ⟨rfl, p, pinF, hp, hpinF, ⟨l, lv, hl⟩, hk⟩
    have hpe : a1.eval (.tmp t) = .pointer (some p) := hR1.eval (x := .tmp t) hp
    refine wpIn_seq (defer_one ho hg hd ?_)
    rw [hpe, hR1.1.1]
    show B.wpIn (wideR none) 10 P _ _ w1
    obtain ⟨D, hD⟩ : ∃ D : Deferred, D = { target := .fn (.func g) #[], args := #[.pointer (some p)] } := ⟨_, rfl⟩
    rw [show (Fx.of []).ds = ([] : List Deferred) from rfl, ← hD]
    obtain ⟨X, hX⟩ : ∃ X : Fx, X = ⟨[D], fun s => pinF.getD s none⟩ := ⟨_, rfl⟩
    have hXd : X.ds = [D] := by rw [hX]
    have hXp : ∀ s, X.pin s = pinF.getD s none := fun s => by rw [hX]
    have hinv : ∀ w', (invoke D.target D.args).run P w' = .ok (.enter g #[.pointer (some p)]) w' := fun w' => by
      rw [hD]
      simp [invoke, go_sem, enters g fg _ _ hfg hng hbg]
    have leave : ∀ {u : FrameMode} {w' : World} {u' : FrameMode} {tm : Array Value} {Rr : Ending → World → Prop} {J : World → Prop}, u ≠ .run → CallsDIn (wideR none) (10 - 1) P g #[.pointer (some p)] u w' (fun e u2 w3 => e = .returned (.tuple #[]) ∧ u2 = u' ∧ J w3) →
        (∀ w2, J w2 → LeavesIn (wideR none) 10 P fn tm Rr [] (settle u') w2) → LeavesIn (wideR none) 10 P fn tm Rr [D] u w' := by
      intro u w' u' tm Rr J hu hcall hl
      refine ⟨hu, (fun h => by cases h), .func g, #[], g, #[.pointer (some p)], by rw [hD], hinv w', fun _ _ => trivial, ?_⟩
      refine ⟨hcall.1, fun c cs hm hr => ?_⟩
      obtain ⟨e, u2, w3, fr, ⟨rfl, rfl, hJ⟩, hst, hrest⟩ := hcall.2 c cs hm hr
      exact ⟨_, _, _, fr, hl _ hJ, hst, hrest⟩
    refine hB none 10 X _ _ _ fr1 H1 _ w1 (NoPin.of (ts := pins) (fun s hs => ?_) B hpin) ⟨?_, ?_⟩ ⟨⟨hXd.symm, fun s v hv => ?_⟩, hR1.2.1, hR1.2.2⟩ hS1 hk
    · rw [hXp]
      cases hh : pinF.getD s none with
      | none => rfl
      | some v => exact absurd (hpinF s v hh).2 hs
    · -- it returns
      rintro e fr2 H2 a2 w2 hR2 hS2 hE2 ⟨he, hres⟩
      have fin : ∀ Rr : Ending → World → Prop, (∀ v w3, (∃ H', Sub H' w3 ∧ Ext H w H' w3 ∧ K v H') → Rr (.returned v) w3) → LeavesIn (wideR none) 10 P fn a2.tmps Rr a2.defers .returning w2 := by
        intro Rr hRr
        rw [hR2.1.1, hXd]
        refine leave (u' := .returning) (by simp) (hc.idle _ p H2 w2 hS2) ?_
        rintro w3 ⟨hS3, hE3⟩
        obtain ⟨v, hv, H'', hle, hK⟩ := results_run (hR2) hS3 hres
        exact ⟨v, hv, hRr v w3 ⟨H'', hS3.of_le hle, ((hE1.trans hE2).trans hE3).of_le hle, hK⟩⟩
      rcases he with rfl | rfl
      · exact fin _ fun v _ h => h
      · exact fin _ fun v _ h => h
    · -- it throws
      rintro v H2 a2 w2 hK2 hS2 hE2 ⟨x, rfl, hst⟩
      show LeavesIn (wideR none) 10 P fn a2.tmps _ a2.defers (.panicking _) w2
      rw [hK2.1, hXd]
      refine leave (u' := .panicking [{ v := .iface te (.int .i64 x), recovered := true }]) (by simp) (hc.pan _ p x H2 w2 _ hS2 hst) ?_
      rintro w3 ⟨H3, hS3, hE3, hres⟩
      have hpins : ∀ s v, pinF.getD s none = some v → a2.tmps[s]? = some v := fun s v hv => hK2.2 s v (by rw [hXp]; exact hv)
      have hR3 : R (Fx.of []) pinF { a2 with defers := [] } := by
        refine ⟨⟨rfl, fun _ _ e => by cases e⟩, ?_, hpins⟩
        have := hpins l.length lv (by rw [hl]; simp)
        have := (Array.getElem?_eq_some_iff.1 this).1
        rw [hl]
        simp
        omega
      obtain ⟨u, hu, H'', hle, hK⟩ := results_run hR3 hS3 hres
      exact ⟨u, hu, H'', hS3.of_le hle, ((hE1.trans hE2).trans hE3).of_le hle, hK⟩
    · rw [hXp] at hv
      exact hR1.2.2 s v (hpinF s v hv).1
  · refine ⟨⟨rfl, fun _ _ e => by cases e⟩, ?_, fun t v ht => ?_⟩
    · simp
    · rw [List.getD_eq_getElem?_getD] at ht
      show (args.toArray ++ Array.replicate (fn.ntmps - args.toArray.size) undef)[t]? = some v
      by_cases hl : t < args.length
      · rw [List.getElem?_append_left (by simpa using hl)] at ht
        rw [Array.getElem?_append, if_pos (by simpa using hl)]
        simpa [List.getElem?_map, hl] using ht
      · rw [List.getElem?_append_right (by simpa using hl), List.getElem?_replicate] at ht
        split at ht <;> cases ht
theorem lenIs_in {n : Nat} {fr : Fr} {K : Prop} (h : fr.length = n) (k : K) : lenIs n fr K := by unfold lenIs; rw [if_pos h]; exact k
theorem slS_in {fr : Fr} {t : Nat} {n : ByteArray} {K : ByteArray → Prop} (h : fr.getD t none = some (.string n)) (k : K n) : slS fr t K := by unfold slS; rw [h]; exact k
theorem slPA_in {fr : Fr} {t : Nat} {n : Addr} {K : Addr → Prop} (h : fr.getD t none = some (.pointer (some n))) (k : K n) : slPA fr t K := by unfold slPA; rw [h]; exact k
end Go.Sh
