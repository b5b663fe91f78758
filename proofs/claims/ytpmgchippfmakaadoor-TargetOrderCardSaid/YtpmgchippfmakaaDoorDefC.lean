/- Functions with one deferred call of a closure, that catches what is thrown. -/
import Derived.Test.YtpmgchippfmakaaDoorDef
namespace Go.Sh
open Go.RowKit
set_option maxRecDepth 8000
/-- A function that is called deferred, with some values: it does nothing behind a return; S says what it lays when a number was thrown. -/
structure CatchG (P : Program) (g : FuncId) (te : TypeId) (G : List Value → Prop) (S : List Value → Int → (Heap → Prop) → Heap → Prop) : Prop where
  idle : ∀ n as H w, G as → Sub H w → CallsDIn (wideR none) n P g as.toArray .returning w fun e u' w' => e = .returned (.tuple #[]) ∧ u' = .returning ∧ Sub H w' ∧ Ext H w H w'
  pan : ∀ n as x H w (K : Heap → Prop), G as → Sub H w → S as x K H → CallsDIn (wideR none) n P g as.toArray (.panicking [{ v := .iface te (.int .i64 x), recovered := false }]) w fun e u' w' =>
    e = .returned (.tuple #[]) ∧ u' = .panicking [{ v := .iface te (.int .i64 x), recovered := true }] ∧ ∃ H', Sub H' w' ∧ Ext H w H' w' ∧ K H'
theorem R_start (as : List Value) (n : Nat) (h : as.length ≤ n) : R (Fx.of []) (as.map some ++ List.replicate (n - as.length) none) { tmps := as.toArray ++ Array.replicate (n - as.toArray.size) undef, defers := [] } := by
  refine ⟨⟨rfl, fun _ _ e => by cases e⟩, by simp, fun t v ht => ?_⟩
  rw [List.getD_eq_getElem?_getD] at ht
  show (as.toArray ++ Array.replicate (n - as.toArray.size) undef)[t]? = some v
  by_cases hl : t < as.length
  · rw [List.getElem?_append_left (by simpa using hl)] at ht
    rw [Array.getElem?_append, if_pos (by simpa using hl)]
    simpa [List.getElem?_map, hl] using ht
  · rw [List.getElem?_append_right (by simpa using hl), List.getElem?_replicate] at ht
    split at ht <;> cases ht
theorem catchG_of {P : Program} {g : FuncId} {fn : Func} {te : TypeId} {id : Nat} {o : Oper} {d : Tmp} {C : Code} {T : CT} {G : List Value → Prop} {S : List Value → Int → (Heap → Prop) → Heap → Prop} (hf : P.funcs[g]? = some fn) (hb : fn.body = some (.seq (.region id #[o] false) C)) (ho : o.op = .call { callee := .builtin .recover, args := #[], argTypes := #[] }) (hg : o.guard = none) (hd : o.dst = some d)
    (hres : fn.results = #[]) (hC : SoundCode P C T) (hG : ∀ as, G as → as.length ≤ fn.ntmps)
    (h0 : ∀ as H, G as → T (fun e _ H' => e = .normal ∧ H' = H) (fun _ _ => False) ((as.map some ++ List.replicate (fn.ntmps - as.length) none : Fr).set d (some .nilIface)) H)
    (h1 : ∀ as x H (K : Heap → Prop), G as → S as x K H → T (fun e _ H' => e = .normal ∧ K H') (fun _ _ => False) ((as.map some ++ List.replicate (fn.ntmps - as.length) none : Fr).set d (some (.iface te (.int .i64 x)))) H) : CatchG P g te G S := by
  have hR : ∀ (as : List Value) (v : Value), G as → R (Fx.of []) ((as.map some ++ List.replicate (fn.ntmps - as.length) none : Fr).set d (some v)) (({ tmps := as.toArray ++ Array.replicate (fn.ntmps - as.toArray.size) undef, defers := [] } : Act).put o.dst v) := fun as v h => by
    rw [hd]
    exact (R_start as fn.ntmps (hG as h)).put (some d) v (fun _ _ => rfl)
  have post : ∀ (c₀ : Frame) (cs : List Frame) (u' : FrameMode) (a' : Act) (w' : World) (Rr : Ending → FrameMode → World → Prop), a'.defers = [] → Rr (.returned (.tuple #[])) u' w' → bodyPostS P fn c₀ cs Rr .normal a' ({ c₀ with mode := u' } :: cs) w' := fun c₀ cs u' a' w' Rr h1 h2 => by
    refine ⟨h1, u', rfl, .tuple #[], ?_, h2⟩
    simp [results, hres]
  refine ⟨fun n as H w hGa hS => ?_, fun n as x H w K hGa hS hK => ?_⟩
  · refine callsDIn_of_wpSIn hf hb trivial fun c₀ cs hu => ?_
    apply wpSIn_seq
    refine recover_region ho hg (.inl ⟨hu, rfl, rfl⟩) ?_
    refine wpSIn_of_wpIn rfl ?_
    refine hC none n (Fx.of []) _ _ (fun _ _ => False) _ H _ w (NoPin.none C) ⟨?_, fun v H' a' w' _ _ _ h => h.elim⟩ (hR as .nilIface hGa) hS (h0 as H hGa)
    rintro e fr' H' a' w' hR' hS' hE' ⟨rfl, rfl⟩
    exact post c₀ cs .returning a' w' _ hR'.1.1 ⟨rfl, rfl, hS', hE'⟩
  · refine callsDIn_of_wpSIn hf hb trivial fun c₀ cs hu => ?_
    apply wpSIn_seq
    refine recover_region ho hg (.inr ⟨_, _, [], hu, rfl, rfl⟩) ?_
    refine wpSIn_of_wpIn rfl ?_
    refine hC none n (Fx.of []) _ _ (fun _ _ => False) _ H _ w (NoPin.none C) ⟨?_, fun v H' a' w' _ _ _ h => h.elim⟩ (hR as (.iface te (.int .i64 x)) hGa) hS (h1 as x H K hGa hK)
    rintro e fr' H' a' w' hR' hS' hE' ⟨rfl, hk⟩
    exact post c₀ cs _ a' w' _ hR'.1.1 ⟨rfl, rfl, H', hS', hE', hk⟩
/-- A region that makes a closure and defers its call. -/
theorem defer_fn {P : Program} {nf id : Nat} {m o : Oper} {g : FuncId} {t : Tmp} {caps : Array Operand} {cs : Array Value} {a : Act} {w : World} {Q : Exit → Act → World → Prop} (hm : m.op = .makeFunc (.func g) #[] caps) (hmg : m.guard = none) (hmd : m.dst = some t) (ht : t < a.tmps.size)
    (ho : o.op = .defer { callee := .value (.tmp t), args := #[], argTypes := #[] }) (hg : o.guard = none) (hd : o.dst = none) (hcs : caps.map a.eval = cs)
    (h : Q .normal { a.put (some t) (.func (.func g) #[] cs) with defers := { target := .fn (.func g) cs, args := #[] } :: a.defers } w) : (Code.region id #[m, o] false).wpIn (wideR none) nf P Q a w := by
  refine wpIn_region ?_
  show wpOpsIn (wideR none) nf P #[m, o] Q (List.range' 0 2) a w
  rw [List.range'_succ, wpOpsIn_cons]
  unfold wpOpIn
  simp only [show (#[m, o] : Array Oper)[0]? = some m from rfl]
  rw [if_pos (by simp [Region.wanted, hmg])]
  refine ⟨fun _ _ => trivial, ?_⟩
  have e1 : (m.semAt (wideR none).round a.eval).run P w = .ok (.value (.func (.func g) #[] cs)) w := by
    show (execOp a.eval m).run P w = _
    simp [execOp, hm, go_sem, hcs, Instr.makeFunc]
  rw [e1]
  show wpOpsIn (wideR none) nf P #[m, o] Q [0 + 1] (a.put m.dst (.func (.func g) #[] cs)) w
  rw [wpOpsIn_cons]
  unfold wpOpIn
  simp only [show (#[m, o] : Array Oper)[0 + 1]? = some o from rfl]
  rw [if_pos (by simp [Region.wanted, hg])]
  refine ⟨fun _ _ => trivial, ?_⟩
  have ev : (a.put m.dst (.func (.func g) #[] cs)).eval (.tmp t) = .func (.func g) #[] cs := by
    rw [hmd]
    simp [Act.eval, Act.put, ht]
  have e2 : (o.semAt (wideR none).round (a.put m.dst (.func (.func g) #[] cs)).eval).run P w = .ok (.defer { target := .fn (.func g) cs, args := #[] }) w := by
    show (execOp (a.put m.dst (.func (.func g) #[] cs)).eval o).run P w = _
    generalize (a.put m.dst (.func (.func g) #[] cs)).eval = ρ at ev ⊢
    simp [execOp, ho, resolve, go_sem, ev]
  rw [e2, Oper.uponIn_defer, hd, hmd]
  exact h
/-- What is to be shown of such a function: A lays the variables, B is the rest. -/
def catchGT (P : Program) (fn : Func) (TA TB : CT) (te : TypeId) (pins : List Tmp) (g : FuncId) (t : Tmp) (caps : Array Operand) (G : List Value → Prop) (S : List Value → Int → (Heap → Prop) → Heap → Prop) (args : List Value) (K : Value → Heap → Prop) (H : Heap) : Prop :=
  TA (fun e fr1 H1 => e = .normal ∧ ∃ as pinF, (∀ a, R (Fx.of []) fr1 a → caps.map a.eval = as.toArray) ∧ t < fr1.length ∧ G as ∧ (∀ s v, pinF.getD s none = some v → (fr1.set t (some (.func (.func g) #[] as.toArray))).getD s none = some v ∧ s ∈ pins) ∧ (∃ l v, pinF = l ++ [some v]) ∧
    TB (fun e fr2 H2 => (e = .normal ∨ e = .ret) ∧ resW P fr2 H2 fn.results.toList [] fun v => Fg K v H2)
      (fun v H2 => ∃ x, v = .iface te (.int .i64 x) ∧ S as x (fun H3 => resW P pinF H3 fn.results.toList [] fun v => Fg K v H3) H2) (fr1.set t (some (.func (.func g) #[] as.toArray))) H1)
    (fun _ _ => False) (args.map some ++ List.replicate (fn.ntmps - args.length) none) H
theorem catchG_ok {P : Program} {f : FuncId} {fn : Func} {A B : Code} {id : Nat} {m o : Oper} {g : FuncId} {t : Tmp} {caps : Array Operand} {TA TB : CT} {F : FT} {te : TypeId} {pins : List Tmp} {G : List Value → Prop} {S : List Value → Int → (Heap → Prop) → Heap → Prop} (hf : P.funcs[f]? = some fn) (hb : fn.body = some (.seq A (.seq (.region id #[m, o] false) B))) (hn : (fn.name == "runtime.NumGoroutine") = false)
    (hm : m.op = .makeFunc (.func g) #[] caps) (hmg : m.guard = none) (hmd : m.dst = some t) (ho : o.op = .defer { callee := .value (.tmp t), args := #[], argTypes := #[] }) (hg : o.guard = none) (hd : o.dst = none) (hc : CatchG P g te G S) (hbody : ∃ fg, P.funcs[g]? = some fg ∧ (fg.name == "runtime.NumGoroutine") = false ∧ fg.body.isNone = false)
    (hA : SoundCode P A TA) (hB : SoundCode P B TB) (hpin : noPinB pins B = true) (hF : ∀ args K E H, F args K E H → catchGT P fn TA TB te pins g t caps G S args K H) : CalleeOk P f F := by
  intro args K E H w hS h
  have hk := hF args K E H h
  have enters : ∀ (f : FuncId) (fn : Func) (args : Array Value) (w : World), P.funcs[f]? = some fn → (fn.name == "runtime.NumGoroutine") = false → fn.body.isNone = false → (callFunc f args).run P w = .ok (.enter f args) w := by
    intro f fn args w hf hn hbody
    show (match P.funcs[f]? with | none => stuck "call: no such function" | some fn => _ : Sem Next).run P w = _
    rw [hf]
    simp only [hn, hbody, Bool.false_eq_true, if_false]
    rfl
  rw [enters f fn args.toArray w hf hn (by rw [hb]; rfl)]
  refine (callsIn_wide (n := 10)).1 (callsIn_of_wp_defers (F := wideR none) (n := 10) hf hb trivial ?_ rfl)
  refine wpIn_seq (hA none 10 (Fx.of []) _ _ (fun _ _ => False) _ H _ w (NoPin.none A) ⟨?_, fun v H' a' w' _ _ _ h => h.elim⟩ ?_ hS hk)
  · rintro e fr0 H1 a0 w1 hR0 hS1 hE1 ⟨rfl, as, pinF, hcs, htl, hGa, hpinF, ⟨l, lv, hl⟩, hk⟩
    refine wpIn_seq (defer_fn hm hmg hmd (Nat.lt_of_lt_of_le htl hR0.2.1) ho hg hd (hcs a0 hR0) ?_)
    have hR1 := hR0.put (some t) (.func (.func g) #[] as.toArray) (fun _ _ => rfl)
    rw [hR0.1.1]
    show B.wpIn (wideR none) 10 P _ _ w1
    rw [show (Fx.of []).ds = ([] : List Deferred) from rfl]
    obtain ⟨a1, ha1⟩ : ∃ a1, a1 = a0.put (some t) (.func (.func g) #[] as.toArray) := ⟨_, rfl⟩
    rw [← ha1] at hR1 ⊢
    obtain ⟨fr1, hfr1⟩ : ∃ fr1 : Fr, fr1 = fr0.set t (some (.func (.func g) #[] as.toArray)) := ⟨_, rfl⟩
    rw [← hfr1] at hk hpinF
    have hR1 : R (Fx.of []) fr1 a1 := by rw [hfr1]; exact hR1
    obtain ⟨D, hD⟩ : ∃ D : Deferred, D = { target := .fn (.func g) as.toArray, args := #[] } := ⟨_, rfl⟩
    rw [← hD]
    obtain ⟨fg, hfg, hng, hbg⟩ := hbody
    have hinv : ∀ w', (invoke D.target D.args).run P w' = .ok (.enter g as.toArray) w' := fun w' => by
      rw [hD]
      simp [invoke, go_sem, enters g fg _ _ hfg hng hbg]
    obtain ⟨X, hX⟩ : ∃ X : Fx, X = ⟨[D], fun s => pinF.getD s none⟩ := ⟨_, rfl⟩
    have hXd : X.ds = [D] := by rw [hX]
    have hXp : ∀ s, X.pin s = pinF.getD s none := fun s => by rw [hX]
    have leave : ∀ {u : FrameMode} {w' : World} {u' : FrameMode} {tm : Array Value} {Rr : Ending → World → Prop} {J : World → Prop}, u ≠ .run → CallsDIn (wideR none) (10 - 1) P g as.toArray u w' (fun e u2 w3 => e = .returned (.tuple #[]) ∧ u2 = u' ∧ J w3) →
        (∀ w2, J w2 → LeavesIn (wideR none) 10 P fn tm Rr [] (settle u') w2) → LeavesIn (wideR none) 10 P fn tm Rr [D] u w' := by
      intro u w' u' tm Rr J hu hcall hl
      refine ⟨hu, (fun h => by cases h), .func g, as.toArray, g, as.toArray, by rw [hD], hinv w', fun _ _ => trivial, ?_⟩
      refine ⟨hcall.1, fun c cs hm hr => ?_⟩
      obtain ⟨e, u2, w3, fr, ⟨rfl, rfl, hJ⟩, hst, hrest⟩ := hcall.2 c cs hm hr
      exact ⟨_, _, _, fr, hl _ hJ, hst, hrest⟩
    refine hB none 10 X _ _ _ fr1 H1 _ w1 (NoPin.of (ts := pins) (fun s hs => ?_) B hpin) ⟨?_, ?_⟩ ⟨⟨hXd.symm, fun s v hv => ?_⟩, hR1.2.1, hR1.2.2⟩ hS1 hk
    · rw [hXp]
      cases hh : pinF.getD s none with
      | none => rfl
      | some v => exact absurd (hpinF s v hh).2 hs
    · -- it returns
      rintro e fr2 H2 a2 w2 hR2 hS2 hE2 ⟨he, hres⟩
      have fin : ∀ Rr : Ending → World → Prop, (∀ v w3, (∃ H', Sub H' w3 ∧ Ext H w H' w3 ∧ K v H') → Rr (.returned v) w3) → LeavesIn (wideR none) 10 P fn a2.tmps Rr a2.defers .returning w2 := by
        intro Rr hRr
        rw [hR2.1.1, hXd]
        refine leave (u' := .returning) (by simp) (hc.idle _ as H2 w2 hGa hS2) ?_
        rintro w3 ⟨hS3, hE3⟩
        obtain ⟨v, hv, H'', hle, hK⟩ := results_run (hR2) hS3 hres
        exact ⟨v, hv, hRr v w3 ⟨H'', hS3.of_le hle, ((hE1.trans hE2).trans hE3).of_le hle, hK⟩⟩
      rcases he with rfl | rfl
      · exact fin _ fun v _ h => h
      · exact fin _ fun v _ h => h
    · -- it throws
      rintro v H2 a2 w2 hK2 hS2 hE2 ⟨x, rfl, hst⟩
      show LeavesIn (wideR none) 10 P fn a2.tmps _ a2.defers (.panicking _) w2
      rw [hK2.1, hXd]
      refine leave (u' := .panicking [{ v := .iface te (.int .i64 x), recovered := true }]) (by simp) (hc.pan _ as x H2 w2 _ hGa hS2 hst) ?_
      rintro w3 ⟨H3, hS3, hE3, hres⟩
      have hpins : ∀ s v, pinF.getD s none = some v → a2.tmps[s]? = some v := fun s v hv => hK2.2 s v (by rw [hXp]; exact hv)
      have hR3 : R (Fx.of []) pinF { a2 with defers := [] } := by
        refine ⟨⟨rfl, fun _ _ e => by cases e⟩, ?_, hpins⟩
        have := hpins l.length lv (by rw [hl]; simp)
        have := (Array.getElem?_eq_some_iff.1 this).1
        rw [hl]
        simp
        omega
      obtain ⟨u, hu, H'', hle, hK⟩ := results_run hR3 hS3 hres
      exact ⟨u, hu, H'', hS3.of_le hle, ((hE1.trans hE2).trans hE3).of_le hle, hK⟩
    · rw [hXp] at hv
      exact hR1.2.2 s v (hpinF s v hv).1
  · refine ⟨⟨rfl, fun _ _ e => by cases e⟩, ?_, fun t v ht => ?_⟩
    · simp
    · rw [List.getD_eq_getElem?_getD] at ht
      show (args.toArray ++ Array.replicate (fn.ntmps - args.toArray.size) undef)[t]? = some v
      by_cases hl : t < args.length
      · rw [List.getElem?_append_left (by simpa using hl)] at ht
        rw [Array.getElem?_append, if_pos (by simpa using hl)]
        simpa [List.getElem?_map, hl] using ht
      · rw [List.getElem?_append_right (by simpa using hl), List.getElem?_replicate] at ht
        split at ht <;> cases ht
end Go.Sh
