/- Itoa, Join, Atoi, Index: the library's contracts as callees. -/
import Derived.Test.YtpmgchippfmakaaDoorShl
import Derived.Test.YtpmgchippfmakaaDoorShX
import Derived.Test.YtpmgchippfmakaaDoorShP
namespace Go.Sh
open Go.Proofs Go.RowKit Go.ChangeShapes Go.WideShapes
set_option maxRecDepth 8000
/-- A variable that is a table of whole numbers, and nothing else. -/
def TabIn (H : Heap) (g : Nat) (k : IntKind) (xs : List Int) : Prop := ∃ e f, H g = some (.cells (xs.map fun x => Value.int k x).toArray e f)
theorem TabIn.le {H H' : Heap} {g : Nat} {k : IntKind} {xs : List Int} (h : TabIn H g k xs) (hl : Heap.Le H H') : TabIn H' g k xs := by
  obtain ⟨e, f, h⟩ := h
  exact ⟨e, f, hl _ _ h⟩
theorem TabIn.tab {P : Program} {H : Heap} {g : Nat} {k : IntKind} {xs : List Int} {w : World} {nm : String} (h : TabIn H g k xs) (hS : Sub H w) (hg : P.globalNamed nm = some g) : Lib.TabIs P w nm k xs := by
  obtain ⟨e, f, h⟩ := h
  have := hS _ _ h
  unfold Lib.TabIs World.var?
  rw [hg]
  show (match w.heap[g]? with | some (.cells cs _ _) => some cs | _ => none) = _
  rw [this]
theorem laid_tab {P : Program} {W : World} {nm : String} {g : Nat} {t e : TypeId} {n : Nat} {k : IntKind} {xs : List Int} {r : List (String × DataW Unit)} {ps : List MemPlace} (hg : P.globalNamed nm = some g) (hgt : (P.globals[g]?).map (·.type) = some t) (ht : P.underlying t = some (.array n e)) (he : P.underlying e = some (.int k)) (hc : P.cellsOf e = 1) (hct : P.cellsOf t = xs.length)
    (h : DataW.LaidVars P W ((nm, .agg (xs.map fun x => .lit (.int k x))) :: r) ps) : TabIn (heapOf W) g k xs ∧ ∃ q, DataW.LaidVars P W r q := by
  obtain ⟨g0, t0, cs, fuel, p, q, hg0, ht0, hv, hd, hr, _⟩ := h
  obtain rfl := Option.some.inj (hg.symm.trans hg0)
  obtain rfl := Option.some.inj (hgt.symm.trans ht0)
  refine ⟨?_, q, hr⟩
  have h2 := trod_ints ht he hc hd
  have hl : cs.toList.length = xs.length := by
    obtain ⟨ys, m, _, _, hlen, _⟩ := DataW.trod_array ht hd
    omega
  have hcs : cs = (xs.map fun x => Value.int k x).toArray := by
    apply Array.toList_inj.1
    apply List.ext_getElem?
    intro i
    rw [List.getElem?_map]
    cases hi : xs[i]? with
    | some x => rw [h2 i x hi]; rfl
    | none =>
      have := List.getElem?_eq_none_iff.1 hi
      rw [List.getElem?_eq_none (by omega)]; rfl
  unfold World.var? at hv
  rw [hg] at hv
  have hv2 : (match W.heap[g]? with | some (.cells cs _ _) => some cs | _ => none) = some cs := hv
  unfold TabIn heapOf
  cases ho : W.heap[g]? with
  | none => rw [ho] at hv2; cases hv2
  | some o =>
    rw [ho] at hv2
    cases o with
    | cells c e f =>
      cases hv2
      exact ⟨e, f, by rw [hcs]⟩
    | _ => cases hv2
theorem callee_at {P : Program} {f : FuncId} {fn : Func} {c : Code} {F : FT} (hf : P.funcs[f]? = some fn) (hb : fn.body = some c) (hn : (fn.name == "runtime.NumGoroutine") = false)
    (h : ∀ args K E H w, Sub H w → F args K E H → ∃ v, K v H ∧ Calls P f args.toArray w fun e w' => e = .returned v ∧ Below w.heap.size w w') : CalleeOk P f F := by
  intro args K E H w hS hF
  obtain ⟨v, hk, hc⟩ := h args K E H w hS hF
  have hr : (callFunc f args.toArray).run P w = .ok (.enter f args.toArray) w := by
    have hbody : fn.body.isNone = false := by rw [hb]; rfl
    show (match P.funcs[f]? with | none => stuck "call: no such function" | some fn => _ : Sem Next).run P w = _
    rw [hf]
    simp only [hn, hbody, Bool.false_eq_true, if_false]
    rfl
  rw [hr]
  refine hc.mono fun e w' ⟨he, hB⟩ => ?_
  subst he
  refine ⟨H, fun b o ho => ?_, ⟨hB.os, hB.tape, hB.output, hB.size, fun b hb hn => ⟨hB.block b hb, hn⟩⟩, hk⟩
  have ho2 := hS b o ho
  rw [hB.block b (Array.getElem?_eq_some_iff.1 ho2).1]
  exact ho2
theorem below_grow (w : World) (k : Nat) (os : Array Obj) : Below w.heap.size w (Go.Sort.grow (w.drewN k) os) :=
  ⟨rfl, rfl, rfl, by show _ ≤ (w.heap ++ os).size; simp, fun i hi => by show (w.heap ++ os)[i]? = _; rw [Array.getElem?_append_left hi]⟩
def powTab : List Int := [1, 10, 100, 1000, 10000, 100000, 1000000, 10000000, 100000000, 1000000000, 10000000000, 100000000000, 1000000000000, 10000000000000, 100000000000000, 1000000000000000, 10000000000000000, 100000000000000000, 1000000000000000000, 10000000000000000000]
theorem powTab_eq : Lib.pow10Tab = powTab := by decide
structure strconv_Itoa.c (n : Int) (K : ByteArray → Heap → Prop) (E : Value → Heap → Prop) (H : Heap) : Prop where
  h : -9223372036854775808 ≤ n ∧ n ≤ 9223372036854775807 ∧ TabIn H 0 .u64 powTab ∧ K ⟨(Lib.itoa n).toArray⟩ H
def strconv_Itoa.F : FT := fun args K E H => match args with
  | [.int .i64 n] => strconv_Itoa.c n (fun x H => K (.string x) H) E H
  | _ => False
theorem strconv_Itoa.ok : CalleeOk Tryd.prog 19 strconv_Itoa.F := by
  refine callee_at (fn := Tryd.f19) (c := Tryd.f19.body.getD .skip) (by kernel_rfl) (by kernel_rfl) (by kernel_rfl) ?_
  intro args K E H w hS h
  unfold strconv_Itoa.F at h
  split at h
  · rename_i n
    obtain ⟨h0, h1, ht, hk⟩ := h.h
    refine ⟨_, hk, (Tryd.strconv_Itoa n h0 h1 w ?_).mono ?_⟩
    · rw [powTab_eq]
      exact ht.tab hS (by kernel_rfl)
    · rintro e w' ⟨rfl, k, os, rfl⟩
      exact ⟨rfl, below_grow w k os⟩
  · exact h.elim
structure strings_Join.c (p : Option Addr) (n cp : Nat) (sep : ByteArray) (K : ByteArray → Heap → Prop) (E : Value → Heap → Prop) (H : Heap) : Prop where
  h : ∃ b o xs, p = some ⟨b, o, none⟩ ∧ n = List.length xs ∧ 0 < n ∧ n ≤ cp ∧ n ≤ 140737488355328 ∧ (∀ (j : Nat) (x : ByteArray), xs[j]? = some x → H.cell? ⟨b, o + j, none⟩ = some (.string x)) ∧
    (Lib.join (xs.map (·.data.toList)) sep.data.toList).length ≤ 140737488355328 ∧ K ⟨(Lib.join (xs.map (·.data.toList)) sep.data.toList).toArray⟩ H
def strings_Join.F : FT := fun args K E H => match args with
  | [.slice p n c, .string sep] => strings_Join.c p n c sep (fun x H => K (.string x) H) E H
  | _ => False
theorem sub_cell {H : Heap} {w : World} (hS : Sub H w) {a : Addr} {v : Value} (h : H.cell? a = some v) : w.cell? a = some v := by
  unfold Heap.cell? at h
  unfold World.cell?
  cases hb : H a.block with
  | none => rw [hb] at h; cases h
  | some o =>
    rw [hS _ _ hb]
    rw [hb] at h
    exact h
theorem strings_Join.ok : CalleeOk Tryd.prog 33 strings_Join.F := by
  refine callee_at (fn := Tryd.f33) (c := Tryd.f33.body.getD .skip) (by kernel_rfl) (by kernel_rfl) (by kernel_rfl) ?_
  intro args K E H w hS h
  unfold strings_Join.F at h
  split at h
  · rename_i p n c sep
    obtain ⟨b, o, xs, rfl, rfl, h0, h1, h2, hc, hl, hk⟩ := h.h
    refine ⟨_, hk, Tryd.strings_Join b o c xs sep w (fun j x hx => sub_cell hS (hc j x hx)) ?_ h2 h1 hl⟩
    obtain ⟨x, hx⟩ : ∃ x, xs[0]? = some x := ⟨_, List.getElem?_eq_getElem h0⟩
    have := hc 0 x hx
    unfold Heap.cell? at this
    cases hb : H b with
    | none => rw [show (⟨b, o + 0, none⟩ : Addr).block = b from rfl, hb] at this; cases this
    | some ob => exact hS.lt hb
  · exact h.elim

/-- Two variables that hold errors. -/
def ErrIn (H : Heap) (g : Nat) : Prop := ∃ te pe e f, H g = some (.cells #[.iface te pe] e f)
theorem ErrIn.le {H H' : Heap} {g : Nat} (h : ErrIn H g) (hl : Heap.Le H H') : ErrIn H' g := by
  obtain ⟨te, pe, e, f, h⟩ := h
  exact ⟨te, pe, e, f, hl _ _ h⟩
theorem callee_any {P : Program} {f : FuncId} {fn : Func} {c : Code} {F : FT} (hf : P.funcs[f]? = some fn) (hb : fn.body = some c) (hn : (fn.name == "runtime.NumGoroutine") = false)
    (h : ∀ args K E H w, Sub H w → F args K E H → Calls P f args.toArray w fun e w' => ∃ v, e = .returned v ∧ Below w.heap.size w w' ∧ K v H) : CalleeOk P f F := by
  intro args K E H w hS hF
  have hc := h args K E H w hS hF
  have hr : (callFunc f args.toArray).run P w = .ok (.enter f args.toArray) w := by
    have hbody : fn.body.isNone = false := by rw [hb]; rfl
    show (match P.funcs[f]? with | none => stuck "call: no such function" | some fn => _ : Sem Next).run P w = _
    rw [hf]
    simp only [hn, hbody, Bool.false_eq_true, if_false]
    rfl
  rw [hr]
  refine hc.mono fun e w' ⟨v, he, hB, hk⟩ => ?_
  subst he
  refine ⟨H, fun b o ho => ?_, ⟨hB.os, hB.tape, hB.output, hB.size, fun b hb hn => ⟨hB.block b hb, hn⟩⟩, hk⟩
  have ho2 := hS b o ho
  rw [hB.block b (Array.getElem?_eq_some_iff.1 ho2).1]
  exact ho2
theorem ErrIn.cell {H : Heap} {g : Nat} {w : World} (h : ErrIn H g) (hS : Sub H w) : ∃ te pe, w.cell? ⟨g, 0, none⟩ = some (.iface te pe) := by
  obtain ⟨te, pe, e, f, h⟩ := h
  exact ⟨te, pe, sub_cell hS (by simp [Heap.cell?, h])⟩
structure strconv_Atoi.c (s : ByteArray) (K : Int → Value → Heap → Prop) (E : Value → Heap → Prop) (H : Heap) : Prop where
  h : s.size ≤ 281474976710656 ∧ ErrIn H 1 ∧ ErrIn H 2 ∧ (∀ v, Lib.atoiAll s.data.toList = .ok v → K v .nilIface H) ∧ ((∀ v, Lib.atoiAll s.data.toList ≠ .ok v) → ∀ v x, K v (.iface 95 x) H)
def strconv_Atoi.F : FT := fun args K E H => match args with
  | [.string s] => strconv_Atoi.c s (fun v e H => K (.tuple #[.int .i64 v, e]) H) E H
  | _ => False
theorem strconv_Atoi.ok : CalleeOk Tryd.prog 40 strconv_Atoi.F := by
  refine callee_any (fn := Tryd.f40) (c := Tryd.f40.body.getD .skip) (by kernel_rfl) (by kernel_rfl) (by kernel_rfl) ?_
  intro args K E H w hS h
  unfold strconv_Atoi.F at h
  split at h
  · rename_i s
    obtain ⟨hs, e1, e2, hok, hno⟩ := h.h
    obtain ⟨t1, p1, c1⟩ := e1.cell hS
    obtain ⟨t2, p2, c2⟩ := e2.cell hS
    cases hr : Lib.atoiAll s.data.toList with
    | ok v =>
      refine (Tryd.strconv_Atoi_ok s (by omega) v hr w).mono ?_
      rintro e w' ⟨rfl, hw⟩
      refine ⟨_, rfl, ?_, hok v hr⟩
      rcases hw with rfl | ⟨t, rfl⟩
      · exact Below.refl _ _
      · exact Lib.bytesWorld_below _ _ _
    | range =>
      refine (Tryd.strconv_Atoi_range s hs hr _ w c2 (.inr ⟨_, _, rfl⟩)).mono ?_
      rintro e w' ⟨m, rfl, _, _, hB⟩
      exact ⟨_, rfl, hB, hno (fun v hv => by rw [hr] at hv; cases hv) _ _⟩
    | _ =>
      refine (Tryd.strconv_Atoi_syntax s hs hr _ w c1 (.inr ⟨_, _, rfl⟩)).mono ?_
      rintro e w' ⟨m, rfl, _, _, hB⟩
      exact ⟨_, rfl, hB, hno (fun v hv => by rw [hr] at hv; cases hv) _ _⟩
  · exact h.elim
structure internal_stringslite_Index.c (s sep : ByteArray) (K : Int → Heap → Prop) (E : Value → Heap → Prop) (H : Heap) : Prop where
  h : ∃ b : UInt8, sep = ⟨#[b]⟩ ∧ K (Lib.indexByte s.data.toList b) H
def internal_stringslite_Index.F : FT := fun args K E H => match args with
  | [.string s, .string sep] => internal_stringslite_Index.c s sep (fun v H => K (.int .i64 v) H) E H
  | _ => False
theorem internal_stringslite_Index.ok : CalleeOk Tryd.prog 79 internal_stringslite_Index.F := by
  refine callee_any (fn := Tryd.f79) (c := Tryd.f79.body.getD .skip) (by kernel_rfl) (by kernel_rfl) (by kernel_rfl) ?_
  intro args K E H w hS h
  unfold internal_stringslite_Index.F at h
  split at h
  · rename_i s sep
    obtain ⟨b, rfl, hk⟩ := h.h
    refine (Tryd.stringslite_Index_one s b w).mono ?_
    rintro e w' ⟨rfl, rfl⟩
    exact ⟨_, rfl, Below.refl _ _, hk⟩
  · exact h.elim
end Go.Sh
