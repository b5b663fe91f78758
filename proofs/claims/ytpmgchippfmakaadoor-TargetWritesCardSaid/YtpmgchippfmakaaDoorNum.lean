/- strconv.Itoa and strings.Join, by the library's contracts. -/
import Derived.Shelf.LaysM
import Derived.Shelf.Strconv.Itoa3
import Derived.Shelf.Strings.OnBuilder
import Derived.Shelf.Strings.Builder2
import Derived.Test.YtpmgchippfmakaaDoorShX
import Derived.Test.YtpmgchippfmakaaDoorShP
import Derived.Test.YtpmgchippfmakaaDoorProg
namespace Go.Proofs
open Go.Shelf
def Tryd.lays156_ren : Go.Shelf.Ren := ⟨fun | 156 => 33 | 165 => 43 | 166 => 44 | 169 => 45 | 240 => 54 | 241 => 55 | 276 => 69 | 277 => 70 | n => n, fun | 31 => 39 | 9 => 9 | 3 => 3 | 4 => 4 | 0 => 0 | 20 => 20 | 72 => 72 | 76 => 67 | 70 => 70 | 37 => 59 | 75 => 66 | 127 => 83 | 164 => 98 | 5 => 5 | 80 => 74 | n => n, fun | n => n⟩
theorem Tryd.lays156 : Go.Proofs.Lays.n156 Tryd.prog Tryd.lays156_ren := {
  mixed := by kernel_rfl
  f156 := Tryd.func33.trans (congrArg some (by kernel_rfl))
  f165 := Tryd.func43.trans (congrArg some (by kernel_rfl))
  f166 := Tryd.func44.trans (congrArg some (by kernel_rfl))
  f169 := Tryd.func45.trans (congrArg some (by kernel_rfl))
  f240 := Tryd.func54.trans (congrArg some (by kernel_rfl))
  f241 := Tryd.func55.trans (congrArg some (by kernel_rfl))
  f276 := Tryd.func69.trans (congrArg some (by kernel_rfl))
  f277 := Tryd.func70.trans (congrArg some (by kernel_rfl))
  t0 := Tryd.underlying0
  a0 := Tryd.isAgg0
  z0 := Tryd.sizeOf0
  v0 := Tryd.zeroValue0
  t3 := Tryd.underlying3
  a3 := Tryd.isAgg3
  z3 := Tryd.sizeOf3
  v3 := Tryd.zeroValue3
  t4 := Tryd.underlying4
  a4 := Tryd.isAgg4
  z4 := Tryd.sizeOf4
  v4 := Tryd.zeroValue4
  t9 := Tryd.underlying9
  a9 := Tryd.isAgg9
  z9 := Tryd.sizeOf9
  v9 := Tryd.zeroValue9
  t20 := Tryd.underlying20
  a20 := Tryd.isAgg20
  z20 := Tryd.sizeOf20
  v20 := Tryd.zeroValue20
  t31 := Tryd.underlying39
  a31 := Tryd.isAgg39
  z31 := Tryd.sizeOf39
  v31 := Tryd.zeroValue39
  t37 := Tryd.underlying59
  a37 := Tryd.isAgg59
  z37 := Tryd.sizeOf59
  v37 := Tryd.zeroValue59
  t70 := Tryd.underlying70
  a70 := Tryd.isAgg70
  z70 := Tryd.sizeOf70
  v70 := Tryd.zeroValue70
  t72 := Tryd.underlying72
  a72 := Tryd.isAgg72
  z72 := Tryd.sizeOf72
  v72 := Tryd.zeroValue72
  t75 := Tryd.underlying66
  a75 := Tryd.isAgg66
  z75 := Tryd.sizeOf66
  v75 := Tryd.zeroValue66
  t76 := Tryd.underlying67
  a76 := Tryd.isAgg67
  z76 := Tryd.sizeOf67
  v76 := Tryd.zeroValue67
  t127 := Tryd.underlying83
  a127 := Tryd.isAgg83
  z127 := Tryd.sizeOf83
  v127 := Tryd.zeroValue83
  t164 := Tryd.underlying98
  a164 := Tryd.isAgg98
  z164 := Tryd.sizeOf98
  v164 := Tryd.zeroValue98 }
theorem Tryd.Builder_Extra_156 : Builder.Extra Tryd.prog Tryd.lays156_ren := {
  sizeBuilder := by kernel_rfl
  liesBuilder := by kernel_rfl
  t5 := Tryd.underlying5
  a5 := Tryd.isAgg5
  z5 := Tryd.sizeOf5
  v5 := Tryd.zeroValue5
  infoByte := by kernel_rfl
  cellsByte := by kernel_rfl
  sizeByte := by kernel_rfl
  neB5 := by decide }
open Go.RowKit in
/-- strings.Join: "Join concatenates the elements of its first argument to create a single string. The separator string sep is placed between elements in the resulting string.": HOWEVER MANY ELEMENTS. Below the heap's end the world is as it was. (LAID: no walk: one application.) -/
theorem Tryd.strings_Join (bk o c : Nat) (xs : List ByteArray) (sep : ByteArray) (w : World) (hcells : ∀ (j : Nat) x, xs[j]? = some x → w.cell? ⟨bk, o + j, none⟩ = some (.string x)) (hbk : bk < w.heap.size) (hN : xs.length ≤ 140737488355328) (hcap : xs.length ≤ c) (hlen : (Lib.join (xs.map (·.data.toList)) sep.data.toList).length ≤ 140737488355328) :
    Calls Tryd.prog 33 #[.slice (some ⟨bk, o, none⟩) xs.length c, .string sep] w fun e w' => e = .returned (.string ⟨(Lib.join (xs.map (·.data.toList)) sep.data.toList).toArray⟩) ∧ Below w.heap.size w w' := Any.strings_Join Tryd.lays156 Tryd.Builder_Extra_156 bk o c xs sep w hcells hbk hN hcap hlen
def Tryd.laysM171_ren : Go.Shelf.Ren := ⟨fun | 171 => 19 | 243 => 34 | 246 => 46 | 283 => 56 | 284 => 57 | 285 => 58 | 286 => 59 | 129 => 72 | 317 => 71 | 318 => 73 | 319 => 74 | 320 => 75 | 337 => 84 | 338 => 85 | n => n, fun | 3 => 3 | 9 => 9 | 2 => 2 | 4 => 4 | 171 => 84 | 0 => 0 | 53 => 41 | 37 => 59 | 5 => 5 | 173 => 87 | 212 => 103 | 51 => 22 | 20 => 20 | 213 => 104 | 46 => 81 | 232 => 122 | 233 => 123 | n => n, fun | 17 => 0 | 18 => 4 | 19 => 5 | n => n⟩
theorem Tryd.laysM171 : Go.Proofs.LaysM.n171 Tryd.prog Tryd.laysM171_ren := {
  mixed := by kernel_rfl
  f129 := Tryd.func72.trans (congrArg some (by kernel_rfl))
  f171 := Tryd.func19.trans (congrArg some (by kernel_rfl))
  f243 := Tryd.func34.trans (congrArg some (by kernel_rfl))
  f246 := Tryd.func46.trans (congrArg some (by kernel_rfl))
  f283 := Tryd.func56.trans (congrArg some (by kernel_rfl))
  f284 := Tryd.func57.trans (congrArg some (by kernel_rfl))
  f285 := Tryd.func58.trans (congrArg some (by kernel_rfl))
  f286 := Tryd.func59.trans (congrArg some (by kernel_rfl))
  f317 := Tryd.func71.trans (congrArg some (by kernel_rfl))
  f318 := Tryd.func73.trans (congrArg some (by kernel_rfl))
  f319 := Tryd.func74.trans (congrArg some (by kernel_rfl))
  f320 := Tryd.func75.trans (congrArg some (by kernel_rfl))
  f337 := Tryd.func84.trans (congrArg some (by kernel_rfl))
  f338 := Tryd.func85.trans (congrArg some (by kernel_rfl))
  t0 := Tryd.underlying0
  a0 := Tryd.isAgg0
  z0 := Tryd.sizeOf0
  v0 := Tryd.zeroValue0
  t2 := Tryd.underlying2
  a2 := Tryd.isAgg2
  z2 := Tryd.sizeOf2
  v2 := Tryd.zeroValue2
  t3 := Tryd.underlying3
  a3 := Tryd.isAgg3
  z3 := Tryd.sizeOf3
  v3 := Tryd.zeroValue3
  t4 := Tryd.underlying4
  a4 := Tryd.isAgg4
  z4 := Tryd.sizeOf4
  v4 := Tryd.zeroValue4
  t5 := Tryd.underlying5
  a5 := Tryd.isAgg5
  z5 := Tryd.sizeOf5
  v5 := Tryd.zeroValue5
  t9 := Tryd.underlying9
  a9 := Tryd.isAgg9
  z9 := Tryd.sizeOf9
  v9 := Tryd.zeroValue9
  t20 := Tryd.underlying20
  a20 := Tryd.isAgg20
  z20 := Tryd.sizeOf20
  v20 := Tryd.zeroValue20
  t37 := Tryd.underlying59
  a37 := Tryd.isAgg59
  z37 := Tryd.sizeOf59
  v37 := Tryd.zeroValue59
  t46 := Tryd.underlying81
  a46 := Tryd.isAgg81
  z46 := Tryd.sizeOf81
  v46 := Tryd.zeroValue81
  t51 := Tryd.underlying22
  a51 := Tryd.isAgg22
  z51 := Tryd.sizeOf22
  v51 := Tryd.zeroValue22
  t53 := Tryd.underlying41
  a53 := Tryd.isAgg41
  z53 := Tryd.sizeOf41
  v53 := Tryd.zeroValue41
  t171 := Tryd.underlying84
  a171 := Tryd.isAgg84
  z171 := Tryd.sizeOf84
  v171 := Tryd.zeroValue84
  t173 := Tryd.underlying87
  a173 := Tryd.isAgg87
  z173 := Tryd.sizeOf87
  v173 := Tryd.zeroValue87
  t212 := Tryd.underlying103
  a212 := Tryd.isAgg103
  z212 := Tryd.sizeOf103
  v212 := Tryd.zeroValue103
  t213 := Tryd.underlying104
  a213 := Tryd.isAgg104
  z213 := Tryd.sizeOf104
  t232 := Tryd.underlying122
  a232 := Tryd.isAgg122
  z232 := Tryd.sizeOf122
  v232 := Tryd.zeroValue122
  t233 := Tryd.underlying123
  a233 := Tryd.isAgg123
  z233 := Tryd.sizeOf123
  v233 := Tryd.zeroValue123
  g17 := by kernel_rfl
  g18 := by kernel_rfl
  g19 := by kernel_rfl
  i0 := by kernel_rfl
  i2 := by kernel_rfl
  i3 := by kernel_rfl
  i4 := by kernel_rfl
  i5 := by kernel_rfl
  i9 := by kernel_rfl
  i20 := by kernel_rfl
  i37 := by kernel_rfl
  i46 := by kernel_rfl
  i51 := by kernel_rfl
  i53 := by kernel_rfl
  i171 := by kernel_rfl
  i173 := by kernel_rfl
  i212 := by kernel_rfl
  i232 := by kernel_rfl
  i233 := by kernel_rfl
  m17 := by kernel_rfl
  m18 := by kernel_rfl
  m19 := by kernel_rfl }
open Go.RowKit Go.Sort Go.Lib in
/-- strconv.Itoa: "Itoa is equivalent to FormatInt(int64(i), 10).": i's DECIMAL NUMERAL ('Lib.itoa': a '-' where i is negative, then the digits), FOR EVERY int. The world behind the call: the world before it, new blocks behind the heap (the library's 'var a [24]byte'), draws. (LAID: no walk: one application.) -/
theorem Tryd.strconv_Itoa (n : Int) (h0 : -9223372036854775808 ≤ n) (h1 : n ≤ 9223372036854775807) (w : World) (htab : Lib.TabIs Tryd.prog w "internal/strconv.uint64pow10" .u64 Lib.pow10Tab) :
    Calls Tryd.prog 19 #[.int .i64 n] w fun e w' => e = .returned (.string ⟨(Lib.itoa n).toArray⟩) ∧ ∃ k os, w' = grow (w.drewN k) os := Any.strconv_Itoa Tryd.laysM171 n h0 h1 w htab
end Go.Proofs
namespace Go.Sh
open Go.Proofs Go.RowKit Go.ChangeShapes Go.WideShapes
set_option maxRecDepth 8000
/-- A variable that is a table of whole numbers, and nothing else. -/
def TabIn (H : Heap) (g : Nat) (k : IntKind) (xs : List Int) : Prop := ∃ e f, H g = some (.cells (xs.map fun x => Value.int k x).toArray e f)
theorem TabIn.le {H H' : Heap} {g : Nat} {k : IntKind} {xs : List Int} (h : TabIn H g k xs) (hl : Heap.Le H H') : TabIn H' g k xs := by
  obtain ⟨e, f, h⟩ := h
  exact ⟨e, f, hl _ _ h⟩
theorem TabIn.tab {P : Program} {H : Heap} {g : Nat} {k : IntKind} {xs : List Int} {w : World} {nm : String} (h : TabIn H g k xs) (hS : Sub H w) (hg : P.globalNamed nm = some g) : Lib.TabIs P w nm k xs := by
  obtain ⟨e, f, h⟩ := h
  have := hS _ _ h
  unfold Lib.TabIs World.var?
  rw [hg]
  show (match w.heap[g]? with | some (.cells cs _ _) => some cs | _ => none) = _
  rw [this]
theorem laid_tab {P : Program} {W : World} {nm : String} {g : Nat} {t e : TypeId} {n : Nat} {k : IntKind} {xs : List Int} {r : List (String × DataW Unit)} {ps : List MemPlace} (hg : P.globalNamed nm = some g) (hgt : (P.globals[g]?).map (·.type) = some t) (ht : P.underlying t = some (.array n e)) (he : P.underlying e = some (.int k)) (hc : P.cellsOf e = 1) (hct : P.cellsOf t = xs.length)
    (h : DataW.LaidVars P W ((nm, .agg (xs.map fun x => .lit (.int k x))) :: r) ps) : TabIn (heapOf W) g k xs ∧ ∃ q, DataW.LaidVars P W r q := by
  obtain ⟨g0, t0, cs, fuel, p, q, hg0, ht0, hv, hd, hr, _⟩ := h
  obtain rfl := Option.some.inj (hg.symm.trans hg0)
  obtain rfl := Option.some.inj (hgt.symm.trans ht0)
  refine ⟨?_, q, hr⟩
  have h2 := trod_ints ht he hc hd
  have hl : cs.toList.length = xs.length := by
    obtain ⟨ys, m, _, _, hlen, _⟩ := DataW.trod_array ht hd
    omega
  have hcs : cs = (xs.map fun x => Value.int k x).toArray := by
    apply Array.toList_inj.1
    apply List.ext_getElem?
    intro i
    rw [List.getElem?_map]
    cases hi : xs[i]? with
    | some x => rw [h2 i x hi]; rfl
    | none =>
      have := List.getElem?_eq_none_iff.1 hi
      rw [List.getElem?_eq_none (by omega)]; rfl
  unfold World.var? at hv
  rw [hg] at hv
  have hv2 : (match W.heap[g]? with | some (.cells cs _ _) => some cs | _ => none) = some cs := hv
  unfold TabIn heapOf
  cases ho : W.heap[g]? with
  | none => rw [ho] at hv2; cases hv2
  | some o =>
    rw [ho] at hv2
    cases o with
    | cells c e f =>
      cases hv2
      exact ⟨e, f, by rw [hcs]⟩
    | _ => cases hv2
theorem callee_at {P : Program} {f : FuncId} {fn : Func} {c : Code} {F : FT} (hf : P.funcs[f]? = some fn) (hb : fn.body = some c) (hn : (fn.name == "runtime.NumGoroutine") = false)
    (h : ∀ args K E H w, Sub H w → F args K E H → ∃ v, K v H ∧ Calls P f args.toArray w fun e w' => e = .returned v ∧ Below w.heap.size w w') : CalleeOk P f F := by
  intro args K E H w hS hF
  obtain ⟨v, hk, hc⟩ := h args K E H w hS hF
  have hr : (callFunc f args.toArray).run P w = .ok (.enter f args.toArray) w := by
    have hbody : fn.body.isNone = false := by rw [hb]; rfl
    show (match P.funcs[f]? with | none => stuck "call: no such function" | some fn => _ : Sem Next).run P w = _
    rw [hf]
    simp only [hn, hbody, Bool.false_eq_true, if_false]
    rfl
  rw [hr]
  refine hc.mono fun e w' ⟨he, hB⟩ => ?_
  subst he
  refine ⟨H, fun b o ho => ?_, ⟨hB.os, hB.tape, hB.output, hB.size, fun b hb hn => ⟨hB.block b hb, hn⟩⟩, hk⟩
  have ho2 := hS b o ho
  rw [hB.block b (Array.getElem?_eq_some_iff.1 ho2).1]
  exact ho2
theorem below_grow (w : World) (k : Nat) (os : Array Obj) : Below w.heap.size w (Go.Sort.grow (w.drewN k) os) :=
  ⟨rfl, rfl, rfl, by show _ ≤ (w.heap ++ os).size; simp, fun i hi => by show (w.heap ++ os)[i]? = _; rw [Array.getElem?_append_left hi]⟩
def powTab : List Int := [1, 10, 100, 1000, 10000, 100000, 1000000, 10000000, 100000000, 1000000000, 10000000000, 100000000000, 1000000000000, 10000000000000, 100000000000000, 1000000000000000, 10000000000000000, 100000000000000000, 1000000000000000000, 10000000000000000000]
theorem powTab_eq : Lib.pow10Tab = powTab := by decide
structure strconv_Itoa.c (n : Int) (K : ByteArray → Heap → Prop) (E : Value → Heap → Prop) (H : Heap) : Prop where
  h : -9223372036854775808 ≤ n ∧ n ≤ 9223372036854775807 ∧ TabIn H 0 .u64 powTab ∧ K ⟨(Lib.itoa n).toArray⟩ H
def strconv_Itoa.F : FT := fun args K E H => match args with
  | [.int .i64 n] => strconv_Itoa.c n (fun x H => K (.string x) H) E H
  | _ => False
theorem strconv_Itoa.ok : CalleeOk Tryd.prog 19 strconv_Itoa.F := by
  refine callee_at (fn := Tryd.f19) (c := Tryd.f19.body.getD .skip) (by kernel_rfl) (by kernel_rfl) (by kernel_rfl) ?_
  intro args K E H w hS h
  unfold strconv_Itoa.F at h
  split at h
  · rename_i n
    obtain ⟨h0, h1, ht, hk⟩ := h.h
    refine ⟨_, hk, (Tryd.strconv_Itoa n h0 h1 w ?_).mono ?_⟩
    · rw [powTab_eq]
      exact ht.tab hS (by kernel_rfl)
    · rintro e w' ⟨rfl, k, os, rfl⟩
      exact ⟨rfl, below_grow w k os⟩
  · exact h.elim
structure strings_Join.c (p : Option Addr) (n cp : Nat) (sep : ByteArray) (K : ByteArray → Heap → Prop) (E : Value → Heap → Prop) (H : Heap) : Prop where
  h : ∃ b o xs, p = some ⟨b, o, none⟩ ∧ n = List.length xs ∧ 0 < n ∧ n ≤ cp ∧ n ≤ 140737488355328 ∧ (∀ (j : Nat) (x : ByteArray), xs[j]? = some x → H.cell? ⟨b, o + j, none⟩ = some (.string x)) ∧
    (Lib.join (xs.map (·.data.toList)) sep.data.toList).length ≤ 140737488355328 ∧ K ⟨(Lib.join (xs.map (·.data.toList)) sep.data.toList).toArray⟩ H
def strings_Join.F : FT := fun args K E H => match args with
  | [.slice p n c, .string sep] => strings_Join.c p n c sep (fun x H => K (.string x) H) E H
  | _ => False
theorem sub_cell {H : Heap} {w : World} (hS : Sub H w) {a : Addr} {v : Value} (h : H.cell? a = some v) : w.cell? a = some v := by
  unfold Heap.cell? at h
  unfold World.cell?
  cases hb : H a.block with
  | none => rw [hb] at h; cases h
  | some o =>
    rw [hS _ _ hb]
    rw [hb] at h
    exact h
theorem strings_Join.ok : CalleeOk Tryd.prog 33 strings_Join.F := by
  refine callee_at (fn := Tryd.f33) (c := Tryd.f33.body.getD .skip) (by kernel_rfl) (by kernel_rfl) (by kernel_rfl) ?_
  intro args K E H w hS h
  unfold strings_Join.F at h
  split at h
  · rename_i p n c sep
    obtain ⟨b, o, xs, rfl, rfl, h0, h1, h2, hc, hl, hk⟩ := h.h
    refine ⟨_, hk, Tryd.strings_Join b o c xs sep w (fun j x hx => sub_cell hS (hc j x hx)) ?_ h2 h1 hl⟩
    obtain ⟨x, hx⟩ : ∃ x, xs[0]? = some x := ⟨_, List.getElem?_eq_getElem h0⟩
    have := hc 0 x hx
    unfold Heap.cell? at this
    cases hb : H b with
    | none => rw [show (⟨b, o + 0, none⟩ : Addr).block = b from rfl, hb] at this; cases this
    | some ob => exact hS.lt hb
  · exact h.elim
end Go.Sh
