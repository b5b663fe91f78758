/- strings.Repeat, by the library's contract. -/
import Derived.Shelf.Strings.Repeat
import Derived.Test.YtkfkkkalcchpkaaGreatDoorShX
import Derived.Test.YtkfkkkalcchpkaaGreatDoorShP
import Derived.Test.YtkfkkkalcchpkaaGreatDoorProg
namespace Go.Proofs
open Go.Shelf
def Tryz.lays105_ren : Go.Shelf.Ren := ⟨fun | 105 => 82 | 212 => 127 | 99 => 128 | 165 => 129 | 166 => 130 | 170 => 131 | 169 => 126 | 263 => 172 | 264 => 173 | 206 => 174 | 240 => 175 | 241 => 176 | 276 => 203 | 277 => 204 | n => n, fun | 9 => 9 | 3 => 3 | 4 => 4 | 20 => 20 | 0 => 0 | 46 => 217 | 109 => 237 | 5 => 5 | 72 => 234 | 76 => 243 | 51 => 197 | 146 => 276 | 53 => 40 | 148 => 278 | 70 => 232 | 37 => 115 | 75 => 242 | 127 => 275 | 164 => 299 | 80 => 236 | n => n, fun | n => n⟩
theorem Tryz.lays105 : Go.Proofs.Lays.n105 Tryz.prog Tryz.lays105_ren := {
  mixed := by kernel_rfl
  f99 := Tryz.func128.trans (congrArg some (by kernel_rfl))
  f105 := Tryz.func82.trans (congrArg some (by kernel_rfl))
  f165 := Tryz.func129.trans (congrArg some (by kernel_rfl))
  f166 := Tryz.func130.trans (congrArg some (by kernel_rfl))
  f169 := Tryz.func126.trans (congrArg some (by kernel_rfl))
  f170 := Tryz.func131.trans (congrArg some (by kernel_rfl))
  f206 := Tryz.func174.trans (congrArg some (by kernel_rfl))
  f212 := Tryz.func127.trans (congrArg some (by kernel_rfl))
  f240 := Tryz.func175.trans (congrArg some (by kernel_rfl))
  f241 := Tryz.func176.trans (congrArg some (by kernel_rfl))
  f263 := Tryz.func172.trans (congrArg some (by kernel_rfl))
  f264 := Tryz.func173.trans (congrArg some (by kernel_rfl))
  f276 := Tryz.func203.trans (congrArg some (by kernel_rfl))
  f277 := Tryz.func204.trans (congrArg some (by kernel_rfl))
  t0 := Tryz.underlying0
  a0 := Tryz.isAgg0
  z0 := Tryz.sizeOf0
  v0 := Tryz.zeroValue0
  t3 := Tryz.underlying3
  a3 := Tryz.isAgg3
  z3 := Tryz.sizeOf3
  v3 := Tryz.zeroValue3
  t4 := Tryz.underlying4
  a4 := Tryz.isAgg4
  z4 := Tryz.sizeOf4
  v4 := Tryz.zeroValue4
  t5 := Tryz.underlying5
  a5 := Tryz.isAgg5
  z5 := Tryz.sizeOf5
  v5 := Tryz.zeroValue5
  t9 := Tryz.underlying9
  a9 := Tryz.isAgg9
  z9 := Tryz.sizeOf9
  v9 := Tryz.zeroValue9
  t20 := Tryz.underlying20
  a20 := Tryz.isAgg20
  z20 := Tryz.sizeOf20
  v20 := Tryz.zeroValue20
  t37 := Tryz.underlying115
  a37 := Tryz.isAgg115
  z37 := Tryz.sizeOf115
  v37 := Tryz.zeroValue115
  t46 := Tryz.underlying217
  a46 := Tryz.isAgg217
  z46 := Tryz.sizeOf217
  v46 := Tryz.zeroValue217
  t51 := Tryz.underlying197
  a51 := Tryz.isAgg197
  z51 := Tryz.sizeOf197
  v51 := Tryz.zeroValue197
  t53 := Tryz.underlying40
  a53 := Tryz.isAgg40
  z53 := Tryz.sizeOf40
  v53 := Tryz.zeroValue40
  t70 := Tryz.underlying232
  a70 := Tryz.isAgg232
  z70 := Tryz.sizeOf232
  v70 := Tryz.zeroValue232
  t72 := Tryz.underlying234
  a72 := Tryz.isAgg234
  z72 := Tryz.sizeOf234
  v72 := Tryz.zeroValue234
  t75 := Tryz.underlying242
  a75 := Tryz.isAgg242
  z75 := Tryz.sizeOf242
  v75 := Tryz.zeroValue242
  t76 := Tryz.underlying243
  a76 := Tryz.isAgg243
  z76 := Tryz.sizeOf243
  v76 := Tryz.zeroValue243
  t109 := Tryz.underlying237
  a109 := Tryz.isAgg237
  z109 := Tryz.sizeOf237
  v109 := Tryz.zeroValue237
  t127 := Tryz.underlying275
  a127 := Tryz.isAgg275
  z127 := Tryz.sizeOf275
  v127 := Tryz.zeroValue275
  t146 := Tryz.underlying276
  a146 := Tryz.isAgg276
  z146 := Tryz.sizeOf276
  v146 := Tryz.zeroValue276
  t148 := Tryz.underlying278
  a148 := Tryz.isAgg278
  z148 := Tryz.sizeOf278
  v148 := Tryz.zeroValue278
  t164 := Tryz.underlying299
  a164 := Tryz.isAgg299
  z164 := Tryz.sizeOf299
  v164 := Tryz.zeroValue299 }
theorem Tryz.Builder_Extra_105 : Builder.Extra Tryz.prog Tryz.lays105_ren := {
  sizeBuilder := by kernel_rfl
  liesBuilder := by kernel_rfl
  t5 := Tryz.underlying5
  a5 := Tryz.isAgg5
  z5 := Tryz.sizeOf5
  v5 := Tryz.zeroValue5
  infoByte := by kernel_rfl
  cellsByte := by kernel_rfl
  sizeByte := by kernel_rfl
  neB5 := by decide }
open Go.RowKit Go.Lib in
theorem Tryz.strings_Repeat (s : ByteArray) (c : Nat) (w : World) (hc : c ≤ 9223372036854775807) (hlen : s.size * c ≤ 140737488355328) :
    Calls Tryz.prog 82 #[.string s, .int .i64 c] w fun e w' => e = .returned (.string ⟨(Lib.repeatL s.data.toList c).toArray⟩) ∧ Below w.heap.size w w' := Any.strings_Repeat Tryz.lays105 Tryz.Builder_Extra_105 s c w hc hlen
end Go.Proofs
namespace Go.Sh
open Go.Proofs Go.RowKit Go.ChangeShapes Go.WideShapes
set_option maxRecDepth 8000
theorem callee_below {P : Program} {f : FuncId} {fn : Func} {c : Code} {F : FT} (hf : P.funcs[f]? = some fn) (hb : fn.body = some c) (hn : (fn.name == "runtime.NumGoroutine") = false)
    (h : ∀ args K E H, F args K E H → ∃ v, K v H ∧ ∀ w, Calls P f args.toArray w fun e w' => e = .returned v ∧ Below w.heap.size w w') : CalleeOk P f F := by
  intro args K E H w hS hF
  obtain ⟨v, hk, hc⟩ := h args K E H hF
  have hr : (callFunc f args.toArray).run P w = .ok (.enter f args.toArray) w := by
    have hbody : fn.body.isNone = false := by rw [hb]; rfl
    show (match P.funcs[f]? with | none => stuck "call: no such function" | some fn => _ : Sem Next).run P w = _
    rw [hf]
    simp only [hn, hbody, Bool.false_eq_true, if_false]
    rfl
  rw [hr]
  refine (hc w).mono fun e w' ⟨he, hB⟩ => ?_
  subst he
  refine ⟨H, fun b o ho => ?_, ⟨hB.os, hB.tape, hB.output, hB.size, fun b hb hn => ⟨hB.block b hb, hn⟩⟩, hk⟩
  have ho2 := hS b o ho
  rw [hB.block b (Array.getElem?_eq_some_iff.1 ho2).1]
  exact ho2
structure strings_Repeat.c (s : ByteArray) (n : Int) (K : ByteArray → Heap → Prop) (E : Value → Heap → Prop) (H : Heap) : Prop where
  h : 0 ≤ n ∧ n ≤ 9223372036854775807 ∧ s.size * n.toNat ≤ 140737488355328 ∧ K ⟨(Lib.repeatL s.data.toList n.toNat).toArray⟩ H
def strings_Repeat.F : FT := fun args K E H => match args with
  | [.string s, .int .i64 n] => strings_Repeat.c s n (fun x H => K (.string x) H) E H
  | _ => False
theorem strings_Repeat.ok : CalleeOk Tryz.prog 82 strings_Repeat.F := by
  refine callee_below (fn := Tryz.f82) (c := Tryz.f82.body.getD .skip) (by kernel_rfl) (by kernel_rfl) (by kernel_rfl) ?_
  intro args K E H h
  unfold strings_Repeat.F at h
  split at h
  · rename_i s n
    obtain ⟨h0, h1, h2, hk⟩ := h.h
    refine ⟨_, hk, fun w => ?_⟩
    have := Tryz.strings_Repeat s n.toNat w (by omega) h2
    rw [show ((n.toNat : Nat) : Int) = n by omega] at this
    exact this
  · exact h.elim
end Go.Sh
