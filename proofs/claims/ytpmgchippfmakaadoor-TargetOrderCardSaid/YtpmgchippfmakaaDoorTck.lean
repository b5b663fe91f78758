/- target.check, which throws; the closure of target.Parse, which catches. -/
import Derived.Test.YtpmgchippfmakaaDoorDefC
import Derived.Test.YtpmgchippfmakaaDoorShP
import Derived.TacticsInMore
import Derived.WalkKit
namespace Go.Sh
open Go.Proofs Go.RowKit
set_option maxRecDepth 8000
structure target_check.c (ok : Bool) (x : Int) (K : Heap → Prop) (E : Value → Heap → Prop) (H : Heap) : Prop where
  h : if ok = true then K H else E (.iface 48 (.int .i64 x)) H
def target_check.F : FT := fun args K E H => match args with
  | [.bool ok, .int .i64 x] => target_check.c ok x (fun H => K (.tuple #[]) H) E H
  | _ => False
theorem target_check.eq1 (x : Int) (K E : Value → Heap → Prop) (H : Heap) : K (.tuple #[]) H = fnT Tryd.prog Tryd.f24 (wC Tryd.prog (fun _ => none) .go (Tryd.f24.body.getD .skip)) [.bool true, .int .i64 x] K E H := by kernel_rfl
theorem target_check.eq0 (x : Int) (K E : Value → Heap → Prop) (H : Heap) : E (.iface 48 (.int .i64 x)) H = fnT Tryd.prog Tryd.f24 (wC Tryd.prog (fun _ => none) .go (Tryd.f24.body.getD .skip)) [.bool false, .int .i64 x] K E H := by kernel_rfl
theorem target_check.ok : CalleeOk Tryd.prog 24 target_check.F := by
  refine callee_ok (Γ := fun _ => none) (fun _ _ h => by cases h) (fn := Tryd.f24) (c := Tryd.f24.body.getD .skip) (T := wC Tryd.prog (fun _ => none) .go (Tryd.f24.body.getD .skip)) (by kernel_rfl) (by kernel_rfl) (by kernel_rfl) (wC_go_sound (fun _ _ h => by cases h) _) ?_
  intro args K E H h
  unfold target_check.F at h
  split at h
  · rename_i ok x
    have h := h.h
    cases ok with
    | true =>
      rw [if_pos rfl] at h
      rw [← target_check.eq1]
      exact Fg.same h
    | false =>
      rw [if_neg (by simp)] at h
      rw [← target_check.eq0]
      exact h
  · exact h.elim
noncomputable def target_caught.rest : Code := match Tryd.f23.body with | some (.seq _ c) => c | _ => .skip
noncomputable def target_caught.rop : Oper := (match Tryd.f23.body with | some (.seq (.region _ ops _) _) => ops[0]? | _ => none).getD default
abbrev fr23 (p q : Addr) (v : Value) : Fr := ([some (.pointer (some p)), some (.pointer (some q))] ++ List.replicate 11 none : Fr).set 5 (some v)
theorem target_caught.eq0 (p q : Addr) (QA : Ex → Fr → Heap → Prop) (E : Value → Heap → Prop) (H : Heap) : wC Tryd.prog (fun _ => none) .go target_caught.rest QA E (fr23 p q .nilIface) H = QA .normal (((fr23 p q .nilIface).set 2 (some .nilIface)).set 7 (some (.bool true))) H := by kernel_rfl
theorem target_caught.eq1 (p q : Addr) (x : Int) (K : Heap → Prop) (E : Value → Heap → Prop) (H : Heap) : wC Tryd.prog (fun _ => none) .go target_caught.rest (fun e _ H' => e = .normal ∧ K H') E (fr23 p q (.iface 48 (.int .i64 x))) H = stc H (p.add 0) (.bool false) fun h1 => stc h1 (p.add 1) (.int .u32 0) fun h2 => stc h2 (p.add 2) (.int .i64 0) fun h3 => stc h3 q (.int .i64 x) fun H' => (Ex.normal = .normal ∧ K H') := by kernel_rfl
def cauG (vs : List Value) : Prop := ∃ p q : Addr, vs = [.pointer (some p), .pointer (some q)]
def cauS (vs : List Value) (x : Int) (K : Heap → Prop) (H : Heap) : Prop := ∃ p q : Addr, vs = [.pointer (some p), .pointer (some q)] ∧ wC Tryd.prog (fun _ => none) .go target_caught.rest (fun e _ H' => e = .normal ∧ K H') (fun _ _ => False) (fr23 p q (.iface 48 (.int .i64 x))) H
theorem target_caught.ok : CatchG Tryd.prog 23 48 cauG cauS := by
  refine catchG_of (fn := Tryd.f23) (id := 0) (o := target_caught.rop) (d := 5) (C := target_caught.rest) (T := wC Tryd.prog (fun _ => none) .go target_caught.rest) Tryd.func23 (by kernel_rfl) (by kernel_rfl) (by kernel_rfl) (by kernel_rfl) (by kernel_rfl) (wC_go_sound (fun _ _ h => by cases h) _) ?_ ?_ ?_
  · rintro vs ⟨p, q, rfl⟩
    have e : Tryd.f23.ntmps = 13 := by kernel_rfl
    rw [e]; simp
  · rintro vs H ⟨p, q, rfl⟩
    have e : Tryd.f23.ntmps = 13 := by kernel_rfl
    rw [e]
    show wC Tryd.prog (fun _ => none) .go target_caught.rest _ _ (fr23 p q .nilIface) H
    rw [target_caught.eq0]
    exact ⟨rfl, rfl⟩
  · rintro vs x H K _ ⟨p, q, rfl, h⟩
    have e : Tryd.f23.ntmps = 13 := by kernel_rfl
    rw [e]
    exact h
end Go.Sh
