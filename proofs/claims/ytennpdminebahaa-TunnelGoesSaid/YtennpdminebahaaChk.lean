/- ipv4.check, which throws; ipv4.caught, which catches. -/
import Derived.Test.YtennpdminebahaaDef
import Derived.Test.YtennpdminebahaaShP
import Derived.TacticsInMore
import Derived.WalkKit
namespace Go.Sh
open Go.Proofs Go.RowKit
set_option maxRecDepth 8000
structure ipv4_check.c (ok : Bool) (x : Int) (K : Heap → Prop) (E : Value → Heap → Prop) (H : Heap) : Prop where
  h : if ok = true then K H else E (.iface 35 (.int .i64 x)) H
def ipv4_check.F : FT := fun args K E H => match args with
  | [.bool ok, .int .i64 x] => ipv4_check.c ok x (fun H => K (.tuple #[]) H) E H
  | _ => False
theorem ipv4_check.eq1 (x : Int) (K E : Value → Heap → Prop) (H : Heap) : K (.tuple #[]) H = fnT Try.prog Try.f57 (wC Try.prog (fun _ => none) .go (Try.f57.body.getD .skip)) [.bool true, .int .i64 x] K E H := by kernel_rfl
theorem ipv4_check.eq0 (x : Int) (K E : Value → Heap → Prop) (H : Heap) : E (.iface 35 (.int .i64 x)) H = fnT Try.prog Try.f57 (wC Try.prog (fun _ => none) .go (Try.f57.body.getD .skip)) [.bool false, .int .i64 x] K E H := by kernel_rfl
theorem ipv4_check.ok : CalleeOk Try.prog 57 ipv4_check.F := by
  refine callee_ok (Γ := fun _ => none) (fun _ _ h => by cases h) (fn := Try.f57) (c := Try.f57.body.getD .skip) (T := wC Try.prog (fun _ => none) .go (Try.f57.body.getD .skip)) (by kernel_rfl) (by kernel_rfl) (by kernel_rfl) (wC_go_sound (fun _ _ h => by cases h) _) ?_
  intro args K E H h
  unfold ipv4_check.F at h
  split at h
  · rename_i ok x
    have h := h.h
    cases ok with
    | true =>
      rw [if_pos rfl] at h
      rw [← ipv4_check.eq1]
      exact Fg.same h
    | false =>
      rw [if_neg (by simp)] at h
      rw [← ipv4_check.eq0]
      exact h
  · exact h.elim
noncomputable def ipv4_caught.rest : Code := match Try.f56.body with | some (.seq _ c) => c | _ => .skip
noncomputable def ipv4_caught.rop : Oper := (match Try.f56.body with | some (.seq (.region _ ops _) _) => ops[0]? | _ => none).getD default
theorem ipv4_caught.eq0 (p : Addr) (QA : Ex → Fr → Heap → Prop) (E : Value → Heap → Prop) (H : Heap) : wC Try.prog (fun _ => none) .go ipv4_caught.rest QA E (([some (.pointer (some p))] ++ List.replicate 13 none : Fr).set 5 (some .nilIface)) H = QA .normal ((([some (.pointer (some p))] ++ List.replicate 13 none : Fr).set 5 (some .nilIface)).set 2 (some .nilIface) |>.set 7 (some (.bool true))) H := by kernel_rfl
theorem ipv4_caught.eq1 (p : Addr) (x : Int) (K : Heap → Prop) (E : Value → Heap → Prop) (H : Heap) : wC Try.prog (fun _ => none) .go ipv4_caught.rest (fun e _ H' => e = .normal ∧ K H') E (([some (.pointer (some p))] ++ List.replicate 13 none : Fr).set 5 (some (.iface 35 (.int .i64 x)))) H = nilc (some p) fun ad => stc H ad (.int .i64 x) fun H' => (Ex.normal = .normal ∧ K H') := by kernel_rfl
theorem ipv4_caught.ok : CatchOk Try.prog 56 35 := by
  refine catch_of (fn := Try.f56) (id := 0) (o := ipv4_caught.rop) (d := 5) (C := ipv4_caught.rest) (T := wC Try.prog (fun _ => none) .go ipv4_caught.rest) Try.func56 (by kernel_rfl) (by kernel_rfl) (by kernel_rfl) (by kernel_rfl) (by kernel_rfl) (wC_go_sound (fun _ _ h => by cases h) _) ?_ ?_
  · intro p H
    have e : Try.f56.ntmps - 1 = 13 := by kernel_rfl
    rw [e, ipv4_caught.eq0]
    exact ⟨rfl, rfl⟩
  · intro p x H K hK
    have e : Try.f56.ntmps - 1 = 13 := by kernel_rfl
    rw [e, ipv4_caught.eq1]
    exact ⟨p, rfl, hK.1, hK.2.1, rfl, hK.2.2⟩
end Go.Sh
