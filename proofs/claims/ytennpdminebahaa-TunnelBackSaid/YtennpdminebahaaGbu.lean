/- PRINTED by a program (shrf.py): what the walks over parts of a function ask, and that they ask just that. -/
import Derived.Test.YtennpdminebahaaGpr
namespace Go.Sh
open Go.Proofs
set_option linter.unusedVariables false
set_option maxRecDepth 8000
/-! vizard/ipv4.Build -/
noncomputable def ipv4_Build.body : Code := Try.f78.body.getD .skip
def ipv4_Build.J1.vc (h0 : Int) (h1 : Int) (h2 : Int) (h3 : Int) (h4 : Int) (h5 : Int) (h6 : Int) (h7 : ByteArray) (Kn : Addr → ByteArray → Addr → Heap → Prop) (E : Value → Heap → Prop) (h8 : Heap) : Prop :=
  newB (.cells #[(.int .i64 h0), (.int .i64 h1), (.int .i64 h2), (.int .i64 h3), (.int .i64 h4), (.int .u32 h5), (.int .u32 h6), (.string h7)] 58) (fun b0 h9 =>
  newB (.cells #[(.int .i64 0)] 35) (fun b1 h10 =>
  Kn (⟨b0, 0, none⟩ : Addr) (⟨#[]⟩ : ByteArray) (⟨b1, 0, none⟩ : Addr) h10) h9) h8
structure ipv4_Build.J1 (h0 : Int) (h1 : Int) (h2 : Int) (h3 : Int) (h4 : Int) (h5 : Int) (h6 : Int) (h7 : ByteArray) (Kn : Addr → ByteArray → Addr → Heap → Prop) (E : Value → Heap → Prop) (H : Heap) : Prop where
  h : ipv4_Build.J1.vc h0 h1 h2 h3 h4 h5 h6 h7 Kn E H
def ipv4_Build.J4.vc (h0 : Addr) (e0 : Addr) (x0 : Int) (x1 : Int) (x2 : Int) (x3 : Int) (Kn : Int → Heap → Prop) (E : Value → Heap → Prop) (h1 : Heap) : Prop :=
  Kn (IntKind.i64.wrap (x3 + 1)) h1
structure ipv4_Build.J4 (h0 : Addr) (e0 : Addr) (x0 : Int) (x1 : Int) (x2 : Int) (x3 : Int) (Kn : Int → Heap → Prop) (E : Value → Heap → Prop) (H : Heap) : Prop where
  h : ipv4_Build.J4.vc h0 e0 x0 x1 x2 x3 Kn E H
def ipv4_Build.W3.vc (h0 : Addr) (e0 : Addr) (x0 : Int) (x1 : Int) (x2 : Int) (x3 : Int) (Kx0 : Heap → Prop) (RR : Int → Heap → Prop) (E : Value → Heap → Prop) (h1 : Heap) : Prop :=
  (if (decide (x3 < 3)) = true then
  (0 : Int) ≤ x3 ∧ x3 < ((3 : Nat) : Int) ∧ ∃ v0, (#[(.int .i64 x0), (.int .i64 x1), (.int .i64 x2)] : Array Value)[x3.toNat]? = some v0 ∧ ∃ x4, v0 = (.int .i64 x4) ∧
  (if (decide (x4 ≥ 0)) = true then
  ipv4_check.c (decide (x4 ≤ 255)) 2 (fun h2 =>
  ipv4_Build.J4 h0 e0 x0 x1 x2 x3 RR E h2) E h1
  else
  ipv4_check.c false 2 (fun h4 =>
  ipv4_Build.J4 h0 e0 x0 x1 x2 x3 RR E h4) E h1)
  else
  Kx0 h1)
structure ipv4_Build.W3 (h0 : Addr) (e0 : Addr) (x0 : Int) (x1 : Int) (x2 : Int) (x3 : Int) (Kx0 : Heap → Prop) (E : Value → Heap → Prop) (H : Heap) : Prop where
  h : Loop (fun (RR : Int → Heap → Prop) (s : Int) (H : Heap) => ipv4_Build.W3.vc h0 e0 x0 x1 x2 s Kx0 (fun x3 H => RR (x3) H) E H) (x3) H
def ipv4_Build.J5.vc (h0 : Addr) (e0 : Addr) (Kr : ByteArray → Heap → Prop) (E : Value → Heap → Prop) (h1 : Heap) : Prop :=
  ldS h1 (h0.add 7) fun x0 =>
  ipv4_check.c (decide ((x0.size : Int) ≤ 65515)) 8 (fun h2 =>
  (0 : Int) ≤ 20 ∧ (20 : Int) ≤ 20 ∧ (20 : Int) ≤ 9223372036854775807 ∧ (20 : Int) * 1 ≤ 281474976710656 ∧ newB (.cells (zerosOf (.int .u8 0) 20).toArray 5) (fun b0 h3 =>
  ldI h3 .i64 (h0.add 0) fun x1 =>
  ldI h3 .i64 (h0.add 3) fun x2 =>
  ldI h3 .i64 (h0.add 4) fun x3 =>
  nilc (some (⟨b0, 0, none⟩ : Addr)) fun a0 => (0 : Int) ≤ 0 ∧ 0 < ((20 : Nat) : Int) ∧
  stc h3 (a0.add (0 * 1)) (.int .u8 69) fun h4 =>
  (eqv h4 h4 (some (.int .u8 (IntKind.u8.wrap x3))) (.int .u8 (IntKind.u8.wrap x3))) ∧
  (ldI h4 .i64 (h0.add 4) fun x4 =>
  eqv h4 h4 (some (.int .i64 x3)) (.int .i64 x4)) ∧
  (eqv h4 h4 (some (.int .u8 (IntKind.u8.wrap x2))) (.int .u8 (IntKind.u8.wrap x2))) ∧
  (ldI h4 .i64 (h0.add 3) fun x5 =>
  eqv h4 h4 (some (.int .i64 x2)) (.int .i64 x5)) ∧
  (eqv h4 h4 (some (.int .u8 (IntKind.u8.wrap x1))) (.int .u8 (IntKind.u8.wrap x1))) ∧
  (ldI h4 .i64 (h0.add 0) fun x6 =>
  eqv h4 h4 (some (.int .i64 x1)) (.int .i64 x6)) ∧
  nilc (some (⟨b0, 0, none⟩ : Addr)) fun a1 => (0 : Int) ≤ 1 ∧ 1 < ((20 : Nat) : Int) ∧
  stc h4 (a1.add (1 * 1)) (.int .u8 (IntKind.u8.wrap x1)) fun h5 =>
  (eqv h5 h5 (some (.int .u8 (IntKind.u8.wrap x3))) (.int .u8 (IntKind.u8.wrap x3))) ∧
  (ldI h5 .i64 (h0.add 4) fun x7 =>
  eqv h5 h5 (some (.int .i64 x3)) (.int .i64 x7)) ∧
  (eqv h5 h5 (some (.int .u8 (IntKind.u8.wrap x2))) (.int .u8 (IntKind.u8.wrap x2))) ∧
  (ldI h5 .i64 (h0.add 3) fun x8 =>
  eqv h5 h5 (some (.int .i64 x2)) (.int .i64 x8)) ∧
  nilc (some (⟨b0, 0, none⟩ : Addr)) fun a2 => (0 : Int) ≤ 8 ∧ 8 < ((20 : Nat) : Int) ∧
  stc h5 (a2.add (8 * 1)) (.int .u8 (IntKind.u8.wrap x2)) fun h6 =>
  (eqv h6 h6 (some (.int .u8 (IntKind.u8.wrap x3))) (.int .u8 (IntKind.u8.wrap x3))) ∧
  (ldI h6 .i64 (h0.add 4) fun x9 =>
  eqv h6 h6 (some (.int .i64 x3)) (.int .i64 x9)) ∧
  nilc (some (⟨b0, 0, none⟩ : Addr)) fun a3 => (0 : Int) ≤ 9 ∧ 9 < ((20 : Nat) : Int) ∧
  stc h6 (a3.add (9 * 1)) (.int .u8 (IntKind.u8.wrap x3)) fun h7 =>
  (0 : Int) ≤ 2 ∧ 2 ≤ (4 : Int) ∧ 4 ≤ ((20 : Nat) : Int) ∧
  ldS h7 (h0.add 7) fun x10 =>
  ipv4_put.c (slA (some (⟨b0, 0, none⟩ : Addr)) 20 2 1) (4 - 2) (20 - 2) (IntKind.u32.wrap (IntKind.i64.wrap (20 + (x10.size : Int)))) (fun h8 =>
  (0 : Int) ≤ 4 ∧ 4 ≤ (6 : Int) ∧ 6 ≤ ((20 : Nat) : Int) ∧
  ldI h8 .i64 (h0.add 1) fun x11 =>
  ipv4_put.c (slA (some (⟨b0, 0, none⟩ : Addr)) 20 4 1) (6 - 4) (20 - 4) (IntKind.u32.wrap x11) (fun h9 =>
  (0 : Int) ≤ 6 ∧ 6 ≤ (8 : Int) ∧ 8 ≤ ((20 : Nat) : Int) ∧
  ldI h9 .i64 (h0.add 2) fun x12 =>
  ipv4_put.c (slA (some (⟨b0, 0, none⟩ : Addr)) 20 6 1) (8 - 6) (20 - 6) (IntKind.u32.wrap x12) (fun h10 =>
  (0 : Int) ≤ 12 ∧ 12 ≤ (16 : Int) ∧ 16 ≤ ((20 : Nat) : Int) ∧
  ldI h10 .u32 (h0.add 5) fun x13 =>
  ipv4_put.c (slA (some (⟨b0, 0, none⟩ : Addr)) 20 12 1) (16 - 12) (20 - 12) x13 (fun h11 =>
  (0 : Int) ≤ 16 ∧ 16 ≤ (20 : Int) ∧ 20 ≤ ((20 : Nat) : Int) ∧
  ldI h11 .u32 (h0.add 6) fun x14 =>
  ipv4_put.c (slA (some (⟨b0, 0, none⟩ : Addr)) 20 16 1) (20 - 16) (20 - 16) x14 (fun h12 =>
  (0 : Int) ≤ 10 ∧ 10 ≤ (12 : Int) ∧ 12 ≤ ((20 : Nat) : Int) ∧
  rdBytes h12 (some (⟨b0, 0, none⟩ : Addr)) 20 fun x15 =>
  ipv4_Sum.c x15 (fun x16 h13 =>
  ipv4_put.c (slA (some (⟨b0, 0, none⟩ : Addr)) 20 10 1) (12 - 10) (20 - 10) (IntKind.u32.wrap x16) (fun h14 =>
  rdBytes h14 (some (⟨b0, 0, none⟩ : Addr)) 20 fun x17 =>
  ldS h14 (h0.add 7) fun x18 =>
  x17.size + x18.size ≤ 9223372036854775807 ∧
  stc h14 e0 (.int .i64 0) fun h15 =>
  Kr (x17 ++ x18) h15) E h13) E h12) E h11) E h10) E h9) E h8) E h7) h2) E h1
structure ipv4_Build.J5 (h0 : Addr) (e0 : Addr) (Kr : ByteArray → Heap → Prop) (E : Value → Heap → Prop) (H : Heap) : Prop where
  h : ipv4_Build.J5.vc h0 e0 Kr E H
def ipv4_Build.J2.vc (h0 : Addr) (e0 : Addr) (Kr : ByteArray → Heap → Prop) (E : Value → Heap → Prop) (h1 : Heap) : Prop :=
  ldI h1 .i64 (h0.add 0) fun x0 =>
  ldI h1 .i64 (h0.add 3) fun x1 =>
  ldI h1 .i64 (h0.add 4) fun x2 =>
  ipv4_Build.W3 h0 e0 x0 x1 x2 0 (fun h2 =>
  ldI h2 .i64 (h0.add 1) fun x3 =>
  (if (decide (x3 ≥ 0)) = true then
  ldI h2 .i64 (h0.add 1) fun x4 =>
  (if (decide (x4 ≤ 65535)) = true then
  ldI h2 .i64 (h0.add 2) fun x5 =>
  (if (decide (x5 ≥ 0)) = true then
  ldI h2 .i64 (h0.add 2) fun x6 =>
  ipv4_check.c (decide (x6 ≤ 65535)) 2 (fun h3 =>
  ipv4_Build.J5 h0 e0 Kr E h3) E h2
  else
  ipv4_check.c false 2 (fun h5 =>
  ipv4_Build.J5 h0 e0 Kr E h5) E h2)
  else
  ipv4_check.c false 2 (fun h7 =>
  ipv4_Build.J5 h0 e0 Kr E h7) E h2)
  else
  ipv4_check.c false 2 (fun h9 =>
  ipv4_Build.J5 h0 e0 Kr E h9) E h2)) E h1
structure ipv4_Build.J2 (h0 : Addr) (e0 : Addr) (Kr : ByteArray → Heap → Prop) (E : Value → Heap → Prop) (H : Heap) : Prop where
  h : ipv4_Build.J2.vc h0 e0 Kr E H
noncomputable def ipv4_Build.Γ : FuncId → Option FT := Γof [(57, ipv4_check.F), (59, ipv4_Sum.F), (86, ipv4_put.F)]
theorem ipv4_Build.hΓ : ∀ f F, ipv4_Build.Γ f = some F → CalleeOk Try.prog f F := Γof_ok (List.forall_mem_cons.2 ⟨ipv4_check.ok, List.forall_mem_cons.2 ⟨ipv4_Sum.ok, List.forall_mem_cons.2 ⟨ipv4_put.ok, fun _ h => nomatch h⟩⟩⟩)
def ipv4_Build.r1 (fr : Fr) (t : Nat) (K : Int → Int → Int → Int → Int → Int → Int → ByteArray → Prop) : Prop :=
  match fr.getD t none with
  | some (.agg ⟨[(.int .i64 x0), (.int .i64 x1), (.int .i64 x2), (.int .i64 x3), (.int .i64 x4), (.int .u32 x5), (.int .u32 x6), (.string x7)]⟩) => K x0 x1 x2 x3 x4 x5 x6 x7
  | _ => False
theorem ipv4_Build.r1_elim {fr : Fr} {t : Nat} {K : Int → Int → Int → Int → Int → Int → Int → ByteArray → Prop} (h : ipv4_Build.r1 fr t K) : ∃ x0 x1 x2 x3 x4 x5 x6 x7, fr.getD t none = some (.agg #[(.int .i64 x0), (.int .i64 x1), (.int .i64 x2), (.int .i64 x3), (.int .i64 x4), (.int .u32 x5), (.int .u32 x6), (.string x7)]) ∧ K x0 x1 x2 x3 x4 x5 x6 x7 := by
  unfold ipv4_Build.r1 at h
  split at h
  · rename_i e; exact ⟨_, _, _, _, _, _, _, _, e, h⟩
  · exact h.elim
def ipv4_Build.r2 (fr : Fr) (t : Nat) (K : Int → Int → Int → Prop) : Prop :=
  match fr.getD t none with
  | some (.agg ⟨[(.int .i64 x0), (.int .i64 x1), (.int .i64 x2)]⟩) => K x0 x1 x2
  | _ => False
theorem ipv4_Build.r2_elim {fr : Fr} {t : Nat} {K : Int → Int → Int → Prop} (h : ipv4_Build.r2 fr t K) : ∃ x0 x1 x2, fr.getD t none = some (.agg #[(.int .i64 x0), (.int .i64 x1), (.int .i64 x2)]) ∧ K x0 x1 x2 := by
  unfold ipv4_Build.r2 at h
  split at h
  · rename_i e; exact ⟨_, _, _, e, h⟩
  · exact h.elim
def ipv4_Build.J1.t : CT := fun Q E fr H => lenIs 109 fr (ipv4_Build.r1 fr 0 fun h0 h1 h2 h3 h4 h5 h6 h7 => ipv4_Build.J1 h0 h1 h2 h3 h4 h5 h6 h7 (fun y1_0 y2_0 y3_0 H => Q .normal (mkF 109 [(1, (.pointer (some y1_0))), (2, (.string y2_0)), (3, (.pointer (some y3_0)))]) H) E H)
noncomputable def ipv4_Build.J1.plan : Plan := .go
theorem ipv4_Build.J1.pok : PlanOk Try.prog ipv4_Build.J1.plan (sub [0] ipv4_Build.body) := by
  have e : PlanOk Try.prog ipv4_Build.J1.plan (sub [0] ipv4_Build.body) = (True) := by kernel_rfl
  exact e.mpr trivial
theorem ipv4_Build.J1.eq (h0 : Int) (h1 : Int) (h2 : Int) (h3 : Int) (h4 : Int) (h5 : Int) (h6 : Int) (h7 : ByteArray) (Q : Ex → Fr → Heap → Prop) (E : Value → Heap → Prop) (H : Heap) :
    ipv4_Build.J1.vc h0 h1 h2 h3 h4 h5 h6 h7 (fun y1_0 y2_0 y3_0 H => Q .normal (mkF 109 [(1, (.pointer (some y1_0))), (2, (.string y2_0)), (3, (.pointer (some y3_0)))]) H) E H = keepT [1, 2, 3] [] (fun i => []) (wC Try.prog ipv4_Build.Γ ipv4_Build.J1.plan (sub [0] ipv4_Build.body)) Q E (mkF 109 [(0, (.agg #[(.int .i64 h0), (.int .i64 h1), (.int .i64 h2), (.int .i64 h3), (.int .i64 h4), (.int .u32 h5), (.int .u32 h6), (.string h7)]))]) H := by
  kernel_rfl
theorem ipv4_Build.J1.ok : SoundCode Try.prog (sub [0] ipv4_Build.body) ipv4_Build.J1.t := by
  refine piece_sound (keepT_sound [1, 2, 3] [] (fun i => []) (wC_sound ipv4_Build.hΓ Try.hm ipv4_Build.J1.plan _ ipv4_Build.J1.pok)) ?_
  intro Q E fr H h
  unfold ipv4_Build.J1.t at h
  obtain ⟨hl, h⟩ := lenIs_elim h
  obtain ⟨h0, h1, h2, h3, h4, h5, h6, h7, q0, h⟩ := ipv4_Build.r1_elim h
  refine ⟨(mkF 109 [(0, (.agg #[(.int .i64 h0), (.int .i64 h1), (.int .i64 h2), (.int .i64 h3), (.int .i64 h4), (.int .u32 h5), (.int .u32 h6), (.string h7)]))]), fun a ha => ha.mk (Nat.le_of_eq hl.symm) (List.forall_mem_cons.2 ⟨q0, fun _ h => nomatch h⟩), ?_⟩
  have e := ipv4_Build.J1.eq h0 h1 h2 h3 h4 h5 h6 h7 Q E H
  rw [← e]
  exact h.h
def ipv4_Build.J4.t : CT := fun Q E fr H => lenIs 109 fr (slPA fr 1 fun h0 => slPA fr 3 fun e0 => ipv4_Build.r2 fr 13 fun x0 x1 x2 => slI fr 14 .i64 fun x3 => ipv4_Build.J4 h0 e0 x0 x1 x2 x3 (fun y14_0 H => Q .normal (mkF 109 [(1, (.pointer (some h0))), (3, (.pointer (some e0))), (13, (.agg #[(.int .i64 x0), (.int .i64 x1), (.int .i64 x2)])), (14, (.int .i64 y14_0))]) H) E H)
noncomputable def ipv4_Build.J4.plan : Plan := .go
theorem ipv4_Build.J4.pok : PlanOk Try.prog ipv4_Build.J4.plan (sub [1, 1, 0, 1, 0, 0, 1, 1, 1] ipv4_Build.body) := by
  have e : PlanOk Try.prog ipv4_Build.J4.plan (sub [1, 1, 0, 1, 0, 0, 1, 1, 1] ipv4_Build.body) = (True) := by kernel_rfl
  exact e.mpr trivial
theorem ipv4_Build.J4.eq (h0 : Addr) (e0 : Addr) (x0 : Int) (x1 : Int) (x2 : Int) (x3 : Int) (Q : Ex → Fr → Heap → Prop) (E : Value → Heap → Prop) (H : Heap) :
    ipv4_Build.J4.vc h0 e0 x0 x1 x2 x3 (fun y14_0 H => Q .normal (mkF 109 [(1, (.pointer (some h0))), (3, (.pointer (some e0))), (13, (.agg #[(.int .i64 x0), (.int .i64 x1), (.int .i64 x2)])), (14, (.int .i64 y14_0))]) H) E H = keepT [1, 3, 13, 14] [] (fun i => []) (wC Try.prog ipv4_Build.Γ ipv4_Build.J4.plan (sub [1, 1, 0, 1, 0, 0, 1, 1, 1] ipv4_Build.body)) Q E (mkF 109 [(1, (.pointer (some h0))), (3, (.pointer (some e0))), (13, (.agg #[(.int .i64 x0), (.int .i64 x1), (.int .i64 x2)])), (14, (.int .i64 x3))]) H := by
  kernel_rfl
theorem ipv4_Build.J4.ok : SoundCode Try.prog (sub [1, 1, 0, 1, 0, 0, 1, 1, 1] ipv4_Build.body) ipv4_Build.J4.t := by
  refine piece_sound (keepT_sound [1, 3, 13, 14] [] (fun i => []) (wC_sound ipv4_Build.hΓ Try.hm ipv4_Build.J4.plan _ ipv4_Build.J4.pok)) ?_
  intro Q E fr H h
  unfold ipv4_Build.J4.t at h
  obtain ⟨hl, h⟩ := lenIs_elim h
  obtain ⟨h0, q1, h⟩ := slPA_elim h
  obtain ⟨e0, q3, h⟩ := slPA_elim h
  obtain ⟨x0, x1, x2, q13, h⟩ := ipv4_Build.r2_elim h
  obtain ⟨x3, q14, h⟩ := slI_elim h
  refine ⟨(mkF 109 [(1, (.pointer (some h0))), (3, (.pointer (some e0))), (13, (.agg #[(.int .i64 x0), (.int .i64 x1), (.int .i64 x2)])), (14, (.int .i64 x3))]), fun a ha => ha.mk (Nat.le_of_eq hl.symm) (List.forall_mem_cons.2 ⟨q1, List.forall_mem_cons.2 ⟨q3, List.forall_mem_cons.2 ⟨q13, List.forall_mem_cons.2 ⟨q14, fun _ h => nomatch h⟩⟩⟩⟩), ?_⟩
  have e := ipv4_Build.J4.eq h0 e0 x0 x1 x2 x3 Q E H
  rw [← e]
  exact h.h
def ipv4_Build.W3.t : CT := fun Q E fr H => lenIs 109 fr (slPA fr 1 fun h0 => slPA fr 3 fun e0 => ipv4_Build.r2 fr 13 fun x0 x1 x2 => slI fr 14 .i64 fun x3 => ipv4_Build.W3 h0 e0 x0 x1 x2 x3 (fun  H => Q (.exit 0) (mkF 109 [(1, (.pointer (some h0))), (3, (.pointer (some e0)))]) H) E H)
noncomputable def ipv4_Build.W3.plan : Plan := .seq (.go) (.seq (.go) (.seq (.go) (.use ipv4_Build.J4.t)))
theorem ipv4_Build.W3.pok : PlanOk Try.prog ipv4_Build.W3.plan (sub [1, 1, 0, 1, 0, 0] ipv4_Build.body) := by
  have e : PlanOk Try.prog ipv4_Build.W3.plan (sub [1, 1, 0, 1, 0, 0] ipv4_Build.body) = ((True) ∧ ((True) ∧ ((True) ∧ (SoundCode Try.prog (sub [1, 1, 0, 1, 0, 0, 1, 1, 1] ipv4_Build.body) ipv4_Build.J4.t)))) := by kernel_rfl
  exact e.mpr ⟨trivial, ⟨trivial, ⟨trivial, ipv4_Build.J4.ok⟩⟩⟩
theorem ipv4_Build.W3.eq (h0 : Addr) (e0 : Addr) (x0 : Int) (x1 : Int) (x2 : Int) (Q : Ex → Fr → Heap → Prop) (E : Value → Heap → Prop) (RR : Fr → Heap → Prop) (s : Int) (H : Heap) :
    (fun (RR : Int → Heap → Prop) (s : Int) (H : Heap) => ipv4_Build.W3.vc h0 e0 x0 x1 x2 s (fun  H => Q (.exit 0) (mkF 109 [(1, (.pointer (some h0))), (3, (.pointer (some e0)))]) H) (fun x3 H => RR (x3) H) E H) (fun s' H' => RR ((fun (s : Int) => (mkF 109 [(1, (.pointer (some h0))), (3, (.pointer (some e0))), (13, (.agg #[(.int .i64 x0), (.int .i64 x1), (.int .i64 x2)])), (14, (.int .i64 s))])) s') H') s H = keepT [1, 3, 13, 14] [] (fun i => if i = 0 then [1, 3] else []) (wC Try.prog ipv4_Build.Γ ipv4_Build.W3.plan (sub [1, 1, 0, 1, 0, 0] ipv4_Build.body)) (fun e fr' H' => match e with | .normal => RR fr' H' | .exit id => Q (.exit id) fr' H' | .ret => Q .ret fr' H') E ((fun (s : Int) => (mkF 109 [(1, (.pointer (some h0))), (3, (.pointer (some e0))), (13, (.agg #[(.int .i64 x0), (.int .i64 x1), (.int .i64 x2)])), (14, (.int .i64 s))])) s) H := by
  kernel_rfl
theorem ipv4_Build.W3.ok : SoundCode Try.prog (sub [1, 1, 0, 1, 0] ipv4_Build.body) ipv4_Build.W3.t := by
  have e : (sub [1, 1, 0, 1, 0] ipv4_Build.body) = .loop (sub [1, 1, 0, 1, 0, 0] ipv4_Build.body) := by kernel_rfl
  rw [e]
  refine piece_sound (loopN_sound (keepT_sound [1, 3, 13, 14] [] (fun i => if i = 0 then [1, 3] else []) (wC_sound ipv4_Build.hΓ Try.hm ipv4_Build.W3.plan _ ipv4_Build.W3.pok))) ?_
  intro Q E fr H h
  unfold ipv4_Build.W3.t at h
  obtain ⟨hl, h⟩ := lenIs_elim h
  obtain ⟨h0, q1, h⟩ := slPA_elim h
  obtain ⟨e0, q3, h⟩ := slPA_elim h
  obtain ⟨x0, x1, x2, q13, h⟩ := ipv4_Build.r2_elim h
  obtain ⟨x3, q14, h⟩ := slI_elim h
  obtain ⟨m, h⟩ := h.h
  refine ⟨(mkF 109 [(1, (.pointer (some h0))), (3, (.pointer (some e0))), (13, (.agg #[(.int .i64 x0), (.int .i64 x1), (.int .i64 x2)])), (14, (.int .i64 x3))]), fun a ha => ha.mk (Nat.le_of_eq hl.symm) (List.forall_mem_cons.2 ⟨q1, List.forall_mem_cons.2 ⟨q3, List.forall_mem_cons.2 ⟨q13, List.forall_mem_cons.2 ⟨q14, fun _ h => nomatch h⟩⟩⟩⟩), m, ?_⟩
  have e := loopS_eq (B := (fun (RR : Int → Heap → Prop) (s : Int) (H : Heap) => ipv4_Build.W3.vc h0 e0 x0 x1 x2 s (fun  H => Q (.exit 0) (mkF 109 [(1, (.pointer (some h0))), (3, (.pointer (some e0)))]) H) (fun x3 H => RR (x3) H) E H)) (A := keepT [1, 3, 13, 14] [] (fun i => if i = 0 then [1, 3] else []) (wC Try.prog ipv4_Build.Γ ipv4_Build.W3.plan (sub [1, 1, 0, 1, 0, 0] ipv4_Build.body))) (m := (fun (s : Int) => (mkF 109 [(1, (.pointer (some h0))), (3, (.pointer (some e0))), (13, (.agg #[(.int .i64 x0), (.int .i64 x1), (.int .i64 x2)])), (14, (.int .i64 s))]))) (Q := Q) (E := E) (fun RR s H => ipv4_Build.W3.eq h0 e0 x0 x1 x2 Q E RR s H) m (x3) H
  exact cast e h
def ipv4_Build.J5.t : CT := fun Q E fr H => lenIs 109 fr (slPA fr 1 fun h0 => slPA fr 3 fun e0 => ipv4_Build.J5 h0 e0 (fun y2_0 H => Q .ret (mkF 109 [(2, (.string y2_0)), (3, (.pointer (some e0)))]) H) E H)
noncomputable def ipv4_Build.J5.plan : Plan := .seq (.go) (.seq (.go) (.seq (.draw ⟨[0, 1, 2, 3, 4, 5, 6, 7, 8, 9, 10, 11, 12, 13, 14, 15, 16, 17, 18, 19, 20], (dl [(0, []), (1, []), (2, []), (3, []), (4, []), (5, []), (6, []), (7, []), (8, []), (9, []), (10, []), (11, []), (12, []), (13, []), (14, [13, 0]), (15, []), (16, [15, 6, 14, 0, 1, 4, 5, 13]), (17, []), (18, [17, 9, 16, 0, 1, 2, 4, 5, 6, 7, 8, 13, 14, 15]), (19, []), (20, [19, 12, 18, 0, 1, 2, 3, 4, 5, 6, 7, 8, 9, 10, 11, 13, 14, 15, 16, 17])] .fin), []⟩) (.seq (.draw ⟨[0, 1, 2, 3, 4, 5, 6, 7], (dl [(0, []), (1, []), (2, []), (3, []), (4, []), (5, []), (6, []), (7, [1, 6, 0, 5, 4, 3, 2])] .fin), []⟩) (.seq (.draw ⟨[0, 1, 2, 3, 4, 5], (dl [(0, []), (1, []), (2, []), (3, []), (4, []), (5, [1, 4, 0, 3, 2])] .fin), []⟩) (.seq (.draw ⟨[0, 1, 2, 3, 4, 5], (dl [(0, []), (1, []), (2, []), (3, []), (4, []), (5, [1, 4, 0, 3, 2])] .fin), []⟩) (.seq (.draw ⟨[0, 1, 2, 3, 4], (dl [(0, []), (1, []), (2, []), (3, []), (4, [1, 3, 0, 2])] .fin), []⟩) (.seq (.draw ⟨[0, 1, 2, 3, 4], (dl [(0, []), (1, []), (2, []), (3, []), (4, [1, 3, 0, 2])] .fin), []⟩) (.seq (.draw ⟨[0, 1, 2, 3, 4, 5, 6], (dl [(0, []), (1, []), (2, []), (3, []), (4, [3, 2]), (5, []), (6, [1, 5, 4, 0, 3, 2])] .fin), []⟩) (.go)))))))))
theorem ipv4_Build.J5.pok : PlanOk Try.prog ipv4_Build.J5.plan (sub [1, 1, 1, 1] ipv4_Build.body) := by
  have e : PlanOk Try.prog ipv4_Build.J5.plan (sub [1, 1, 1, 1] ipv4_Build.body) = ((True) ∧ ((True) ∧ ((True) ∧ ((True) ∧ ((True) ∧ ((True) ∧ ((True) ∧ ((True) ∧ ((True) ∧ (True)))))))))) := by kernel_rfl
  exact e.mpr ⟨trivial, ⟨trivial, ⟨trivial, ⟨trivial, ⟨trivial, ⟨trivial, ⟨trivial, ⟨trivial, ⟨trivial, trivial⟩⟩⟩⟩⟩⟩⟩⟩⟩
theorem ipv4_Build.J5.eq (h0 : Addr) (e0 : Addr) (Q : Ex → Fr → Heap → Prop) (E : Value → Heap → Prop) (H : Heap) :
    ipv4_Build.J5.vc h0 e0 (fun y2_0 H => Q .ret (mkF 109 [(2, (.string y2_0)), (3, (.pointer (some e0)))]) H) E H = keepT [] [2, 3] (fun i => []) (wC Try.prog ipv4_Build.Γ ipv4_Build.J5.plan (sub [1, 1, 1, 1] ipv4_Build.body)) Q E (mkF 109 [(1, (.pointer (some h0))), (3, (.pointer (some e0)))]) H := by
  kernel_rfl
theorem ipv4_Build.J5.ok : SoundCode Try.prog (sub [1, 1, 1, 1] ipv4_Build.body) ipv4_Build.J5.t := by
  refine piece_sound (keepT_sound [] [2, 3] (fun i => []) (wC_sound ipv4_Build.hΓ Try.hm ipv4_Build.J5.plan _ ipv4_Build.J5.pok)) ?_
  intro Q E fr H h
  unfold ipv4_Build.J5.t at h
  obtain ⟨hl, h⟩ := lenIs_elim h
  obtain ⟨h0, q1, h⟩ := slPA_elim h
  obtain ⟨e0, q3, h⟩ := slPA_elim h
  refine ⟨(mkF 109 [(1, (.pointer (some h0))), (3, (.pointer (some e0)))]), fun a ha => ha.mk (Nat.le_of_eq hl.symm) (List.forall_mem_cons.2 ⟨q1, List.forall_mem_cons.2 ⟨q3, fun _ h => nomatch h⟩⟩), ?_⟩
  have e := ipv4_Build.J5.eq h0 e0 Q E H
  rw [← e]
  exact h.h
def ipv4_Build.J2.t : CT := fun Q E fr H => lenIs 109 fr (slPA fr 1 fun h0 => slPA fr 3 fun e0 => ipv4_Build.J2 h0 e0 (fun y2_0 H => Q .ret (mkF 109 [(2, (.string y2_0)), (3, (.pointer (some e0)))]) H) E H)
noncomputable def ipv4_Build.J2.plan : Plan := .seq (.seq (.go) (.block (.use ipv4_Build.W3.t))) (.seq (.go) (.use ipv4_Build.J5.t))
theorem ipv4_Build.J2.pok : PlanOk Try.prog ipv4_Build.J2.plan (sub [1, 1] ipv4_Build.body) := by
  have e : PlanOk Try.prog ipv4_Build.J2.plan (sub [1, 1] ipv4_Build.body) = (((True) ∧ (SoundCode Try.prog (sub [1, 1, 0, 1, 0] ipv4_Build.body) ipv4_Build.W3.t)) ∧ ((True) ∧ (SoundCode Try.prog (sub [1, 1, 1, 1] ipv4_Build.body) ipv4_Build.J5.t))) := by kernel_rfl
  exact e.mpr ⟨⟨trivial, ipv4_Build.W3.ok⟩, ⟨trivial, ipv4_Build.J5.ok⟩⟩
theorem ipv4_Build.J2.eq (h0 : Addr) (e0 : Addr) (Q : Ex → Fr → Heap → Prop) (E : Value → Heap → Prop) (H : Heap) :
    ipv4_Build.J2.vc h0 e0 (fun y2_0 H => Q .ret (mkF 109 [(2, (.string y2_0)), (3, (.pointer (some e0)))]) H) E H = keepT [] [2, 3] (fun i => []) (wC Try.prog ipv4_Build.Γ ipv4_Build.J2.plan (sub [1, 1] ipv4_Build.body)) Q E (mkF 109 [(1, (.pointer (some h0))), (3, (.pointer (some e0)))]) H := by
  kernel_rfl
theorem ipv4_Build.J2.ok : SoundCode Try.prog (sub [1, 1] ipv4_Build.body) ipv4_Build.J2.t := by
  refine piece_sound (keepT_sound [] [2, 3] (fun i => []) (wC_sound ipv4_Build.hΓ Try.hm ipv4_Build.J2.plan _ ipv4_Build.J2.pok)) ?_
  intro Q E fr H h
  unfold ipv4_Build.J2.t at h
  obtain ⟨hl, h⟩ := lenIs_elim h
  obtain ⟨h0, q1, h⟩ := slPA_elim h
  obtain ⟨e0, q3, h⟩ := slPA_elim h
  refine ⟨(mkF 109 [(1, (.pointer (some h0))), (3, (.pointer (some e0)))]), fun a ha => ha.mk (Nat.le_of_eq hl.symm) (List.forall_mem_cons.2 ⟨q1, List.forall_mem_cons.2 ⟨q3, fun _ h => nomatch h⟩⟩), ?_⟩
  have e := ipv4_Build.J2.eq h0 e0 Q E H
  rw [← e]
  exact h.h
end Go.Sh
