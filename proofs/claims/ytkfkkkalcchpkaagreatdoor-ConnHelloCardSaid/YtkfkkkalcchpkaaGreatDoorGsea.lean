/- PRINTED by a program (sh.py): what the walk over each function asks, and that it asks just that. -/
import Derived.Test.YtkfkkkalcchpkaaGreatDoorGsha
namespace Go.Sh
open Go.Proofs
set_option linter.unusedVariables false
set_option maxRecDepth 8000
/-! vizard/seal.pad -/
noncomputable def seal_pad.body : Code := Tryz.f224.body.getD .skip
def seal_pad.W1.vc (by0 : Int) (b0 : Option Addr) (b1 : Nat) (b2 : Nat) (x0 : Int) (x1 : Int) (Kx0 : Heap → Prop) (RR : Int → Heap → Prop) (E : Value → Heap → Prop) (h0 : Heap) : Prop :=
  (if (decide (x1 < x0)) = true then
  nilc b0 fun a0 => (0 : Int) ≤ x1 ∧ x1 < (b1 : Int) ∧
  ldI h0 .u8 (a0.add (x1.toNat * 1)) fun x2 =>
  nilc b0 fun a1 => (0 : Int) ≤ x1 ∧ x1 < (b1 : Int) ∧
  stc h0 (a1.add (x1.toNat * 1)) (.int .u8 (bits .xor .u8 x2 by0)) fun h1 =>
  RR (IntKind.i64.wrap (x1 + 1)) h1
  else
  Kx0 h0)
structure seal_pad.W1 (by0 : Int) (b0 : Option Addr) (b1 : Nat) (b2 : Nat) (x0 : Int) (x1 : Int) (Kx0 : Heap → Prop) (E : Value → Heap → Prop) (H : Heap) : Prop where
  h : Loop (fun (RR : Int → Heap → Prop) (s : Int) (H : Heap) => seal_pad.W1.vc by0 b0 b1 b2 x0 s Kx0 (fun x1 H => RR (x1) H) E H) (x1) H
def seal_pad.vc (key0 : ByteArray) (by0 : Int) (K : ByteArray → Heap → Prop) (E : Value → Heap → Prop) (h0 : Heap) : Prop :=
  (0 : Int) ≤ 64 ∧ (64 : Int) ≤ 64 ∧ (64 : Int) ≤ 9223372036854775807 ∧ (64 : Int) * 1 ≤ 281474976710656 ∧ newB (.cells (zerosOf (.int .u8 0) 64).toArray 5) (fun b0 h1 =>
  wCopySt (some (⟨b0, 0, none⟩ : Addr)) ((byteVals key0).take (Nat.min key0.size 64)) (fun h2 =>
  seal_pad.W1 by0 (some (⟨b0, 0, none⟩ : Addr)) 64 64 ((64 : Nat) : Int) 0 (fun h3 =>
  rdBytes h3 (some (⟨b0, 0, none⟩ : Addr)) 64 fun x0 =>
  K x0 h3) E h2) h1) h0
structure seal_pad.c (key0 : ByteArray) (by0 : Int) (K : ByteArray → Heap → Prop) (E : Value → Heap → Prop) (H : Heap) : Prop where
  h : seal_pad.vc key0 by0 (fun r0_0 H => ∃ H', Heap.Le H' H ∧ K r0_0 H') E H
def seal_pad.F : FT := fun args K E H => match args with
  | [(.string key0), (.int .u8 by0)] => seal_pad.c key0 by0 (fun r0_0 H => K (.string r0_0) H) E H
  | _ => False
noncomputable def seal_pad.Γ : FuncId → Option FT := Γof []
theorem seal_pad.hΓ : ∀ f F, seal_pad.Γ f = some F → CalleeOk Tryz.prog f F := Γof_ok (fun _ h => nomatch h)
def seal_pad.W1.t : CT := fun Q E fr H => lenIs 26 fr (slI fr 1 .u8 fun by0 => slSl fr 5 fun b0 b1 b2 => slI fr 12 .i64 fun x0 => slI fr 13 .i64 fun x1 => seal_pad.W1 by0 b0 b1 b2 x0 x1 (fun  H => Q (.exit 0) (mkF 26 [(5, (.slice b0 b1 b2))]) H) E H)
noncomputable def seal_pad.W1.plan : Plan := .go
theorem seal_pad.W1.pok : PlanOk Tryz.prog seal_pad.W1.plan (sub [1, 1, 1, 0, 1, 0, 0] seal_pad.body) := by
  have e : PlanOk Tryz.prog seal_pad.W1.plan (sub [1, 1, 1, 0, 1, 0, 0] seal_pad.body) = (True) := by kernel_rfl
  exact e.mpr trivial
theorem seal_pad.W1.eq (by0 : Int) (b0 : Option Addr) (b1 : Nat) (b2 : Nat) (x0 : Int) (Q : Ex → Fr → Heap → Prop) (E : Value → Heap → Prop) (RR : Fr → Heap → Prop) (s : Int) (H : Heap) :
    (fun (RR : Int → Heap → Prop) (s : Int) (H : Heap) => seal_pad.W1.vc by0 b0 b1 b2 x0 s (fun  H => Q (.exit 0) (mkF 26 [(5, (.slice b0 b1 b2))]) H) (fun x1 H => RR (x1) H) E H) (fun s' H' => RR ((fun (s : Int) => (mkF 26 [(1, (.int .u8 by0)), (5, (.slice b0 b1 b2)), (12, (.int .i64 x0)), (13, (.int .i64 s))])) s') H') s H = keepT [1, 5, 12, 13] [] (fun i => if i = 0 then [5] else []) (wC Tryz.prog seal_pad.Γ seal_pad.W1.plan (sub [1, 1, 1, 0, 1, 0, 0] seal_pad.body)) (fun e fr' H' => match e with | .normal => RR fr' H' | .exit id => Q (.exit id) fr' H' | .ret => Q .ret fr' H') E ((fun (s : Int) => (mkF 26 [(1, (.int .u8 by0)), (5, (.slice b0 b1 b2)), (12, (.int .i64 x0)), (13, (.int .i64 s))])) s) H := by
  kernel_rfl
theorem seal_pad.W1.ok : SoundCode Tryz.prog (sub [1, 1, 1, 0, 1, 0] seal_pad.body) seal_pad.W1.t := by
  have e : (sub [1, 1, 1, 0, 1, 0] seal_pad.body) = .loop (sub [1, 1, 1, 0, 1, 0, 0] seal_pad.body) := by kernel_rfl
  rw [e]
  refine piece_sound (loopN_sound (keepT_sound [1, 5, 12, 13] [] (fun i => if i = 0 then [5] else []) (wC_sound seal_pad.hΓ Tryz.hm seal_pad.W1.plan _ seal_pad.W1.pok))) ?_
  intro Q E fr H h
  unfold seal_pad.W1.t at h
  obtain ⟨hl, h⟩ := lenIs_elim h
  obtain ⟨by0, q1, h⟩ := slI_elim h
  obtain ⟨b0, b1, b2, q5, h⟩ := slSl_elim h
  obtain ⟨x0, q12, h⟩ := slI_elim h
  obtain ⟨x1, q13, h⟩ := slI_elim h
  obtain ⟨m, h⟩ := h.h
  refine ⟨(mkF 26 [(1, (.int .u8 by0)), (5, (.slice b0 b1 b2)), (12, (.int .i64 x0)), (13, (.int .i64 x1))]), fun a ha => ha.mk (Nat.le_of_eq hl.symm) (List.forall_mem_cons.2 ⟨q1, List.forall_mem_cons.2 ⟨q5, List.forall_mem_cons.2 ⟨q12, List.forall_mem_cons.2 ⟨q13, fun _ h => nomatch h⟩⟩⟩⟩), m, ?_⟩
  have e := loopS_eq (B := (fun (RR : Int → Heap → Prop) (s : Int) (H : Heap) => seal_pad.W1.vc by0 b0 b1 b2 x0 s (fun  H => Q (.exit 0) (mkF 26 [(5, (.slice b0 b1 b2))]) H) (fun x1 H => RR (x1) H) E H)) (A := keepT [1, 5, 12, 13] [] (fun i => if i = 0 then [5] else []) (wC Tryz.prog seal_pad.Γ seal_pad.W1.plan (sub [1, 1, 1, 0, 1, 0, 0] seal_pad.body))) (m := (fun (s : Int) => (mkF 26 [(1, (.int .u8 by0)), (5, (.slice b0 b1 b2)), (12, (.int .i64 x0)), (13, (.int .i64 s))]))) (Q := Q) (E := E) (fun RR s H => seal_pad.W1.eq by0 b0 b1 b2 x0 Q E RR s H) m (x1) H
  exact cast e h
noncomputable def seal_pad.plan : Plan := .seq (.go) (.seq (.go) (.seq (.go) (.seq (.seq (.go) (.block (.use seal_pad.W1.t))) (.go))))
theorem seal_pad.pok : PlanOk Tryz.prog seal_pad.plan seal_pad.body := by
  have e : PlanOk Tryz.prog seal_pad.plan seal_pad.body = ((True) ∧ ((True) ∧ ((True) ∧ (((True) ∧ (SoundCode Tryz.prog (sub [1, 1, 1, 0, 1, 0] seal_pad.body) seal_pad.W1.t)) ∧ (True))))) := by kernel_rfl
  exact e.mpr ⟨trivial, ⟨trivial, ⟨trivial, ⟨⟨trivial, seal_pad.W1.ok⟩, trivial⟩⟩⟩⟩
theorem seal_pad.eq (key0 : ByteArray) (by0 : Int) (K : Value → Heap → Prop) (E : Value → Heap → Prop) (H : Heap) :
    fnT Tryz.prog Tryz.f224 (wC Tryz.prog seal_pad.Γ seal_pad.plan seal_pad.body) [(.string key0), (.int .u8 by0)] K E H = seal_pad.vc key0 by0 (fun r0_0 H => K (.string r0_0) H) E H := by
  kernel_rfl
theorem seal_pad.Fe {args : List Value} {K E : Value → Heap → Prop} {H : Heap} (h : seal_pad.F args K E H) : ∃ key0 by0, args = [(.string key0), (.int .u8 by0)] ∧ seal_pad.c key0 by0 (fun r0_0 H => K (.string r0_0) H) E H := by
  unfold seal_pad.F at h
  split at h
  · exact ⟨_, _, rfl, h⟩
  · exact h.elim
theorem seal_pad.ok : CalleeOk Tryz.prog 224 seal_pad.F :=
  callee_ok seal_pad.hΓ (fn := Tryz.f224) (c := seal_pad.body) (T := wC Tryz.prog seal_pad.Γ seal_pad.plan seal_pad.body) (by kernel_rfl) (by kernel_rfl) (by kernel_rfl) (wC_sound seal_pad.hΓ Tryz.hm seal_pad.plan _ seal_pad.pok) fun _ K E H h => by
    obtain ⟨z0, z1, e, h⟩ := seal_pad.Fe h
    subst e
    have h2 : seal_pad.vc z0 z1 (fun r0_0 H => ∃ H', Heap.Le H' H ∧ K (.string r0_0) H') E H := h.h
    rw [seal_pad.eq z0 z1 (Fg K) E H]
    exact h2

/-! vizard/seal.keyed -/
noncomputable def seal_keyed.body : Code := Tryz.f217.body.getD .skip
def seal_keyed.J1.vc (key0 : ByteArray) (x0 : Addr) (m0 : Addr) (Kr : Heap → Prop) (E : Value → Heap → Prop) (h0 : Heap) : Prop :=
  seal_pad.c key0 54 (fun x1 h1 =>
  sha_Hash_Write.c (some (m0.add 0)) x1 (fun h2 =>
  seal_pad.c key0 92 (fun x2 h3 =>
  sha_Hash_Write.c (some (m0.add 10)) x2 (fun h4 =>
  ldI h4 .u32 (m0.add 0) fun x3 => ldI h4 .u32 (m0.add 1) fun x4 => ldI h4 .u32 (m0.add 2) fun x5 => ldI h4 .u32 (m0.add 3) fun x6 => ldI h4 .u32 (m0.add 4) fun x7 => ldI h4 .u32 (m0.add 5) fun x8 => ldI h4 .u32 (m0.add 6) fun x9 => ldI h4 .u32 (m0.add 7) fun x10 => ldSl h4 (m0.add 8) fun x11 x12 x13 => ldI h4 .u64 (m0.add 9) fun x14 => ldI h4 .u32 (m0.add 10) fun x15 => ldI h4 .u32 (m0.add 11) fun x16 => ldI h4 .u32 (m0.add 12) fun x17 => ldI h4 .u32 (m0.add 13) fun x18 => ldI h4 .u32 (m0.add 14) fun x19 => ldI h4 .u32 (m0.add 15) fun x20 => ldI h4 .u32 (m0.add 16) fun x21 => ldI h4 .u32 (m0.add 17) fun x22 => ldSl h4 (m0.add 18) fun x23 x24 x25 => ldI h4 .u64 (m0.add 19) fun x26 =>
  stc h4 (x0.add 0) (.int .u32 x3) fun h5 =>
  stc h5 (x0.add 1) (.int .u32 x4) fun h6 =>
  stc h6 (x0.add 2) (.int .u32 x5) fun h7 =>
  stc h7 (x0.add 3) (.int .u32 x6) fun h8 =>
  stc h8 (x0.add 4) (.int .u32 x7) fun h9 =>
  stc h9 (x0.add 5) (.int .u32 x8) fun h10 =>
  stc h10 (x0.add 6) (.int .u32 x9) fun h11 =>
  stc h11 (x0.add 7) (.int .u32 x10) fun h12 =>
  stc h12 (x0.add 8) (.slice x11 x12 x13) fun h13 =>
  stc h13 (x0.add 9) (.int .u64 x14) fun h14 =>
  stc h14 (x0.add 10) (.int .u32 x15) fun h15 =>
  stc h15 (x0.add 11) (.int .u32 x16) fun h16 =>
  stc h16 (x0.add 12) (.int .u32 x17) fun h17 =>
  stc h17 (x0.add 13) (.int .u32 x18) fun h18 =>
  stc h18 (x0.add 14) (.int .u32 x19) fun h19 =>
  stc h19 (x0.add 15) (.int .u32 x20) fun h20 =>
  stc h20 (x0.add 16) (.int .u32 x21) fun h21 =>
  stc h21 (x0.add 17) (.int .u32 x22) fun h22 =>
  stc h22 (x0.add 18) (.slice x23 x24 x25) fun h23 =>
  stc h23 (x0.add 19) (.int .u64 x26) fun h24 =>
  Kr h24) E h3) E h2) E h1) E h0
structure seal_keyed.J1 (key0 : ByteArray) (x0 : Addr) (m0 : Addr) (Kr : Heap → Prop) (E : Value → Heap → Prop) (H : Heap) : Prop where
  h : seal_keyed.J1.vc key0 x0 m0 Kr E H
def seal_keyed.vc (key0 : ByteArray) (K : Int → Int → Int → Int → Int → Int → Int → Int → Option Addr → Nat → Nat → Int → Int → Int → Int → Int → Int → Int → Int → Int → Option Addr → Nat → Nat → Int → Heap → Prop) (E : Value → Heap → Prop) (h0 : Heap) : Prop :=
  newB (.cells #[(.int .u32 0), (.int .u32 0), (.int .u32 0), (.int .u32 0), (.int .u32 0), (.int .u32 0), (.int .u32 0), (.int .u32 0), (.slice none 0 0), (.int .u64 0), (.int .u32 0), (.int .u32 0), (.int .u32 0), (.int .u32 0), (.int .u32 0), (.int .u32 0), (.int .u32 0), (.int .u32 0), (.slice none 0 0), (.int .u64 0)] 211) (fun b0 h1 =>
  (sha_New.c (fun x0 h2 =>
  nilc x0 fun a0 =>
  ldI h2 .u32 (a0.add 0) fun x1 => ldI h2 .u32 (a0.add 1) fun x2 => ldI h2 .u32 (a0.add 2) fun x3 => ldI h2 .u32 (a0.add 3) fun x4 => ldI h2 .u32 (a0.add 4) fun x5 => ldI h2 .u32 (a0.add 5) fun x6 => ldI h2 .u32 (a0.add 6) fun x7 => ldI h2 .u32 (a0.add 7) fun x8 => ldSl h2 (a0.add 8) fun x9 x10 x11 => ldI h2 .u64 (a0.add 9) fun x12 =>
  (sha_New.c (fun x13 h3 =>
  (ldI h3 .u32 (a0.add 0) fun x14 => ldI h3 .u32 (a0.add 1) fun x15 => ldI h3 .u32 (a0.add 2) fun x16 => ldI h3 .u32 (a0.add 3) fun x17 => ldI h3 .u32 (a0.add 4) fun x18 => ldI h3 .u32 (a0.add 5) fun x19 => ldI h3 .u32 (a0.add 6) fun x20 => ldI h3 .u32 (a0.add 7) fun x21 => ldSl h3 (a0.add 8) fun x22 x23 x24 => ldI h3 .u64 (a0.add 9) fun x25 =>
  eqv h3 h3 (some (.agg #[(.int .u32 x1), (.int .u32 x2), (.int .u32 x3), (.int .u32 x4), (.int .u32 x5), (.int .u32 x6), (.int .u32 x7), (.int .u32 x8), (.slice x9 x10 x11), (.int .u64 x12)])) (.agg #[(.int .u32 x14), (.int .u32 x15), (.int .u32 x16), (.int .u32 x17), (.int .u32 x18), (.int .u32 x19), (.int .u32 x20), (.int .u32 x21), (.slice x22 x23 x24), (.int .u64 x25)])) ∧
  nilc x13 fun a1 =>
  ldI h3 .u32 (a1.add 0) fun x26 => ldI h3 .u32 (a1.add 1) fun x27 => ldI h3 .u32 (a1.add 2) fun x28 => ldI h3 .u32 (a1.add 3) fun x29 => ldI h3 .u32 (a1.add 4) fun x30 => ldI h3 .u32 (a1.add 5) fun x31 => ldI h3 .u32 (a1.add 6) fun x32 => ldI h3 .u32 (a1.add 7) fun x33 => ldSl h3 (a1.add 8) fun x34 x35 x36 => ldI h3 .u64 (a1.add 9) fun x37 =>
  newB (.cells #[(.int .u32 0), (.int .u32 0), (.int .u32 0), (.int .u32 0), (.int .u32 0), (.int .u32 0), (.int .u32 0), (.int .u32 0), (.slice none 0 0), (.int .u64 0), (.int .u32 0), (.int .u32 0), (.int .u32 0), (.int .u32 0), (.int .u32 0), (.int .u32 0), (.int .u32 0), (.int .u32 0), (.slice none 0 0), (.int .u64 0)] 211) (fun b1 h4 =>
  (ldI h4 .u32 (a1.add 0) fun x38 => ldI h4 .u32 (a1.add 1) fun x39 => ldI h4 .u32 (a1.add 2) fun x40 => ldI h4 .u32 (a1.add 3) fun x41 => ldI h4 .u32 (a1.add 4) fun x42 => ldI h4 .u32 (a1.add 5) fun x43 => ldI h4 .u32 (a1.add 6) fun x44 => ldI h4 .u32 (a1.add 7) fun x45 => ldSl h4 (a1.add 8) fun x46 x47 x48 => ldI h4 .u64 (a1.add 9) fun x49 =>
  eqv h4 h4 (some (.agg #[(.int .u32 x26), (.int .u32 x27), (.int .u32 x28), (.int .u32 x29), (.int .u32 x30), (.int .u32 x31), (.int .u32 x32), (.int .u32 x33), (.slice x34 x35 x36), (.int .u64 x37)])) (.agg #[(.int .u32 x38), (.int .u32 x39), (.int .u32 x40), (.int .u32 x41), (.int .u32 x42), (.int .u32 x43), (.int .u32 x44), (.int .u32 x45), (.slice x46 x47 x48), (.int .u64 x49)])) ∧
  (ldI h4 .u32 (a0.add 0) fun x50 => ldI h4 .u32 (a0.add 1) fun x51 => ldI h4 .u32 (a0.add 2) fun x52 => ldI h4 .u32 (a0.add 3) fun x53 => ldI h4 .u32 (a0.add 4) fun x54 => ldI h4 .u32 (a0.add 5) fun x55 => ldI h4 .u32 (a0.add 6) fun x56 => ldI h4 .u32 (a0.add 7) fun x57 => ldSl h4 (a0.add 8) fun x58 x59 x60 => ldI h4 .u64 (a0.add 9) fun x61 =>
  eqv h4 h4 (some (.agg #[(.int .u32 x1), (.int .u32 x2), (.int .u32 x3), (.int .u32 x4), (.int .u32 x5), (.int .u32 x6), (.int .u32 x7), (.int .u32 x8), (.slice x9 x10 x11), (.int .u64 x12)])) (.agg #[(.int .u32 x50), (.int .u32 x51), (.int .u32 x52), (.int .u32 x53), (.int .u32 x54), (.int .u32 x55), (.int .u32 x56), (.int .u32 x57), (.slice x58 x59 x60), (.int .u64 x61)])) ∧
  stc h4 ((⟨b1, 0, none⟩ : Addr).add 0) (.int .u32 x1) fun h5 =>
  stc h5 ((⟨b1, 0, none⟩ : Addr).add 1) (.int .u32 x2) fun h6 =>
  stc h6 ((⟨b1, 0, none⟩ : Addr).add 2) (.int .u32 x3) fun h7 =>
  stc h7 ((⟨b1, 0, none⟩ : Addr).add 3) (.int .u32 x4) fun h8 =>
  stc h8 ((⟨b1, 0, none⟩ : Addr).add 4) (.int .u32 x5) fun h9 =>
  stc h9 ((⟨b1, 0, none⟩ : Addr).add 5) (.int .u32 x6) fun h10 =>
  stc h10 ((⟨b1, 0, none⟩ : Addr).add 6) (.int .u32 x7) fun h11 =>
  stc h11 ((⟨b1, 0, none⟩ : Addr).add 7) (.int .u32 x8) fun h12 =>
  stc h12 ((⟨b1, 0, none⟩ : Addr).add 8) (.slice x9 x10 x11) fun h13 =>
  stc h13 ((⟨b1, 0, none⟩ : Addr).add 9) (.int .u64 x12) fun h14 =>
  stc h14 ((⟨b1, 0, none⟩ : Addr).add 10) (.int .u32 x26) fun h15 =>
  stc h15 ((⟨b1, 0, none⟩ : Addr).add 11) (.int .u32 x27) fun h16 =>
  stc h16 ((⟨b1, 0, none⟩ : Addr).add 12) (.int .u32 x28) fun h17 =>
  stc h17 ((⟨b1, 0, none⟩ : Addr).add 13) (.int .u32 x29) fun h18 =>
  stc h18 ((⟨b1, 0, none⟩ : Addr).add 14) (.int .u32 x30) fun h19 =>
  stc h19 ((⟨b1, 0, none⟩ : Addr).add 15) (.int .u32 x31) fun h20 =>
  stc h20 ((⟨b1, 0, none⟩ : Addr).add 16) (.int .u32 x32) fun h21 =>
  stc h21 ((⟨b1, 0, none⟩ : Addr).add 17) (.int .u32 x33) fun h22 =>
  stc h22 ((⟨b1, 0, none⟩ : Addr).add 18) (.slice x34 x35 x36) fun h23 =>
  stc h23 ((⟨b1, 0, none⟩ : Addr).add 19) (.int .u64 x37) fun h24 =>
  seal_keyed.J1 key0 (⟨b0, 0, none⟩ : Addr) (⟨b1, 0, none⟩ : Addr) (fun h25 =>
  ldI h25 .u32 ((⟨b0, 0, none⟩ : Addr).add 0) fun r0 => ldI h25 .u32 ((⟨b0, 0, none⟩ : Addr).add 1) fun r1 => ldI h25 .u32 ((⟨b0, 0, none⟩ : Addr).add 2) fun r2 => ldI h25 .u32 ((⟨b0, 0, none⟩ : Addr).add 3) fun r3 => ldI h25 .u32 ((⟨b0, 0, none⟩ : Addr).add 4) fun r4 => ldI h25 .u32 ((⟨b0, 0, none⟩ : Addr).add 5) fun r5 => ldI h25 .u32 ((⟨b0, 0, none⟩ : Addr).add 6) fun r6 => ldI h25 .u32 ((⟨b0, 0, none⟩ : Addr).add 7) fun r7 => ldSl h25 ((⟨b0, 0, none⟩ : Addr).add 8) fun r8 r9 r10 => ldI h25 .u64 ((⟨b0, 0, none⟩ : Addr).add 9) fun r11 => ldI h25 .u32 ((⟨b0, 0, none⟩ : Addr).add 10) fun r12 => ldI h25 .u32 ((⟨b0, 0, none⟩ : Addr).add 11) fun r13 => ldI h25 .u32 ((⟨b0, 0, none⟩ : Addr).add 12) fun r14 => ldI h25 .u32 ((⟨b0, 0, none⟩ : Addr).add 13) fun r15 => ldI h25 .u32 ((⟨b0, 0, none⟩ : Addr).add 14) fun r16 => ldI h25 .u32 ((⟨b0, 0, none⟩ : Addr).add 15) fun r17 => ldI h25 .u32 ((⟨b0, 0, none⟩ : Addr).add 16) fun r18 => ldI h25 .u32 ((⟨b0, 0, none⟩ : Addr).add 17) fun r19 => ldSl h25 ((⟨b0, 0, none⟩ : Addr).add 18) fun r20 r21 r22 => ldI h25 .u64 ((⟨b0, 0, none⟩ : Addr).add 19) fun r23 =>
  K r0 r1 r2 r3 r4 r5 r6 r7 r8 r9 r10 r11 r12 r13 r14 r15 r16 r17 r18 r19 r20 r21 r22 r23 h25) E h24) h3) E h2) ∧
  newB (.cells #[(.int .u32 0), (.int .u32 0), (.int .u32 0), (.int .u32 0), (.int .u32 0), (.int .u32 0), (.int .u32 0), (.int .u32 0), (.slice none 0 0), (.int .u64 0), (.int .u32 0), (.int .u32 0), (.int .u32 0), (.int .u32 0), (.int .u32 0), (.int .u32 0), (.int .u32 0), (.int .u32 0), (.slice none 0 0), (.int .u64 0)] 211) (fun b2 h26 =>
  (ldI h26 .u32 (a0.add 0) fun x62 => ldI h26 .u32 (a0.add 1) fun x63 => ldI h26 .u32 (a0.add 2) fun x64 => ldI h26 .u32 (a0.add 3) fun x65 => ldI h26 .u32 (a0.add 4) fun x66 => ldI h26 .u32 (a0.add 5) fun x67 => ldI h26 .u32 (a0.add 6) fun x68 => ldI h26 .u32 (a0.add 7) fun x69 => ldSl h26 (a0.add 8) fun x70 x71 x72 => ldI h26 .u64 (a0.add 9) fun x73 =>
  eqv h26 h26 (some (.agg #[(.int .u32 x1), (.int .u32 x2), (.int .u32 x3), (.int .u32 x4), (.int .u32 x5), (.int .u32 x6), (.int .u32 x7), (.int .u32 x8), (.slice x9 x10 x11), (.int .u64 x12)])) (.agg #[(.int .u32 x62), (.int .u32 x63), (.int .u32 x64), (.int .u32 x65), (.int .u32 x66), (.int .u32 x67), (.int .u32 x68), (.int .u32 x69), (.slice x70 x71 x72), (.int .u64 x73)])) ∧
  sha_New.c (fun x74 h27 =>
  (ldI h27 .u32 (a0.add 0) fun x75 => ldI h27 .u32 (a0.add 1) fun x76 => ldI h27 .u32 (a0.add 2) fun x77 => ldI h27 .u32 (a0.add 3) fun x78 => ldI h27 .u32 (a0.add 4) fun x79 => ldI h27 .u32 (a0.add 5) fun x80 => ldI h27 .u32 (a0.add 6) fun x81 => ldI h27 .u32 (a0.add 7) fun x82 => ldSl h27 (a0.add 8) fun x83 x84 x85 => ldI h27 .u64 (a0.add 9) fun x86 =>
  eqv h27 h27 (some (.agg #[(.int .u32 x1), (.int .u32 x2), (.int .u32 x3), (.int .u32 x4), (.int .u32 x5), (.int .u32 x6), (.int .u32 x7), (.int .u32 x8), (.slice x9 x10 x11), (.int .u64 x12)])) (.agg #[(.int .u32 x75), (.int .u32 x76), (.int .u32 x77), (.int .u32 x78), (.int .u32 x79), (.int .u32 x80), (.int .u32 x81), (.int .u32 x82), (.slice x83 x84 x85), (.int .u64 x86)])) ∧
  nilc x74 fun a2 =>
  ldI h27 .u32 (a2.add 0) fun x87 => ldI h27 .u32 (a2.add 1) fun x88 => ldI h27 .u32 (a2.add 2) fun x89 => ldI h27 .u32 (a2.add 3) fun x90 => ldI h27 .u32 (a2.add 4) fun x91 => ldI h27 .u32 (a2.add 5) fun x92 => ldI h27 .u32 (a2.add 6) fun x93 => ldI h27 .u32 (a2.add 7) fun x94 => ldSl h27 (a2.add 8) fun x95 x96 x97 => ldI h27 .u64 (a2.add 9) fun x98 =>
  stc h27 ((⟨b2, 0, none⟩ : Addr).add 0) (.int .u32 x1) fun h28 =>
  stc h28 ((⟨b2, 0, none⟩ : Addr).add 1) (.int .u32 x2) fun h29 =>
  stc h29 ((⟨b2, 0, none⟩ : Addr).add 2) (.int .u32 x3) fun h30 =>
  stc h30 ((⟨b2, 0, none⟩ : Addr).add 3) (.int .u32 x4) fun h31 =>
  stc h31 ((⟨b2, 0, none⟩ : Addr).add 4) (.int .u32 x5) fun h32 =>
  stc h32 ((⟨b2, 0, none⟩ : Addr).add 5) (.int .u32 x6) fun h33 =>
  stc h33 ((⟨b2, 0, none⟩ : Addr).add 6) (.int .u32 x7) fun h34 =>
  stc h34 ((⟨b2, 0, none⟩ : Addr).add 7) (.int .u32 x8) fun h35 =>
  stc h35 ((⟨b2, 0, none⟩ : Addr).add 8) (.slice x9 x10 x11) fun h36 =>
  stc h36 ((⟨b2, 0, none⟩ : Addr).add 9) (.int .u64 x12) fun h37 =>
  stc h37 ((⟨b2, 0, none⟩ : Addr).add 10) (.int .u32 x87) fun h38 =>
  stc h38 ((⟨b2, 0, none⟩ : Addr).add 11) (.int .u32 x88) fun h39 =>
  stc h39 ((⟨b2, 0, none⟩ : Addr).add 12) (.int .u32 x89) fun h40 =>
  stc h40 ((⟨b2, 0, none⟩ : Addr).add 13) (.int .u32 x90) fun h41 =>
  stc h41 ((⟨b2, 0, none⟩ : Addr).add 14) (.int .u32 x91) fun h42 =>
  stc h42 ((⟨b2, 0, none⟩ : Addr).add 15) (.int .u32 x92) fun h43 =>
  stc h43 ((⟨b2, 0, none⟩ : Addr).add 16) (.int .u32 x93) fun h44 =>
  stc h44 ((⟨b2, 0, none⟩ : Addr).add 17) (.int .u32 x94) fun h45 =>
  stc h45 ((⟨b2, 0, none⟩ : Addr).add 18) (.slice x95 x96 x97) fun h46 =>
  stc h46 ((⟨b2, 0, none⟩ : Addr).add 19) (.int .u64 x98) fun h47 =>
  seal_keyed.J1 key0 (⟨b0, 0, none⟩ : Addr) (⟨b2, 0, none⟩ : Addr) (fun h48 =>
  ldI h48 .u32 ((⟨b0, 0, none⟩ : Addr).add 0) fun r24 => ldI h48 .u32 ((⟨b0, 0, none⟩ : Addr).add 1) fun r25 => ldI h48 .u32 ((⟨b0, 0, none⟩ : Addr).add 2) fun r26 => ldI h48 .u32 ((⟨b0, 0, none⟩ : Addr).add 3) fun r27 => ldI h48 .u32 ((⟨b0, 0, none⟩ : Addr).add 4) fun r28 => ldI h48 .u32 ((⟨b0, 0, none⟩ : Addr).add 5) fun r29 => ldI h48 .u32 ((⟨b0, 0, none⟩ : Addr).add 6) fun r30 => ldI h48 .u32 ((⟨b0, 0, none⟩ : Addr).add 7) fun r31 => ldSl h48 ((⟨b0, 0, none⟩ : Addr).add 8) fun r32 r33 r34 => ldI h48 .u64 ((⟨b0, 0, none⟩ : Addr).add 9) fun r35 => ldI h48 .u32 ((⟨b0, 0, none⟩ : Addr).add 10) fun r36 => ldI h48 .u32 ((⟨b0, 0, none⟩ : Addr).add 11) fun r37 => ldI h48 .u32 ((⟨b0, 0, none⟩ : Addr).add 12) fun r38 => ldI h48 .u32 ((⟨b0, 0, none⟩ : Addr).add 13) fun r39 => ldI h48 .u32 ((⟨b0, 0, none⟩ : Addr).add 14) fun r40 => ldI h48 .u32 ((⟨b0, 0, none⟩ : Addr).add 15) fun r41 => ldI h48 .u32 ((⟨b0, 0, none⟩ : Addr).add 16) fun r42 => ldI h48 .u32 ((⟨b0, 0, none⟩ : Addr).add 17) fun r43 => ldSl h48 ((⟨b0, 0, none⟩ : Addr).add 18) fun r44 r45 r46 => ldI h48 .u64 ((⟨b0, 0, none⟩ : Addr).add 19) fun r47 =>
  K r24 r25 r26 r27 r28 r29 r30 r31 r32 r33 r34 r35 r36 r37 r38 r39 r40 r41 r42 r43 r44 r45 r46 r47 h48) E h47) E h26) h2) E h1) ∧
  newB (.cells #[(.int .u32 0), (.int .u32 0), (.int .u32 0), (.int .u32 0), (.int .u32 0), (.int .u32 0), (.int .u32 0), (.int .u32 0), (.slice none 0 0), (.int .u64 0), (.int .u32 0), (.int .u32 0), (.int .u32 0), (.int .u32 0), (.int .u32 0), (.int .u32 0), (.int .u32 0), (.int .u32 0), (.slice none 0 0), (.int .u64 0)] 211) (fun b3 h49 =>
  sha_New.c (fun x99 h50 =>
  nilc x99 fun a3 =>
  ldI h50 .u32 (a3.add 0) fun x100 => ldI h50 .u32 (a3.add 1) fun x101 => ldI h50 .u32 (a3.add 2) fun x102 => ldI h50 .u32 (a3.add 3) fun x103 => ldI h50 .u32 (a3.add 4) fun x104 => ldI h50 .u32 (a3.add 5) fun x105 => ldI h50 .u32 (a3.add 6) fun x106 => ldI h50 .u32 (a3.add 7) fun x107 => ldSl h50 (a3.add 8) fun x108 x109 x110 => ldI h50 .u64 (a3.add 9) fun x111 =>
  sha_New.c (fun x112 h51 =>
  (ldI h51 .u32 (a3.add 0) fun x113 => ldI h51 .u32 (a3.add 1) fun x114 => ldI h51 .u32 (a3.add 2) fun x115 => ldI h51 .u32 (a3.add 3) fun x116 => ldI h51 .u32 (a3.add 4) fun x117 => ldI h51 .u32 (a3.add 5) fun x118 => ldI h51 .u32 (a3.add 6) fun x119 => ldI h51 .u32 (a3.add 7) fun x120 => ldSl h51 (a3.add 8) fun x121 x122 x123 => ldI h51 .u64 (a3.add 9) fun x124 =>
  eqv h51 h51 (some (.agg #[(.int .u32 x100), (.int .u32 x101), (.int .u32 x102), (.int .u32 x103), (.int .u32 x104), (.int .u32 x105), (.int .u32 x106), (.int .u32 x107), (.slice x108 x109 x110), (.int .u64 x111)])) (.agg #[(.int .u32 x113), (.int .u32 x114), (.int .u32 x115), (.int .u32 x116), (.int .u32 x117), (.int .u32 x118), (.int .u32 x119), (.int .u32 x120), (.slice x121 x122 x123), (.int .u64 x124)])) ∧
  nilc x112 fun a4 =>
  ldI h51 .u32 (a4.add 0) fun x125 => ldI h51 .u32 (a4.add 1) fun x126 => ldI h51 .u32 (a4.add 2) fun x127 => ldI h51 .u32 (a4.add 3) fun x128 => ldI h51 .u32 (a4.add 4) fun x129 => ldI h51 .u32 (a4.add 5) fun x130 => ldI h51 .u32 (a4.add 6) fun x131 => ldI h51 .u32 (a4.add 7) fun x132 => ldSl h51 (a4.add 8) fun x133 x134 x135 => ldI h51 .u64 (a4.add 9) fun x136 =>
  stc h51 ((⟨b3, 0, none⟩ : Addr).add 0) (.int .u32 x100) fun h52 =>
  stc h52 ((⟨b3, 0, none⟩ : Addr).add 1) (.int .u32 x101) fun h53 =>
  stc h53 ((⟨b3, 0, none⟩ : Addr).add 2) (.int .u32 x102) fun h54 =>
  stc h54 ((⟨b3, 0, none⟩ : Addr).add 3) (.int .u32 x103) fun h55 =>
  stc h55 ((⟨b3, 0, none⟩ : Addr).add 4) (.int .u32 x104) fun h56 =>
  stc h56 ((⟨b3, 0, none⟩ : Addr).add 5) (.int .u32 x105) fun h57 =>
  stc h57 ((⟨b3, 0, none⟩ : Addr).add 6) (.int .u32 x106) fun h58 =>
  stc h58 ((⟨b3, 0, none⟩ : Addr).add 7) (.int .u32 x107) fun h59 =>
  stc h59 ((⟨b3, 0, none⟩ : Addr).add 8) (.slice x108 x109 x110) fun h60 =>
  stc h60 ((⟨b3, 0, none⟩ : Addr).add 9) (.int .u64 x111) fun h61 =>
  stc h61 ((⟨b3, 0, none⟩ : Addr).add 10) (.int .u32 x125) fun h62 =>
  stc h62 ((⟨b3, 0, none⟩ : Addr).add 11) (.int .u32 x126) fun h63 =>
  stc h63 ((⟨b3, 0, none⟩ : Addr).add 12) (.int .u32 x127) fun h64 =>
  stc h64 ((⟨b3, 0, none⟩ : Addr).add 13) (.int .u32 x128) fun h65 =>
  stc h65 ((⟨b3, 0, none⟩ : Addr).add 14) (.int .u32 x129) fun h66 =>
  stc h66 ((⟨b3, 0, none⟩ : Addr).add 15) (.int .u32 x130) fun h67 =>
  stc h67 ((⟨b3, 0, none⟩ : Addr).add 16) (.int .u32 x131) fun h68 =>
  stc h68 ((⟨b3, 0, none⟩ : Addr).add 17) (.int .u32 x132) fun h69 =>
  stc h69 ((⟨b3, 0, none⟩ : Addr).add 18) (.slice x133 x134 x135) fun h70 =>
  stc h70 ((⟨b3, 0, none⟩ : Addr).add 19) (.int .u64 x136) fun h71 =>
  seal_keyed.J1 key0 (⟨b0, 0, none⟩ : Addr) (⟨b3, 0, none⟩ : Addr) (fun h72 =>
  ldI h72 .u32 ((⟨b0, 0, none⟩ : Addr).add 0) fun r48 => ldI h72 .u32 ((⟨b0, 0, none⟩ : Addr).add 1) fun r49 => ldI h72 .u32 ((⟨b0, 0, none⟩ : Addr).add 2) fun r50 => ldI h72 .u32 ((⟨b0, 0, none⟩ : Addr).add 3) fun r51 => ldI h72 .u32 ((⟨b0, 0, none⟩ : Addr).add 4) fun r52 => ldI h72 .u32 ((⟨b0, 0, none⟩ : Addr).add 5) fun r53 => ldI h72 .u32 ((⟨b0, 0, none⟩ : Addr).add 6) fun r54 => ldI h72 .u32 ((⟨b0, 0, none⟩ : Addr).add 7) fun r55 => ldSl h72 ((⟨b0, 0, none⟩ : Addr).add 8) fun r56 r57 r58 => ldI h72 .u64 ((⟨b0, 0, none⟩ : Addr).add 9) fun r59 => ldI h72 .u32 ((⟨b0, 0, none⟩ : Addr).add 10) fun r60 => ldI h72 .u32 ((⟨b0, 0, none⟩ : Addr).add 11) fun r61 => ldI h72 .u32 ((⟨b0, 0, none⟩ : Addr).add 12) fun r62 => ldI h72 .u32 ((⟨b0, 0, none⟩ : Addr).add 13) fun r63 => ldI h72 .u32 ((⟨b0, 0, none⟩ : Addr).add 14) fun r64 => ldI h72 .u32 ((⟨b0, 0, none⟩ : Addr).add 15) fun r65 => ldI h72 .u32 ((⟨b0, 0, none⟩ : Addr).add 16) fun r66 => ldI h72 .u32 ((⟨b0, 0, none⟩ : Addr).add 17) fun r67 => ldSl h72 ((⟨b0, 0, none⟩ : Addr).add 18) fun r68 r69 r70 => ldI h72 .u64 ((⟨b0, 0, none⟩ : Addr).add 19) fun r71 =>
  K r48 r49 r50 r51 r52 r53 r54 r55 r56 r57 r58 r59 r60 r61 r62 r63 r64 r65 r66 r67 r68 r69 r70 r71 h72) E h71) E h50) E h49) h1) h0
structure seal_keyed.c (key0 : ByteArray) (K : Int → Int → Int → Int → Int → Int → Int → Int → Option Addr → Nat → Nat → Int → Int → Int → Int → Int → Int → Int → Int → Int → Option Addr → Nat → Nat → Int → Heap → Prop) (E : Value → Heap → Prop) (H : Heap) : Prop where
  h : seal_keyed.vc key0 (fun r0_0 r0_1 r0_2 r0_3 r0_4 r0_5 r0_6 r0_7 r0_8 r0_9 r0_10 r0_11 r0_12 r0_13 r0_14 r0_15 r0_16 r0_17 r0_18 r0_19 r0_20 r0_21 r0_22 r0_23 H => ∃ H', Heap.Le H' H ∧ K r0_0 r0_1 r0_2 r0_3 r0_4 r0_5 r0_6 r0_7 r0_8 r0_9 r0_10 r0_11 r0_12 r0_13 r0_14 r0_15 r0_16 r0_17 r0_18 r0_19 r0_20 r0_21 r0_22 r0_23 H') E H
def seal_keyed.F : FT := fun args K E H => match args with
  | [(.string key0)] => seal_keyed.c key0 (fun r0_0 r0_1 r0_2 r0_3 r0_4 r0_5 r0_6 r0_7 r0_8 r0_9 r0_10 r0_11 r0_12 r0_13 r0_14 r0_15 r0_16 r0_17 r0_18 r0_19 r0_20 r0_21 r0_22 r0_23 H => K (.agg #[(.int .u32 r0_0), (.int .u32 r0_1), (.int .u32 r0_2), (.int .u32 r0_3), (.int .u32 r0_4), (.int .u32 r0_5), (.int .u32 r0_6), (.int .u32 r0_7), (.slice r0_8 r0_9 r0_10), (.int .u64 r0_11), (.int .u32 r0_12), (.int .u32 r0_13), (.int .u32 r0_14), (.int .u32 r0_15), (.int .u32 r0_16), (.int .u32 r0_17), (.int .u32 r0_18), (.int .u32 r0_19), (.slice r0_20 r0_21 r0_22), (.int .u64 r0_23)]) H) E H
  | _ => False
noncomputable def seal_keyed.Γ : FuncId → Option FT := Γof [(159, sha_New.F), (160, sha_Hash_Write.F), (224, seal_pad.F)]
theorem seal_keyed.hΓ : ∀ f F, seal_keyed.Γ f = some F → CalleeOk Tryz.prog f F := Γof_ok (List.forall_mem_cons.2 ⟨sha_New.ok, List.forall_mem_cons.2 ⟨sha_Hash_Write.ok, List.forall_mem_cons.2 ⟨seal_pad.ok, fun _ h => nomatch h⟩⟩⟩)
def seal_keyed.J1.t : CT := fun Q E fr H => lenIs 20 fr (slS fr 0 fun key0 => slPA fr 2 fun x0 => slPA fr 3 fun m0 => seal_keyed.J1 key0 x0 m0 (fun  H => Q .ret (mkF 20 [(2, (.pointer (some x0)))]) H) E H)
noncomputable def seal_keyed.J1.plan : Plan := .go
theorem seal_keyed.J1.pok : PlanOk Tryz.prog seal_keyed.J1.plan (sub [1, 1] seal_keyed.body) := by
  have e : PlanOk Tryz.prog seal_keyed.J1.plan (sub [1, 1] seal_keyed.body) = (True) := by kernel_rfl
  exact e.mpr trivial
theorem seal_keyed.J1.eq (key0 : ByteArray) (x0 : Addr) (m0 : Addr) (Q : Ex → Fr → Heap → Prop) (E : Value → Heap → Prop) (H : Heap) :
    seal_keyed.J1.vc key0 x0 m0 (fun  H => Q .ret (mkF 20 [(2, (.pointer (some x0)))]) H) E H = keepT [] [2] (fun i => []) (wC Tryz.prog seal_keyed.Γ seal_keyed.J1.plan (sub [1, 1] seal_keyed.body)) Q E (mkF 20 [(0, (.string key0)), (2, (.pointer (some x0))), (3, (.pointer (some m0)))]) H := by
  kernel_rfl
theorem seal_keyed.J1.ok : SoundCode Tryz.prog (sub [1, 1] seal_keyed.body) seal_keyed.J1.t := by
  refine piece_sound (keepT_sound [] [2] (fun i => []) (wC_sound seal_keyed.hΓ Tryz.hm seal_keyed.J1.plan _ seal_keyed.J1.pok)) ?_
  intro Q E fr H h
  unfold seal_keyed.J1.t at h
  obtain ⟨hl, h⟩ := lenIs_elim h
  obtain ⟨key0, q0, h⟩ := slS_elim h
  obtain ⟨x0, q2, h⟩ := slPA_elim h
  obtain ⟨m0, q3, h⟩ := slPA_elim h
  refine ⟨(mkF 20 [(0, (.string key0)), (2, (.pointer (some x0))), (3, (.pointer (some m0)))]), fun a ha => ha.mk (Nat.le_of_eq hl.symm) (List.forall_mem_cons.2 ⟨q0, List.forall_mem_cons.2 ⟨q2, List.forall_mem_cons.2 ⟨q3, fun _ h => nomatch h⟩⟩⟩), ?_⟩
  have e := seal_keyed.J1.eq key0 x0 m0 Q E H
  rw [← e]
  exact h.h
noncomputable def seal_keyed.plan : Plan := .seq (.go) (.seq (.draw ⟨[0, 1, 2, 3, 4, 5, 6, 7, 8], (dl [] (.alt (dl [(0, []), (1, []), (2, [])] (.alt (dl [(3, [0]), (4, []), (5, []), (6, []), (7, []), (8, [7, 6, 3, 0, 1, 2, 4, 5])] .fin) (dl [(7, []), (3, [0]), (4, []), (5, []), (6, []), (8, [7, 6, 3, 0, 1, 2, 4, 5])] .fin))) (dl [(7, []), (0, []), (1, []), (2, []), (3, [0]), (4, []), (5, []), (6, []), (8, [7, 6, 3, 0, 1, 2, 4, 5])] .fin))), []⟩) (.use seal_keyed.J1.t))
theorem seal_keyed.pok : PlanOk Tryz.prog seal_keyed.plan seal_keyed.body := by
  have e : PlanOk Tryz.prog seal_keyed.plan seal_keyed.body = ((True) ∧ ((True) ∧ (SoundCode Tryz.prog (sub [1, 1] seal_keyed.body) seal_keyed.J1.t))) := by kernel_rfl
  exact e.mpr ⟨trivial, ⟨trivial, seal_keyed.J1.ok⟩⟩
theorem seal_keyed.eq (key0 : ByteArray) (K : Value → Heap → Prop) (E : Value → Heap → Prop) (H : Heap) :
    fnT Tryz.prog Tryz.f217 (wC Tryz.prog seal_keyed.Γ seal_keyed.plan seal_keyed.body) [(.string key0)] K E H = seal_keyed.vc key0 (fun r0_0 r0_1 r0_2 r0_3 r0_4 r0_5 r0_6 r0_7 r0_8 r0_9 r0_10 r0_11 r0_12 r0_13 r0_14 r0_15 r0_16 r0_17 r0_18 r0_19 r0_20 r0_21 r0_22 r0_23 H => K (.agg #[(.int .u32 r0_0), (.int .u32 r0_1), (.int .u32 r0_2), (.int .u32 r0_3), (.int .u32 r0_4), (.int .u32 r0_5), (.int .u32 r0_6), (.int .u32 r0_7), (.slice r0_8 r0_9 r0_10), (.int .u64 r0_11), (.int .u32 r0_12), (.int .u32 r0_13), (.int .u32 r0_14), (.int .u32 r0_15), (.int .u32 r0_16), (.int .u32 r0_17), (.int .u32 r0_18), (.int .u32 r0_19), (.slice r0_20 r0_21 r0_22), (.int .u64 r0_23)]) H) E H := by
  kernel_rfl
theorem seal_keyed.Fe {args : List Value} {K E : Value → Heap → Prop} {H : Heap} (h : seal_keyed.F args K E H) : ∃ key0, args = [(.string key0)] ∧ seal_keyed.c key0 (fun r0_0 r0_1 r0_2 r0_3 r0_4 r0_5 r0_6 r0_7 r0_8 r0_9 r0_10 r0_11 r0_12 r0_13 r0_14 r0_15 r0_16 r0_17 r0_18 r0_19 r0_20 r0_21 r0_22 r0_23 H => K (.agg #[(.int .u32 r0_0), (.int .u32 r0_1), (.int .u32 r0_2), (.int .u32 r0_3), (.int .u32 r0_4), (.int .u32 r0_5), (.int .u32 r0_6), (.int .u32 r0_7), (.slice r0_8 r0_9 r0_10), (.int .u64 r0_11), (.int .u32 r0_12), (.int .u32 r0_13), (.int .u32 r0_14), (.int .u32 r0_15), (.int .u32 r0_16), (.int .u32 r0_17), (.int .u32 r0_18), (.int .u32 r0_19), (.slice r0_20 r0_21 r0_22), (.int .u64 r0_23)]) H) E H := by
  unfold seal_keyed.F at h
  split at h
  · exact ⟨_, rfl, h⟩
  · exact h.elim
theorem seal_keyed.ok : CalleeOk Tryz.prog 217 seal_keyed.F :=
  callee_ok seal_keyed.hΓ (fn := Tryz.f217) (c := seal_keyed.body) (T := wC Tryz.prog seal_keyed.Γ seal_keyed.plan seal_keyed.body) (by kernel_rfl) (by kernel_rfl) (by kernel_rfl) (wC_sound seal_keyed.hΓ Tryz.hm seal_keyed.plan _ seal_keyed.pok) fun _ K E H h => by
    obtain ⟨z0, e, h⟩ := seal_keyed.Fe h
    subst e
    have h2 : seal_keyed.vc z0 (fun r0_0 r0_1 r0_2 r0_3 r0_4 r0_5 r0_6 r0_7 r0_8 r0_9 r0_10 r0_11 r0_12 r0_13 r0_14 r0_15 r0_16 r0_17 r0_18 r0_19 r0_20 r0_21 r0_22 r0_23 H => ∃ H', Heap.Le H' H ∧ K (.agg #[(.int .u32 r0_0), (.int .u32 r0_1), (.int .u32 r0_2), (.int .u32 r0_3), (.int .u32 r0_4), (.int .u32 r0_5), (.int .u32 r0_6), (.int .u32 r0_7), (.slice r0_8 r0_9 r0_10), (.int .u64 r0_11), (.int .u32 r0_12), (.int .u32 r0_13), (.int .u32 r0_14), (.int .u32 r0_15), (.int .u32 r0_16), (.int .u32 r0_17), (.int .u32 r0_18), (.int .u32 r0_19), (.slice r0_20 r0_21 r0_22), (.int .u64 r0_23)]) H') E H := h.h
    rw [seal_keyed.eq z0 (Fg K) E H]
    exact h2

/-! (*vizard/seal.Key).parts$1 -/
noncomputable def seal_Key_parts_1.body : Code := Tryz.f216.body.getD .skip
def seal_Key_parts_1.vc (a0 : Addr) (K : Heap → Prop) (E : Value → Heap → Prop) (h0 : Heap) : Prop :=
  ldP h0 a0 fun x0 =>
  ldP h0 a0 fun x1 =>
  nilc x1 fun a1 =>
  ldS h0 (a1.add 0) fun x2 =>
  sha_Derive.c x2 (⟨#[99, 105, 112, 104, 101, 114]⟩ : ByteArray) (⟨#[]⟩ : ByteArray) (fun x3 h1 =>
  (ldP h1 a0 fun x4 =>
  eqv h1 h1 (some (.pointer x0)) (.pointer x4)) ∧
  seal_keyed.c x3 (fun x5 x6 x7 x8 x9 x10 x11 x12 x13 x14 x15 x16 x17 x18 x19 x20 x21 x22 x23 x24 x25 x26 x27 x28 h2 =>
  (ldP h2 a0 fun x29 =>
  eqv h2 h2 (some (.pointer x0)) (.pointer x29)) ∧
  nilc x0 fun a2 =>
  stc h2 ((a2.add 4).add 0) (.int .u32 x5) fun h3 =>
  stc h3 ((a2.add 4).add 1) (.int .u32 x6) fun h4 =>
  stc h4 ((a2.add 4).add 2) (.int .u32 x7) fun h5 =>
  stc h5 ((a2.add 4).add 3) (.int .u32 x8) fun h6 =>
  stc h6 ((a2.add 4).add 4) (.int .u32 x9) fun h7 =>
  stc h7 ((a2.add 4).add 5) (.int .u32 x10) fun h8 =>
  stc h8 ((a2.add 4).add 6) (.int .u32 x11) fun h9 =>
  stc h9 ((a2.add 4).add 7) (.int .u32 x12) fun h10 =>
  stc h10 ((a2.add 4).add 8) (.slice x13 x14 x15) fun h11 =>
  stc h11 ((a2.add 4).add 9) (.int .u64 x16) fun h12 =>
  stc h12 ((a2.add 4).add 10) (.int .u32 x17) fun h13 =>
  stc h13 ((a2.add 4).add 11) (.int .u32 x18) fun h14 =>
  stc h14 ((a2.add 4).add 12) (.int .u32 x19) fun h15 =>
  stc h15 ((a2.add 4).add 13) (.int .u32 x20) fun h16 =>
  stc h16 ((a2.add 4).add 14) (.int .u32 x21) fun h17 =>
  stc h17 ((a2.add 4).add 15) (.int .u32 x22) fun h18 =>
  stc h18 ((a2.add 4).add 16) (.int .u32 x23) fun h19 =>
  stc h19 ((a2.add 4).add 17) (.int .u32 x24) fun h20 =>
  stc h20 ((a2.add 4).add 18) (.slice x25 x26 x27) fun h21 =>
  stc h21 ((a2.add 4).add 19) (.int .u64 x28) fun h22 =>
  ldP h22 a0 fun x30 =>
  ldP h22 a0 fun x31 =>
  nilc x31 fun a3 =>
  ldS h22 (a3.add 0) fun x32 =>
  sha_Derive.c x32 (⟨#[116, 97, 103]⟩ : ByteArray) (⟨#[]⟩ : ByteArray) (fun x33 h23 =>
  (ldP h23 a0 fun x34 =>
  eqv h23 h23 (some (.pointer x30)) (.pointer x34)) ∧
  seal_keyed.c x33 (fun x35 x36 x37 x38 x39 x40 x41 x42 x43 x44 x45 x46 x47 x48 x49 x50 x51 x52 x53 x54 x55 x56 x57 x58 h24 =>
  (ldP h24 a0 fun x59 =>
  eqv h24 h24 (some (.pointer x30)) (.pointer x59)) ∧
  nilc x30 fun a4 =>
  stc h24 ((a4.add 24).add 0) (.int .u32 x35) fun h25 =>
  stc h25 ((a4.add 24).add 1) (.int .u32 x36) fun h26 =>
  stc h26 ((a4.add 24).add 2) (.int .u32 x37) fun h27 =>
  stc h27 ((a4.add 24).add 3) (.int .u32 x38) fun h28 =>
  stc h28 ((a4.add 24).add 4) (.int .u32 x39) fun h29 =>
  stc h29 ((a4.add 24).add 5) (.int .u32 x40) fun h30 =>
  stc h30 ((a4.add 24).add 6) (.int .u32 x41) fun h31 =>
  stc h31 ((a4.add 24).add 7) (.int .u32 x42) fun h32 =>
  stc h32 ((a4.add 24).add 8) (.slice x43 x44 x45) fun h33 =>
  stc h33 ((a4.add 24).add 9) (.int .u64 x46) fun h34 =>
  stc h34 ((a4.add 24).add 10) (.int .u32 x47) fun h35 =>
  stc h35 ((a4.add 24).add 11) (.int .u32 x48) fun h36 =>
  stc h36 ((a4.add 24).add 12) (.int .u32 x49) fun h37 =>
  stc h37 ((a4.add 24).add 13) (.int .u32 x50) fun h38 =>
  stc h38 ((a4.add 24).add 14) (.int .u32 x51) fun h39 =>
  stc h39 ((a4.add 24).add 15) (.int .u32 x52) fun h40 =>
  stc h40 ((a4.add 24).add 16) (.int .u32 x53) fun h41 =>
  stc h41 ((a4.add 24).add 17) (.int .u32 x54) fun h42 =>
  stc h42 ((a4.add 24).add 18) (.slice x55 x56 x57) fun h43 =>
  stc h43 ((a4.add 24).add 19) (.int .u64 x58) fun h44 =>
  K h44) E h23) E h22) E h1) E h0
structure seal_Key_parts_1.c (a0 : Addr) (K : Heap → Prop) (E : Value → Heap → Prop) (H : Heap) : Prop where
  h : seal_Key_parts_1.vc a0 (fun  H => ∃ H', Heap.Le H' H ∧ K  H') E H
def seal_Key_parts_1.F : FT := fun args K E H => match args with
  | [(.pointer (some a0))] => seal_Key_parts_1.c a0 (fun  H => K (.tuple #[]) H) E H
  | _ => False
noncomputable def seal_Key_parts_1.Γ : FuncId → Option FT := Γof [(29, sha_Derive.F), (217, seal_keyed.F)]
theorem seal_Key_parts_1.hΓ : ∀ f F, seal_Key_parts_1.Γ f = some F → CalleeOk Tryz.prog f F := Γof_ok (List.forall_mem_cons.2 ⟨sha_Derive.ok, List.forall_mem_cons.2 ⟨seal_keyed.ok, fun _ h => nomatch h⟩⟩)
noncomputable def seal_Key_parts_1.plan : Plan := .seq (.draw ⟨[0, 1, 2, 3, 4, 5, 6, 7, 8, 9], (dl [(0, []), (1, []), (2, []), (3, []), (4, []), (5, [4, 3, 2, 1]), (6, [5, 4, 3, 2, 1]), (7, []), (8, []), (9, [8, 6, 0, 1, 2, 3, 4, 5, 7])] .fin), []⟩) (.draw ⟨[0, 1, 2, 3, 4, 5, 6, 7, 8, 9], (dl [(0, []), (1, []), (2, []), (3, []), (4, []), (5, [4, 3, 2, 1]), (6, [5, 4, 3, 2, 1]), (7, []), (8, []), (9, [8, 6, 0, 1, 2, 3, 4, 5, 7])] .fin), []⟩)
theorem seal_Key_parts_1.pok : PlanOk Tryz.prog seal_Key_parts_1.plan seal_Key_parts_1.body := by
  have e : PlanOk Tryz.prog seal_Key_parts_1.plan seal_Key_parts_1.body = ((True) ∧ (True)) := by kernel_rfl
  exact e.mpr ⟨trivial, trivial⟩
theorem seal_Key_parts_1.eq (a0 : Addr) (K : Value → Heap → Prop) (E : Value → Heap → Prop) (H : Heap) :
    fnT Tryz.prog Tryz.f216 (wC Tryz.prog seal_Key_parts_1.Γ seal_Key_parts_1.plan seal_Key_parts_1.body) [(.pointer (some a0))] K E H = seal_Key_parts_1.vc a0 (fun  H => K (.tuple #[]) H) E H := by
  kernel_rfl
theorem seal_Key_parts_1.Fe {args : List Value} {K E : Value → Heap → Prop} {H : Heap} (h : seal_Key_parts_1.F args K E H) : ∃ a0, args = [(.pointer (some a0))] ∧ seal_Key_parts_1.c a0 (fun  H => K (.tuple #[]) H) E H := by
  unfold seal_Key_parts_1.F at h
  split at h
  · exact ⟨_, rfl, h⟩
  · exact h.elim
theorem seal_Key_parts_1.ok : CalleeOk Tryz.prog 216 seal_Key_parts_1.F :=
  callee_ok seal_Key_parts_1.hΓ (fn := Tryz.f216) (c := seal_Key_parts_1.body) (T := wC Tryz.prog seal_Key_parts_1.Γ seal_Key_parts_1.plan seal_Key_parts_1.body) (by kernel_rfl) (by kernel_rfl) (by kernel_rfl) (wC_sound seal_Key_parts_1.hΓ Tryz.hm seal_Key_parts_1.plan _ seal_Key_parts_1.pok) fun _ K E H h => by
    obtain ⟨z0, e, h⟩ := seal_Key_parts_1.Fe h
    subst e
    have h2 : seal_Key_parts_1.vc z0 (fun  H => ∃ H', Heap.Le H' H ∧ K (.tuple #[]) H') E H := h.h
    rw [seal_Key_parts_1.eq z0 (Fg K) E H]
    exact h2
end Go.Sh
