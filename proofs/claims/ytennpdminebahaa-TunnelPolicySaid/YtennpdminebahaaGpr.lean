/- PRINTED by a program (shrf.py): what the walks over parts of a function ask, and that they ask just that. -/
import Derived.Test.YtennpdminebahaaGip
import Derived.Test.YtennpdminebahaaChk
namespace Go.Sh
open Go.Proofs
set_option linter.unusedVariables false
set_option maxRecDepth 8000
/-! vizard/ipv4.Parse -/
noncomputable def ipv4_Parse.body : Code := Try.f38.body.getD .skip
def ipv4_Parse.J1.vc (s0 : ByteArray) (Kn : Addr → Addr → Heap → Prop) (E : Value → Heap → Prop) (h0 : Heap) : Prop :=
  newB (.cells #[(.int .i64 0), (.int .i64 0), (.int .i64 0), (.int .i64 0), (.int .i64 0), (.int .u32 0), (.int .u32 0), (.string (⟨#[]⟩ : ByteArray))] 58) (fun b0 h1 =>
  newB (.cells #[(.int .i64 0)] 35) (fun b1 h2 =>
  Kn (⟨b0, 0, none⟩ : Addr) (⟨b1, 0, none⟩ : Addr) h2) h1) h0
structure ipv4_Parse.J1 (s0 : ByteArray) (Kn : Addr → Addr → Heap → Prop) (E : Value → Heap → Prop) (H : Heap) : Prop where
  h : ipv4_Parse.J1.vc s0 Kn E H
def ipv4_Parse.J4.vc (s0 : ByteArray) (h0 : Addr) (e0 : Addr) (x0 : Addr) (Kr : Heap → Prop) (E : Value → Heap → Prop) (h1 : Heap) : Prop :=
  (0 : Int) ≤ 10 ∧ 10 ≤ (s0.size : Int) ∧
  (s0.extract 0 10).size + (⟨#[0, 0]⟩ : ByteArray).size ≤ 9223372036854775807 ∧
  (0 : Int) ≤ 12 ∧ 12 ≤ (20 : Int) ∧ 20 ≤ (s0.size : Int) ∧
  ((s0.extract 0 10) ++ (⟨#[0, 0]⟩ : ByteArray)).size + (s0.extract 12 20).size ≤ 9223372036854775807 ∧
  (0 : Int) ≤ 10 ∧ 10 ≤ (12 : Int) ∧ 12 ≤ (s0.size : Int) ∧
  ipv4_Sum.c (((s0.extract 0 10) ++ (⟨#[0, 0]⟩ : ByteArray)) ++ (s0.extract 12 20)) (fun x1 h2 =>
  ipv4_get.c (s0.extract 10 12) (fun x2 h3 =>
  ipv4_check.c (x1 == (IntKind.i64.wrap x2)) 9 (fun h4 =>
  ldI h4 .i64 (x0.add 0) fun x3 => ldI h4 .i64 (x0.add 1) fun x4 => ldI h4 .i64 (x0.add 2) fun x5 => ldI h4 .i64 (x0.add 3) fun x6 => ldI h4 .i64 (x0.add 4) fun x7 => ldI h4 .u32 (x0.add 5) fun x8 => ldI h4 .u32 (x0.add 6) fun x9 => ldS h4 (x0.add 7) fun x10 =>
  stc h4 (h0.add 0) (.int .i64 x3) fun h5 =>
  stc h5 (h0.add 1) (.int .i64 x4) fun h6 =>
  stc h6 (h0.add 2) (.int .i64 x5) fun h7 =>
  stc h7 (h0.add 3) (.int .i64 x6) fun h8 =>
  stc h8 (h0.add 4) (.int .i64 x7) fun h9 =>
  stc h9 (h0.add 5) (.int .u32 x8) fun h10 =>
  stc h10 (h0.add 6) (.int .u32 x9) fun h11 =>
  stc h11 (h0.add 7) (.string x10) fun h12 =>
  stc h12 e0 (.int .i64 0) fun h13 =>
  Kr h13) E h3) E h2) E h1
structure ipv4_Parse.J4 (s0 : ByteArray) (h0 : Addr) (e0 : Addr) (x0 : Addr) (Kr : Heap → Prop) (E : Value → Heap → Prop) (H : Heap) : Prop where
  h : ipv4_Parse.J4.vc s0 h0 e0 x0 Kr E H
def ipv4_Parse.J3.vc (s0 : ByteArray) (h0 : Addr) (e0 : Addr) (n0 : Int) (Kr : Heap → Prop) (E : Value → Heap → Prop) (h1 : Heap) : Prop :=
  ipv4_check.c ((s0.size : Int) == n0) 6 (fun h2 =>
  (0 : Int) ≤ 1 ∧ 1 < (s0.size : Int) ∧
  (0 : Int) ≤ 4 ∧ 4 ≤ (6 : Int) ∧ 6 ≤ (s0.size : Int) ∧
  (0 : Int) ≤ 6 ∧ 6 ≤ (8 : Int) ∧ 8 ≤ (s0.size : Int) ∧
  (0 : Int) ≤ 8 ∧ 8 < (s0.size : Int) ∧
  (0 : Int) ≤ 9 ∧ 9 < (s0.size : Int) ∧
  (0 : Int) ≤ 12 ∧ 12 ≤ (16 : Int) ∧ 16 ≤ (s0.size : Int) ∧
  (0 : Int) ≤ 16 ∧ 16 ≤ (20 : Int) ∧ 20 ≤ (s0.size : Int) ∧
  (0 : Int) ≤ 20 ∧ 20 ≤ (s0.size : Int) ∧ s0.size ≤ s0.size ∧
  (ipv4_get.c (s0.extract 4 6) (fun x0 h3 =>
  (eqv h3 h3 (some (.int .i64 (IntKind.i64.wrap (bt s0 9)))) (.int .i64 (IntKind.i64.wrap (bt s0 9)))) ∧
  (eqv h3 h3 (some (.int .i64 (IntKind.i64.wrap (bt s0 8)))) (.int .i64 (IntKind.i64.wrap (bt s0 8)))) ∧
  (eqv h3 h3 (some (.int .i64 (IntKind.i64.wrap (bt s0 1)))) (.int .i64 (IntKind.i64.wrap (bt s0 1)))) ∧
  (ipv4_get.c (s0.extract 6 8) (fun x1 h4 =>
  (eqv h4 h4 (some (.int .i64 (IntKind.i64.wrap x0))) (.int .i64 (IntKind.i64.wrap x0))) ∧
  (eqv h4 h4 (some (.int .i64 (IntKind.i64.wrap (bt s0 9)))) (.int .i64 (IntKind.i64.wrap (bt s0 9)))) ∧
  (eqv h4 h4 (some (.int .i64 (IntKind.i64.wrap (bt s0 8)))) (.int .i64 (IntKind.i64.wrap (bt s0 8)))) ∧
  (eqv h4 h4 (some (.int .i64 (IntKind.i64.wrap (bt s0 1)))) (.int .i64 (IntKind.i64.wrap (bt s0 1)))) ∧
  (ipv4_get.c (s0.extract 12 16) (fun x2 h5 =>
  (eqv h5 h5 (some (.int .i64 (IntKind.i64.wrap x1))) (.int .i64 (IntKind.i64.wrap x1))) ∧
  (eqv h5 h5 (some (.int .i64 (IntKind.i64.wrap x0))) (.int .i64 (IntKind.i64.wrap x0))) ∧
  (eqv h5 h5 (some (.int .i64 (IntKind.i64.wrap (bt s0 9)))) (.int .i64 (IntKind.i64.wrap (bt s0 9)))) ∧
  (eqv h5 h5 (some (.int .i64 (IntKind.i64.wrap (bt s0 8)))) (.int .i64 (IntKind.i64.wrap (bt s0 8)))) ∧
  (eqv h5 h5 (some (.int .i64 (IntKind.i64.wrap (bt s0 1)))) (.int .i64 (IntKind.i64.wrap (bt s0 1)))) ∧
  (ipv4_get.c (s0.extract 16 20) (fun x3 h6 =>
  (eqv h6 h6 (some (.int .i64 (IntKind.i64.wrap x1))) (.int .i64 (IntKind.i64.wrap x1))) ∧
  (eqv h6 h6 (some (.int .i64 (IntKind.i64.wrap x0))) (.int .i64 (IntKind.i64.wrap x0))) ∧
  (eqv h6 h6 (some (.int .i64 (IntKind.i64.wrap (bt s0 9)))) (.int .i64 (IntKind.i64.wrap (bt s0 9)))) ∧
  (eqv h6 h6 (some (.int .i64 (IntKind.i64.wrap (bt s0 8)))) (.int .i64 (IntKind.i64.wrap (bt s0 8)))) ∧
  (eqv h6 h6 (some (.int .i64 (IntKind.i64.wrap (bt s0 1)))) (.int .i64 (IntKind.i64.wrap (bt s0 1)))) ∧
  newB (.cells #[(.int .i64 0), (.int .i64 0), (.int .i64 0), (.int .i64 0), (.int .i64 0), (.int .u32 0), (.int .u32 0), (.string (⟨#[]⟩ : ByteArray))] 58) (fun b0 h7 =>
  (eqv h7 h7 (some (.int .i64 (IntKind.i64.wrap x1))) (.int .i64 (IntKind.i64.wrap x1))) ∧
  (eqv h7 h7 (some (.int .i64 (IntKind.i64.wrap x0))) (.int .i64 (IntKind.i64.wrap x0))) ∧
  (eqv h7 h7 (some (.int .i64 (IntKind.i64.wrap (bt s0 9)))) (.int .i64 (IntKind.i64.wrap (bt s0 9)))) ∧
  (eqv h7 h7 (some (.int .i64 (IntKind.i64.wrap (bt s0 8)))) (.int .i64 (IntKind.i64.wrap (bt s0 8)))) ∧
  (eqv h7 h7 (some (.int .i64 (IntKind.i64.wrap (bt s0 1)))) (.int .i64 (IntKind.i64.wrap (bt s0 1)))) ∧
  stc h7 ((⟨b0, 0, none⟩ : Addr).add 0) (.int .i64 (IntKind.i64.wrap (bt s0 1))) fun h8 =>
  stc h8 ((⟨b0, 0, none⟩ : Addr).add 1) (.int .i64 (IntKind.i64.wrap x0)) fun h9 =>
  stc h9 ((⟨b0, 0, none⟩ : Addr).add 2) (.int .i64 (IntKind.i64.wrap x1)) fun h10 =>
  stc h10 ((⟨b0, 0, none⟩ : Addr).add 3) (.int .i64 (IntKind.i64.wrap (bt s0 8))) fun h11 =>
  stc h11 ((⟨b0, 0, none⟩ : Addr).add 4) (.int .i64 (IntKind.i64.wrap (bt s0 9))) fun h12 =>
  stc h12 ((⟨b0, 0, none⟩ : Addr).add 5) (.int .u32 x2) fun h13 =>
  stc h13 ((⟨b0, 0, none⟩ : Addr).add 6) (.int .u32 x3) fun h14 =>
  stc h14 ((⟨b0, 0, none⟩ : Addr).add 7) (.string (s0.extract 20 s0.size)) fun h15 =>
  ipv4_Parse.J4 s0 h0 e0 (⟨b0, 0, none⟩ : Addr) Kr E h15) h6) E h5) ∧
  newB (.cells #[(.int .i64 0), (.int .i64 0), (.int .i64 0), (.int .i64 0), (.int .i64 0), (.int .u32 0), (.int .u32 0), (.string (⟨#[]⟩ : ByteArray))] 58) (fun b1 h17 =>
  (eqv h17 h17 (some (.int .i64 (IntKind.i64.wrap x1))) (.int .i64 (IntKind.i64.wrap x1))) ∧
  (eqv h17 h17 (some (.int .i64 (IntKind.i64.wrap x0))) (.int .i64 (IntKind.i64.wrap x0))) ∧
  (eqv h17 h17 (some (.int .i64 (IntKind.i64.wrap (bt s0 9)))) (.int .i64 (IntKind.i64.wrap (bt s0 9)))) ∧
  (eqv h17 h17 (some (.int .i64 (IntKind.i64.wrap (bt s0 8)))) (.int .i64 (IntKind.i64.wrap (bt s0 8)))) ∧
  (eqv h17 h17 (some (.int .i64 (IntKind.i64.wrap (bt s0 1)))) (.int .i64 (IntKind.i64.wrap (bt s0 1)))) ∧
  ipv4_get.c (s0.extract 16 20) (fun x4 h18 =>
  (eqv h18 h18 (some (.int .i64 (IntKind.i64.wrap x1))) (.int .i64 (IntKind.i64.wrap x1))) ∧
  (eqv h18 h18 (some (.int .i64 (IntKind.i64.wrap x0))) (.int .i64 (IntKind.i64.wrap x0))) ∧
  (eqv h18 h18 (some (.int .i64 (IntKind.i64.wrap (bt s0 9)))) (.int .i64 (IntKind.i64.wrap (bt s0 9)))) ∧
  (eqv h18 h18 (some (.int .i64 (IntKind.i64.wrap (bt s0 8)))) (.int .i64 (IntKind.i64.wrap (bt s0 8)))) ∧
  (eqv h18 h18 (some (.int .i64 (IntKind.i64.wrap (bt s0 1)))) (.int .i64 (IntKind.i64.wrap (bt s0 1)))) ∧
  stc h18 ((⟨b1, 0, none⟩ : Addr).add 0) (.int .i64 (IntKind.i64.wrap (bt s0 1))) fun h19 =>
  stc h19 ((⟨b1, 0, none⟩ : Addr).add 1) (.int .i64 (IntKind.i64.wrap x0)) fun h20 =>
  stc h20 ((⟨b1, 0, none⟩ : Addr).add 2) (.int .i64 (IntKind.i64.wrap x1)) fun h21 =>
  stc h21 ((⟨b1, 0, none⟩ : Addr).add 3) (.int .i64 (IntKind.i64.wrap (bt s0 8))) fun h22 =>
  stc h22 ((⟨b1, 0, none⟩ : Addr).add 4) (.int .i64 (IntKind.i64.wrap (bt s0 9))) fun h23 =>
  stc h23 ((⟨b1, 0, none⟩ : Addr).add 5) (.int .u32 x2) fun h24 =>
  stc h24 ((⟨b1, 0, none⟩ : Addr).add 6) (.int .u32 x4) fun h25 =>
  stc h25 ((⟨b1, 0, none⟩ : Addr).add 7) (.string (s0.extract 20 s0.size)) fun h26 =>
  ipv4_Parse.J4 s0 h0 e0 (⟨b1, 0, none⟩ : Addr) Kr E h26) E h17) h5) E h4) ∧
  newB (.cells #[(.int .i64 0), (.int .i64 0), (.int .i64 0), (.int .i64 0), (.int .i64 0), (.int .u32 0), (.int .u32 0), (.string (⟨#[]⟩ : ByteArray))] 58) (fun b2 h28 =>
  (eqv h28 h28 (some (.int .i64 (IntKind.i64.wrap x1))) (.int .i64 (IntKind.i64.wrap x1))) ∧
  (eqv h28 h28 (some (.int .i64 (IntKind.i64.wrap x0))) (.int .i64 (IntKind.i64.wrap x0))) ∧
  (eqv h28 h28 (some (.int .i64 (IntKind.i64.wrap (bt s0 9)))) (.int .i64 (IntKind.i64.wrap (bt s0 9)))) ∧
  (eqv h28 h28 (some (.int .i64 (IntKind.i64.wrap (bt s0 8)))) (.int .i64 (IntKind.i64.wrap (bt s0 8)))) ∧
  (eqv h28 h28 (some (.int .i64 (IntKind.i64.wrap (bt s0 1)))) (.int .i64 (IntKind.i64.wrap (bt s0 1)))) ∧
  ipv4_get.c (s0.extract 12 16) (fun x5 h29 =>
  (eqv h29 h29 (some (.int .i64 (IntKind.i64.wrap x1))) (.int .i64 (IntKind.i64.wrap x1))) ∧
  (eqv h29 h29 (some (.int .i64 (IntKind.i64.wrap x0))) (.int .i64 (IntKind.i64.wrap x0))) ∧
  (eqv h29 h29 (some (.int .i64 (IntKind.i64.wrap (bt s0 9)))) (.int .i64 (IntKind.i64.wrap (bt s0 9)))) ∧
  (eqv h29 h29 (some (.int .i64 (IntKind.i64.wrap (bt s0 8)))) (.int .i64 (IntKind.i64.wrap (bt s0 8)))) ∧
  (eqv h29 h29 (some (.int .i64 (IntKind.i64.wrap (bt s0 1)))) (.int .i64 (IntKind.i64.wrap (bt s0 1)))) ∧
  ipv4_get.c (s0.extract 16 20) (fun x6 h30 =>
  (eqv h30 h30 (some (.int .i64 (IntKind.i64.wrap x1))) (.int .i64 (IntKind.i64.wrap x1))) ∧
  (eqv h30 h30 (some (.int .i64 (IntKind.i64.wrap x0))) (.int .i64 (IntKind.i64.wrap x0))) ∧
  (eqv h30 h30 (some (.int .i64 (IntKind.i64.wrap (bt s0 9)))) (.int .i64 (IntKind.i64.wrap (bt s0 9)))) ∧
  (eqv h30 h30 (some (.int .i64 (IntKind.i64.wrap (bt s0 8)))) (.int .i64 (IntKind.i64.wrap (bt s0 8)))) ∧
  (eqv h30 h30 (some (.int .i64 (IntKind.i64.wrap (bt s0 1)))) (.int .i64 (IntKind.i64.wrap (bt s0 1)))) ∧
  stc h30 ((⟨b2, 0, none⟩ : Addr).add 0) (.int .i64 (IntKind.i64.wrap (bt s0 1))) fun h31 =>
  stc h31 ((⟨b2, 0, none⟩ : Addr).add 1) (.int .i64 (IntKind.i64.wrap x0)) fun h32 =>
  stc h32 ((⟨b2, 0, none⟩ : Addr).add 2) (.int .i64 (IntKind.i64.wrap x1)) fun h33 =>
  stc h33 ((⟨b2, 0, none⟩ : Addr).add 3) (.int .i64 (IntKind.i64.wrap (bt s0 8))) fun h34 =>
  stc h34 ((⟨b2, 0, none⟩ : Addr).add 4) (.int .i64 (IntKind.i64.wrap (bt s0 9))) fun h35 =>
  stc h35 ((⟨b2, 0, none⟩ : Addr).add 5) (.int .u32 x5) fun h36 =>
  stc h36 ((⟨b2, 0, none⟩ : Addr).add 6) (.int .u32 x6) fun h37 =>
  stc h37 ((⟨b2, 0, none⟩ : Addr).add 7) (.string (s0.extract 20 s0.size)) fun h38 =>
  ipv4_Parse.J4 s0 h0 e0 (⟨b2, 0, none⟩ : Addr) Kr E h38) E h29) E h28) h4) E h3) ∧
  newB (.cells #[(.int .i64 0), (.int .i64 0), (.int .i64 0), (.int .i64 0), (.int .i64 0), (.int .u32 0), (.int .u32 0), (.string (⟨#[]⟩ : ByteArray))] 58) (fun b3 h40 =>
  (eqv h40 h40 (some (.int .i64 (IntKind.i64.wrap x0))) (.int .i64 (IntKind.i64.wrap x0))) ∧
  (eqv h40 h40 (some (.int .i64 (IntKind.i64.wrap (bt s0 9)))) (.int .i64 (IntKind.i64.wrap (bt s0 9)))) ∧
  (eqv h40 h40 (some (.int .i64 (IntKind.i64.wrap (bt s0 8)))) (.int .i64 (IntKind.i64.wrap (bt s0 8)))) ∧
  (eqv h40 h40 (some (.int .i64 (IntKind.i64.wrap (bt s0 1)))) (.int .i64 (IntKind.i64.wrap (bt s0 1)))) ∧
  ipv4_get.c (s0.extract 6 8) (fun x7 h41 =>
  (eqv h41 h41 (some (.int .i64 (IntKind.i64.wrap x0))) (.int .i64 (IntKind.i64.wrap x0))) ∧
  (eqv h41 h41 (some (.int .i64 (IntKind.i64.wrap (bt s0 9)))) (.int .i64 (IntKind.i64.wrap (bt s0 9)))) ∧
  (eqv h41 h41 (some (.int .i64 (IntKind.i64.wrap (bt s0 8)))) (.int .i64 (IntKind.i64.wrap (bt s0 8)))) ∧
  (eqv h41 h41 (some (.int .i64 (IntKind.i64.wrap (bt s0 1)))) (.int .i64 (IntKind.i64.wrap (bt s0 1)))) ∧
  ipv4_get.c (s0.extract 12 16) (fun x8 h42 =>
  (eqv h42 h42 (some (.int .i64 (IntKind.i64.wrap x7))) (.int .i64 (IntKind.i64.wrap x7))) ∧
  (eqv h42 h42 (some (.int .i64 (IntKind.i64.wrap x0))) (.int .i64 (IntKind.i64.wrap x0))) ∧
  (eqv h42 h42 (some (.int .i64 (IntKind.i64.wrap (bt s0 9)))) (.int .i64 (IntKind.i64.wrap (bt s0 9)))) ∧
  (eqv h42 h42 (some (.int .i64 (IntKind.i64.wrap (bt s0 8)))) (.int .i64 (IntKind.i64.wrap (bt s0 8)))) ∧
  (eqv h42 h42 (some (.int .i64 (IntKind.i64.wrap (bt s0 1)))) (.int .i64 (IntKind.i64.wrap (bt s0 1)))) ∧
  ipv4_get.c (s0.extract 16 20) (fun x9 h43 =>
  (eqv h43 h43 (some (.int .i64 (IntKind.i64.wrap x7))) (.int .i64 (IntKind.i64.wrap x7))) ∧
  (eqv h43 h43 (some (.int .i64 (IntKind.i64.wrap x0))) (.int .i64 (IntKind.i64.wrap x0))) ∧
  (eqv h43 h43 (some (.int .i64 (IntKind.i64.wrap (bt s0 9)))) (.int .i64 (IntKind.i64.wrap (bt s0 9)))) ∧
  (eqv h43 h43 (some (.int .i64 (IntKind.i64.wrap (bt s0 8)))) (.int .i64 (IntKind.i64.wrap (bt s0 8)))) ∧
  (eqv h43 h43 (some (.int .i64 (IntKind.i64.wrap (bt s0 1)))) (.int .i64 (IntKind.i64.wrap (bt s0 1)))) ∧
  stc h43 ((⟨b3, 0, none⟩ : Addr).add 0) (.int .i64 (IntKind.i64.wrap (bt s0 1))) fun h44 =>
  stc h44 ((⟨b3, 0, none⟩ : Addr).add 1) (.int .i64 (IntKind.i64.wrap x0)) fun h45 =>
  stc h45 ((⟨b3, 0, none⟩ : Addr).add 2) (.int .i64 (IntKind.i64.wrap x7)) fun h46 =>
  stc h46 ((⟨b3, 0, none⟩ : Addr).add 3) (.int .i64 (IntKind.i64.wrap (bt s0 8))) fun h47 =>
  stc h47 ((⟨b3, 0, none⟩ : Addr).add 4) (.int .i64 (IntKind.i64.wrap (bt s0 9))) fun h48 =>
  stc h48 ((⟨b3, 0, none⟩ : Addr).add 5) (.int .u32 x8) fun h49 =>
  stc h49 ((⟨b3, 0, none⟩ : Addr).add 6) (.int .u32 x9) fun h50 =>
  stc h50 ((⟨b3, 0, none⟩ : Addr).add 7) (.string (s0.extract 20 s0.size)) fun h51 =>
  ipv4_Parse.J4 s0 h0 e0 (⟨b3, 0, none⟩ : Addr) Kr E h51) E h42) E h41) E h40) h3) E h2) ∧
  newB (.cells #[(.int .i64 0), (.int .i64 0), (.int .i64 0), (.int .i64 0), (.int .i64 0), (.int .u32 0), (.int .u32 0), (.string (⟨#[]⟩ : ByteArray))] 58) (fun b4 h53 =>
  (eqv h53 h53 (some (.int .i64 (IntKind.i64.wrap (bt s0 9)))) (.int .i64 (IntKind.i64.wrap (bt s0 9)))) ∧
  (eqv h53 h53 (some (.int .i64 (IntKind.i64.wrap (bt s0 8)))) (.int .i64 (IntKind.i64.wrap (bt s0 8)))) ∧
  (eqv h53 h53 (some (.int .i64 (IntKind.i64.wrap (bt s0 1)))) (.int .i64 (IntKind.i64.wrap (bt s0 1)))) ∧
  ipv4_get.c (s0.extract 4 6) (fun x10 h54 =>
  (eqv h54 h54 (some (.int .i64 (IntKind.i64.wrap (bt s0 9)))) (.int .i64 (IntKind.i64.wrap (bt s0 9)))) ∧
  (eqv h54 h54 (some (.int .i64 (IntKind.i64.wrap (bt s0 8)))) (.int .i64 (IntKind.i64.wrap (bt s0 8)))) ∧
  (eqv h54 h54 (some (.int .i64 (IntKind.i64.wrap (bt s0 1)))) (.int .i64 (IntKind.i64.wrap (bt s0 1)))) ∧
  ipv4_get.c (s0.extract 6 8) (fun x11 h55 =>
  (eqv h55 h55 (some (.int .i64 (IntKind.i64.wrap x10))) (.int .i64 (IntKind.i64.wrap x10))) ∧
  (eqv h55 h55 (some (.int .i64 (IntKind.i64.wrap (bt s0 9)))) (.int .i64 (IntKind.i64.wrap (bt s0 9)))) ∧
  (eqv h55 h55 (some (.int .i64 (IntKind.i64.wrap (bt s0 8)))) (.int .i64 (IntKind.i64.wrap (bt s0 8)))) ∧
  (eqv h55 h55 (some (.int .i64 (IntKind.i64.wrap (bt s0 1)))) (.int .i64 (IntKind.i64.wrap (bt s0 1)))) ∧
  ipv4_get.c (s0.extract 12 16) (fun x12 h56 =>
  (eqv h56 h56 (some (.int .i64 (IntKind.i64.wrap x11))) (.int .i64 (IntKind.i64.wrap x11))) ∧
  (eqv h56 h56 (some (.int .i64 (IntKind.i64.wrap x10))) (.int .i64 (IntKind.i64.wrap x10))) ∧
  (eqv h56 h56 (some (.int .i64 (IntKind.i64.wrap (bt s0 9)))) (.int .i64 (IntKind.i64.wrap (bt s0 9)))) ∧
  (eqv h56 h56 (some (.int .i64 (IntKind.i64.wrap (bt s0 8)))) (.int .i64 (IntKind.i64.wrap (bt s0 8)))) ∧
  (eqv h56 h56 (some (.int .i64 (IntKind.i64.wrap (bt s0 1)))) (.int .i64 (IntKind.i64.wrap (bt s0 1)))) ∧
  ipv4_get.c (s0.extract 16 20) (fun x13 h57 =>
  (eqv h57 h57 (some (.int .i64 (IntKind.i64.wrap x11))) (.int .i64 (IntKind.i64.wrap x11))) ∧
  (eqv h57 h57 (some (.int .i64 (IntKind.i64.wrap x10))) (.int .i64 (IntKind.i64.wrap x10))) ∧
  (eqv h57 h57 (some (.int .i64 (IntKind.i64.wrap (bt s0 9)))) (.int .i64 (IntKind.i64.wrap (bt s0 9)))) ∧
  (eqv h57 h57 (some (.int .i64 (IntKind.i64.wrap (bt s0 8)))) (.int .i64 (IntKind.i64.wrap (bt s0 8)))) ∧
  (eqv h57 h57 (some (.int .i64 (IntKind.i64.wrap (bt s0 1)))) (.int .i64 (IntKind.i64.wrap (bt s0 1)))) ∧
  stc h57 ((⟨b4, 0, none⟩ : Addr).add 0) (.int .i64 (IntKind.i64.wrap (bt s0 1))) fun h58 =>
  stc h58 ((⟨b4, 0, none⟩ : Addr).add 1) (.int .i64 (IntKind.i64.wrap x10)) fun h59 =>
  stc h59 ((⟨b4, 0, none⟩ : Addr).add 2) (.int .i64 (IntKind.i64.wrap x11)) fun h60 =>
  stc h60 ((⟨b4, 0, none⟩ : Addr).add 3) (.int .i64 (IntKind.i64.wrap (bt s0 8))) fun h61 =>
  stc h61 ((⟨b4, 0, none⟩ : Addr).add 4) (.int .i64 (IntKind.i64.wrap (bt s0 9))) fun h62 =>
  stc h62 ((⟨b4, 0, none⟩ : Addr).add 5) (.int .u32 x12) fun h63 =>
  stc h63 ((⟨b4, 0, none⟩ : Addr).add 6) (.int .u32 x13) fun h64 =>
  stc h64 ((⟨b4, 0, none⟩ : Addr).add 7) (.string (s0.extract 20 s0.size)) fun h65 =>
  ipv4_Parse.J4 s0 h0 e0 (⟨b4, 0, none⟩ : Addr) Kr E h65) E h56) E h55) E h54) E h53) h2) E h1
structure ipv4_Parse.J3 (s0 : ByteArray) (h0 : Addr) (e0 : Addr) (n0 : Int) (Kr : Heap → Prop) (E : Value → Heap → Prop) (H : Heap) : Prop where
  h : ipv4_Parse.J3.vc s0 h0 e0 n0 Kr E H
def ipv4_Parse.J2.vc (s0 : ByteArray) (h0 : Addr) (e0 : Addr) (Kr : Heap → Prop) (E : Value → Heap → Prop) (h1 : Heap) : Prop :=
  ipv4_check.c (decide ((s0.size : Int) ≥ 20)) 1 (fun h2 =>
  (0 : Int) ≤ 0 ∧ 0 < (s0.size : Int) ∧
  ipv4_check.c ((bt s0 0) == 69) 3 (fun h3 =>
  (0 : Int) ≤ 2 ∧ 2 ≤ (4 : Int) ∧ 4 ≤ (s0.size : Int) ∧
  ipv4_get.c (s0.extract 2 4) (fun x0 h4 =>
  (if (decide ((IntKind.i64.wrap x0) ≥ 20)) = true then
  ipv4_check.c (decide ((s0.size : Int) ≥ (IntKind.i64.wrap x0))) 1 (fun h5 =>
  ipv4_Parse.J3 s0 h0 e0 (IntKind.i64.wrap x0) Kr E h5) E h4
  else
  ipv4_check.c false 1 (fun h7 =>
  ipv4_Parse.J3 s0 h0 e0 (IntKind.i64.wrap x0) Kr E h7) E h4)) E h3) E h2) E h1
structure ipv4_Parse.J2 (s0 : ByteArray) (h0 : Addr) (e0 : Addr) (Kr : Heap → Prop) (E : Value → Heap → Prop) (H : Heap) : Prop where
  h : ipv4_Parse.J2.vc s0 h0 e0 Kr E H
noncomputable def ipv4_Parse.Γ : FuncId → Option FT := Γof [(57, ipv4_check.F), (58, ipv4_get.F), (59, ipv4_Sum.F)]
theorem ipv4_Parse.hΓ : ∀ f F, ipv4_Parse.Γ f = some F → CalleeOk Try.prog f F := Γof_ok (List.forall_mem_cons.2 ⟨ipv4_check.ok, List.forall_mem_cons.2 ⟨ipv4_get.ok, List.forall_mem_cons.2 ⟨ipv4_Sum.ok, fun _ h => nomatch h⟩⟩⟩)
def ipv4_Parse.J1.t : CT := fun Q E fr H => lenIs 72 fr (slS fr 0 fun s0 => ipv4_Parse.J1 s0 (fun y2_0 y3_0 H => Q .normal (mkF 72 [(0, (.string s0)), (2, (.pointer (some y2_0))), (3, (.pointer (some y3_0)))]) H) E H)
noncomputable def ipv4_Parse.J1.plan : Plan := .go
theorem ipv4_Parse.J1.pok : PlanOk Try.prog ipv4_Parse.J1.plan (sub [0] ipv4_Parse.body) := by
  have e : PlanOk Try.prog ipv4_Parse.J1.plan (sub [0] ipv4_Parse.body) = (True) := by kernel_rfl
  exact e.mpr trivial
theorem ipv4_Parse.J1.eq (s0 : ByteArray) (Q : Ex → Fr → Heap → Prop) (E : Value → Heap → Prop) (H : Heap) :
    ipv4_Parse.J1.vc s0 (fun y2_0 y3_0 H => Q .normal (mkF 72 [(0, (.string s0)), (2, (.pointer (some y2_0))), (3, (.pointer (some y3_0)))]) H) E H = keepT [0, 2, 3] [] (fun i => []) (wC Try.prog ipv4_Parse.Γ ipv4_Parse.J1.plan (sub [0] ipv4_Parse.body)) Q E (mkF 72 [(0, (.string s0))]) H := by
  kernel_rfl
theorem ipv4_Parse.J1.ok : SoundCode Try.prog (sub [0] ipv4_Parse.body) ipv4_Parse.J1.t := by
  refine piece_sound (keepT_sound [0, 2, 3] [] (fun i => []) (wC_sound ipv4_Parse.hΓ Try.hm ipv4_Parse.J1.plan _ ipv4_Parse.J1.pok)) ?_
  intro Q E fr H h
  unfold ipv4_Parse.J1.t at h
  obtain ⟨hl, h⟩ := lenIs_elim h
  obtain ⟨s0, q0, h⟩ := slS_elim h
  refine ⟨(mkF 72 [(0, (.string s0))]), fun a ha => ha.mk (Nat.le_of_eq hl.symm) (List.forall_mem_cons.2 ⟨q0, fun _ h => nomatch h⟩), ?_⟩
  have e := ipv4_Parse.J1.eq s0 Q E H
  rw [← e]
  exact h.h
def ipv4_Parse.J4.t : CT := fun Q E fr H => lenIs 72 fr (slS fr 0 fun s0 => slPA fr 2 fun h0 => slPA fr 3 fun e0 => slPA fr 5 fun x0 => ipv4_Parse.J4 s0 h0 e0 x0 (fun  H => Q .ret (mkF 72 [(2, (.pointer (some h0))), (3, (.pointer (some e0)))]) H) E H)
noncomputable def ipv4_Parse.J4.plan : Plan := .seq (.draw ⟨[0, 1, 2, 3, 4, 5, 6, 7, 8, 9, 10, 11, 12], (dl [(0, []), (1, []), (2, []), (3, []), (4, []), (5, []), (7, []), (8, []), (6, [5, 2, 4, 1, 3, 0]), (9, [8, 6, 7, 5, 2, 4, 1, 3, 0]), (10, []), (11, []), (12, [11, 9, 6, 10, 8, 5, 7, 2, 4, 1, 3, 0])] .fin), []⟩) (.go)
theorem ipv4_Parse.J4.pok : PlanOk Try.prog ipv4_Parse.J4.plan (sub [1, 1, 1, 1, 1, 1, 1, 1] ipv4_Parse.body) := by
  have e : PlanOk Try.prog ipv4_Parse.J4.plan (sub [1, 1, 1, 1, 1, 1, 1, 1] ipv4_Parse.body) = ((True) ∧ (True)) := by kernel_rfl
  exact e.mpr ⟨trivial, trivial⟩
theorem ipv4_Parse.J4.eq (s0 : ByteArray) (h0 : Addr) (e0 : Addr) (x0 : Addr) (Q : Ex → Fr → Heap → Prop) (E : Value → Heap → Prop) (H : Heap) :
    ipv4_Parse.J4.vc s0 h0 e0 x0 (fun  H => Q .ret (mkF 72 [(2, (.pointer (some h0))), (3, (.pointer (some e0)))]) H) E H = keepT [] [2, 3] (fun i => []) (wC Try.prog ipv4_Parse.Γ ipv4_Parse.J4.plan (sub [1, 1, 1, 1, 1, 1, 1, 1] ipv4_Parse.body)) Q E (mkF 72 [(0, (.string s0)), (2, (.pointer (some h0))), (3, (.pointer (some e0))), (5, (.pointer (some x0)))]) H := by
  kernel_rfl
theorem ipv4_Parse.J4.ok : SoundCode Try.prog (sub [1, 1, 1, 1, 1, 1, 1, 1] ipv4_Parse.body) ipv4_Parse.J4.t := by
  refine piece_sound (keepT_sound [] [2, 3] (fun i => []) (wC_sound ipv4_Parse.hΓ Try.hm ipv4_Parse.J4.plan _ ipv4_Parse.J4.pok)) ?_
  intro Q E fr H h
  unfold ipv4_Parse.J4.t at h
  obtain ⟨hl, h⟩ := lenIs_elim h
  obtain ⟨s0, q0, h⟩ := slS_elim h
  obtain ⟨h0, q2, h⟩ := slPA_elim h
  obtain ⟨e0, q3, h⟩ := slPA_elim h
  obtain ⟨x0, q5, h⟩ := slPA_elim h
  refine ⟨(mkF 72 [(0, (.string s0)), (2, (.pointer (some h0))), (3, (.pointer (some e0))), (5, (.pointer (some x0)))]), fun a ha => ha.mk (Nat.le_of_eq hl.symm) (List.forall_mem_cons.2 ⟨q0, List.forall_mem_cons.2 ⟨q2, List.forall_mem_cons.2 ⟨q3, List.forall_mem_cons.2 ⟨q5, fun _ h => nomatch h⟩⟩⟩⟩), ?_⟩
  have e := ipv4_Parse.J4.eq s0 h0 e0 x0 Q E H
  rw [← e]
  exact h.h
def ipv4_Parse.J3.t : CT := fun Q E fr H => lenIs 72 fr (slS fr 0 fun s0 => slPA fr 2 fun h0 => slPA fr 3 fun e0 => slI fr 4 .i64 fun n0 => ipv4_Parse.J3 s0 h0 e0 n0 (fun  H => Q .ret (mkF 72 [(2, (.pointer (some h0))), (3, (.pointer (some e0)))]) H) E H)
noncomputable def ipv4_Parse.J3.plan : Plan := .seq (.go) (.seq (.draw ⟨[0, 1, 2, 3, 4, 5, 6, 7, 8, 9, 10, 11, 12, 13, 14, 15, 16, 17, 18, 19, 20, 21, 22, 23, 24, 25, 26, 27], (dl [(0, []), (1, []), (2, []), (3, []), (4, []), (7, []), (8, []), (11, []), (12, []), (13, []), (14, []), (15, []), (16, []), (17, []), (18, []), (20, []), (21, []), (23, []), (24, [])] (.alt (dl [(5, [4, 3]), (6, [])] (.alt (dl [(9, [8, 5, 7, 4, 3]), (10, [])] (.alt (dl [(19, [18, 9, 17, 8, 5, 7, 4, 3])] (.alt (dl [(22, [21, 19, 20, 18, 9, 17, 8, 5, 7, 4, 3]), (25, []), (26, []), (27, [26, 25, 22, 0, 1, 2, 3, 4, 5, 6, 7, 8, 9, 10, 11, 12, 13, 14, 15, 16, 17, 18, 19, 20, 21, 23, 24])] .fin) (dl [(26, []), (22, [21, 19, 20, 18, 9, 17, 8, 5, 7, 4, 3]), (25, []), (27, [26, 25, 22, 0, 1, 2, 3, 4, 5, 6, 7, 8, 9, 10, 11, 12, 13, 14, 15, 16, 17, 18, 19, 20, 21, 23, 24])] .fin))) (dl [(26, []), (19, [18, 9, 17, 8, 5, 7, 4, 3]), (22, [21, 19, 20, 18, 9, 17, 8, 5, 7, 4, 3]), (25, []), (27, [26, 25, 22, 0, 1, 2, 3, 4, 5, 6, 7, 8, 9, 10, 11, 12, 13, 14, 15, 16, 17, 18, 19, 20, 21, 23, 24])] .fin))) (dl [(26, []), (9, [8, 5, 7, 4, 3]), (10, []), (19, [18, 9, 17, 8, 5, 7, 4, 3]), (22, [21, 19, 20, 18, 9, 17, 8, 5, 7, 4, 3]), (25, []), (27, [26, 25, 22, 0, 1, 2, 3, 4, 5, 6, 7, 8, 9, 10, 11, 12, 13, 14, 15, 16, 17, 18, 19, 20, 21, 23, 24])] .fin))) (dl [(26, []), (5, [4, 3]), (6, []), (9, [8, 5, 7, 4, 3]), (10, []), (19, [18, 9, 17, 8, 5, 7, 4, 3]), (22, [21, 19, 20, 18, 9, 17, 8, 5, 7, 4, 3]), (25, []), (27, [26, 25, 22, 0, 1, 2, 3, 4, 5, 6, 7, 8, 9, 10, 11, 12, 13, 14, 15, 16, 17, 18, 19, 20, 21, 23, 24])] .fin))), []⟩) (.use ipv4_Parse.J4.t))
theorem ipv4_Parse.J3.pok : PlanOk Try.prog ipv4_Parse.J3.plan (sub [1, 1, 1, 1, 1, 1] ipv4_Parse.body) := by
  have e : PlanOk Try.prog ipv4_Parse.J3.plan (sub [1, 1, 1, 1, 1, 1] ipv4_Parse.body) = ((True) ∧ ((True) ∧ (SoundCode Try.prog (sub [1, 1, 1, 1, 1, 1, 1, 1] ipv4_Parse.body) ipv4_Parse.J4.t))) := by kernel_rfl
  exact e.mpr ⟨trivial, ⟨trivial, ipv4_Parse.J4.ok⟩⟩
theorem ipv4_Parse.J3.eq (s0 : ByteArray) (h0 : Addr) (e0 : Addr) (n0 : Int) (Q : Ex → Fr → Heap → Prop) (E : Value → Heap → Prop) (H : Heap) :
    ipv4_Parse.J3.vc s0 h0 e0 n0 (fun  H => Q .ret (mkF 72 [(2, (.pointer (some h0))), (3, (.pointer (some e0)))]) H) E H = keepT [] [2, 3] (fun i => []) (wC Try.prog ipv4_Parse.Γ ipv4_Parse.J3.plan (sub [1, 1, 1, 1, 1, 1] ipv4_Parse.body)) Q E (mkF 72 [(0, (.string s0)), (2, (.pointer (some h0))), (3, (.pointer (some e0))), (4, (.int .i64 n0))]) H := by
  kernel_rfl
theorem ipv4_Parse.J3.ok : SoundCode Try.prog (sub [1, 1, 1, 1, 1, 1] ipv4_Parse.body) ipv4_Parse.J3.t := by
  refine piece_sound (keepT_sound [] [2, 3] (fun i => []) (wC_sound ipv4_Parse.hΓ Try.hm ipv4_Parse.J3.plan _ ipv4_Parse.J3.pok)) ?_
  intro Q E fr H h
  unfold ipv4_Parse.J3.t at h
  obtain ⟨hl, h⟩ := lenIs_elim h
  obtain ⟨s0, q0, h⟩ := slS_elim h
  obtain ⟨h0, q2, h⟩ := slPA_elim h
  obtain ⟨e0, q3, h⟩ := slPA_elim h
  obtain ⟨n0, q4, h⟩ := slI_elim h
  refine ⟨(mkF 72 [(0, (.string s0)), (2, (.pointer (some h0))), (3, (.pointer (some e0))), (4, (.int .i64 n0))]), fun a ha => ha.mk (Nat.le_of_eq hl.symm) (List.forall_mem_cons.2 ⟨q0, List.forall_mem_cons.2 ⟨q2, List.forall_mem_cons.2 ⟨q3, List.forall_mem_cons.2 ⟨q4, fun _ h => nomatch h⟩⟩⟩⟩), ?_⟩
  have e := ipv4_Parse.J3.eq s0 h0 e0 n0 Q E H
  rw [← e]
  exact h.h
def ipv4_Parse.J2.t : CT := fun Q E fr H => lenIs 72 fr (slS fr 0 fun s0 => slPA fr 2 fun h0 => slPA fr 3 fun e0 => ipv4_Parse.J2 s0 h0 e0 (fun  H => Q .ret (mkF 72 [(2, (.pointer (some h0))), (3, (.pointer (some e0)))]) H) E H)
noncomputable def ipv4_Parse.J2.plan : Plan := .seq (.go) (.seq (.go) (.seq (.go) (.seq (.go) (.use ipv4_Parse.J3.t))))
theorem ipv4_Parse.J2.pok : PlanOk Try.prog ipv4_Parse.J2.plan (sub [1, 1] ipv4_Parse.body) := by
  have e : PlanOk Try.prog ipv4_Parse.J2.plan (sub [1, 1] ipv4_Parse.body) = ((True) ∧ ((True) ∧ ((True) ∧ ((True) ∧ (SoundCode Try.prog (sub [1, 1, 1, 1, 1, 1] ipv4_Parse.body) ipv4_Parse.J3.t))))) := by kernel_rfl
  exact e.mpr ⟨trivial, ⟨trivial, ⟨trivial, ⟨trivial, ipv4_Parse.J3.ok⟩⟩⟩⟩
theorem ipv4_Parse.J2.eq (s0 : ByteArray) (h0 : Addr) (e0 : Addr) (Q : Ex → Fr → Heap → Prop) (E : Value → Heap → Prop) (H : Heap) :
    ipv4_Parse.J2.vc s0 h0 e0 (fun  H => Q .ret (mkF 72 [(2, (.pointer (some h0))), (3, (.pointer (some e0)))]) H) E H = keepT [] [2, 3] (fun i => []) (wC Try.prog ipv4_Parse.Γ ipv4_Parse.J2.plan (sub [1, 1] ipv4_Parse.body)) Q E (mkF 72 [(0, (.string s0)), (2, (.pointer (some h0))), (3, (.pointer (some e0)))]) H := by
  kernel_rfl
theorem ipv4_Parse.J2.ok : SoundCode Try.prog (sub [1, 1] ipv4_Parse.body) ipv4_Parse.J2.t := by
  refine piece_sound (keepT_sound [] [2, 3] (fun i => []) (wC_sound ipv4_Parse.hΓ Try.hm ipv4_Parse.J2.plan _ ipv4_Parse.J2.pok)) ?_
  intro Q E fr H h
  unfold ipv4_Parse.J2.t at h
  obtain ⟨hl, h⟩ := lenIs_elim h
  obtain ⟨s0, q0, h⟩ := slS_elim h
  obtain ⟨h0, q2, h⟩ := slPA_elim h
  obtain ⟨e0, q3, h⟩ := slPA_elim h
  refine ⟨(mkF 72 [(0, (.string s0)), (2, (.pointer (some h0))), (3, (.pointer (some e0)))]), fun a ha => ha.mk (Nat.le_of_eq hl.symm) (List.forall_mem_cons.2 ⟨q0, List.forall_mem_cons.2 ⟨q2, List.forall_mem_cons.2 ⟨q3, fun _ h => nomatch h⟩⟩⟩), ?_⟩
  have e := ipv4_Parse.J2.eq s0 h0 e0 Q E H
  rw [← e]
  exact h.h
end Go.Sh
