/- A packet that comes once more changes nothing (part 29 of the walk and its laws) -/
import Derived.Test.YtkfkkkalcchpkaaGreatDoorTw2zb
namespace Go.Sh
open Go.Proofs
set_option maxRecDepth 8000
theorem took_pc {y : CS} {t : List UInt8} {k m : Nat} {cm : Bool} (hS : y.S = S1 { s0 with inb := inOrd (t.take k) (-1), came := cm }) (hsrv : y.c.srv = true) (hkm : k + m ≤ t.length) (hl : t.length ≤ 1000) :
    TakeOk y (pcF t k m) ∧ took y (pcF t k m) = { y with S := S1 { s0 with inb := inOrd (t.take (k + m)) (-1), came := true } } := by
  have hlen : (t.take k).length = k := by rw [List.length_take]; omega
  have hpz := pieceB_size hkm
  have hput := put_ord (l := t.take k) (d := pieceB t k m) (fin := false) (by rw [hlen, hpz]; omega)
  have hpl : (pieceB t k m).data.toList = (t.drop k).take m := rfl
  rw [hlen, hpl, ← List.take_add] at hput
  rw [if_neg (by decide)] at hput
  have hy0 : y.S 0 = { s0 with inb := inOrd (t.take k) (-1), came := cm } := by rw [hS, S1_0]
  refine ⟨⟨pcF_ok hkm hl, by show (8 : Int) ≠ 0; decide, fun _ => ⟨0, by decide, rfl, by rw [hsrv]; decide, ?_⟩⟩, ?_⟩
  · rw [hy0]
    exact hput.1
  · show ({ y with S := upS y.S 0 { y.S 0 with inb := putS (y.S 0).inb k (pieceB t k m) false, came := true } } : CS) = _
    rw [hy0]
    dsimp only
    rw [hput.2, hS]
    have e : ∀ s s', upS (S1 s) 0 s' = S1 s' := fun s s' => upS_upS _ _ _ _
    rw [e]
theorem took_gr {y : CS} {d : ByteArray} (h : y.c.got.length < 32) : took y (fmG d) = { y with c := { y.c with got := y.c.got ++ [d] } } := by
  unfold took
  rw [if_neg (show ¬ (fmG d).k = 8 from (by show ¬ (48 : Int) = 8; decide)), if_neg (show ¬ (fmG d).k = 28 from (by show ¬ (48 : Int) = 28; decide)), if_pos (show (fmG d).k = 48 from rfl), if_pos h]
  rfl
theorem gr_ok {y : CS} : TakeOk y (fmG gramB) := ⟨fmG_ok (by decide), by show (48 : Int) ≠ 0; decide, fun e => absurd e (by show ¬ (48 : Int) = 8; decide)⟩
theorem take_T {y : CS} {t : List UInt8} {k j : Nat} {g w : List ByteArray} (hb : BSt y t k j g) (hw : w = [] ∨ w = [gramB]) (hg : g.length ≤ 10) (hl : t.length ≤ 1000) (hk : k ≤ t.length) (hne : fsT t k w ≠ []) :
    TakesOk y (fsT t k w) ∧ ∃ y' ac, zwd y false (fsT t k w) = (y', ac) ∧ BSt y' t (kT t k) j (g ++ w) := by
  obtain ⟨cm, hS⟩ := hb.S
  have hph : ∀ {z : CS}, z.c.ph = 2 → ¬ z.c.ph = 3 := fun h => by omega
  by_cases hlt : k < t.length
  · have hkm : k + (kT t k - k) ≤ t.length := by unfold kT; omega
    have hke : k + (kT t k - k) = kT t k := by unfold kT; omega
    obtain ⟨p1, p2⟩ := took_pc hS hb.srv hkm hl
    rw [hke] at p2
    have b1 : BSt (took y (pcF t k (kT t k - k))) t (kT t k) j g := by rw [p2]; exact ⟨⟨true, rfl⟩, hb.m, hb.rx, hb.srv, hb.cid, hb.ph, hb.got⟩
    rcases hw with rfl | rfl
    · have e : fsT t k [] = [pcF t k (kT t k - k)] := by unfold fsT; rw [if_pos hlt]; rfl
      rw [e]
      refine ⟨⟨p1, fun _ => trivial⟩, _, _, takeAll_one, ?_⟩
      rw [List.append_nil]
      exact b1
    · have e : fsT t k [gramB] = [pcF t k (kT t k - k), fmG gramB] := by unfold fsT; rw [if_pos hlt]; rfl
      rw [e]
      refine ⟨⟨p1, fun _ => ⟨gr_ok, fun _ => trivial⟩⟩, took (took y (pcF t k (kT t k - k))) (fmG gramB), false || elic (pcF t k (kT t k - k)).k || elic (fmG gramB).k, ?_, ?_⟩
      · conv => lhs; unfold zwd
        rw [if_neg (hph b1.ph), takeAll_one]
      · rw [took_gr (by rw [b1.got]; omega)]
        exact ⟨b1.S, b1.m, b1.rx, b1.srv, b1.cid, b1.ph, by show (took y (pcF t k (kT t k - k))).c.got ++ [gramB] = _; rw [b1.got]⟩
  · have hke : kT t k = k := by unfold kT; omega
    rw [hke]
    rcases hw with rfl | rfl
    · exact absurd (by unfold fsT; rw [if_neg hlt]; rfl) hne
    · have e : fsT t k [gramB] = [fmG gramB] := by unfold fsT; rw [if_neg hlt]; rfl
      rw [e]
      refine ⟨⟨gr_ok, fun _ => trivial⟩, _, _, takeAll_one, ?_⟩
      rw [took_gr (by rw [hb.got]; omega)]
      exact ⟨hb.S, hb.m, hb.rx, hb.srv, hb.cid, hb.ph, by show y.c.got ++ [gramB] = _; rw [hb.got]⟩
section
variable {cb : Nat} {a : CA} {x : CS} {L : List Nat} {H : Heap} {E : Value → Heap → Prop}
theorem recv_step (h : CAt cb a x L H) (hap : Apart L H) {t : List UInt8} {k j : Nat} {g w : List ByteArray} (hb : BSt x t k j g) (hw : w = [] ∨ w = [gramB]) (hg : g.length ≤ 10) (hl : t.length ≤ 1000) (hk : k ≤ t.length) (hne : fsT t k w ≠ []) (hj : j ≤ 7) {now : Int} {K : Int → Heap → Prop}
    (hK : ∀ x' L' H', BSt x' t (kT t k) (j + 1) (g ++ w) → CAt cb a x' L' H' → Step L H L' H' → K 0 H') : zbb.c (some ⟨cb, 0, none⟩) now (pktN upK.data.toList 3 cidB j (padB (fsT t k w) 1000)) K E H := by
  obtain ⟨b, o, hrx, ho0, hoj⟩ := hb.rx
  obtain ⟨f1, f2⟩ := fsT_ok (k := k) hl hw
  obtain ⟨l1, _, _⟩ := fsT_len hl hk hw
  have hfr : FrIn (padB (fsT t k w) 1000) (fsT t k w) (1000 - 29 - (wrs (fsT t k w)).length) := FrIn.pad (fun f hf => ⟨(f1 f hf).1, (f1 f hf).2.1⟩) (by omega) (by omega) (by decide)
  have hy : ∀ o', 0 ≤ o' → o' ≤ o + 1 → BSt (x.rxo ⟨b, upK, 0, o⟩ o').mm t k (j + 1) g := fun o' h1 h2 => ⟨hb.S, by show x.m + 1 = _; rw [hb.m], ⟨b, o', rfl, h1, by omega⟩, hb.srv, hb.cid, hb.ph, hb.got⟩
  have hT : ∀ o', TakesOk (x.rxo ⟨b, upK, 0, o⟩ o').mm (fsT t k w) := fun o' => by
    -- what is taken does not hang on the key's count
    have hS : BSt { (x.rxo ⟨b, upK, 0, o⟩ o').mm with c := { (x.rxo ⟨b, upK, 0, o⟩ o').mm.c with rx := some ⟨b, upK, 0, 0⟩ } } t k (j + 1) g := ⟨hb.S, by show x.m + 1 = _; rw [hb.m], ⟨b, 0, rfl, by decide, by omega⟩, hb.srv, hb.cid, hb.ph, hb.got⟩
    obtain ⟨cm, hSS⟩ := hb.S
    have hph : ∀ {z : CS}, z.c.ph = 2 → ¬ z.c.ph = 3 := fun h => by omega
    unfold fsT
    by_cases hlt : k < t.length
    · rw [if_pos hlt]
      have hkm : k + (kT t k - k) ≤ t.length := by unfold kT; omega
      obtain ⟨p1, p2⟩ := took_pc (y := (x.rxo ⟨b, upK, 0, o⟩ o').mm) hSS hb.srv hkm hl
      rcases hw with rfl | rfl
      · exact ⟨p1, fun _ => trivial⟩
      · exact ⟨p1, fun _ => ⟨gr_ok, fun _ => trivial⟩⟩
    · rw [if_neg hlt]
      rcases hw with rfl | rfl
      · trivial
      · exact ⟨gr_ok, fun _ => trivial⟩
  have hcid := hb.cid
  have := zbb.data (E := E) (now := now) (K := K) (k := ⟨b, upK, 0, o⟩) (n := j) (s := upK.data.toList) h hap hb.ph hrx (by show o < 1000; omega) (by rw [hcid]; decide) hb.m.symm (by rw [hb.m]; exact hj) hfr hT rfl fun o' L' H' q1 q2 h' s' => by
    obtain ⟨_, y', ac, e1, e2⟩ := take_T (hy o' q1 q2) hw hg hl hk hne
    refine hK _ L' H' ?_ h' s'
    unfold opnd
    rw [e1]
    exact ⟨e2.S, e2.m, e2.rx, e2.srv, e2.cid, e2.ph, e2.got⟩
  rw [hcid] at this
  exact this
theorem send_step (h : CAt cb a x L H) (hap : Apart L H) {t : List UInt8} {q : Int} {k j : Nat} {w : List ByteArray} {now : Nat} (hx : ASt x t q k j w now) (hw : w = [] ∨ w = [gramB]) (hl : t.length ≤ 1000) (hk : k ≤ t.length) (hj : j ≤ 7) (hn : now ≤ 7) {K : ByteArray → Bool → Heap → Prop}
    (none' : fsT t k w = [] → ∀ x' L' H', ASt x' t q (kT t k) j [] (now + 1 : Nat) → CAt cb a x' L' H' → Step L H L' H' → K ⟨#[]⟩ false H')
    (some' : fsT t k w ≠ [] → ∀ x' L' H', ASt x' t q (kT t k) (j + 1) [] (now + 1 : Nat) → CAt cb a x' L' H' → Step L H L' H' → K (pktN upK.data.toList 3 cidB j (padB (fsT t k w) 1000)) true H') : zva.c (some ⟨cb, 0, none⟩) now 1000 K E H := by
  obtain ⟨eG, s', eS, e1, e2, e3⟩ := send_T hx hw hl hk
  obtain ⟨f1, f2⟩ := fsT_ok (k := k) hl hw
  obtain ⟨l1, _, _⟩ := fsT_len hl hk hw
  obtain ⟨s, hS, hso, hsi, hst⟩ := hx.S
  obtain ⟨b, htx⟩ := hx.tx
  have hfl := hx.fl
  have hwin := hx.win
  have hsi : SendIn x now 1000 := by
    refine ⟨hx.ph, hx.gr, hx.say, hx.ans, by rw [hx.cid]; decide, by rw [hx.next]; omega, by rw [hx.next]; exact hx.top, by omega, fun p hp => (hx.fs p hp).1, fun p hp => ?_, by omega, by decide, by decide, by omega, fun i hi => ?_, fun i => ?_, ?_, fun d hd => ?_⟩
    · obtain ⟨q1, q2, q3⟩ := hx.fs p hp
      exact ⟨q2, by omega, by omega⟩
    · rw [hS]
      exact S1_all (quiet_of (by rw [hsi]; rfl) hst) (quiet_of rfl rfl) i
    · rw [hS]
      exact S1_all (P := fun s => OBok s.out) (by rw [hso]; exact obT_ok hk (by omega)) ob0_ok i
    · rw [hx.wait]
      rcases hw with rfl | rfl <;> simp
    · rw [hx.wait] at hd
      rcases hw with rfl | rfl
      · cases hd
      · rw [List.mem_singleton] at hd
        rw [hd]; decide
  refine conn_Send.data (k := ⟨b, upK, j, 0⟩) (size := 1000) h hap htx (by show (j : Int) < 1000; omega) hsi (fun hz L' H' h' st => ?_) (fun hz => ?_)
  · rw [eG] at hz h'
    refine none' hz _ L' H' ?_ h' st
    exact ⟨⟨s', eS, e1, e2, e3⟩, hx.fl, fun p hp => ⟨(hx.fs p hp).1, (hx.fs p hp).2.1, by have := (hx.fs p hp).2.2; omega⟩, hx.win, hx.top, hx.next, hx.tx, hx.srv, hx.cid, hx.ph, hx.gr, hx.say, hx.ans, rfl⟩
  · rw [eG] at hz ⊢
    refine ⟨fun f hf => (f1 f hf).1, by show (fsT t k w).length ≤ 100; omega, ?_, by show 29 + (wrs (fsT t k w)).length ≤ 1000; omega, fun L' H' h' st => ?_⟩
    · show anyE (fsT t k w) = true
      obtain ⟨f, hf⟩ := List.exists_mem_of_ne_nil _ hz
      unfold anyE
      rw [List.any_eq_true]
      exact ⟨f, hf, (f1 f hf).2.2⟩
    · dsimp only
      rw [hx.cid, hx.next]
      refine some' hz _ L' H' ?_ h' st
      refine ⟨⟨s', eS, e1, e2, e3⟩, ?_, fun p hp => ?_, ?_, ?_, ?_, ⟨b, ?_⟩, hx.srv, hx.cid, hx.ph, hx.gr, hx.say, hx.ans, rfl⟩
      · show (x.F ++ [_]).length ≤ _
        rw [List.length_append, List.length_singleton]; omega
      · rcases List.mem_append.1 hp with hp | hp
        · exact ⟨(hx.fs p hp).1, (hx.fs p hp).2.1, by have := (hx.fs p hp).2.2; omega⟩
        · rw [List.mem_singleton] at hp
          rw [hp]
          exact ⟨by show 1000 ≤ 1200; decide, by show (0 : Int) ≤ (now : Int); omega, by show (now : Int) < _; omega⟩
      · show flightN (x.F ++ [_]) ≤ _
        unfold flightN
        rw [List.map_append, List.sum_append]
        show flightN x.F + 1000 ≤ _
        omega
      · show (x.c.next : Int) < _
        rw [hx.next]; omega
      · show x.c.next + 1 = _
        rw [hx.next]
      · show some (⟨b, upK, (j : Int) + 1, 0⟩ : KeyS) = _
        rfl
end
end Go.Sh
namespace Go.Sh
open Go.Proofs
set_option maxRecDepth 8000
def TxO (p : Option Addr) (c : Nat) (l : List ByteArray) : Own := fun L H => TxtAt H p c l L
theorem TxO.good (p : Option Addr) (c : Nat) (l : List ByteArray) : (TxO p c l).good := ⟨fun h hs hn => TxtAt.stp h hs hn, fun h => TxtAt.live h⟩
def Trio (ca : Nat) (aa : CA) (xa : CS) (cb : Nat) (ab : CA) (xb : CS) (p : Option Addr) (c : Nat) (l : List ByteArray) : Own := Star [CAt ca aa xa, CAt cb ab xb, TxO p c l]
theorem trio_good (ca : Nat) (aa : CA) (xa : CS) (cb : Nat) (ab : CA) (xb : CS) (p : Option Addr) (c : Nat) (l : List ByteArray) : ∀ P ∈ [CAt ca aa xa, CAt cb ab xb, TxO p c l], P.good := by
  intro P hP
  simp only [List.mem_cons, List.not_mem_nil, or_false] at hP
  rcases hP with rfl | rfl | rfl
  · exact CAt.good _ _ _
  · exact CAt.good _ _ _
  · exact TxO.good _ _ _
section
variable {ca cb : Nat} {aa ab : CA} {xa xb : CS} {p : Option Addr} {c : Nat} {l : List ByteArray} {L : List Nat} {H H0 : Heap} {E : Value → Heap → Prop}
theorem Trio.fst (h : Trio ca aa xa cb ab xb p c l L H) : ∃ Li, CAt ca aa xa Li H ∧ (∀ k ∈ Li, k ∈ L) ∧ ∀ {x' : CS} {Li' : List Nat} {H' : Heap}, CAt ca aa x' Li' H' → Step Li H Li' H' → ∃ L', Trio ca aa x' cb ab xb p c l L' H' ∧ Step L H L' H' := by
  obtain ⟨Li, h1, h2, h3⟩ := Star.part (trio_good ca aa xa cb ab xb p c l) (i := 0) rfl h
  exact ⟨Li, h1, h2, fun hs hst => h3 hs hst⟩
theorem Trio.snd (h : Trio ca aa xa cb ab xb p c l L H) : ∃ Li, CAt cb ab xb Li H ∧ (∀ k ∈ Li, k ∈ L) ∧ ∀ {x' : CS} {Li' : List Nat} {H' : Heap}, CAt cb ab x' Li' H' → Step Li H Li' H' → ∃ L', Trio ca aa xa cb ab x' p c l L' H' ∧ Step L H L' H' := by
  obtain ⟨Li, h1, h2, h3⟩ := Star.part (trio_good ca aa xa cb ab xb p c l) (i := 1) rfl h
  exact ⟨Li, h1, h2, fun hs hst => h3 hs hst⟩
theorem Trio.trd (h : Trio ca aa xa cb ab xb p c l L H) : ∃ Li, TxtAt H p c l Li ∧ (∀ k ∈ Li, k ∈ L) ∧ ∀ {p' : Option Addr} {c' : Nat} {l' : List ByteArray} {Li' : List Nat} {H' : Heap}, TxtAt H' p' c' l' Li' → Step Li H Li' H' → ∃ L', Trio ca aa xa cb ab xb p' c' l' L' H' ∧ Step L H L' H' := by
  obtain ⟨Li, h1, h2, h3⟩ := Star.part (trio_good ca aa xa cb ab xb p c l) (i := 2) rfl h
  exact ⟨Li, h1, h2, fun {p' c' l' Li' H'} hs hst => h3 (P' := TxO p' c' l') hs hst⟩
theorem Trio.le (h : Trio ca aa xa cb ab xb p c l L H) {H' : Heap} (hl : Heap.Le H H') : Trio ca aa xa cb ab xb p c l L H' := (Star.good (trio_good ca aa xa cb ab xb p c l)).step h (Step.of_le (L := []) hl) (by simp)
theorem Duo.trio (h : Duo ca aa xa cb ab xb L H) : ∃ L', Trio ca aa xa cb ab xb none 0 [] L' H ∧ Step L H L' H := by
  have ht : TxO none 0 [] [] H := .inl ⟨rfl, rfl, rfl, rfl⟩
  have := Star.append h (Star.one' ht) (by simp)
  exact ⟨_, this, fun k o hk hn => ⟨hk, by simpa using hn⟩⟩
def PkOk (pk : List ByteArray) : Prop := ∀ i d, pk[i]? = some d → ∃ e, d = pktN upK.data.toList 3 cidB i e
theorem PkOk.snoc {pk : List ByteArray} (h : PkOk pk) {e : ByteArray} : PkOk (pk ++ [pktN upK.data.toList 3 cidB pk.length e]) := fun i d hd => by
  by_cases hi : i < pk.length
  · rw [List.getElem?_append_left hi] at hd
    exact h i d hd
  · rw [List.getElem?_append_right (by omega)] at hd
    have h0 : i - pk.length = 0 := by
      have := (List.getElem?_eq_some_iff.1 hd).1
      simp at this
      omega
    rw [h0] at hd
    cases hd
    exact ⟨e, by rw [show i = pk.length by omega]⟩
def wT (now : Nat) : List ByteArray := if now = 1 then [gramB] else []
def gT (now : Nat) : List ByteArray := if now = 1 then [] else [gramB]
theorem wT_or (now : Nat) : wT now = [] ∨ wT now = [gramB] := by
  unfold wT
  split
  · exact .inr rfl
  · exact .inl rfl
theorem gT_next {now : Nat} (h : 1 ≤ now) : gT now ++ wT now = gT (now + 1) ∧ ([] : List ByteArray) = wT (now + 1) ∧ (gT now).length ≤ 1 := by
  unfold gT wT
  rw [if_neg (show ¬ now + 1 = 1 by omega), if_neg (show ¬ now + 1 = 1 by omega)]
  by_cases h1 : now = 1
  · rw [if_pos h1, if_pos h1]
    exact ⟨rfl, rfl, by decide⟩
  · rw [if_neg h1, if_neg h1]
    exact ⟨rfl, rfl, by decide⟩
theorem twice_w3 {text : ByteArray} {n : Int} {q : Int} (ht : text.size ≤ 1000) (h : Trio ca aa xa cb ab xb none 0 [] L H) (hap : Apart L H) (ha : ASt xa text.data.toList q 0 0 [gramB] 1) (hb : BSt xb text.data.toList 0 0 []) {Kx : Option Addr → Nat → Nat → Heap → Prop} {Kr : Bool → Heap → Prop}
    (hk : ∀ p c xa' xb' pk L' H', PkOk pk → Trio ca aa xa' cb ab xb' p c pk L' H' → BSt xb' text.data.toList text.size pk.length [gramB] → pk.length ≤ 7 → Step L H L' H' → Kx p pk.length c H') : vizardlaw13_ConnTwice.W3 text n (some ⟨ca, 0, none⟩) (some ⟨cb, 0, none⟩) none 0 0 1 Kx Kr E H := by
  have hz := zte text
  have hl : text.data.toList.length ≤ 1000 := by omega
  refine ⟨Loop.of (I := fun st H' m => ∃ p c now pk xa' xb' k j L', st = (p, pk.length, c, ((now : Nat) : Int)) ∧ 1 ≤ now ∧ now ≤ 6 ∧ m = 6 - now ∧ Trio ca aa xa' cb ab xb' p c pk L' H' ∧ ASt xa' text.data.toList q k j (wT now) now ∧ BSt xb' text.data.toList k j (gT now) ∧ j ≤ now - 1 ∧ pk.length = j ∧ k ≤ text.data.toList.length ∧ text.data.toList.length ≤ k + 951 * (6 - now) ∧ PkOk pk ∧ Step L H L' H') ?_
    ⟨none, 0, 1, [], xa, xb, 0, 0, L, rfl, by decide, by decide, rfl, h, ha, hb, by decide, rfl, Nat.zero_le _, by omega, fun i d hd => by simp at hd, Step.refl _ _⟩⟩
  rintro m st H' ⟨p, c, now, pk, xa', xb', k, j, L', rfl, h1, h6, rfl, tr, ha', hb', hj, hpj, hk', hprog, hpk, hst⟩ RR hRR
  unfold vizardlaw13_ConnTwice.W3.vc
  dsimp only
  by_cases hc : now < 6
  · rw [if_pos (by rw [decide_eq_true_eq]; omega)]
    obtain ⟨gn1, gn2, gn3⟩ := gT_next h1
    have hap' := hap.stp hst
    obtain ⟨La, hA, hain, haput⟩ := tr.fst
    refine send_step hA (hap'.sub hain) ha' (wT_or now) hl hk' (by omega) (by omega) (fun hz0 x2 L2 H2 hx2 h2 s2 => ?_) (fun hz0 x2 L2 H2 hx2 h2 s2 => ?_)
    · rw [if_neg (by decide)]
      obtain ⟨L3, tr3, s3⟩ := haput h2 s2
      have hkl : k = text.data.toList.length ∧ wT now = [] := by
        unfold fsT at hz0
        obtain ⟨z1, z2⟩ := List.append_eq_nil_iff.1 hz0
        refine ⟨?_, List.map_eq_nil_iff.1 z2⟩
        by_cases hlt : k < text.data.toList.length
        · rw [if_pos hlt] at z1
          cases z1
        · omega
      obtain ⟨k1, k2⟩ := hkl
      have hkT : kT text.data.toList k = k := by unfold kT; omega
      rw [hkT, gn2] at hx2
      rw [k2, List.append_nil] at gn1
      refine ⟨?_⟩
      unfold vizardlaw13_ConnTwice.J5.vc
      rw [w_i64 (by omega) (by omega)]
      exact hRR (_, _, _, _) _ (6 - (now + 1)) (by omega) ⟨p, c, now + 1, pk, x2, xb', k, j, L3, by simp, by omega, by omega, rfl, tr3, hx2, by rw [← gn1]; exact hb', by omega, hpj, hk', by omega, hpk, hst.trans s3⟩
    · rw [if_pos rfl]
      obtain ⟨L3, tr3, s3⟩ := haput h2 s2
      refine zna fun b1 H4 hn4 hl4 hle4 => rdOne hl4 ?_
      obtain ⟨Lt, htx, htin, htput⟩ := (tr3.le hle4).trd
      refine TxtAt.app (s := pktN upK.data.toList 3 cidB j (padB (fsT text.data.toList k (wT now)) 1000)) htx (by omega) rfl fun p' c' Lt' H5 h5 s5 => ?_
      obtain ⟨L6, tr6, s6⟩ := htput h5 s5
      have st6 : Step L' H' L6 H5 := (s3.trans (Step.of_le hle4)).trans s6
      refine ⟨?_⟩
      unfold vizardlaw13_ConnTwice.J4.vc
      obtain ⟨Lb, hB, hbin, hbput⟩ := tr6.snd
      refine recv_step hB ((hap'.stp st6).sub hbin) hb' (wT_or now) (by omega) hl hk' hz0 (by omega) fun x7 L7 H7 hx7 h7 s7 => ?_
      rw [if_neg (by decide)]
      obtain ⟨L8, tr8, s8⟩ := hbput h7 s7
      have st8 := st6.trans s8
      have hkT : kT text.data.toList k ≤ text.data.toList.length ∧ (kT text.data.toList k = text.data.toList.length ∨ kT text.data.toList k = k + 951) := by unfold kT; omega
      refine ⟨?_⟩
      unfold vizardlaw13_ConnTwice.J5.vc
      rw [w_i64 (by omega) (by omega)]
      rw [gn1] at hx7
      rw [gn2] at hx2
      have hpk2 := hpk.snoc (e := padB (fsT text.data.toList k (wT now)) 1000)
      rw [hpj] at hpk2
      exact hRR (_, _, _, _) _ (6 - (now + 1)) (by omega) ⟨p', c', now + 1, _, x2, x7, kT text.data.toList k, j + 1, L8, by rw [List.length_append, List.length_singleton]; simp, by omega, by omega, rfl, tr8, hx2, hx7, by omega, by rw [List.length_append, List.length_singleton, hpj], hkT.1, by omega, hpk2, hst.trans st8⟩
  · rw [if_neg (by rw [decide_eq_true_eq]; omega)]
    have : now = 6 := by omega
    subst this
    have hkl : k = text.size := by omega
    subst hkl
    have hb2 : BSt xb' text.data.toList text.size pk.length [gramB] := by rw [hpj]; exact hb'
    exact hk p c xa' xb' pk L' H' hpk tr hb2 (by omega) hst
theorem u64_nonneg (n : Int) : 0 ≤ IntKind.u64.wrap n := by
  show (0 : Int) ≤ n.emod _
  exact Int.emod_nonneg _ (by decide)
theorem twice_w6 {text : ByteArray} {n : Int} {pk : List ByteArray} (hpk : PkOk pk) (h : Trio ca aa xa cb ab xb p c pk L H) {t : List UInt8} {k : Nat} {g : List ByteArray} (hb : BSt xb t k pk.length g) (hpl : pk.length ≤ 7) {Kx : Heap → Prop} {Kr : Bool → Heap → Prop} (hk : ∀ H', Heap.Le H H' → Kx H') :
    vizardlaw13_ConnTwice.W6 text n (some ⟨cb, 0, none⟩) p pk.length c 0 Kx Kr E H := by
  have hm : ∃ v : Nat, Int.tmod (IntKind.u64.wrap n) 5 = v ∧ v < 5 := by
    have h0 : 0 ≤ IntKind.u64.wrap n := u64_nonneg n
    refine ⟨(Int.tmod (IntKind.u64.wrap n) 5).toNat, ?_, ?_⟩
    · have := Int.tmod_nonneg 5 h0
      omega
    · have := Int.tmod_lt_of_pos (IntKind.u64.wrap n) (show (0 : Int) < 5 by decide)
      have := Int.tmod_nonneg 5 h0
      omega
  obtain ⟨v, hv, hv5⟩ := hm
  refine ⟨Loop.of (I := fun st H' m => ∃ i : Nat, st = (i : Int) ∧ i ≤ 1 + v ∧ m = 1 + v - i ∧ Heap.Le H H') ?_ ⟨0, rfl, Nat.zero_le _, rfl, Heap.Le.refl _⟩⟩
  rintro m st H' ⟨i, rfl, hi, rfl, hle⟩ RR hRR
  unfold vizardlaw13_ConnTwice.W6.vc
  rw [hv, w_i64 (n := (v : Int)) (by omega) (by omega), w_i64 (by omega) (by omega)]
  refine ⟨by decide, ?_⟩
  by_cases hc : i < 1 + v
  · rw [if_pos (by rw [decide_eq_true_eq]; omega)]
    by_cases hp : 0 < pk.length
    · rw [if_pos (by rw [decide_eq_true_eq]; omega)]
      refine ⟨?_⟩
      unfold vizardlaw13_ConnTwice.J7.vc
      have em : Int.tmod (i : Int) (pk.length : Int) = ((i % pk.length : Nat) : Int) := by rw [Int.tmod_eq_emod_of_nonneg (by omega)]; rfl
      rw [em]
      have hlt : i % pk.length < pk.length := Nat.mod_lt _ hp
      obtain ⟨d, hd⟩ : ∃ d, pk[i % pk.length]? = some d := ⟨_, List.getElem?_eq_getElem hlt⟩
      have tr := h.le hle
      obtain ⟨Lt, htx, _⟩ := tr.trd
      obtain ⟨ad, had, hcell⟩ := htx.get hd
      refine ⟨by omega, ad, had, by omega, by omega, _, by rw [Int.toNat_natCast, Nat.mul_one]; exact hcell, ?_⟩
      obtain ⟨e, rfl⟩ := hpk _ _ hd
      obtain ⟨Lb, hB, _⟩ := tr.snd
      have hold := zbb.old (E := E) (n := i % pk.length) (now := 9) (s := upK.data.toList) (d := e) (K := fun x1 h1 => if (x1 != 11) = true then Kr false h1 else RR (IntKind.i64.wrap ((i : Int) + 1)) h1) hB hb.ph (by rw [hb.cid]; decide) (by rw [hb.m]; exact hlt) (by rw [hb.m]; omega) fun H2 hle2 => by
        rw [if_neg (by decide), w_i64 (by omega) (by omega)]
        exact hRR _ _ (1 + v - (i + 1)) (by omega) ⟨i + 1, by simp, by omega, rfl, hle.trans hle2⟩
      rw [hb.cid] at hold
      exact hold
    · rw [if_neg (by rw [decide_eq_true_eq]; omega)]
      exact hk H' hle
  · rw [if_neg (by rw [decide_eq_true_eq]; omega)]
    exact hk H' hle
end
end Go.Sh
namespace Go.Sh
open Go.Proofs
set_option maxRecDepth 8000
section
variable {H H0 : Heap} {E : Value → Heap → Prop}
theorem obT_zero (text : ByteArray) (h : text.size ≤ 1000) : ob0.writeS text false = obT text.data.toList 0 text.size ∧ ob0.writeE text = 0 := by
  have e : ob0.writeE text = 0 := by
    unfold OB.writeE ob0
    dsimp only
    rw [if_neg (by decide)]
    have e2 : IntKind.i64.wrap (16384 - 0) = 16384 := by decide
    rw [e2, if_neg (by omega)]
  refine ⟨?_, e⟩
  unfold OB.writeS
  rw [if_pos e]
  unfold ob0 obT howT
  dsimp only
  rw [zte text, Nat.sub_zero, w_i64 (by omega) (by omega)]
  simp
theorem twice_j2 {ca cb : Nat} {aa ab : CA} {xa xb : CS} {L : List Nat} (duo : Duo ca aa xa cb ab xb L H) (hap : Apart L H) {text : ByteArray} {n q : Int} (ht : text.size ≤ 1000) (ha : ASt xa text.data.toList q 0 0 [gramB] 1) (hb : BSt xb text.data.toList 0 0 []) {Kr : Bool → Heap → Prop} (hk : ∀ L' H', Step L H L' H' → Kr true H') :
    vizardlaw13_ConnTwice.J2 text n (some ⟨ca, 0, none⟩) (some ⟨cb, 0, none⟩) Kr E H := by
  have hz := zte text
  refine ⟨?_⟩
  unfold vizardlaw13_ConnTwice.J2.vc
  obtain ⟨L1, tr1, s1⟩ := duo.trio
  refine twice_w3 ht tr1 (hap.stp s1) ha hb fun p c xa' xb' pk L2 H2 hpk tr2 hb2 hpl s2 => ?_
  refine twice_w6 hpk tr2 hb2 hpl fun H3 hle3 => ?_
  have tr3 := tr2.le hle3
  have st3 : Step L H L2 H3 := (s1.trans s2).trans (Step.of_le hle3)
  obtain ⟨Lb, hB, hbin, hbput⟩ := tr3.snd
  refine zad.first hB (s := gramB) (g := []) hb2.got fun L4 H4 h4 s4 => ?_
  refine zad.nothing h4 rfl ?_
  obtain ⟨cm, hS⟩ := hb2.S
  have htk : text.data.toList.take text.size = text.data.toList := by rw [← hz]; exact List.take_length
  rw [htk] at hS
  have hS0 : xb'.S 0 = { s0 with inb := inOrd text.data.toList (-1), came := cm } := by rw [hS, S1_0]
  refine zgd.run (i := 0) (n := 2000) h4 (by decide) (by show mayB xb'.c.srv 0 true = true; rw [hb2.srv]; decide) (by show ((xb'.S 0).inb).fine; rw [hS0]; exact fine_ord (by omega)) fun L5 H5 h5 s5 => ?_
  obtain ⟨r1, _⟩ := read_ord (l := text.data.toList) (sz := -1) (m := 2000) (by omega)
  have e2000 : (2000 : Int).toNat = 2000 := rfl
  have hr : (readL (2000 : Int).toNat (xb'.S 0).inb).1 = text.data.toList := by rw [hS0, e2000]; exact r1
  rw [hr, ba_mk]
  have eg : (gramB.toList == (⟨#[103, 114, 97, 109]⟩ : ByteArray).toList) = true := beq_iff_eq.2 rfl
  rw [if_pos (by rw [beq_iff_eq]), if_pos eg, if_pos rfl]
  obtain ⟨L6, tr6, s6⟩ := hbput h5 (s4.trans s5)
  exact hk L6 H5 (st3.trans s6)
theorem vizardlaw13_ConnTwice.run (ht : Tabs H) {text : ByteArray} {n : Int} (_ : text.size ≤ reachBytes) (_ : IntKind.i64.has n) {K : Bool → Heap → Prop} (hk : K true H) : vizardlaw13_ConnTwice.c text n K E H := by
  refine ⟨?_⟩
  unfold vizardlaw13_ConnTwice.vc
  refine vizardlaw13_works.run ht fun H1 hle1 => ?_
  rw [if_neg (by decide)]
  by_cases hz : text.size ≤ 1000
  · rw [if_neg (by rw [decide_eq_true_eq]; omega)]
    have ht1 := ht.up hle1
    refine vizardlaw13_met.run ht1 fun ca aa cb ab b1 b2 b3 b4 L2 H2 duo st => ?_
    rw [if_neg (by decide)]
    have ap2 := (⟨ht1, by simp, by simp⟩ : Apart [] H1).stp st
    obtain ⟨o1, o2⟩ := obT_zero text hz
    obtain ⟨La, hA, hain, haput⟩ := duo.fst
    refine zbd.run (i := 0) (s := text) (fin := false) hA (show (2 : Int) ≠ 3 by decide) (by decide) (show mayB false 0 false = true by decide) (show ([] : List UInt8).length + text.size ≤ 1000000 by simp; omega) (show ([] : List UInt8).length + text.size ≤ 1000000 by simp; omega) fun L3 H3 h3 s3 => ?_
    have h3' : CAt ca aa { metA b1 b2 with S := S1 { s0 with out := obT text.data.toList 0 text.size } } L3 H3 := by rw [← o1]; exact h3
    have hE : ((metA b1 b2).S 0).out.writeE text = 0 := o2
    rw [hE, if_neg (by decide)]
    refine zdf.run (s := gramB) h3' (show (2 : Int) ≠ 3 by decide) (by decide) (show ([] : List ByteArray).length < 32 by decide) fun L4 H4 h4 s4 => ?_
    refine ⟨?_⟩
    unfold vizardlaw13_ConnTwice.J1.vc
    rw [if_neg (by decide)]
    obtain ⟨L5, duo5, s5⟩ := haput h4 (s3.trans s4)
    refine twice_j2 duo5 (ap2.stp s5) hz (q := text.size) ?_ ?_ fun L' H' st' => ⟨H, hle1.trans ((st.trans s5).trans st').le, hk⟩
    · exact ⟨⟨_, rfl, rfl, rfl, rfl⟩, Nat.le_refl _, fun p hp => (by cases hp), Nat.le_refl _, show (-1 : Int) < ((0 : Nat) : Int) by decide, rfl, ⟨b1, rfl⟩, rfl, rfl, rfl, rfl, rfl, rfl, rfl⟩
    · refine ⟨⟨false, ?_⟩, rfl, ⟨b3, 0, rfl, by decide, by decide⟩, rfl, rfl, rfl, rfl⟩
      show (fun _ => s0) = S1 { s0 with inb := inOrd [] (-1), came := false }
      rw [inOrd_nil]
      exact (upS_self _ 0).symm
  · rw [if_pos (by rw [decide_eq_true_eq]; omega)]
    exact ⟨H, hle1, hk⟩
theorem vizardlaw13_ConnTwice.laid {W : World} (h : laidMetH Go.Proofs.Tryz.prog [("vizard/varint.sizes", (.agg (szTab.map fun x => .lit (.int .i64 x)) : DataW Unit)), ("vizard/sha.constants", (.agg (kTab.map fun x => .lit (.int .u32 x)) : DataW Unit))] W) : Tabs (heapOf W) := vizardlaw13_ConnCloses.laid h
end
end Go.Sh
