/- Tunnels: whether they may be opened; what goes up. -/
import Derived.Test.YtennpdminebahaaTuB
namespace Go.Sh
open Go.Proofs
set_option maxRecDepth 8000
structure Tun where
  ip : Bool
  addr : Int
  tp : Int
  own : Int
  port : Int
  l : List Rul
structure Em where
  ip : Bool
  port : Int
  addr : Int
  to_ : Int
  data : ByteArray
def Em.zero : Em := ⟨false, 0, 0, 0, ⟨#[]⟩⟩
def tcells (t : Tun) (p : Option Addr) (n c : Nat) : Array Value := #[.bool t.ip, .int .u32 t.addr, .int .i64 t.tp, .int .u32 t.own, .int .i64 t.port, .slice p n c]
def ecells (e : Em) : Array Value := #[.bool e.ip, .int .i64 e.port, .int .u32 e.addr, .int .i64 e.to_, .string e.data]
structure TunIn (H : Heap) (t : Tun) (p : Option Addr) (n : Nat) : Prop where
  at_ : RulesAt H p n t.l
  fine : ∀ r ∈ t.l, r.fine
  a0 : 0 ≤ t.addr ∧ t.addr < 4294967296
theorem TunIn.le {H H' : Heap} {t : Tun} {p : Option Addr} {n : Nat} (h : TunIn H t p n) (hl : Heap.Le H H') : TunIn H' t p n := ⟨RulesAt.mono h.at_ hl, h.fine, h.a0⟩
noncomputable def openE (t : Tun) : Int := if t.ip then (if 0 < (routes t.l).length then 0 else 15) else if mayGo t.l 17 t.addr t.tp = true then 0 else 15
def upP (t : Tun) (l : List UInt8) : Em × Int :=
  if errL l ≠ 0 then (Em.zero, errL l)
  else if ((hdL l).src : Int) ≠ t.own ∨ mayGo t.l (hdL l).proto (hdL l).dst (portOf (hdL l)) = false then (Em.zero, 15)
  else if hopE l ≠ 0 then (Em.zero, hopE l) else (⟨true, 0, (hdL l).dst, 0, hopB l⟩, 0)
noncomputable def upE (t : Tun) (s : ByteArray) : Em × Int :=
  if 1000 < s.size then (Em.zero, 8) else if t.ip = true then upP t s.data.toList else if openE t ≠ 0 then (Em.zero, 15) else (⟨false, t.port, t.addr, t.tp, s⟩, 0)
theorem openE_or (t : Tun) : openE t = 0 ∨ openE t = 15 := by
  unfold openE
  split <;> split <;> simp
theorem ld6 {H : Heap} {b : Nat} {t : Tun} {p : Option Addr} {n c : Nat} {e : TypeId} {K : Bool → Int → Int → Int → Int → Option Addr → Nat → Nat → Prop} (hl : H b = some (.cells (tcells t p n c) e)) (hk : K t.ip t.addr t.tp t.own t.port p n c) :
    ldB H ((⟨b, 0, none⟩ : Addr).add 0) fun x0 => ldI H .u32 ((⟨b, 0, none⟩ : Addr).add 1) fun x1 => ldI H .i64 ((⟨b, 0, none⟩ : Addr).add 2) fun x2 => ldI H .u32 ((⟨b, 0, none⟩ : Addr).add 3) fun x3 => ldI H .i64 ((⟨b, 0, none⟩ : Addr).add 4) fun x4 => ldSl H ((⟨b, 0, none⟩ : Addr).add 5) fun x5 x6 x7 => K x0 x1 x2 x3 x4 x5 x6 x7 :=
  ⟨_, loc (o := 0) hl rfl, _, loc (o := 1) hl rfl, _, loc (o := 2) hl rfl, _, loc (o := 3) hl rfl, _, loc (o := 4) hl rfl, _, _, _, loc (o := 5) hl rfl, hk⟩
theorem ld5 {H : Heap} {b : Nat} {e : Em} {te : TypeId} {K : Bool → Int → Int → Int → ByteArray → Prop} (hl : H b = some (.cells (ecells e) te)) (hk : K e.ip e.port e.addr e.to_ e.data) :
    ldB H ((⟨b, 0, none⟩ : Addr).add 0) fun x0 => ldI H .i64 ((⟨b, 0, none⟩ : Addr).add 1) fun x1 => ldI H .u32 ((⟨b, 0, none⟩ : Addr).add 2) fun x2 => ldI H .i64 ((⟨b, 0, none⟩ : Addr).add 3) fun x3 => ldS H ((⟨b, 0, none⟩ : Addr).add 4) fun x4 => K x0 x1 x2 x3 x4 :=
  ⟨_, loc (o := 0) hl rfl, _, loc (o := 1) hl rfl, _, loc (o := 2) hl rfl, _, loc (o := 3) hl rfl, _, loc (o := 4) hl rfl, hk⟩
theorem st5 {H : Heap} {b : Nat} {u0 u1 u2 u3 u4 v0 v1 v2 v3 v4 : Value} {e : TypeId} {K : Heap → Prop} (h : H b = some (.cells #[u0, u1, u2, u3, u4] e)) (hk : ∀ H', H' b = some (.cells #[v0, v1, v2, v3, v4] e) → (∀ c, c ≠ b → H' c = H c) → K H') :
    stc H ((⟨b, 0, none⟩ : Addr).add 0) v0 fun h1 => stc h1 ((⟨b, 0, none⟩ : Addr).add 1) v1 fun h2 => stc h2 ((⟨b, 0, none⟩ : Addr).add 2) v2 fun h3 => stc h3 ((⟨b, 0, none⟩ : Addr).add 3) v3 fun h4 => stc h4 ((⟨b, 0, none⟩ : Addr).add 4) v4 K := by
  refine stc_to (o := 0) (arr' := #[v0, u1, u2, u3, u4]) h (by simp) rfl ?_
  refine stc_to (o := 1) (arr' := #[v0, v1, u2, u3, u4]) (set_self _ _ _) (by simp) rfl ?_
  refine stc_to (o := 2) (arr' := #[v0, v1, v2, u3, u4]) (set_self _ _ _) (by simp) rfl ?_
  refine stc_to (o := 3) (arr' := #[v0, v1, v2, v3, u4]) (set_self _ _ _) (by simp) rfl ?_
  refine stc_to (o := 4) (arr' := #[v0, v1, v2, v3, v4]) (set_self _ _ _) (by simp) rfl ?_
  rw [set_set, set_set, set_set, set_set]
  exact hk _ (set_self _ _ _) fun c hc => set_ne _ _ hc
section
variable {H : Heap} {t : Tun} {p : Option Addr} {n c : Nat} {s : ByteArray} {E : Value → Heap → Prop}
theorem tunnel_Tunnel_Open.run (hT : TunIn H t p n) {K : Int → Heap → Prop} (hK : ∀ H', Heap.Le H H' → K (openE t) H') : tunnel_Tunnel_Open.c t.ip t.addr t.tp t.own t.port p n c K E H := by
  refine ⟨?_⟩
  unfold tunnel_Tunnel_Open.vc
  refine newB_le fun b0 H1 hn0 hl0 hle0 => ?_
  have hl0 : H1 b0 = some (.cells (tcells t p n c) 47) := hl0
  have hT1 := hT.le hle0
  refine ⟨_, _, _, loc (o := 5) hl0 rfl, _, loc2 (o := 0) (j := 1) hl0 rfl, _, loc2 (o := 0) (j := 2) hl0 rfl, policy_Allow.run hT1.at_ hT1.fine hT1.a0 ?_⟩
  refine ⟨_, loc2 (o := 0) (j := 0) hl0 rfl, ?_⟩
  dsimp only
  cases hip : t.ip with
  | true =>
    rw [if_pos rfl]
    refine ⟨_, _, _, loc (o := 5) hl0 rfl, policy_Routes.run hT1.at_ hT1.fine fun p' c' H2 hle2 _ => ⟨?_⟩⟩
    unfold tunnel_Tunnel_Open.J1.vc
    have hk := hK H2 (hle0.trans hle2)
    unfold openE at hk
    rw [hip, if_pos rfl] at hk
    by_cases hr : 0 < (routes t.l).length
    · rw [if_pos hr] at hk
      rw [decide_eq_true (by omega), if_neg (by simp)]
      exact ⟨H2, Heap.Le.refl _, hk⟩
    · rw [if_neg hr] at hk
      rw [decide_eq_false (by omega), if_pos (by simp)]
      exact ⟨H2, Heap.Le.refl _, hk⟩
  | false =>
    rw [if_neg (by simp)]
    refine ⟨?_⟩
    unfold tunnel_Tunnel_Open.J1.vc
    have hk := hK H1 hle0
    unfold openE at hk
    rw [hip, if_neg (by simp)] at hk
    cases hm : mayGo t.l 17 t.addr t.tp with
    | true =>
      rw [if_pos hm] at hk
      rw [if_neg (by simp)]
      exact ⟨H1, Heap.Le.refl _, hk⟩
    | false =>
      rw [if_neg (by rw [hm]; simp)] at hk
      rw [if_pos (by simp)]
      exact ⟨H1, Heap.Le.refl _, hk⟩
theorem vizardref22_Tunnel_Open.run (hT : TunIn H t p n) {K : Int → Heap → Prop} (hK : ∀ H', Heap.Le H H' → K (openE t) H') : vizardref22_Tunnel_Open.c t.ip t.addr t.tp t.own t.port p n c K E H := by
  refine ⟨?_⟩
  unfold vizardref22_Tunnel_Open.vc
  refine newB_le fun b0 H1 hn0 hl0 hle0 => ?_
  have hl0 : H1 b0 = some (.cells (tcells t p n c) 46) := hl0
  have hT1 := hT.le hle0
  refine ⟨_, loc2 (o := 0) (j := 0) hl0 rfl, ?_⟩
  dsimp only
  cases hip : t.ip with
  | true =>
    rw [if_pos rfl]
    refine ⟨_, _, _, loc (o := 5) hl0 rfl, vizardref18_Routes.run hT1.at_ hT1.fine fun p' c' H2 hle2 _ => ?_⟩
    have hk := hK H2 (hle0.trans hle2)
    unfold openE at hk
    rw [hip, if_pos rfl] at hk
    by_cases hr : 0 < (routes t.l).length
    · rw [if_pos hr] at hk
      rw [if_pos (by rw [decide_eq_true_eq]; omega)]
      refine ⟨?_⟩
      unfold vizardref22_Tunnel_Open.J1.vc
      rw [if_pos rfl]
      exact ⟨H2, Heap.Le.refl _, hk⟩
    · rw [if_neg hr] at hk
      rw [if_neg (by rw [decide_eq_true_eq]; omega)]
      refine ⟨_, loc2 (o := 0) (j := 0) (hle2 _ _ hl0) rfl, ?_⟩
      dsimp only
      rw [hip, if_neg (by simp)]
      refine ⟨?_⟩
      unfold vizardref22_Tunnel_Open.J1.vc
      rw [if_neg (by simp)]
      exact ⟨H2, Heap.Le.refl _, hk⟩
  | false =>
    rw [if_neg (by simp)]
    refine ⟨_, loc2 (o := 0) (j := 0) hl0 rfl, ?_⟩
    dsimp only
    rw [hip, if_pos (by simp)]
    refine ⟨_, _, _, loc (o := 5) hl0 rfl, _, loc2 (o := 0) (j := 1) hl0 rfl, _, loc2 (o := 0) (j := 2) hl0 rfl, vizardref18_Allow.run hT1.at_ hT1.fine hT1.a0 ⟨?_⟩⟩
    unfold vizardref22_Tunnel_Open.J1.vc
    have hk := hK H1 hle0
    unfold openE at hk
    rw [hip, if_neg (by simp)] at hk
    cases hm : mayGo t.l 17 t.addr t.tp with
    | true =>
      rw [if_pos hm] at hk
      rw [if_pos (by simp)]
      exact ⟨H1, Heap.Le.refl _, hk⟩
    | false =>
      rw [if_neg (by rw [hm]; simp)] at hk
      rw [if_neg (by simp)]
      exact ⟨H1, Heap.Le.refl _, hk⟩
theorem tunnel_Tunnel_packet.run (hs : s.size ≤ 281474976710656) (hT : TunIn H t p n) {K : Bool → Int → Int → Int → ByteArray → Int → Heap → Prop} (hK : ∀ H', Heap.Le H H' → K (upP t s.data.toList).1.ip (upP t s.data.toList).1.port (upP t s.data.toList).1.addr (upP t s.data.toList).1.to_ (upP t s.data.toList).1.data (upP t s.data.toList).2 H') :
    tunnel_Tunnel_packet.c t.ip t.addr t.tp t.own t.port p n c s K E H := by
  refine ⟨?_⟩
  unfold tunnel_Tunnel_packet.vc
  refine newB_le fun b0 H1 hn0 hl0 hle0 => newB_le fun b1 H2 hn1 hl1 hle1 => ?_
  have hl0 : H1 b0 = some (.cells (tcells t p n c) 47) := hl0
  have hl1 : H2 b1 = some (.cells (ecells Em.zero) 50) := hl1
  have hle2 := hle0.trans hle1
  have hb1 : H b1 = none := by
    cases hh : H b1 with
    | none => rfl
    | some o => rw [hle0 _ _ hh] at hn1; cases hn1
  have hb01 : b0 ≠ b1 := fun e => by rw [e] at hl0; rw [hl0] at hn1; cases hn1
  refine ipv4_Parse.run hs (new8 fun b2 H3 hn2 hl2 hle3 => ?_)
  have hle3' := hle2.trans hle3
  have m0 := hle3 _ _ (hle1 _ _ hl0)
  have m1 := hle3 _ _ hl1
  have hb12 : b2 ≠ b1 := fun e => by rw [e] at hn2; rw [hl1] at hn2; cases hn2
  -- how it ends
  have fin : ∀ (e : Em) (x : Int) (H4 H' : Heap), upP t s.data.toList = (e, x) → Heap.Le H H4 → (∀ c, c ≠ b1 → H' c = H4 c) → H' b1 = some (.cells (ecells e) 50) →
      (ldB H' ((⟨b1, 0, none⟩ : Addr).add 0) fun x0 => ldI H' .i64 ((⟨b1, 0, none⟩ : Addr).add 1) fun x1 => ldI H' .u32 ((⟨b1, 0, none⟩ : Addr).add 2) fun x2 => ldI H' .i64 ((⟨b1, 0, none⟩ : Addr).add 3) fun x3 => ldS H' ((⟨b1, 0, none⟩ : Addr).add 4) fun x4 => ∃ H3, Heap.Le H3 H' ∧ K x0 x1 x2 x3 x4 x H3) := by
    intro e x H4 H' he hle hr hb
    have := hK H' (le_of_set hb1 hle hr)
    rw [he] at this
    exact ld5 hb ⟨H', Heap.Le.refl _, this⟩
  by_cases he : errL s.data.toList = 0
  · rw [if_neg (by rw [he]; simp)]
    have hi := (parse_in he).1
    refine ld8 hl2 (udp_Ports.run hi fun a ok H4 hle4 => ?_)
    have q0 := hle4 _ _ m0
    have q1 := hle4 _ _ m1
    have q2 := hle4 _ _ hl2
    have hle4' := hle3'.trans hle4
    refine ⟨_, loc (o := 5) q2 rfl, _, loc (o := 3) q0 rfl, ?_⟩
    dsimp only
    by_cases ho : ((hdL s.data.toList).src : Int) = t.own
    · rw [if_neg (by rw [bne_iff_ne]; exact fun h => h ho)]
      have hT4 := hT.le hle4'
      refine ⟨_, _, _, loc (o := 5) q0 rfl, _, loc (o := 4) q2 rfl, _, loc (o := 6) q2 rfl, policy_Allow.run hT4.at_ hT4.fine (by have := hi.dst; omega) ⟨?_⟩⟩
      unfold tunnel_Tunnel_packet.J1.vc
      cases hm : mayGo t.l (hdL s.data.toList).proto (hdL s.data.toList).dst (portOf (hdL s.data.toList)) with
      | false =>
        rw [if_pos (by simp)]
        exact st5 q1 fun H5 k1 k2 => fin Em.zero 15 H4 H5 (by unfold upP; rw [if_neg (by omega), if_pos (.inr hm)]) hle4' k2 k1
      | true =>
        rw [if_neg (by simp)]
        refine ⟨?_⟩
        unfold tunnel_Tunnel_packet.J2.vc
        refine tunnel_further.run hs fun H5 hle5 => ?_
        have r1 := hle5 _ _ q1
        have hno : ¬ (((hdL s.data.toList).src : Int) ≠ t.own ∨ mayGo t.l (hdL s.data.toList).proto (hdL s.data.toList).dst (portOf (hdL s.data.toList)) = false) := by rw [hm]; simp [ho]
        by_cases hh : hopE s.data.toList = 0
        · rw [if_neg (by rw [hh]; simp)]
          refine ⟨_, loc (o := 6) (hle5 _ _ q2) rfl, ?_⟩
          dsimp only
          exact st5 r1 fun H6 k1 k2 => fin ⟨true, 0, (hdL s.data.toList).dst, 0, hopB s.data.toList⟩ 0 H5 H6 (by unfold upP; rw [if_neg (by omega), if_neg hno, if_neg (by omega)]) (hle4'.trans hle5) k2 k1
        · rw [if_pos (by rw [bne_iff_ne]; omega)]
          exact st5 r1 fun H6 k1 k2 => fin Em.zero (hopE s.data.toList) H5 H6 (by unfold upP; rw [if_neg (by omega), if_neg hno, if_pos hh]) (hle4'.trans hle5) k2 k1
    · rw [if_pos (by rw [bne_iff_ne]; exact ho)]
      refine ⟨?_⟩
      unfold tunnel_Tunnel_packet.J1.vc
      rw [if_pos rfl]
      exact st5 q1 fun H5 k1 k2 => fin Em.zero 15 H4 H5 (by unfold upP; rw [if_neg (by omega), if_pos (.inl ho)]) hle4' k2 k1
  · rw [if_pos (by rw [bne_iff_ne]; omega)]
    exact st5 m1 fun H4 k1 k2 => fin Em.zero (errL s.data.toList) H3 H4 (by unfold upP; rw [if_pos he]) hle3' k2 k1
theorem tunnel_Tunnel_Up.run (hs : s.size ≤ 281474976710656) (hT : TunIn H t p n) {K : Bool → Int → Int → Int → ByteArray → Int → Heap → Prop} (hK : ∀ H', Heap.Le H H' → K (upE t s).1.ip (upE t s).1.port (upE t s).1.addr (upE t s).1.to_ (upE t s).1.data (upE t s).2 H') :
    tunnel_Tunnel_Up.c t.ip t.addr t.tp t.own t.port p n c s K E H := by
  refine ⟨?_⟩
  unfold tunnel_Tunnel_Up.vc
  refine newB_le fun b0 H1 hn0 hl0 hle0 => newB_le fun b1 H2 hn1 hl1 hle1 => ?_
  have hl0 : H1 b0 = some (.cells (tcells t p n c) 47) := hl0
  have hl1 : H2 b1 = some (.cells (ecells Em.zero) 50) := hl1
  have hle2 := hle0.trans hle1
  have hb1 : H b1 = none := by
    cases hh : H b1 with
    | none => rfl
    | some o => rw [hle0 _ _ hh] at hn1; cases hn1
  have m0 := hle1 _ _ hl0
  have hT2 := hT.le hle2
  have fin : ∀ (e : Em) (x : Int) (H4 H' : Heap), upE t s = (e, x) → Heap.Le H H4 → (∀ c, c ≠ b1 → H' c = H4 c) → H' b1 = some (.cells (ecells e) 50) →
      (ldB H' ((⟨b1, 0, none⟩ : Addr).add 0) fun x0 => ldI H' .i64 ((⟨b1, 0, none⟩ : Addr).add 1) fun x1 => ldI H' .u32 ((⟨b1, 0, none⟩ : Addr).add 2) fun x2 => ldI H' .i64 ((⟨b1, 0, none⟩ : Addr).add 3) fun x3 => ldS H' ((⟨b1, 0, none⟩ : Addr).add 4) fun x4 => ∃ H3, Heap.Le H3 H' ∧ K x0 x1 x2 x3 x4 x H3) := by
    intro e x H4 H' he hle hr hb
    have := hK H' (le_of_set hb1 hle hr)
    rw [he] at this
    exact ld5 hb ⟨H', Heap.Le.refl _, this⟩
  by_cases hz : 1000 < s.size
  · rw [if_pos (by rw [decide_eq_true_eq]; omega)]
    exact st5 hl1 fun H4 k1 k2 => fin Em.zero 8 H2 H4 (by unfold upE; rw [if_pos hz]) hle2 k2 k1
  · rw [if_neg (by rw [decide_eq_true_eq]; omega)]
    refine ⟨_, loc2 (o := 0) (j := 0) m0 rfl, ?_⟩
    dsimp only
    cases hip : t.ip with
    | true =>
      rw [if_pos rfl]
      refine ld6 m0 (tunnel_Tunnel_packet.run hs hT2 fun H3 hle3 => ?_)
      exact st5 (hle3 _ _ hl1) fun H4 k1 k2 => fin (upP t s.data.toList).1 (upP t s.data.toList).2 H3 H4 (by unfold upE; rw [if_neg hz, if_pos hip]) (hle2.trans hle3) k2 k1
    | false =>
      rw [if_neg (by simp)]
      refine ld6 m0 (tunnel_Tunnel_Open.run hT2 fun H3 hle3 => ?_)
      by_cases ho : openE t = 0
      · rw [if_neg (by rw [ho]; simp)]
        have q0 := hle3 _ _ m0
        refine ⟨_, loc (o := 4) q0 rfl, _, loc2 (o := 0) (j := 1) q0 rfl, _, loc2 (o := 0) (j := 2) q0 rfl, ?_⟩
        dsimp only
        exact st5 (hle3 _ _ hl1) fun H4 k1 k2 => fin ⟨false, t.port, t.addr, t.tp, s⟩ 0 H3 H4 (by unfold upE; rw [if_neg hz, if_neg (by rw [hip]; simp), if_neg (by omega)]) (hle2.trans hle3) k2 k1
      · rw [if_pos (by rw [bne_iff_ne]; exact ho)]
        have h15 : openE t = 15 := (openE_or t).resolve_left ho
        rw [h15]
        exact st5 (hle3 _ _ hl1) fun H4 k1 k2 => fin Em.zero 15 H3 H4 (by unfold upE; rw [if_neg hz, if_neg (by rw [hip]; simp), if_pos ho]) (hle2.trans hle3) k2 k1
theorem vizardref22_Tunnel_Up.run (hs : s.size ≤ 281474976710656) (hT : TunIn H t p n) {K : Bool → Int → Int → Int → ByteArray → Int → Heap → Prop} (hK : ∀ H', Heap.Le H H' → K (upE t s).1.ip (upE t s).1.port (upE t s).1.addr (upE t s).1.to_ (upE t s).1.data (upE t s).2 H') :
    vizardref22_Tunnel_Up.c t.ip t.addr t.tp t.own t.port p n c s K E H := by
  refine ⟨?_⟩
  unfold vizardref22_Tunnel_Up.vc
  refine newB_le fun b0 H1 hn0 hl0 hle0 => newB_le fun b1 H2 hn1 hl1 hle1 => ?_
  have hl0 : H1 b0 = some (.cells (tcells t p n c) 46) := hl0
  have hl1 : H2 b1 = some (.cells (ecells Em.zero) 50) := hl1
  have hle2 := hle0.trans hle1
  have hb1 : H b1 = none := by
    cases hh : H b1 with
    | none => rfl
    | some o => rw [hle0 _ _ hh] at hn1; cases hn1
  have m0 := hle1 _ _ hl0
  have hT2 := hT.le hle2
  have fin : ∀ (e : Em) (x : Int) (H4 H' : Heap), upE t s = (e, x) → Heap.Le H H4 → (∀ c, c ≠ b1 → H' c = H4 c) → H' b1 = some (.cells (ecells e) 50) →
      (ldB H' ((⟨b1, 0, none⟩ : Addr).add 0) fun x0 => ldI H' .i64 ((⟨b1, 0, none⟩ : Addr).add 1) fun x1 => ldI H' .u32 ((⟨b1, 0, none⟩ : Addr).add 2) fun x2 => ldI H' .i64 ((⟨b1, 0, none⟩ : Addr).add 3) fun x3 => ldS H' ((⟨b1, 0, none⟩ : Addr).add 4) fun x4 => ∃ H3, Heap.Le H3 H' ∧ K x0 x1 x2 x3 x4 x H3) := by
    intro e x H4 H' he hle hr hb
    have := hK H' (le_of_set hb1 hle hr)
    rw [he] at this
    exact ld5 hb ⟨H', Heap.Le.refl _, this⟩
  by_cases hz : 1000 < s.size
  · rw [if_pos (by rw [decide_eq_true_eq]; omega)]
    exact st5 hl1 fun H4 k1 k2 => fin Em.zero 8 H2 H4 (by unfold upE; rw [if_pos hz]) hle2 k2 k1
  · rw [if_neg (by rw [decide_eq_true_eq]; omega)]
    refine ⟨_, loc2 (o := 0) (j := 0) m0 rfl, ?_⟩
    dsimp only
    cases hip : t.ip with
    | false =>
      rw [if_pos (by simp)]
      refine ld6 m0 (vizardref22_Tunnel_Open.run hT2 fun H3 hle3 => ?_)
      by_cases ho : openE t = 0
      · rw [if_neg (by rw [ho]; simp)]
        have q0 := hle3 _ _ m0
        refine ⟨_, loc (o := 4) q0 rfl, _, loc2 (o := 0) (j := 1) q0 rfl, _, loc2 (o := 0) (j := 2) q0 rfl, ?_⟩
        dsimp only
        exact st5 (hle3 _ _ hl1) fun H4 k1 k2 => fin ⟨false, t.port, t.addr, t.tp, s⟩ 0 H3 H4 (by unfold upE; rw [if_neg hz, if_neg (by rw [hip]; simp), if_neg (by omega)]) (hle2.trans hle3) k2 k1
      · rw [if_pos (by rw [bne_iff_ne]; exact ho)]
        exact st5 (hle3 _ _ hl1) fun H4 k1 k2 => fin Em.zero 15 H3 H4 (by unfold upE; rw [if_neg hz, if_neg (by rw [hip]; simp), if_pos ho]) (hle2.trans hle3) k2 k1
    | true =>
      rw [if_neg (by simp)]
      have hup : upE t s = upP t s.data.toList := by unfold upE; rw [if_neg hz, if_pos hip]
      refine vizardref02_Parse.run hs fun Hp hlep => new8 fun b2 H3 hn2 hl2 hle3 => ?_
      have hle3' := (hle2.trans hlep).trans hle3
      have q0 := hle3 _ _ (hlep _ _ m0)
      have q1 := hle3 _ _ (hlep _ _ hl1)
      by_cases he : errL s.data.toList = 0
      · rw [if_neg (by rw [he]; simp)]
        have hi := (parse_in he).1
        refine ⟨_, loc (o := 5) hl2 rfl, _, loc (o := 3) q0 rfl, ?_⟩
        dsimp only
        by_cases ho : ((hdL s.data.toList).src : Int) = t.own
        · rw [if_neg (by rw [bne_iff_ne]; exact fun h => h ho)]
          refine ⟨_, _, _, loc (o := 5) q0 rfl, _, loc (o := 4) hl2 rfl, _, loc (o := 6) hl2 rfl, ld8 hl2 (vizardref22_Port.run hi fun H4 hle4 => ?_)⟩
          have hle4' := hle3'.trans hle4
          have hT4 := hT.le hle4'
          refine ⟨⟨_, loc (o := 6) (hle4 _ _ hl2) rfl, rfl, rfl⟩, ⟨_, loc (o := 4) (hle4 _ _ hl2) rfl, rfl, rfl⟩, ⟨_, _, _, loc (o := 5) (hle4 _ _ q0) rfl, rfl, rfl⟩, vizardref18_Allow.run hT4.at_ hT4.fine (by have := hi.dst; omega) ⟨?_⟩⟩
          unfold vizardref22_Tunnel_Up.J1.vc
          cases hm : mayGo t.l (hdL s.data.toList).proto (hdL s.data.toList).dst (portOf (hdL s.data.toList)) with
          | false =>
            rw [if_pos (by simp)]
            exact st5 (hle4 _ _ q1) fun H5 k1 k2 => fin Em.zero 15 H4 H5 (by rw [hup]; unfold upP; rw [if_neg (by omega), if_pos (.inr hm)]) hle4' k2 k1
          | true =>
            rw [if_neg (by simp)]
            refine ⟨?_⟩
            unfold vizardref22_Tunnel_Up.J2.vc
            refine vizardref02_Hop.run hs fun H5 hle5 => ?_
            have r1 := hle5 _ _ (hle4 _ _ q1)
            have hno : ¬ (((hdL s.data.toList).src : Int) ≠ t.own ∨ mayGo t.l (hdL s.data.toList).proto (hdL s.data.toList).dst (portOf (hdL s.data.toList)) = false) := by rw [hm]; simp [ho]
            by_cases hh : hopE s.data.toList = 0
            · rw [if_neg (by rw [hh]; simp)]
              refine ⟨_, loc (o := 6) (hle5 _ _ (hle4 _ _ hl2)) rfl, ?_⟩
              dsimp only
              exact st5 r1 fun H6 k1 k2 => fin ⟨true, 0, (hdL s.data.toList).dst, 0, hopB s.data.toList⟩ 0 H5 H6 (by rw [hup]; unfold upP; rw [if_neg (by omega), if_neg hno, if_neg (by omega)]) (hle4'.trans hle5) k2 k1
            · rw [if_pos (by rw [bne_iff_ne]; omega)]
              exact st5 r1 fun H6 k1 k2 => fin Em.zero (hopE s.data.toList) H5 H6 (by rw [hup]; unfold upP; rw [if_neg (by omega), if_neg hno, if_pos hh]) (hle4'.trans hle5) k2 k1
        · rw [if_pos (by rw [bne_iff_ne]; exact ho)]
          refine ⟨trivial, trivial, trivial, ⟨?_⟩⟩
          unfold vizardref22_Tunnel_Up.J1.vc
          rw [if_pos rfl]
          exact st5 q1 fun H5 k1 k2 => fin Em.zero 15 H3 H5 (by rw [hup]; unfold upP; rw [if_neg (by omega), if_pos (.inl ho)]) hle3' k2 k1
      · rw [if_pos (by rw [bne_iff_ne]; omega)]
        exact st5 q1 fun H4 k1 k2 => fin Em.zero (errL s.data.toList) H3 H4 (by rw [hup]; unfold upP; rw [if_pos he]) hle3' k2 k1
end
end Go.Sh
/-! ### From here: XTuE.lean -/
namespace Go.Sh
open Go.Proofs
set_option maxRecDepth 8000
noncomputable def downE (t : Tun) (src from_ : Int) (s : ByteArray) : ByteArray × Int :=
  if 1000 < s.size then (⟨#[]⟩, 8) else if t.ip = true then
    (if errL s.data.toList ≠ 0 then (⟨#[]⟩, errL s.data.toList) else if ((hdL s.data.toList).dst : Int) ≠ t.own then (⟨#[]⟩, 15) else (hopB s.data.toList, hopE s.data.toList))
  else if src = t.addr ∧ from_ = t.tp then (s, 0) else (⟨#[]⟩, 15)
section
variable {H : Heap} {t : Tun} {p : Option Addr} {n c : Nat} {s : ByteArray} {E : Value → Heap → Prop} {src from_ : Int}
theorem tunnel_Tunnel_Down.run (hs : s.size ≤ 281474976710656) {K : ByteArray → Int → Heap → Prop} (hK : ∀ H', Heap.Le H H' → K (downE t src from_ s).1 (downE t src from_ s).2 H') :
    tunnel_Tunnel_Down.c t.ip t.addr t.tp t.own t.port p n c src from_ s K E H := by
  refine ⟨?_⟩
  unfold tunnel_Tunnel_Down.vc
  refine newB_le fun b0 H1 hn0 hl0 hle0 => ?_
  have hl0 : H1 b0 = some (.cells (tcells t p n c) 47) := hl0
  have fin : ∀ (x : ByteArray) (e : Int) (H' : Heap), downE t src from_ s = (x, e) → Heap.Le H H' → ∃ H'', Heap.Le H'' H' ∧ K x e H'' := fun x e H' h hl => by
    have := hK H' hl
    rw [h] at this
    exact ⟨H', Heap.Le.refl _, this⟩
  by_cases hz : 1000 < s.size
  · rw [if_pos (by rw [decide_eq_true_eq]; omega)]
    exact fin _ _ _ (by unfold downE; rw [if_pos hz]) hle0
  · rw [if_neg (by rw [decide_eq_true_eq]; omega)]
    refine ⟨_, loc2 (o := 0) (j := 0) hl0 rfl, ?_⟩
    dsimp only
    cases hip : t.ip with
    | false =>
      rw [if_pos (by simp)]
      refine ⟨_, loc2 (o := 0) (j := 1) hl0 rfl, ?_⟩
      dsimp only
      by_cases h1 : src = t.addr
      · rw [if_neg (by rw [bne_iff_ne]; exact fun h => h h1)]
        refine ⟨_, loc2 (o := 0) (j := 2) hl0 rfl, ⟨?_⟩⟩
        unfold tunnel_Tunnel_Down.J1.vc
        by_cases h2 : from_ = t.tp
        · rw [if_neg (by rw [bne_iff_ne]; exact fun h => h h2)]
          refine ⟨_, loc2 (o := 0) (j := 0) hl0 rfl, ?_⟩
          dsimp only
          rw [hip, if_pos (by simp)]
          exact fin _ _ _ (by unfold downE; rw [if_neg hz, if_neg (by rw [hip]; simp), if_pos ⟨h1, h2⟩]) hle0
        · rw [if_pos (by rw [bne_iff_ne]; exact h2)]
          exact fin _ _ _ (by unfold downE; rw [if_neg hz, if_neg (by rw [hip]; simp), if_neg (fun h => h2 h.2)]) hle0
      · rw [if_pos (by rw [bne_iff_ne]; exact h1)]
        refine ⟨?_⟩
        unfold tunnel_Tunnel_Down.J1.vc
        rw [if_pos rfl]
        exact fin _ _ _ (by unfold downE; rw [if_neg hz, if_neg (by rw [hip]; simp), if_neg (fun h => h1 h.1)]) hle0
    | true =>
      rw [if_neg (by simp)]
      refine ⟨?_⟩
      unfold tunnel_Tunnel_Down.J1.vc
      rw [if_neg (by simp)]
      refine ⟨_, loc2 (o := 0) (j := 0) hl0 rfl, ?_⟩
      dsimp only
      rw [hip, if_neg (by simp)]
      refine ⟨?_⟩
      unfold tunnel_Tunnel_Down.J2.vc
      refine ipv4_Parse.run hs (new8 fun b2 H3 hn2 hl2 hle3 => ?_)
      have hle3' := hle0.trans hle3
      by_cases he : errL s.data.toList = 0
      · rw [if_neg (by rw [he]; simp)]
        refine ⟨_, loc (o := 6) hl2 rfl, _, loc (o := 3) (hle3 _ _ hl0) rfl, ?_⟩
        dsimp only
        by_cases ho : ((hdL s.data.toList).dst : Int) = t.own
        · rw [if_neg (by rw [bne_iff_ne]; exact fun h => h ho)]
          exact tunnel_further.run hs fun H4 hle4 => fin _ _ _ (by unfold downE; rw [if_neg hz, if_pos hip, if_neg (by omega), if_neg (fun h => h ho)]) (hle3'.trans hle4)
        · rw [if_pos (by rw [bne_iff_ne]; exact ho)]
          exact fin _ _ _ (by unfold downE; rw [if_neg hz, if_pos hip, if_neg (by omega), if_pos ho]) hle3'
      · rw [if_pos (by rw [bne_iff_ne]; omega)]
        exact fin _ _ _ (by unfold downE; rw [if_neg hz, if_pos hip, if_pos he]) hle3'
theorem vizardref22_Tunnel_Down.run (hs : s.size ≤ 281474976710656) {K : ByteArray → Int → Heap → Prop} (hK : ∀ H', Heap.Le H H' → K (downE t src from_ s).1 (downE t src from_ s).2 H') :
    vizardref22_Tunnel_Down.c t.ip t.addr t.tp t.own t.port p n c src from_ s K E H := by
  refine ⟨?_⟩
  unfold vizardref22_Tunnel_Down.vc
  refine newB_le fun b0 H1 hn0 hl0 hle0 => ?_
  have hl0 : H1 b0 = some (.cells (tcells t p n c) 46) := hl0
  have fin : ∀ (x : ByteArray) (e : Int) (H' : Heap), downE t src from_ s = (x, e) → Heap.Le H H' → ∃ H'', Heap.Le H'' H' ∧ K x e H'' := fun x e H' h hl => by
    have := hK H' hl
    rw [h] at this
    exact ⟨H', Heap.Le.refl _, this⟩
  by_cases hz : 1000 < s.size
  · rw [if_pos (by rw [decide_eq_true_eq]; omega)]
    exact fin _ _ _ (by unfold downE; rw [if_pos hz]) hle0
  · rw [if_neg (by rw [decide_eq_true_eq]; omega)]
    refine ⟨_, loc2 (o := 0) (j := 0) hl0 rfl, ?_⟩
    dsimp only
    cases hip : t.ip with
    | false =>
      rw [if_pos (by simp)]
      refine ⟨_, loc2 (o := 0) (j := 1) hl0 rfl, ?_⟩
      dsimp only
      by_cases h1 : src = t.addr
      · rw [if_neg (by rw [bne_iff_ne]; exact fun h => h h1)]
        refine ⟨_, loc2 (o := 0) (j := 2) hl0 rfl, ⟨?_⟩⟩
        unfold vizardref22_Tunnel_Down.J1.vc
        by_cases h2 : from_ = t.tp
        · rw [if_neg (by rw [bne_iff_ne]; exact fun h => h h2)]
          refine ⟨?_⟩
          unfold vizardref22_Tunnel_Down.J2.vc
          exact fin _ _ _ (by unfold downE; rw [if_neg hz, if_neg (by rw [hip]; simp), if_pos ⟨h1, h2⟩]) hle0
        · rw [if_pos (by rw [bne_iff_ne]; exact h2)]
          exact fin _ _ _ (by unfold downE; rw [if_neg hz, if_neg (by rw [hip]; simp), if_neg (fun h => h2 h.2)]) hle0
      · rw [if_pos (by rw [bne_iff_ne]; exact h1)]
        refine ⟨?_⟩
        unfold vizardref22_Tunnel_Down.J1.vc
        rw [if_pos rfl]
        exact fin _ _ _ (by unfold downE; rw [if_neg hz, if_neg (by rw [hip]; simp), if_neg (fun h => h1 h.1)]) hle0
    | true =>
      rw [if_neg (by simp)]
      refine vizardref02_Parse.run hs fun Hp hlep => new8 fun b2 H3 hn2 hl2 hle3 => ?_
      have hle3' := (hle0.trans hlep).trans hle3
      by_cases he : errL s.data.toList = 0
      · rw [if_neg (by rw [he]; simp)]
        refine ⟨_, loc (o := 6) hl2 rfl, _, loc (o := 3) (hle3 _ _ (hlep _ _ hl0)) rfl, ?_⟩
        dsimp only
        by_cases ho : ((hdL s.data.toList).dst : Int) = t.own
        · rw [if_neg (by rw [bne_iff_ne]; exact fun h => h ho)]
          exact vizardref02_Hop.run hs fun H4 hle4 => fin _ _ _ (by unfold downE; rw [if_neg hz, if_pos hip, if_neg (by omega), if_neg (fun h => h ho)]) (hle3'.trans hle4)
        · rw [if_pos (by rw [bne_iff_ne]; exact ho)]
          exact fin _ _ _ (by unfold downE; rw [if_neg hz, if_pos hip, if_neg (by omega), if_pos ho]) hle3'
      · rw [if_pos (by rw [bne_iff_ne]; omega)]
        exact fin _ _ _ (by unfold downE; rw [if_neg hz, if_pos hip, if_pos he]) hle3'
theorem st6 {H : Heap} {b : Nat} {u0 u1 u2 u3 u4 u5 v0 v1 v2 v3 v4 v5 : Value} {e : TypeId} {K : Heap → Prop} (h : H b = some (.cells #[u0, u1, u2, u3, u4, u5] e)) (hk : ∀ H', H' b = some (.cells #[v0, v1, v2, v3, v4, v5] e) → (∀ c, c ≠ b → H' c = H c) → K H') :
    stc H ((⟨b, 0, none⟩ : Addr).add 0) v0 fun h1 => stc h1 ((⟨b, 0, none⟩ : Addr).add 1) v1 fun h2 => stc h2 ((⟨b, 0, none⟩ : Addr).add 2) v2 fun h3 => stc h3 ((⟨b, 0, none⟩ : Addr).add 3) v3 fun h4 => stc h4 ((⟨b, 0, none⟩ : Addr).add 4) v4 fun h5 => stc h5 ((⟨b, 0, none⟩ : Addr).add 5) v5 K := by
  refine stc_to (o := 0) (arr' := #[v0, u1, u2, u3, u4, u5]) h (by simp) rfl ?_
  refine stc_to (o := 1) (arr' := #[v0, v1, u2, u3, u4, u5]) (set_self _ _ _) (by simp) rfl ?_
  refine stc_to (o := 2) (arr' := #[v0, v1, v2, u3, u4, u5]) (set_self _ _ _) (by simp) rfl ?_
  refine stc_to (o := 3) (arr' := #[v0, v1, v2, v3, u4, u5]) (set_self _ _ _) (by simp) rfl ?_
  refine stc_to (o := 4) (arr' := #[v0, v1, v2, v3, v4, u5]) (set_self _ _ _) (by simp) rfl ?_
  refine stc_to (o := 5) (arr' := #[v0, v1, v2, v3, v4, v5]) (set_self _ _ _) (by simp) rfl ?_
  rw [set_set, set_set, set_set, set_set, set_set]
  exact hk _ (set_self _ _ _) fun c hc => set_ne _ _ hc
theorem vizardlaw22_its.run (hT : TunIn H t p n) (hn : n * 48 ≤ 140737488351232) {K : Bool → Int → Int → Int → Int → Option Addr → Nat → Nat → Heap → Prop}
    (hK : ∀ p' c' H', Heap.Le H H' → TunIn H' t p' n → K t.ip t.addr t.tp t.own t.port p' n c' H') : vizardlaw22_its.c t.ip t.addr t.tp t.own t.port p n c K E H := by
  refine ⟨?_⟩
  unfold vizardlaw22_its.vc
  refine newB_le fun b0 H1 hn0 hl0 hle0 => newB_le fun b1 H2 hn1 hl1 hle1 => ?_
  have hl0 : H1 b0 = some (.cells (tcells t p n c) 46) := hl0
  have m0 := hle1 _ _ hl0
  have hT2 := hT.le (hle0.trans hle1)
  have hb1 : H b1 = none := by
    cases hh : H b1 with
    | none => rfl
    | some o => rw [hle0 _ _ hh] at hn1; cases hn1
  refine ⟨_, loc2 (o := 0) (j := 0) m0 rfl, _, loc2 (o := 0) (j := 1) m0 rfl, _, loc2 (o := 0) (j := 2) m0 rfl, _, loc (o := 3) m0 rfl, _, loc (o := 4) m0 rfl, _, _, _, loc (o := 5) m0 rfl, ?_⟩
  intro b hb
  have hle3 := Le_set hb (.cells #[] 40)
  have q0 := hle3 _ _ m0
  refine ⟨⟨_, _, _, loc (o := 5) q0 rfl, rfl, rfl⟩, ⟨_, loc (o := 4) q0 rfl, rfl, rfl⟩, ⟨_, loc (o := 3) q0 rfl, rfl, rfl⟩, ⟨_, loc2 (o := 0) (j := 0) q0 rfl, _, loc2 (o := 0) (j := 1) q0 rfl, _, loc2 (o := 0) (j := 2) q0 rfl, rfl, rfl⟩, ?_⟩
  refine rdRow_of (RulesAt.mono hT2.at_ hle3) (by decide) rfl ?_
  refine appT_step (rows := []) (xs := t.l.map Rul.cells) ⟨rfl, (fun es he => by cases he), Nat.le_refl _, .inr ⟨b, #[], rfl, set_self _ _ _, rfl, rfl⟩⟩ (by decide) rfl rfl (by simpa using hT2.at_.len) (rul_len t.l) (rul_plain t.l) (by omega) (by omega) ?_
  intro p' c' H4 h1 h2
  rw [Nat.zero_add] at h1 ⊢
  have hst : Step [] H2 (bl p') H4 := (Step.new hb _ []).trans h2
  have hle4 : Heap.Le H2 H4 := hst.le
  have r0 := hle4 _ _ m0
  refine ⟨⟨_, loc (o := 4) r0 rfl, rfl, rfl⟩, ⟨_, loc (o := 3) r0 rfl, rfl, rfl⟩, ⟨_, loc2 (o := 0) (j := 0) r0 rfl, _, loc2 (o := 0) (j := 1) r0 rfl, _, loc2 (o := 0) (j := 2) r0 rfl, rfl, rfl⟩, ?_⟩
  refine st6 (hle4 _ _ hl1) fun H5 k1 k2 => ?_
  have k1 : H5 b1 = some (.cells (tcells t p' n c') 47) := k1
  have hr : RulesAt H4 p' n t.l := OwnRows.at (rows := t.l.map Rul.cells) (by simpa using h1)
  have hr5 : RulesAt H5 p' n t.l := by
    refine ⟨hr.1, hr.2.1, fun a ha i es hi => ⟨(hr.2.2 a ha i es hi).1, fun j v hj => ?_⟩⟩
    have hc := (hr.2.2 a ha i es hi).2 j v hj
    have hab : a.block ≠ b1 := by
      rcases h1.2.2.2 with ⟨hp0, _⟩ | ⟨ob, arr, hp, hH, hsz, htk⟩
      · rw [hp0] at ha; cases ha
      · rw [hp] at ha
        cases ha
        intro e
        have e : ob = b1 := e
        subst e
        rw [hle4 _ _ hl1] at hH
        have := Option.some.inj hH
        injection this with h3 h4
        cases h4
    unfold Heap.cell? at hc ⊢
    rw [add_block, add_block] at hc ⊢
    rw [k2 _ hab]
    exact hc
  exact ld6 k1 ⟨H5, Heap.Le.refl _, hK p' c' H5 (le_of_set hb1 ((hle0.trans hle1).trans hle4) k2) ⟨hr5, hT.fine, hT.a0⟩⟩
end
end Go.Sh
