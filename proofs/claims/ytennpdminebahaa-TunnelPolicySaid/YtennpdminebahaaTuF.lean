/- TunnelGoes, TunnelPolicy, TunnelBack. -/
import Derived.Test.YtennpdminebahaaTuD
import Derived.Test.YtennpdminebahaaShX
namespace Go.Sh
open Go.Proofs Go.RowKit
set_option maxRecDepth 8000
def rl0 : Rul := ⟨true, 0, 0, 0, 0, 65535⟩
def tun0 : Tun := ⟨false, 167772162, 53, 0, 40000, [rl0]⟩
theorem may0 : mayGo [rl0] 17 167772162 53 = true := by decide +kernel
theorem sz1 (x : UInt8) : (⟨#[x]⟩ : ByteArray).size = 1 := rfl
theorem vizardlaw22_works.run {H : Heap} {K : Bool → Heap → Prop} {E : Value → Heap → Prop} (hK : ∀ H', Heap.Le H H' → K true H') : vizardlaw22_works.c K E H := by
  refine ⟨?_⟩
  unfold vizardlaw22_works.vc
  refine newB_le fun b0 H1 hn0 hl0 hle0 => new6_le fun b1 H2 hn1 hl1 hle1 => ?_
  have hl1 : H2 b1 = some (.cells (tcells tun0 (some ⟨b0, 0, none⟩) 1 1) 47) := hl1
  have hr : RulesAt H2 (some ⟨b0, 0, none⟩) 1 [rl0] := by
    refine ⟨rfl, (fun h => by cases h), fun a ha i es hi => ?_⟩
    cases ha
    cases i with
    | zero =>
      simp only [List.map_cons, List.map_nil, List.getElem?_cons_zero, Option.some.injEq] at hi
      subst hi
      refine ⟨rfl, fun j v hj => ?_⟩
      rw [add_add]
      exact loc (hle1 _ _ hl0) (by simpa [rl0, Rul.cells] using hj)
    | succ i => simp at hi
  have hT : TunIn H2 tun0 (some ⟨b0, 0, none⟩) 1 := ⟨hr, fun r hr => by simp only [tun0, List.mem_cons, List.not_mem_nil, or_false] at hr; subst hr; exact ⟨by decide, by decide⟩, by decide, by decide⟩
  refine ld6 hl1 ?_
  have e1 : upE tun0 ⟨#[113]⟩ = (⟨false, 40000, 167772162, 53, ⟨#[113]⟩⟩, 0) := by
    have ho : openE tun0 = 0 := by
      unfold openE
      rw [if_neg (by decide), if_pos (show mayGo tun0.l 17 tun0.addr tun0.tp = true from may0)]
    unfold upE
    rw [if_neg (by rw [sz1]; decide), if_neg (by decide), if_neg (fun h => h ho)]
    rfl
  have e2 : downE tun0 167772162 53 ⟨#[97]⟩ = (⟨#[97]⟩, 0) := by
    unfold downE
    rw [if_neg (by rw [sz1]; decide), if_neg (by decide), if_pos ⟨rfl, rfl⟩]
  have e3 : downE tun0 167772163 53 ⟨#[97]⟩ = (⟨#[]⟩, 15) := by
    unfold downE
    rw [if_neg (by rw [sz1]; decide), if_neg (by decide), if_neg (by decide)]
  refine tunnel_Tunnel_Up.run (by rw [sz1]; decide) hT fun H3 hle3 => ?_
  rw [e1]
  refine new5_le fun b2 H4 hn2 hl2 hle4 => ?_
  have hl2 : H4 b2 = some (.cells (ecells ⟨false, 40000, 167772162, 53, ⟨#[113]⟩⟩) 50) := hl2
  have m1 := hle4 _ _ (hle3 _ _ hl1)
  refine ld6 m1 (tunnel_Tunnel_Down.run (by rw [sz1]; decide) fun H5 hle5 => ?_)
  rw [e2]
  refine ld6 (hle5 _ _ m1) (tunnel_Tunnel_Down.run (by rw [sz1]; decide) fun H6 hle6 => ?_)
  rw [e3]
  refine ld5 (hle6 _ _ (hle5 _ _ hl2)) ?_
  dsimp only
  rw [if_pos (by simp [ba_self]), if_pos (by decide), if_pos (by simp), if_pos (by decide)]
  exact ⟨H6, Heap.Le.refl _, hK H6 (((((hle0.trans hle1).trans hle3).trans hle4).trans hle5).trans hle6)⟩
section
variable {H : Heap} {ip : Bool} {a tp own port : Int} {p : Option Addr} {n c : Nat} {s : ByteArray} {src from_ : Int} {K : Bool → Heap → Prop} {E : Value → Heap → Prop}
theorem vizardlaw22_TunnelGoes.run (ha : IntKind.u32.has a) (_ : IntKind.i64.has tp) (_ : IntKind.u32.has own) (_ : IntKind.i64.has port) (hnc : n ≤ c) (hw : c * 48 ≤ reachBytes)
    (hrows : ∃ rows, RowsAt H p n 6 rows ∧ ∀ es ∈ rows, ∃ y0 y1 y2 y3 y4 y5, es = [(.bool y0), (.int .i64 y1), (.int .u32 y2), (.int .i64 y3), (.int .i64 y4), (.int .i64 y5)] ∧ IntKind.i64.has y1 ∧ IntKind.u32.has y2 ∧ IntKind.i64.has y3 ∧ IntKind.i64.has y4 ∧ IntKind.i64.has y5)
    (hs : s.size ≤ reachBytes) (_ : IntKind.u32.has src) (_ : IntKind.i64.has from_) (h : K true H) : vizardlaw22_TunnelGoes.c ip a tp own port p n c s src from_ K E H := by
  obtain ⟨l, hat, hl⟩ := rules_of hrows
  have ha := has_u32 ha
  have hr : reachBytes = 140737488351232 := rfl
  have hs' : s.size ≤ 281474976710656 := by omega
  obtain ⟨t, ht⟩ : ∃ t : Tun, t = ⟨ip, a, tp, own, port, l⟩ := ⟨_, rfl⟩
  have hT : TunIn H t p n := by rw [ht]; exact ⟨hat, hl, ha.1, by show a < 4294967296; omega⟩
  have g : vizardlaw22_TunnelGoes.c t.ip t.addr t.tp t.own t.port p n c s src from_ K E H := by
    refine ⟨?_⟩
    unfold vizardlaw22_TunnelGoes.vc
    refine newB_le fun b0 H1 hn0 hl0 hle0 => ?_
    have hl0 : H1 b0 = some (.cells (tcells t p n c) 46) := hl0
    refine ld6 hl0 (vizardlaw22_its.run (hT.le hle0) (by omega) fun p' c' H2 hle2 hT2 => ?_)
    refine new6_le fun b1 H3 hn1 hl1 hle3 => ?_
    have hl1 : H3 b1 = some (.cells (tcells t p' n c') 47) := hl1
    have hle3' := (hle0.trans hle2).trans hle3
    refine ld6 hl1 (tunnel_Tunnel_Up.run hs' (hT2.le hle3) fun H4 hle4 => ?_)
    refine new5_le fun b2 H5 hn2 hl2 hle5 => ?_
    have hl2 : H5 b2 = some (.cells (ecells (upE t s).1) 50) := hl2
    have hle5' := (hle3'.trans hle4).trans hle5
    have m0 := hle5 _ _ (hle4 _ _ (hle3 _ _ (hle2 _ _ hl0)))
    have m1 := hle5 _ _ (hle4 _ _ hl1)
    refine ld6 m0 (vizardref22_Tunnel_Up.run hs' (hT.le hle5') fun H6 hle6 => ?_)
    refine new5_le fun b3 H7 hn3 hl3 hle7 => ?_
    have hl3 : H7 b3 = some (.cells (ecells (upE t s).1) 50) := hl3
    have hle7' := (hle5'.trans hle6).trans hle7
    have q0 := hle7 _ _ (hle6 _ _ m0)
    have q1 := hle7 _ _ (hle6 _ _ m1)
    have q2 := hle7 _ _ (hle6 _ _ hl2)
    refine ld6 q1 (tunnel_Tunnel_Down.run hs' fun H8 hle8 => ?_)
    refine ld6 (hle8 _ _ q0) (vizardref22_Tunnel_Down.run hs' fun H9 hle9 => ?_)
    have hle9' := (hle7'.trans hle8).trans hle9
    have hT9 : TunIn H9 t p' n := hT2.le ((((((hle3.trans hle4).trans hle5).trans hle6).trans hle7).trans hle8).trans hle9)
    have r0 := hle9 _ _ (hle8 _ _ q0)
    refine ld6 (hle9 _ _ (hle8 _ _ q1)) (ld6 r0 (tunnel_Tunnel_Open.run hT9 fun Ha hlea => ⟨ld6 (hlea _ _ r0) ⟨rfl, rfl⟩, vizardref22_Tunnel_Open.run (hT.le (hle9'.trans hlea)) fun Hb hleb => ?_⟩))
    rw [if_pos (by simp)]
    refine ld5 (hleb _ _ (hlea _ _ (hle9 _ _ (hle8 _ _ q2)))) (ld5 (hleb _ _ (hlea _ _ (hle9 _ _ (hle8 _ _ hl3)))) ?_)
    rw [if_pos (by simp [ba_self]), if_pos (by simp), if_pos (by simp)]
    refine ⟨H, (hle9'.trans hlea).trans hleb, ?_⟩
    simpa using h
  rw [ht] at g
  exact g
theorem vizardlaw22_TunnelPolicy.run (ha : IntKind.u32.has a) (_ : IntKind.i64.has tp) (_ : IntKind.u32.has own) (_ : IntKind.i64.has port) (hnc : n ≤ c) (hw : c * 48 ≤ reachBytes)
    (hrows : ∃ rows, RowsAt H p n 6 rows ∧ ∀ es ∈ rows, ∃ y0 y1 y2 y3 y4 y5, es = [(.bool y0), (.int .i64 y1), (.int .u32 y2), (.int .i64 y3), (.int .i64 y4), (.int .i64 y5)] ∧ IntKind.i64.has y1 ∧ IntKind.u32.has y2 ∧ IntKind.i64.has y3 ∧ IntKind.i64.has y4 ∧ IntKind.i64.has y5)
    (hs : s.size ≤ reachBytes) (h : K true H) : vizardlaw22_TunnelPolicy.c ip a tp own port p n c s K E H := by
  obtain ⟨l, hat, hl⟩ := rules_of hrows
  have ha := has_u32 ha
  have hr : reachBytes = 140737488351232 := rfl
  have hs' : s.size ≤ 281474976710656 := by omega
  obtain ⟨t, ht⟩ : ∃ t : Tun, t = ⟨ip, a, tp, own, port, l⟩ := ⟨_, rfl⟩
  have hT : TunIn H t p n := by rw [ht]; exact ⟨hat, hl, ha.1, by show a < 4294967296; omega⟩
  have g : vizardlaw22_TunnelPolicy.c t.ip t.addr t.tp t.own t.port p n c s K E H := by
    refine ⟨?_⟩
    unfold vizardlaw22_TunnelPolicy.vc
    refine newB_le fun b0 H1 hn0 hl0 hle0 => ?_
    have hl0 : H1 b0 = some (.cells (tcells t p n c) 46) := hl0
    refine vizardlaw22_works.run fun H2 hle2 => ?_
    rw [if_neg (show ¬ ((!true) = true) by simp)]
    have hle2' := hle0.trans hle2
    have m0 := hle2 _ _ hl0
    refine ld6 m0 (vizardlaw22_its.run (hT.le hle2') (by omega) fun p' c' H3 hle3 hT3 => ?_)
    refine tunnel_Tunnel_Up.run hs' hT3 fun H4 hle4 => ?_
    have hle4' := (hle2'.trans hle3).trans hle4
    refine new5_le fun b1 H5 hn1 hl1 hle5 => ?_
    have hl1 : H5 b1 = some (.cells (ecells (upE t s).1) 50) := hl1
    have hle5' := hle4'.trans hle5
    have q0 := hle5 _ _ (hle4 _ _ (hle3 _ _ m0))
    have fin : ∀ H', Heap.Le H H' → ∃ H'', Heap.Le H'' H' ∧ K true H'' := fun H' hl => ⟨H, hl, h⟩
    by_cases he : (upE t s).2 = 0
    · rw [if_neg (by rw [he]; simp)]
      refine ⟨_, loc (o := 0) hl1 rfl, _, loc2 (o := 0) (j := 0) q0 rfl, ?_⟩
      dsimp only
      by_cases hz : 1000 < s.size
      · exfalso
        unfold upE at he
        rw [if_pos hz] at he
        cases he
      cases hip : t.ip with
      | false =>
        have ho : openE t = 0 := by
          unfold upE at he
          rw [if_neg hz, if_neg (by rw [hip]; simp)] at he
          by_cases ho : openE t = 0
          · exact ho
          · rw [if_pos ho] at he; cases he
        have hup : upE t s = (⟨false, t.port, t.addr, t.tp, s⟩, 0) := by unfold upE; rw [if_neg hz, if_neg (by rw [hip]; simp), if_neg (by omega)]
        have hm : mayGo t.l 17 t.addr t.tp = true := by
          unfold openE at ho
          rw [hip, if_neg (by simp)] at ho
          by_cases hm : mayGo t.l 17 t.addr t.tp = true
          · exact hm
          · rw [if_neg hm] at ho; cases ho
        rw [hup] at hl1
        rw [hup]
        rw [if_neg (by simp)]
        refine ⟨_, loc (o := 0) hl1 rfl, ?_⟩
        dsimp only
        rw [if_pos (by simp)]
        have hT5 := hT.le hle5'
        refine ⟨_, _, _, loc (o := 5) q0 rfl, _, loc (o := 2) hl1 rfl, _, loc (o := 3) hl1 rfl, vizardref18_Allow.run hT5.at_ hT5.fine hT5.a0 ?_⟩
        rw [hm, if_pos rfl]
        refine ⟨_, loc (o := 4) hl1 rfl, ?_⟩
        dsimp only
        rw [if_pos (by simp)]
        refine ⟨_, loc (o := 1) hl1 rfl, _, loc (o := 4) q0 rfl, ?_⟩
        obtain ⟨H', h1, h2⟩ := fin _ hle5'
        exact ⟨H', h1, by simpa using h2⟩
      | true =>
        have hup : upE t s = upP t s.data.toList := by unfold upE; rw [if_neg hz, if_pos hip]
        rw [hup] at he hl1 ⊢
        have f : errL s.data.toList = 0 ∧ ¬ (((hdL s.data.toList).src : Int) ≠ t.own ∨ mayGo t.l (hdL s.data.toList).proto (hdL s.data.toList).dst (portOf (hdL s.data.toList)) = false) ∧ hopE s.data.toList = 0 := by
          unfold upP at he
          by_cases h1 : errL s.data.toList = 0
          · rw [if_neg (by omega)] at he
            by_cases h2 : ((hdL s.data.toList).src : Int) ≠ t.own ∨ mayGo t.l (hdL s.data.toList).proto (hdL s.data.toList).dst (portOf (hdL s.data.toList)) = false
            · rw [if_pos h2] at he; cases he
            · rw [if_neg h2] at he
              by_cases h3 : hopE s.data.toList = 0
              · exact ⟨h1, h2, h3⟩
              · rw [if_pos h3] at he
                have he : ((hopE s.data.toList : Nat) : Int) = 0 := he
                omega
          · rw [if_pos h1] at he
            have he : ((errL s.data.toList : Nat) : Int) = 0 := he
            omega
        obtain ⟨f1, f2, f3⟩ := f
        have hupp : upP t s.data.toList = (⟨true, 0, (hdL s.data.toList).dst, 0, hopB s.data.toList⟩, 0) := by unfold upP; rw [if_neg (by omega), if_neg f2, if_neg (by omega)]
        rw [hupp] at hl1 ⊢
        have hsrc : ((hdL s.data.toList).src : Int) = t.own := Decidable.byContradiction fun hh => f2 (.inl hh)
        have hmay : mayGo t.l (hdL s.data.toList).proto (hdL s.data.toList).dst (portOf (hdL s.data.toList)) = true := by
          cases hm : mayGo t.l (hdL s.data.toList).proto (hdL s.data.toList).dst (portOf (hdL s.data.toList)) with
          | true => rfl
          | false => exact absurd (.inr hm) f2
        rw [if_neg (by simp)]
        refine ⟨_, loc (o := 0) hl1 rfl, ?_⟩
        dsimp only
        rw [if_neg (by simp)]
        refine ⟨_, loc (o := 4) hl1 rfl, ?_⟩
        dsimp only
        obtain ⟨p1, p2, p3, p4⟩ := hop_parse f3
        have hi := (parse_in p3).1
        have hsz : (hopB s.data.toList).size ≤ 281474976710656 := by
          unfold hopB
          rw [if_pos f3, build_size]
          have := (Hd.less_in hi).data
          omega
        refine vizardref02_Parse.run hsz fun H6 hle6 => ?_
        rw [p1, p2]
        refine new8 fun b2 H7 hn2 hl2 hle7 => ?_
        refine vizardref02_Parse.run hs' fun H8 hle8 => ?_
        rw [p3]
        refine new8 fun b3 H9 hn3 hl3 hle9 => ?_
        have hb23 : b2 ≠ b3 := fun e => by rw [e] at hl2; rw [hle8 _ _ hl2] at hn3; cases hn3
        have u2 := hle9 _ _ (hle8 _ _ hl2)
        have u1 := hle9 _ _ (hle8 _ _ (hle7 _ _ (hle6 _ _ hl1)))
        have u0 := hle9 _ _ (hle8 _ _ (hle7 _ _ (hle6 _ _ q0)))
        have hle9' := (((hle5'.trans hle6).trans hle7).trans hle8).trans hle9
        have hb3 : H b3 = none := by
          cases hh : H b3 with
          | none => rfl
          | some o => rw [(((hle5'.trans hle6).trans hle7).trans hle8) _ _ hh] at hn3; cases hn3
        have hb31 : b1 ≠ b3 := fun e => by rw [e] at hl1; rw [hle8 _ _ (hle7 _ _ (hle6 _ _ hl1))] at hn3; cases hn3
        have hb30 : b0 ≠ b3 := fun e => by rw [e] at q0; rw [hle8 _ _ (hle7 _ _ (hle6 _ _ q0))] at hn3; cases hn3
        refine st_less hi (by omega) hl3 fun Ha k1 k2 => ?_
        have hlea : Heap.Le H Ha := le_of_set hb3 hle9' k2
        rw [if_pos (by decide), if_pos (by decide)]
        have v2 : Ha b2 = some (.cells (hcells (hdL s.data.toList).less) 58) := by rw [k2 b2 hb23]; exact u2
        have v1 : Ha b1 = some (.cells (ecells ⟨true, 0, (hdL s.data.toList).dst, 0, hopB s.data.toList⟩) 50) := by rw [k2 b1 hb31]; exact u1
        have v0 : Ha b0 = some (.cells (tcells t p n c) 46) := by rw [k2 b0 hb30]; exact u0
        refine ld8 v2 (ld8 k1 ?_)
        rw [if_pos (by simp [ba_self])]
        refine ⟨_, loc (o := 5) v2 rfl, _, loc (o := 3) v0 rfl, ?_⟩
        dsimp only
        rw [if_pos (by rw [beq_iff_eq]; exact hsrc)]
        refine ⟨_, loc (o := 6) v2 rfl, _, loc (o := 2) v1 rfl, ?_⟩
        dsimp only
        rw [if_pos (by rw [beq_iff_eq]; rfl)]
        refine ⟨_, _, _, loc (o := 5) v0 rfl, _, loc (o := 4) v2 rfl, _, loc (o := 6) v2 rfl, ld8 v2 (vizardref22_Port.run (Hd.less_in hi) fun Hb hleb => ?_)⟩
        have hTb := hT.le (hlea.trans hleb)
        refine ⟨⟨_, loc (o := 6) (hleb _ _ v2) rfl, rfl, rfl⟩, ⟨_, loc (o := 4) (hleb _ _ v2) rfl, rfl, rfl⟩, ⟨_, _, _, loc (o := 5) (hleb _ _ v0) rfl, rfl, rfl⟩, vizardref18_Allow.run hTb.at_ hTb.fine (by have := (Hd.less_in hi).dst; omega) ?_⟩
        have hmm : mayGo t.l (hdL s.data.toList).less.proto (hdL s.data.toList).less.dst (portOf (hdL s.data.toList).less) = true := hmay
        rw [hmm]
        exact fin _ (hlea.trans hleb)
    · rw [if_pos (by rw [bne_iff_ne]; exact he)]
      have hzero : (upE t s).1 = Em.zero := by
        unfold upE at he ⊢
        by_cases hz : 1000 < s.size
        · rw [if_pos hz]
        · rw [if_neg hz] at he ⊢
          cases hip : t.ip with
          | false =>
            rw [hip, if_neg (by simp)] at he
            rw [if_neg (by simp)]
            by_cases ho : openE t = 0
            · rw [if_neg (by omega)] at he; exact absurd rfl he
            · rw [if_pos ho]
          | true =>
            rw [hip, if_pos rfl] at he
            rw [if_pos rfl]
            unfold upP at he ⊢
            by_cases h1 : errL s.data.toList = 0
            · rw [if_neg (by omega)] at he ⊢
              by_cases h2 : ((hdL s.data.toList).src : Int) ≠ t.own ∨ mayGo t.l (hdL s.data.toList).proto (hdL s.data.toList).dst (portOf (hdL s.data.toList)) = false
              · rw [if_pos h2]
              · rw [if_neg h2] at he ⊢
                by_cases h3 : hopE s.data.toList = 0
                · rw [if_neg (by omega)] at he; exact absurd rfl he
                · rw [if_pos h3]
            · rw [if_pos h1]
      rw [hzero] at hl1
      refine ld5 hl1 ?_
      obtain ⟨H', h1, h2⟩ := fin _ hle5'
      exact ⟨H', h1, h2⟩
  rw [ht] at g
  exact g
theorem vizardlaw22_TunnelBack.run (ha : IntKind.u32.has a) (_ : IntKind.i64.has tp) (_ : IntKind.u32.has own) (_ : IntKind.i64.has port) (hnc : n ≤ c) (hw : c * 48 ≤ reachBytes)
    (hrows : ∃ rows, RowsAt H p n 6 rows ∧ ∀ es ∈ rows, ∃ y0 y1 y2 y3 y4 y5, es = [(.bool y0), (.int .i64 y1), (.int .u32 y2), (.int .i64 y3), (.int .i64 y4), (.int .i64 y5)] ∧ IntKind.i64.has y1 ∧ IntKind.u32.has y2 ∧ IntKind.i64.has y3 ∧ IntKind.i64.has y4 ∧ IntKind.i64.has y5)
    (hs : s.size ≤ reachBytes) (_ : IntKind.u32.has src) (_ : IntKind.i64.has from_) (h : K true H) : vizardlaw22_TunnelBack.c ip a tp own port p n c s src from_ K E H := by
  obtain ⟨l, hat, hl⟩ := rules_of hrows
  have ha := has_u32 ha
  have hr : reachBytes = 140737488351232 := rfl
  have hs' : s.size ≤ 281474976710656 := by omega
  obtain ⟨t, ht⟩ : ∃ t : Tun, t = ⟨ip, a, tp, own, port, l⟩ := ⟨_, rfl⟩
  have hT : TunIn H t p n := by rw [ht]; exact ⟨hat, hl, ha.1, by show a < 4294967296; omega⟩
  have g : vizardlaw22_TunnelBack.c t.ip t.addr t.tp t.own t.port p n c s src from_ K E H := by
    refine ⟨?_⟩
    unfold vizardlaw22_TunnelBack.vc
    refine newB_le fun b0 H1 hn0 hl0 hle0 => ?_
    have hl0 : H1 b0 = some (.cells (tcells t p n c) 46) := hl0
    refine vizardlaw22_works.run fun H2 hle2 => ?_
    rw [if_neg (show ¬ ((!true) = true) by simp)]
    have hle2' := hle0.trans hle2
    have m0 := hle2 _ _ hl0
    refine ld6 m0 (vizardlaw22_its.run (hT.le hle2') (by omega) fun p' c' H3 hle3 hT3 => ?_)
    refine tunnel_Tunnel_Down.run hs' fun H4 hle4 => ?_
    have hle4' := (hle2'.trans hle3).trans hle4
    have q0 := hle4 _ _ (hle3 _ _ m0)
    have fin : ∀ H', Heap.Le H H' → ∃ H'', Heap.Le H'' H' ∧ K true H'' := fun H' hl => ⟨H, hl, h⟩
    by_cases hz : 1000 < s.size
    · have hd : downE t src from_ s = (⟨#[]⟩, 8) := by unfold downE; rw [if_pos hz]
      rw [hd, if_pos (by rw [decide_eq_true_eq]; omega), if_pos (by decide)]
      obtain ⟨H', h1, h2⟩ := fin _ hle4'
      exact ⟨H', h1, by simpa using h2⟩
    · rw [if_neg (by rw [decide_eq_true_eq]; omega)]
      refine ⟨_, loc2 (o := 0) (j := 0) q0 rfl, ?_⟩
      dsimp only
      cases hip : t.ip with
      | false =>
        rw [if_pos (by simp)]
        refine ⟨_, loc2 (o := 0) (j := 1) q0 rfl, ?_⟩
        dsimp only
        have bad : ¬ (src = t.addr ∧ from_ = t.tp) → ∀ b : Bool, b = false → vizardlaw22_TunnelBack.J1 s (downE t src from_ s).1 (downE t src from_ s).2 b (fun r0_0 H => ∃ H', Heap.Le H' H ∧ K r0_0 H') E H4 := by
          rintro hc b rfl
          have hd : downE t src from_ s = (⟨#[]⟩, 15) := by unfold downE; rw [if_neg hz, if_neg (by rw [hip]; simp), if_neg hc]
          rw [hd]
          refine ⟨?_⟩
          unfold vizardlaw22_TunnelBack.J1.vc
          rw [if_neg (by simp), if_pos (by simp), if_pos (by simp)]
          obtain ⟨H', h1, h2⟩ := fin _ hle4'
          exact ⟨H', h1, h2⟩
        by_cases h1 : src = t.addr
        · rw [if_pos (by rw [beq_iff_eq]; exact h1)]
          refine ⟨_, loc2 (o := 0) (j := 2) q0 rfl, ?_⟩
          dsimp only
          by_cases h2 : from_ = t.tp
          · have hd : downE t src from_ s = (s, 0) := by unfold downE; rw [if_neg hz, if_neg (by rw [hip]; simp), if_pos ⟨h1, h2⟩]
            rw [hd, show (from_ == t.tp) = true by rw [beq_iff_eq]; exact h2]
            refine ⟨?_⟩
            unfold vizardlaw22_TunnelBack.J1.vc
            rw [if_pos rfl, if_pos (by simp), if_pos (by simp)]
            exact fin _ hle4'
          · exact bad (fun hh => h2 hh.2) _ (by rw [beq_eq_false_iff_ne]; exact h2)
        · rw [if_neg (by rw [beq_iff_eq]; exact h1)]
          exact bad (fun hh => h1 hh.1) _ rfl
      | true =>
        rw [if_neg (by simp)]
        refine vizardref02_Parse.run hs' fun H5 hle5 => new8 fun b1 H6 hn1 hl1 hle6 => ?_
        have hle6' := (hle4'.trans hle5).trans hle6
        have u0 := hle6 _ _ (hle5 _ _ q0)
        have bad : ∀ (e : Int), e ≠ 0 → downE t src from_ s = (⟨#[]⟩, e) → ∀ (Kn : Heap → Prop) (b : Bool), b = true → vizardlaw22_TunnelBack.J2 (downE t src from_ s).1 (downE t src from_ s).2 ⟨b1, 0, none⟩ b Kn (fun r0_0 H => ∃ H', Heap.Le H' H ∧ K r0_0 H') E H6 := by
          rintro e he hd Kn b rfl
          rw [hd]
          refine ⟨?_⟩
          unfold vizardlaw22_TunnelBack.J2.vc
          rw [if_pos rfl, if_pos (by rw [bne_iff_ne]; exact he)]
          obtain ⟨H', h1, h2⟩ := fin _ hle6'
          exact ⟨H', h1, by simpa using h2⟩
        by_cases he : errL s.data.toList = 0
        · rw [if_neg (by rw [he]; simp)]
          have hi := (parse_in he).1
          refine ⟨_, loc (o := 6) hl1 rfl, _, loc (o := 3) u0 rfl, ?_⟩
          dsimp only
          by_cases ho : ((hdL s.data.toList).dst : Int) = t.own
          · rw [if_neg (by rw [bne_iff_ne]; exact fun h => h ho)]
            refine ⟨_, loc (o := 3) hl1 rfl, ?_⟩
            dsimp only
            have hd : downE t src from_ s = (hopB s.data.toList, (hopE s.data.toList : Int)) := by unfold downE; rw [if_neg hz, if_pos hip, if_neg (by omega), if_neg (fun h => h ho)]
            by_cases htl : (hdL s.data.toList).ttl < 2
            · have h2 : hopE s.data.toList = 2 := by unfold hopE; rw [if_neg (by omega), if_pos htl]
              have hb : hopB s.data.toList = ⟨#[]⟩ := by unfold hopB; rw [if_neg (by omega)]
              exact bad 2 (by decide) (by rw [hd, h2, hb]; rfl) _ _ (by rw [decide_eq_true_eq]; omega)
            · rw [hd]
              have h0 : hopE s.data.toList = 0 := by unfold hopE; rw [if_neg (by omega), if_neg htl]
              refine ⟨?_⟩
              unfold vizardlaw22_TunnelBack.J2.vc
              rw [if_neg (by rw [decide_eq_true_eq]; omega)]
              refine ⟨?_⟩
              unfold vizardlaw22_TunnelBack.J3.vc
              obtain ⟨p1, p2, p3, p4⟩ := hop_parse h0
              have hsz : (hopB s.data.toList).size ≤ 281474976710656 := by
                unfold hopB
                rw [if_pos h0, build_size]
                have := (Hd.less_in hi).data
                omega
              refine vizardref02_Parse.run hsz fun H7 hle7 => ?_
              rw [p1, p2, h0]
              refine new8 fun b2 H8 hn2 hl2 hle8 => ?_
              have w1 := hle8 _ _ (hle7 _ _ hl1)
              have hb12 : b2 ≠ b1 := fun e => by rw [e] at hn2; rw [hle7 _ _ hl1] at hn2; cases hn2
              have hb1 : H b1 = none := by
                cases hh : H b1 with
                | none => rfl
                | some o => rw [(hle4'.trans hle5) _ _ hh] at hn1; cases hn1
              refine st_less hi (by omega) w1 fun H9 k1 k2 => ?_
              rw [if_pos (by simp), if_pos (by decide)]
              have v2 : H9 b2 = some (.cells (hcells (hdL s.data.toList).less) 58) := by rw [k2 b2 hb12]; exact hl2
              refine ld8 v2 (ld8 k1 ?_)
              obtain ⟨H', g1, g2⟩ := fin _ (le_of_set hb1 ((hle6'.trans hle7).trans hle8) k2)
              exact ⟨H', g1, by simpa [ba_self] using g2⟩
          · rw [if_pos (by rw [bne_iff_ne]; exact ho)]
            exact ⟨(bad 15 (by decide) (by unfold downE; rw [if_neg hz, if_pos hip, if_neg (by omega), if_pos ho]) _ _ rfl).h⟩
        · rw [if_pos (by rw [bne_iff_ne]; omega)]
          exact ⟨(bad (errL s.data.toList) (by omega) (by unfold downE; rw [if_neg hz, if_pos hip, if_pos he]) _ _ rfl).h⟩
  rw [ht] at g
  exact g
end
end Go.Sh
