/- The box is read. -/
import Derived.Test.YtjbfpeeigjjbdaaInboxA
namespace Go.Sh
def Bx.fine (s : Bx) : Prop := (∀ n x, s.f n = some x → n < s.read + 4096 ∧ n ≤ 4700000000000000000) ∧ 0 ≤ s.read ∧ s.read ≤ 4700000000000000001
def Bx.next (s : Bx) : Bx := { s with f := fun n => if n = s.read then none else s.f n, read := s.read + 1 }
def readL : Nat → Bx → List UInt8 × Bx
  | 0, s => ([], s)
  | m + 1, s => if s.reset = true then ([], s) else match s.f s.read with
    | none => ([], s)
    | some c => (c :: (readL m s.next).1, (readL m s.next).2)
theorem Bx.next_fine {s : Bx} (h : s.fine) {c : UInt8} (hc : s.f s.read = some c) : s.next.fine := by
  have h1 := h.1 _ _ hc
  refine ⟨fun n x hx => ?_, by show 0 ≤ s.read + 1; have := h.2.1; omega, by show s.read + 1 ≤ _; omega⟩
  have hx : (if n = s.read then none else s.f n) = some x := hx
  split at hx
  · cases hx
  · have := h.1 n x hx
    exact ⟨by show n < s.read + 1 + 4096; omega, this.2⟩
theorem BoxAt.delMap {H : Heap} {b mb : Nat} {s : Bx} (h : BoxAt H b mb s) {a : Int} {K : Heap → Prop} (hk : ∀ H', BoxAt H' b mb { s with f := fun n => if n = a then none else s.f n } → Keep2 b mb H H' → K H') : delW (.int .i64) (some mb) (.int .i64 a) K H := by
  refine h.map.del fun o ho => hk _ ⟨?_, ?_, h.ne⟩ fun k o' hk' _ h2 => by rw [set_ne _ _ h2]; exact hk'
  · obtain ⟨e, he⟩ := h.box
    exact ⟨e, by rw [set_ne _ _ h.ne]; exact he⟩
  · have e : (fun n => if n = a then none else (s.f n).map byV) = fun n => ((if n = a then none else s.f n).map byV) := by funext n; split <;> rfl
    rw [e] at ho; exact ho
theorem BoxAt.keep {H H' : Heap} {b mb : Nat} {s : Bx} (h : BoxAt H b mb s) (hb : ∀ o, H b = some o → H' b = some o) (hm : ∀ o, H mb = some o → H' mb = some o) : BoxAt H' b mb s := by
  obtain ⟨⟨e, he⟩, ⟨es, clk, h1, h2⟩, hne⟩ := h
  exact ⟨⟨e, hb _ he⟩, ⟨es, clk, hm _ h1, h2⟩, hne⟩
theorem BoxAt.some_b {H : Heap} {b mb : Nat} {s : Bx} (h : BoxAt H b mb s) : H b ≠ none := by
  obtain ⟨e, he⟩ := h.box
  rw [he]; simp
theorem BoxAt.some_mb {H : Heap} {b mb : Nat} {s : Bx} (h : BoxAt H b mb s) : H mb ≠ none := by
  obtain ⟨es, clk, h1, _⟩ := h.map
  rw [h1]; simp
theorem inbox_Box_Read.loop {H0 : Heap} {b mb : Nat} {s0 : Bx} (hb : BoxAt H0 b mb s0) (hf0 : s0.fine) {n0 : Int} {Kx : Option Addr → Nat → Nat → Heap → Prop} {E : Value → Heap → Prop}
    (hx : ∀ p c H, OwnRows H 5 1 p (readL n0.toNat s0).1.length c (vrow (readL n0.toNat s0).1) → BoxAt H b mb (readL n0.toNat s0).2 → Keep2 b mb H0 H → Kx p (readL n0.toNat s0).1.length c H) : inbox_Box_Read.W1 (some ⟨b, 0, none⟩) n0 none 0 0 Kx E H0 := by
  refine ⟨Loop.of (I := fun st H m => ∃ l s', st.2.1 = l.length ∧ OwnRows H 5 1 st.1 l.length st.2.2 (vrow l) ∧ (∀ ob, st.1 = some ⟨ob, 0, none⟩ → ob ≠ b ∧ ob ≠ mb ∧ H0 ob = none) ∧ BoxAt H b mb s' ∧ s'.fine ∧ Keep2 b mb H0 H ∧ m = n0.toNat - l.length ∧
    s'.read = s0.read + l.length ∧ (∀ n x, s'.f n = some x → s0.f n = some x) ∧ readL n0.toNat s0 = (l ++ (readL (n0.toNat - l.length) s').1, (readL (n0.toNat - l.length) s').2)) ?_
    ⟨[], s0, rfl, ⟨rfl, (fun es he => by cases he), Nat.le_refl _, .inl ⟨rfl, rfl⟩⟩, (fun ob h => by cases h), hb, hf0, Keep2.refl _ _ _, rfl, by simp, fun _ _ h => h, rfl⟩⟩
  rintro m ⟨p, n, c⟩ H ⟨l, s', hn, hown, hfr, hbx, hfine, hkeep, hm, hrd, hsub, heq⟩ RR hRR
  dsimp only at hn hown hfr
  subst hn
  subst hm
  unfold inbox_Box_Read.W1.vc
  dsimp only
  -- it ends here
  have stop : readL (n0.toNat - l.length) s' = ([], s') → Kx p l.length c H := fun e => by
    rw [e, List.append_nil] at heq
    have := hx p c H
    rw [heq] at this
    exact this hown hbx hkeep
  by_cases hlt : (l.length : Int) < n0
  · rw [if_pos (by simpa using hlt)]
    obtain ⟨fuel, hfu⟩ : ∃ fuel, n0.toNat - l.length = fuel + 1 := ⟨n0.toNat - l.length - 1, by omega⟩
    refine ⟨_, rfl, s'.reset, hbx.cell rfl, ?_⟩
    cases hres : s'.reset with
    | true =>
      refine (if_neg (by simp)).mpr (stop ?_)
      rw [hfu]; unfold readL; rw [if_pos hres]
    | false =>
      refine (if_pos (by simp)).mpr ⟨?_⟩
      unfold inbox_Box_Read.J2.vc
      refine ⟨_, rfl, some mb, hbx.cell rfl, _, rfl, s'.read, hbx.cell rfl, hbx.map.look (fun x hx => ?_) (fun hx => ⟨?_⟩)⟩
      · simp only [Option.map_eq_some_iff] at hx
        obtain ⟨ch, hch, rfl⟩ := hx
        refine ⟨_, rfl, ⟨?_⟩⟩
        unfold inbox_Box_Read.J3.vc
        rw [if_neg (by simp)]
        refine ⟨_, rfl, some mb, hbx.cell rfl, _, rfl, s'.read, hbx.cell rfl, hbx.delMap fun H1 hb1 hk1 => ?_⟩
        intro b1 hb1n
        have hH2 : ∀ k o, H1 k = some o → (H1.set b1 (.cells #[byV ch] 5)) k = some o := fun k o hk => Le_set hb1n _ k o hk
        have hown2 : OwnRows (H1.set b1 (.cells #[byV ch] 5)) 5 1 p l.length c (vrow l) := hown.keep fun ob o hp ho => hH2 ob o (hk1 ob o ho (hfr ob hp).1 (hfr ob hp).2.1)
        have hb2 : BoxAt (H1.set b1 (.cells #[byV ch] 5)) b mb { s' with f := fun n => if n = s'.read then none else s'.f n } := hb1.keep (fun o => hH2 b o) (fun o => hH2 mb o)
        have hlen : l.length < 4096 := by
          have := (hf0.1 _ _ (hsub _ _ hch)).1
          omega
        refine rdRow_of (n := 1) (sz := 1) (rows := [[byV ch]]) ⟨rfl, (fun h => by cases h), fun a ha i es hi => ?_⟩ (by decide) rfl ?_
        · cases ha
          cases i with
          | zero =>
            simp only [List.getElem?_cons_zero, Option.some.injEq] at hi
            subst hi
            refine ⟨rfl, fun j v hj => ?_⟩
            cases j with
            | zero =>
              simp only [List.getElem?_cons_zero, Option.some.injEq] at hj
              subst hj
              rw [add_add, add_mk, cell_set_same]; rfl
            | succ j => simp at hj
          | succ i => simp at hi
        · refine appT_own (xs := [[byV ch]]) hown2 (by decide) rfl rfl rfl (fun es he => by simp only [List.mem_singleton] at he; subst he; rfl) (fun v hv => by simp at hv; subst hv; rfl) (by omega) (by omega) fun p' c' H3 h1 h2 h3 => ⟨?_⟩
          have hob : ∀ ob, p' = some ⟨ob, 0, none⟩ → ob ≠ b ∧ ob ≠ mb ∧ H0 ob = none := by
            intro ob hp'
            rcases h3 ob hp' with e | e
            · exact hfr ob (e.trans hp')
            · have nb : ob ≠ b := fun e2 => hb2.some_b (e2 ▸ e)
              have nm : ob ≠ mb := fun e2 => hb2.some_mb (e2 ▸ e)
              refine ⟨nb, nm, ?_⟩
              cases h0 : H0 ob with
              | none => rfl
              | some o =>
                have := hH2 ob o (hk1 ob o (hkeep ob o h0 nb nm) nb nm)
                have e9 : H1.set b1 (.cells #[byV ch] 5) ob = none := e
                rw [this] at e9; cases e9
          have hb3 : BoxAt H3 b mb { s' with f := fun n => if n = s'.read then none else s'.f n } := hb2.keep (fun o ho => h2 b o ho fun ob hp => fun e => (hfr ob hp).1 e.symm) (fun o ho => h2 mb o ho fun ob hp => fun e => (hfr ob hp).2.1 e.symm)
          unfold inbox_Box_Read.J4.vc
          refine ⟨_, rfl, s'.read, hb3.cell rfl, _, rfl, ?_⟩
          have hrange := hfine.1 _ _ hch
          rw [w_i64 (by have := hfine.2.1; omega) (by omega)]
          refine hb3.set (s' := s'.next) rfl rfl (by decide) fun H4 hb4 hk4 => ?_
          refine hRR (p', l.length + 1, c') H4 (n0.toNat - (l.length + 1)) (by omega) ⟨l ++ [ch], s'.next, by simp, ?_, hob, hb4, Bx.next_fine hfine hch, ?_, by simp, ?_, ?_, ?_⟩
          · have := h1.keep (H' := H4) fun ob o hp ho => hk4 ob o ho (hob ob hp).1 (hob ob hp).2.1
            simpa [vrow] using this
          · intro k o hk hkb hkm
            refine hk4 k o (h2 k o (hH2 k o (hk1 k o (hkeep k o hk hkb hkm) hkb hkm)) fun ob hp e => ?_) hkb hkm
            have := (hfr ob hp).2.2
            rw [← e, hk] at this; cases this
          · show s'.read + 1 = _
            rw [hrd]; simp; omega
          · intro k x hx2
            have hx2 : (if k = s'.read then none else s'.f k) = some x := hx2
            split at hx2
            · cases hx2
            · exact hsub k x hx2
          · rw [heq, hfu]
            have e1 : n0.toNat - (l ++ [ch]).length = fuel := by simp; omega
            rw [e1]
            show (l ++ (readL (fuel + 1) s').1, (readL (fuel + 1) s').2) = _
            have e2 : readL (fuel + 1) s' = (ch :: (readL fuel s'.next).1, (readL fuel s'.next).2) := by
              rw [readL, if_neg (by simp [hres]), hch]
            rw [e2]
            simp
      · simp only [Option.map_eq_none_iff] at hx
        unfold inbox_Box_Read.J3.vc
        rw [if_pos (by simp)]
        refine stop ?_
        rw [hfu]; unfold readL; rw [if_neg (by simp [hres]), hx]
  · rw [if_neg (by simpa using hlt)]
    refine stop ?_
    rw [show n0.toNat - l.length = 0 by omega]
    rfl
theorem inbox_Box_Read.run {H : Heap} {b mb : Nat} {s : Bx} (hb : BoxAt H b mb s) (hf : s.fine) {n : Int} {K : ByteArray → Heap → Prop} {E : Value → Heap → Prop}
    (h : ∀ H', BoxAt H' b mb (readL n.toNat s).2 → Keep2 b mb H H' → K ⟨(readL n.toNat s).1.toArray⟩ H') : inbox_Box_Read.c (some ⟨b, 0, none⟩) n K E H := by
  refine ⟨?_⟩
  unfold inbox_Box_Read.vc
  exact inbox_Box_Read.loop hb hf fun p c H' h1 h2 h3 => own_rdBytes h1 ⟨H', Heap.Le.refl H', h H' h2 h3⟩
def howE (s : Bx) : Int := if s.reset = true then 2 else if s.size = s.read then 1 else 0
theorem inbox_Box_State.run {H : Heap} {b mb : Nat} {s : Bx} (hb : BoxAt H b mb s) {K : Int → Int → Int → Heap → Prop} {E : Value → Heap → Prop} (h : K s.read (IntKind.i64.wrap (s.read + 4096)) (howE s) H) : inbox_Box_State.c (some ⟨b, 0, none⟩) K E H := by
  refine ⟨?_⟩
  unfold inbox_Box_State.vc
  have j : ∀ {e : Int}, howE s = e → inbox_Box_State.J1 (some ⟨b, 0, none⟩) e (fun r0 r1 r2 H => ∃ H', Heap.Le H' H ∧ K r0 r1 r2 H') E H := fun he => ⟨by
    unfold inbox_Box_State.J1.vc
    exact ⟨_, rfl, s.read, hb.cell rfl, _, rfl, s.read, hb.cell rfl, H, Heap.Le.refl H, he ▸ h⟩⟩
  refine ⟨_, rfl, s.reset, hb.cell rfl, ?_⟩
  cases hr : s.reset with
  | true => exact (if_pos rfl).mpr (j (by simp [howE, hr]))
  | false =>
    refine (if_neg (by simp)).mpr ⟨_, rfl, s.size, hb.cell rfl, _, rfl, s.read, hb.cell rfl, ?_⟩
    by_cases he : s.size = s.read
    · exact (if_pos (by simpa using he)).mpr (j (by simp [howE, hr, he]))
    · exact (if_neg (by simpa using he)).mpr (j (by simp [howE, hr, he]))
theorem readL_of : ∀ (l : List UInt8) (s : Bx) (m : Nat), s.reset = false → (∀ i : Nat, i < l.length → s.f (s.read + i) = l[i]?) → s.f (s.read + l.length) = none → l.length ≤ m → (readL m s).1 = l ∧ (readL m s).2.read = s.read + l.length ∧ (readL m s).2.reset = false ∧ (readL m s).2.size = s.size := by
  intro l
  induction l with
  | nil =>
    intro s m hr _ hn _
    cases m with
    | zero => simp [readL, hr]
    | succ m =>
      have hn : s.f s.read = none := by simpa using hn
      simp [readL, hr, hn]
  | cons x l ih =>
    intro s m hr hf hn hm
    cases m with
    | zero => simp at hm
    | succ m =>
      have h0 : s.f s.read = some x := by simpa using hf 0 (by simp)
      have hnext : s.next.reset = false := hr
      have hstep : ∀ k : Int, 0 < k → s.next.f (s.read + k) = s.f (s.read + k) := fun k hk => by
        show (if s.read + k = s.read then none else s.f (s.read + k)) = _
        rw [if_neg (by omega)]
      have := ih s.next m hnext (fun i hi => by
        show s.next.f (s.read + 1 + (i : Int)) = _
        rw [show s.read + 1 + (i : Int) = s.read + ((i : Int) + 1) by omega, hstep _ (by omega)]
        have := hf (i + 1) (by simp; omega)
        simpa using this) (by
        show s.next.f (s.read + 1 + (l.length : Int)) = none
        rw [show s.read + 1 + (l.length : Int) = s.read + ((l.length : Int) + 1) by omega, hstep _ (by omega)]
        simpa using hn) (by simpa using hm)
      obtain ⟨h1, h2, h3, h4⟩ := this
      have e : readL (m + 1) s = (x :: (readL m s.next).1, (readL m s.next).2) := by rw [readL, if_neg (by simp [hr]), h0]
      rw [e]
      refine ⟨by rw [h1], ?_, h3, h4⟩
      show (readL m s.next).2.read = _
      rw [h2]
      show s.read + 1 + (l.length : Int) = _
      simp; omega
end Go.Sh
