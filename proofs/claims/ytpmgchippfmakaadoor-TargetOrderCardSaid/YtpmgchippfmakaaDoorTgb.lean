/- The laws of targets. -/
import Derived.Test.YtpmgchippfmakaaDoorTga
import Derived.Test.YtpmgchippfmakaaDoorGtl
import Derived.Test.YtpmgchippfmakaaDoorShX
import Derived.ChangeArms
namespace Go.Sh
open Go.Proofs Num Go.ChangeShapes Go.WideShapes Go.RowKit
set_option maxRecDepth 8000
/-! ### What the listed package variables hold -/
def isIf (d : TypeDesc) : Bool := match d with | .interface .. => true | _ => false
theorem trod_iface {H : Type} {enc : TypeId × Value → H} {P : Program} {w : World} {base : Nat} {spare : Nat → Bool} {held : Bool} {fuel : Nat} {t : TypeId} {d : TypeDesc} {cs : List Value} {nm : String} {x : DataW H} {p : List MemPlace}
    (ht : P.underlying t = some d) (hi : isIf d = true) (h : DataW.trod enc P w base spare held fuel t cs = some (.iface nm x, p)) : ∃ te pe, cs = [.iface te pe] := by
  cases fuel with
  | zero => simp [DataW.trod] at h
  | succ n =>
    rw [DataW.trod_step] at h
    unfold DataW.trodStep at h
    rw [ht] at h
    cases d <;> simp only [isIf, Bool.false_eq_true] at hi
    split at h <;> simp_all
theorem laid_err {P : Program} {W : World} {nm T : String} {g : Nat} {t : TypeId} {d : TypeDesc} {D : DataW Unit} {r : List (String × DataW Unit)} {ps : List MemPlace} (hg : P.globalNamed nm = some g) (hgt : (P.globals[g]?).map (·.type) = some t) (ht : P.underlying t = some d) (hi : isIf d = true)
    (h : DataW.LaidVars P W ((nm, .iface T D) :: r) ps) : ErrIn (heapOf W) g ∧ ∃ q, DataW.LaidVars P W r q := by
  obtain ⟨g0, t0, cs, fuel, p, q, hg0, ht0, hv, hd, hr, _⟩ := h
  obtain rfl := Option.some.inj (hg.symm.trans hg0)
  obtain rfl := Option.some.inj (hgt.symm.trans ht0)
  refine ⟨?_, q, hr⟩
  obtain ⟨te, pe, e⟩ := trod_iface ht hi hd
  have e2 : cs = #[.iface te pe] := Array.toList_inj.1 e
  subst e2
  unfold World.var? at hv
  rw [hg] at hv
  simp only [Option.bind_some] at hv
  split at hv
  · rename_i cs' e f hh
    cases hv
    exact ⟨te, pe, e, f, hh⟩
  · cases hv
theorem laid_next {P : Program} {W : World} {x : String × DataW Unit} {r : List (String × DataW Unit)} {ps : List MemPlace} (h : DataW.LaidVars P W (x :: r) ps) : ∃ q, DataW.LaidVars P W r q := by
  obtain ⟨n, d⟩ := x
  obtain ⟨g0, t0, cs, fuel, p, q, _, _, _, _, hr, _⟩ := h
  exact ⟨q, hr⟩
theorem target_laid {W : World} {l0 l1 l2 l3 D1 D2 : List (DataW Unit)} (h : laidMetH Go.Proofs.Tryd.prog [("math/bits.deBruijn32tab", .agg l0), ("math/bits.deBruijn64tab", .agg l1), ("internal/strconv.uint64pow10", (.agg (powTab.map fun x => .lit (.int .u64 x)) : DataW Unit)), ("unicode/utf8.acceptRanges", .agg l2),
    ("strconv.ErrRange", .iface "*errors.errorString" (.ptr (.agg D1))), ("strconv.ErrSyntax", .iface "*errors.errorString" (.ptr (.agg D2))), ("unicode/utf8.first", .agg l3)] W) : GH (heapOf W) := by
  obtain ⟨ps, h⟩ := laid_plain rfl h
  obtain ⟨q, h⟩ := laid_next h
  obtain ⟨q, h⟩ := laid_next h
  obtain ⟨k2, q, h⟩ := laid_tab (t := 103) (e := 41) (n := 20) (by kernel_rfl) (by kernel_rfl) (by kernel_rfl) (by kernel_rfl) (by kernel_rfl) (by kernel_rfl) h
  obtain ⟨q, h⟩ := laid_next h
  have ht : ∃ d, Tryd.prog.underlying 66 = some d ∧ isIf d = true := by
    have e : ((Tryd.prog.underlying 66).map isIf) = some true := by kernel_rfl
    obtain ⟨d, h1, h2⟩ := Option.map_eq_some_iff.1 e
    exact ⟨d, h1, h2⟩
  obtain ⟨d, ht, hi⟩ := ht
  obtain ⟨k3, q, h⟩ := laid_err (g := 2) (t := 66) (by kernel_rfl) (by kernel_rfl) ht hi h
  obtain ⟨k4, q, h⟩ := laid_err (g := 1) (t := 66) (by kernel_rfl) (by kernel_rfl) ht hi h
  exact ⟨k4, k3, k2⟩
/-! ### Rows of fields -/
theorem rows_fl : ∀ {rows : List (List Value)}, (∀ es ∈ rows, ∃ y0 y1 : ByteArray, es = [(.string y0), (.string y1)] ∧ y0.size ≤ reachBytes ∧ y1.size ≤ reachBytes) → ∃ l : FL, rows = rF l
  | [], _ => ⟨[], rfl⟩
  | r :: rows, h => by
    obtain ⟨y0, y1, rfl, _⟩ := h r (by simp)
    obtain ⟨l, rfl⟩ := rows_fl (rows := rows) fun es he => h es (by simp [he])
    exact ⟨(y0, y1) :: l, rfl⟩
theorem rF_two (l : FL) : ∀ es ∈ rF l, es.length = 2 := by
  intro es he
  obtain ⟨f, _, rfl⟩ := List.mem_map.1 he
  rfl
theorem rF_plain (l : FL) : ∀ v ∈ (rF l).flatten, plainCell1 v = true := by
  intro v hv
  obtain ⟨es, he, hv⟩ := List.mem_flatten.1 hv
  obtain ⟨f, _, rfl⟩ := List.mem_map.1 he
  simp only [List.mem_cons, List.not_mem_nil, or_false] at hv
  rcases hv with rfl | rfl <;> rfl
theorem rF_length (l : FL) : (rF l).length = l.length := by unfold rF; rw [List.length_map]
theorem rF_app (x y : FL) : rF (x ++ y) = rF x ++ rF y := by unfold rF; rw [List.map_append]
theorem cellN {H : Heap} {b o : Nat} {arr : Array Value} {e : TypeId} {v : Value} (h : H b = some (.cells arr e)) (hv : arr[o]? = some v) : H.cell? ⟨b, o, none⟩ = some v := by simp [Heap.cell?, h, hv]
theorem rows_arr {H : Heap} {b : Nat} {arr : Array Value} {e : TypeId} {l : FL} (hb : H b = some (.cells arr e)) (h : ∀ i f, l[i]? = some f → arr[i * 2]? = some (.string f.1) ∧ arr[i * 2 + 1]? = some (.string f.2)) : RowsAt H (some ⟨b, 0, none⟩) l.length 2 (rF l) := by
  refine ⟨rF_length l, (fun e => by cases e), fun a ha i es hi => ?_⟩
  cases ha
  unfold rF at hi
  rw [List.getElem?_map] at hi
  obtain ⟨f, hf, rfl⟩ := Option.map_eq_some_iff.1 hi
  obtain ⟨h0, h1⟩ := h i f hf
  refine ⟨rfl, fun j v hj => ?_⟩
  rw [add_mk]
  match j, hj with
  | 0, hj => cases hj; rw [add_mk]; exact cellN hb (by simpa using h0)
  | 1, hj => cases hj; rw [add_mk]; exact cellN hb (by simpa using h1)
/-- An append to fresh rows. -/
theorem app_one {H : Heap} {b : Nat} {l : FL} {m : Nat} {K : Option Addr → Nat → Nat → Heap → Prop} (hb : H b = some (.cells #[] 35)) (hm : l.length = m) (hn : m * 32 ≤ reachBytes) (hk : ∀ p c H', OwnRows H' 35 2 p m c (rF l) → Step [b] H (bl p) H' → K p m c H') :
    appT 35 (.agg #[(.string (⟨#[]⟩ : ByteArray)), (.string (⟨#[]⟩ : ByteArray))]) (some (⟨b, 0, none⟩ : Addr)) 0 m 0 2 32 (rF l).flatten K H := by
  have ho : OwnRows H 35 2 (some (⟨b, 0, none⟩ : Addr)) 0 0 [] := ⟨rfl, by simp, Nat.le_refl _, .inr ⟨b, #[], rfl, hb, rfl, rfl⟩⟩
  unfold reachBytes at hn
  refine appT_step (xs := rF l) ho (by decide) rfl rfl (by rw [rF_length, hm]) (rF_two l) (rF_plain l) (by omega) (by omega) fun p' c' H' h1 h2 => ?_
  rw [Nat.zero_add] at h1 ⊢
  exact hk p' c' H' h1 h2
theorem app_more {H : Heap} {p : Option Addr} {n c m : Nat} {l0 l : FL} {K : Option Addr → Nat → Nat → Heap → Prop} (ho : OwnRows H 35 2 p n c (rF l0)) (hm : l.length = m) (hn : (n + m) * 32 ≤ 140737488355328) (hk : ∀ p' c' H', OwnRows H' 35 2 p' (n + m) c' (rF (l0 ++ l)) → Step (bl p) H (bl p') H' → K p' (n + m) c' H') :
    appT 35 (.agg #[(.string (⟨#[]⟩ : ByteArray)), (.string (⟨#[]⟩ : ByteArray))]) p n m c 2 32 (rF l).flatten K H := by
  refine appT_step (xs := rF l) ho (by decide) rfl rfl (by rw [rF_length, hm]) (rF_two l) (rF_plain l) (by omega) (by omega) fun p' c' H' h1 h2 => ?_
  rw [← rF_app] at h1
  exact hk p' c' H' h1 h2
theorem new_le {H H1 H2 : Heap} {b : Nat} {L : List Nat} (hn : H b = none) (hl : Heap.Le H H1) (hs : Step [b] H1 L H2) : Heap.Le H H2 := fun c o hc => (hs c o (hl c o hc) (by
  simp only [List.mem_singleton]
  intro e
  rw [e, hn] at hc
  cases hc)).1
section
variable {H : Heap} {K : Bool → Heap → Prop} {E : Value → Heap → Prop}
theorem target_Parse.run {p : Option Addr} {n c : Nat} {l : FL} {K : Bool → Int → Int → Int → Heap → Prop} (g : GH H) (hr : RowsAt H p n 2 (rF l)) (hn : n ≤ 4611686018427387904) (h : K (parseL l).1 ((parseL l).2.1 : Int) ((parseL l).2.2.1 : Int) ((parseL l).2.2.2 : Int) H) : target_Parse.c p n c K E H := ⟨l, hr, hn, g, h⟩
/-- Of any fields it is told what they ask for. -/
theorem vizardlaw17_TargetParses.run (g : GH H) {p : Option Addr} {n c : Nat} (hnc : n ≤ c) (hc : c * 32 ≤ reachBytes) (hrows : ∃ rows, RowsAt H p n 2 rows ∧ ∀ es ∈ rows, ∃ y0 y1 : ByteArray, es = [(.string y0), (.string y1)] ∧ y0.size ≤ reachBytes ∧ y1.size ≤ reachBytes) (h : K true H) : vizardlaw17_TargetParses.c p n c K E H := by
  obtain ⟨rows, hr, hes⟩ := hrows
  obtain ⟨l, rfl⟩ := rows_fl hes
  have hlen := rF_len hr
  have hn : n ≤ 4611686018427387904 := by unfold reachBytes at hc; omega
  refine ⟨?_⟩
  unfold vizardlaw17_TargetParses.vc
  refine newB_le fun b0 H1 hn0 hl0 hle0 => ?_
  refine rdRow_of (hr.mono hle0) (by decide) rfl ?_
  refine app_one hl0 hlen (by omega) fun q d H2 ho hst => ⟨?_⟩
  have hle := new_le hn0 hle0 hst
  unfold vizardlaw17_TargetParses.J1.vc
  refine target_Parse.run (g.le hle) ho.at hn ?_
  refine new3_le fun b H3 hbn hb3 hle3 => ?_
  refine vizardref17_Parse.run (hr.mono (hle.trans hle3)) hn ?_
  refine new3_le fun b' H4 hbn' hb4 hle4 => ?_
  have hb := hle4 _ _ hb3
  refine ⟨_, loc (o := 0) hb rfl, _, loc (o := 1) hb rfl, _, loc (o := 2) hb rfl, _, loc (o := 0) hb4 rfl, _, loc (o := 1) hb4 rfl, _, loc (o := 2) hb4 rfl, ?_⟩
  dsimp only
  rw [if_pos (by simp), if_pos (by simp)]
  refine vizardref14_Same.run hn (fun i hi => ?_) ⟨H, (hle.trans hle3).trans hle4, h⟩
  obtain ⟨f, hf⟩ : ∃ f, l[i]? = some f := ⟨_, List.getElem?_eq_getElem (by omega)⟩
  obtain ⟨a, ha, c0, c1⟩ := fcell (ho.at.mono (hle3.trans hle4)) hf
  obtain ⟨a', ha', d0, d1⟩ := fcell (hr.mono ((hle.trans hle3).trans hle4)) hf
  exact ⟨a, a', f.1, f.2, ha, ha', c0, c1, d0, d1⟩
theorem vizardlaw17_TargetParses.laid {W : World} {l0 l1 l2 l3 D1 D2 : List (DataW Unit)} (h : laidMetH Go.Proofs.Tryd.prog [("math/bits.deBruijn32tab", .agg l0), ("math/bits.deBruijn64tab", .agg l1), ("internal/strconv.uint64pow10", (.agg (powTab.map fun x => .lit (.int .u64 x)) : DataW Unit)), ("unicode/utf8.acceptRanges", .agg l2),
    ("strconv.ErrRange", .iface "*errors.errorString" (.ptr (.agg D1))), ("strconv.ErrSyntax", .iface "*errors.errorString" (.ptr (.agg D2))), ("unicode/utf8.first", .agg l3)] W) : GH (heapOf W) := target_laid h
end
end Go.Sh
