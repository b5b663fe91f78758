/- PrefixWrites; what the listed package variables hold. -/
import Derived.Test.YtennpdminebahaaDoorPfR
import Derived.Test.YtennpdminebahaaDoorPcD
import Derived.Test.YtennpdminebahaaDoorShX
import Derived.ChangeArms
namespace Go.Sh
open Go.Proofs Num Go.ChangeShapes Go.WideShapes Go.RowKit
set_option maxRecDepth 8000
def isIf (d : TypeDesc) : Bool := match d with | .interface .. => true | _ => false
theorem trod_iface {H : Type} {enc : TypeId × Value → H} {P : Program} {w : World} {base : Nat} {spare : Nat → Bool} {held : Bool} {fuel : Nat} {t : TypeId} {d : TypeDesc} {cs : List Value} {nm : String} {x : DataW H} {p : List MemPlace}
    (ht : P.underlying t = some d) (hi : isIf d = true) (h : DataW.trod enc P w base spare held fuel t cs = some (.iface nm x, p)) : ∃ te pe, cs = [.iface te pe] := by
  cases fuel with
  | zero => simp [DataW.trod] at h
  | succ n =>
    rw [DataW.trod_step] at h
    unfold DataW.trodStep at h
    rw [ht] at h
    cases d <;> simp only [isIf, Bool.false_eq_true] at hi
    split at h <;> simp_all
theorem laid_err {P : Program} {W : World} {nm T : String} {g : Nat} {t : TypeId} {d : TypeDesc} {D : DataW Unit} {r : List (String × DataW Unit)} {ps : List MemPlace} (hg : P.globalNamed nm = some g) (hgt : (P.globals[g]?).map (·.type) = some t) (ht : P.underlying t = some d) (hi : isIf d = true)
    (h : DataW.LaidVars P W ((nm, .iface T D) :: r) ps) : ErrIn (heapOf W) g ∧ ∃ q, DataW.LaidVars P W r q := by
  obtain ⟨g0, t0, cs, fuel, p, q, hg0, ht0, hv, hd, hr, _⟩ := h
  obtain rfl := Option.some.inj (hg.symm.trans hg0)
  obtain rfl := Option.some.inj (hgt.symm.trans ht0)
  refine ⟨?_, q, hr⟩
  obtain ⟨te, pe, e⟩ := trod_iface ht hi hd
  have e2 : cs = #[.iface te pe] := Array.toList_inj.1 e
  subst e2
  unfold World.var? at hv
  rw [hg] at hv
  simp only [Option.bind_some] at hv
  split at hv
  · rename_i cs' e f hh
    cases hv
    exact ⟨te, pe, e, f, hh⟩
  · cases hv
theorem laid_next {P : Program} {W : World} {x : String × DataW Unit} {r : List (String × DataW Unit)} {ps : List MemPlace} (h : DataW.LaidVars P W (x :: r) ps) : ∃ q, DataW.LaidVars P W r q := by
  obtain ⟨n, d⟩ := x
  obtain ⟨g0, t0, cs, fuel, p, q, _, _, _, _, hr, _⟩ := h
  exact ⟨q, hr⟩
structure PH (H : Heap) : Prop where
  g : GH H
  db : IntsIn H 0 .u8 dbTab
theorem prefix_laid {W : World} {l1 l2 l3 D1 D2 : List (DataW Unit)} (h : laidMetH Go.Proofs.Tryd.prog [("math/bits.deBruijn32tab", (.agg (dbTab.map fun x => .lit (.int .u8 x)) : DataW Unit)), ("math/bits.deBruijn64tab", .agg l1), ("internal/strconv.uint64pow10", (.agg (powTab.map fun x => .lit (.int .u64 x)) : DataW Unit)), ("unicode/utf8.acceptRanges", .agg l2),
    ("strconv.ErrRange", .iface "*errors.errorString" (.ptr (.agg D1))), ("strconv.ErrSyntax", .iface "*errors.errorString" (.ptr (.agg D2))), ("unicode/utf8.first", .agg l3)] W) : PH (heapOf W) := by
  obtain ⟨ps, h⟩ := laid_plain rfl h
  obtain ⟨k1, q, h⟩ := laid_ints (t := 66) (e := 5) (n := 32) (by kernel_rfl) (by kernel_rfl) (by kernel_rfl) (by kernel_rfl) (by kernel_rfl) h
  obtain ⟨q, h⟩ := laid_next h
  obtain ⟨k2, q, h⟩ := laid_tab (t := 105) (e := 67) (n := 20) (by kernel_rfl) (by kernel_rfl) (by kernel_rfl) (by kernel_rfl) (by kernel_rfl) (by kernel_rfl) h
  obtain ⟨q, h⟩ := laid_next h
  have ht : ∃ d, Tryd.prog.underlying 45 = some d ∧ isIf d = true := by
    have e : ((Tryd.prog.underlying 45).map isIf) = some true := by kernel_rfl
    obtain ⟨d, h1, h2⟩ := Option.map_eq_some_iff.1 e
    exact ⟨d, h1, h2⟩
  obtain ⟨d, ht, hi⟩ := ht
  obtain ⟨k3, q, h⟩ := laid_err (g := 2) (t := 45) (by kernel_rfl) (by kernel_rfl) ht hi h
  obtain ⟨k4, q, h⟩ := laid_err (g := 1) (t := 45) (by kernel_rfl) (by kernel_rfl) ht hi h
  exact ⟨⟨k4, k3, k2⟩, k1⟩
theorem vizardlaw04_PrefixWrites.run {H : Heap} (ph : PH H) {a p0 p1 : Int} {s : ByteArray} {K : Bool → Heap → Prop} {E : Value → Heap → Prop} (ha : IntKind.u32.has a) (hp : IntKind.u32.has p0) (_ : IntKind.i64.has p1) (hs : s.size ≤ reachBytes) (h : K true H) : vizardlaw04_PrefixWrites.c a p0 p1 s K E H := by
  have a1 := has_u32 ha
  have p1 := has_u32 hp
  obtain ⟨A, rfl⟩ := Int.eq_ofNat_of_zero_le a1.1
  obtain ⟨B, rfl⟩ := Int.eq_ofNat_of_zero_le p1.1
  have hs' : s.size ≤ 281474976710656 := Nat.le_trans hs (by decide)
  refine ⟨?_⟩
  unfold vizardlaw04_PrefixWrites.vc
  refine newB_le fun b0 H1 hn0 hl0 hle0 => ?_
  have g1 := ph.g.le hle0
  refine prefix_Parse.run g1 hs' (vizardref04_Parse.run fun H2 hle2 => prefix_Read.run (g1.le hle2) hs' fun x4 x5 x6 H3 hr hle3 => ?_)
  refine new2_le fun b1 H4 hn1 hl1 hle4 => vizardref04_Read.run hs' fun y4 y5 y6 H5 hr2 hle5 => ?_
  obtain ⟨rfl, rfl, rfl⟩ := hr.same hr2
  refine new2_le fun b2 H6 hn2 hl2 hle6 => prefix_Text.run (by omega) (((((g1.le hle2).le hle3).le hle4).le hle5).le hle6).tab fun H7 hle7 => vizardref04_Text.run (by omega) fun H8 hle8 => ?_
  have l18 : Heap.Le H1 H8 := ((((((hle2.trans hle3).trans hle4).trans hle5).trans hle6).trans hle7).trans hle8)
  have l48 : Heap.Le H4 H8 := (((hle5.trans hle6).trans hle7).trans hle8)
  have l68 : Heap.Le H6 H8 := hle7.trans hle8
  rw [if_pos (by simp)]
  refine ⟨_, loc (l18 _ _ hl0) rfl, _, loc (l18 _ _ hl0) rfl, _, loc (l18 _ _ hl0) rfl, _, loc (l18 _ _ hl0) rfl, prefix_Print.run (g1.le l18).tab (by omega) fun H9 hle9 => ?_⟩
  refine ⟨⟨_, loc (hle9 _ _ (l18 _ _ hl0)) rfl, _, loc (hle9 _ _ (l18 _ _ hl0)) rfl, rfl, rfl⟩, vizardref04_Print.run (by omega) fun H10 hle10 => ?_⟩
  rw [if_pos (by simp), if_pos (by simp), if_pos (by simp)]
  refine ⟨_, loc (hle10 _ _ (hle9 _ _ (l48 _ _ hl1))) rfl, _, loc (hle10 _ _ (hle9 _ _ (l48 _ _ hl1))) rfl, _, loc (hle10 _ _ (hle9 _ _ (l68 _ _ hl2))) rfl, _, loc (hle10 _ _ (hle9 _ _ (l68 _ _ hl2))) rfl, ?_⟩
  dsimp only
  rw [if_pos (by simp)]
  refine ⟨H, ((hle0.trans l18).trans hle9).trans hle10, ?_⟩
  simpa using h
theorem vizardlaw04_PrefixWrites.laid {W : World} {l1 l2 l3 D1 D2 : List (DataW Unit)} (h : laidMetH Go.Proofs.Tryd.prog [("math/bits.deBruijn32tab", (.agg (dbTab.map fun x => .lit (.int .u8 x)) : DataW Unit)), ("math/bits.deBruijn64tab", .agg l1), ("internal/strconv.uint64pow10", (.agg (powTab.map fun x => .lit (.int .u64 x)) : DataW Unit)), ("unicode/utf8.acceptRanges", .agg l2),
    ("strconv.ErrRange", .iface "*errors.errorString" (.ptr (.agg D1))), ("strconv.ErrSyntax", .iface "*errors.errorString" (.ptr (.agg D2))), ("unicode/utf8.first", .agg l3)] W) : PH (heapOf W) := prefix_laid h
end Go.Sh
