/- A packet that comes once more changes nothing (part 5 of the walk and its laws) -/
import Derived.Test.YtkfkkkalcchpkaaGreatDoorTw2d
namespace Go.Sh
theorem zha (P : Program) {α β : Type} {K : β → Heap → Prop} {E : Value → Heap → Prop} (s : Sem α) (f : α → Sem β) (H : Heap) :
    wpS P (s >>= f) K E H ↔ wpS P s (fun a H' => wpS P (f a) K E H') E H := by
  refine ⟨?_, wpS_bind P s f H⟩
  show wpS P (s.bind f) K E H → _
  revert H
  induction s with
  | pure a => intro H h; exact h
  | load m a k ih => intro H h; simp only [wpS, Sem.bind] at h ⊢; split <;> rename_i hc <;> simp only [hc] at h; exact ih _ _ h
  | store m a v k ih => intro H h; cases v <;> simp only [wpS, Sem.bind] at h ⊢ <;> exact ⟨h.1, h.2.1, ih _ h.2.2⟩
  | new o k ih => intro H h; simp only [wpS, Sem.bind] at h ⊢; exact fun b hb => ih _ _ (h b hb)
  | shape r k ih => intro H h; simp only [wpS, Sem.bind] at h ⊢; exact ⟨h.1, ih _ _ h.2⟩
  | freeze a n k ih => intro H h; simp only [wpS, Sem.bind] at h ⊢; exact ⟨h.1, ih _ h.2⟩
  | frozen a k ih => intro H h; simp only [wpS, Sem.bind] at h ⊢; exact ⟨h.1, ih _ _ h.2⟩
  | getObj r k ih => intro H h; simp only [wpS, Sem.bind] at h ⊢; split <;> rename_i hc <;> simp only [hc] at h <;> exact ih _ _ h
  | setObj r o k ih => intro H h; simp only [wpS, Sem.bind] at h ⊢; split <;> rename_i hc <;> simp only [hc] at h <;> exact ih _ h
  | choose q k ih =>
    intro H h; simp only [wpS, Sem.bind] at h ⊢
    by_cases hc : q.forced = true
    · rw [if_pos hc] at h ⊢; exact ih _ _ h
    · rw [if_neg hc] at h ⊢; exact fun t => ih _ _ (h t)
  | sys c k ih => intro H h; exact h
  | program k ih => intro H h; exact ih _ _ h
  | mark m k ih => intro H h; exact ih _ h
  | halt x => intro H h; cases x <;> simp only [wpS, Sem.bind] at h ⊢; exact h
theorem zab (P : Program) {α : Type} {K : α → Heap → Prop} {E : Value → Heap → Prop} (a : α) (H : Heap) : wpS P (pure a) K E H ↔ K a H := Iff.rfl
section
variable {P : Program} {E : Value → Heap → Prop} {H : Heap} {K : Value → Heap → Prop}
theorem zka {t : TypeId} {d : TypeDesc} {K : TypeDesc → Heap → Prop} (h : P.underlying t = some d) : wpS P (underlying t) K E H ↔ K d H := by
  show wpS P (Sem.program fun p => (match p.underlying t with | some d => pure d | none => stuck "no such type" : Sem TypeDesc)) K E H ↔ _
  simp only [wpS, h]
  exact Iff.rfl
theorem zjc {t : TypeId} {i : TypeInfo} {K : TypeInfo → Heap → Prop} (h : P.info? t = some i) : wpS P (typeInfo t) K E H ↔ K i H := by
  show wpS P (Sem.program fun p => (match p.info? t with | some d => pure d | none => stuck "no such type" : Sem TypeInfo)) K E H ↔ _
  simp only [wpS, h]
  exact Iff.rfl
theorem zqc {t : TypeId} {K : Nat → Heap → Prop} (h : (P.info? t).isSome = true) : wpS P (sizeOf t) K E H ↔ K (P.cellsOf t) H := by
  obtain ⟨i, hi⟩ := Option.isSome_iff_exists.1 h
  have e : P.cellsOf t = i.size := by simp [Program.cellsOf, hi]
  rw [e]
  show wpS P (typeInfo t >>= fun i => pure i.size) K E H ↔ _
  rw [zha, zjc hi]
  exact Iff.rfl
theorem wpS_asIntOf {k : IntKind} {i : Int} {K : IntKind × Int → Heap → Prop} : wpS P (asIntOf (.int k i)) K E H ↔ K (k, i) H := Iff.rfl
theorem wpS_asInt {k : IntKind} {i : Int} {K : Int → Heap → Prop} : wpS P (asInt (.int k i)) K E H ↔ K i H := Iff.rfl
theorem wpS_sure {a : Addr} {K : Addr → Heap → Prop} : wpS P (Instr.sureAddr (.pointer (some a))) K E H ↔ K a H := Iff.rfl
theorem wField_ok {s : TypeId} {f : Nat} {v : Value} (h : wField P s f v fun v => K v H) : wpS P (Instr.fieldAt s v f) K E H := by
  cases v <;> simp only [wField] at h <;> try exact h.elim
  rename_i p
  cases p with
  | none => exact h.elim
  | some a =>
    dsimp only at h
    cases hu : P.underlying s with
    | none => simp [hu] at h
    | some d =>
      rw [hu] at h
      cases d <;> try exact h.elim
      rename_i fs
      dsimp only at h
      simp only [Instr.fieldAt, zha, zka hu]
      cases hf : fs[f]? with
      | none => simp [hf] at h
      | some x =>
        rw [hf] at h
        dsimp only at h ⊢
        by_cases h0 : P.cellsOf x.type = 0
        · rw [if_pos h0] at h; exact h.elim
        · rw [if_neg h0] at h
          by_cases h1 : (P.info? x.type).isSome = true
          · rw [if_pos h1] at h
            simp only [zha, wpS_sure, fieldPlace, zqc h1, h0, if_false]
            exact h
          · rw [if_neg h1] at h; exact h.elim
theorem wIxA_ok {t : TypeId} {v ix : Value} (h : wIxA P t v ix fun v => K v H) : wpS P (Instr.indexAt t v ix) K E H := by
  cases ix <;> simp only [wIxA] at h <;> try exact h.elim
  rename_i k i
  cases hu : P.underlying t with
  | none => simp [hu] at h
  | some d =>
    rw [hu] at h
    cases d <;> try exact h.elim
    case slice e =>
      cases v <;> dsimp only at h <;> try exact h.elim
      rename_i p n c
      by_cases hi : (P.info? e).isSome = true
      · rw [if_pos hi] at h
        obtain ⟨a, rfl, h0, h1, hk⟩ := h
        simp only [Instr.indexAt, zha, zka hu, wpS_asIntOf, zab, h0, h1, and_self, if_true, zqc hi]
        exact hk
      · rw [if_neg hi] at h; exact h.elim
    case array n e =>
      cases v <;> dsimp only at h <;> try exact h.elim
      rename_i p
      cases p with
      | none => exact h.elim
      | some a =>
        dsimp only at h
        by_cases hi : (P.info? e).isSome = true
        · rw [if_pos hi] at h
          obtain ⟨h0, h1, hk⟩ := h
          simp only [Instr.indexAt, zha, zka hu, wpS_asIntOf, zab, wpS_sure, h0, h1, and_self, if_true, zqc hi]
          exact hk
        · rw [if_neg hi] at h; exact h.elim
theorem leafOf_elim {l : Leaf} {v : Value} {K : Value → Prop} (h : leafOf l v K) : K v := by
  cases l <;> simp only [leafOf] at h
  all_goals (obtain ⟨n, rfl, h⟩ := h; exact h)
theorem leafsAt_elim : ∀ {ls : List Leaf} {cs : Array Value} {j : Nat} {K : List Value → Prop}, leafsAt ls cs j K → ∃ vs : List Value, vs.length = ls.length ∧ (∀ (i : Nat) (v : Value), vs[i]? = some v → cs[j + i]? = some v) ∧ K vs
  | [], cs, j, K, h => ⟨[], rfl, fun i v hi => by simp at hi, h⟩
  | l :: ls, cs, j, K, h => by
    obtain ⟨x, hx, h⟩ := h
    obtain ⟨vs, hn, hv, hk⟩ := leafsAt_elim (leafOf_elim h)
    refine ⟨x :: vs, by simp [hn], fun i v hi => ?_, hk⟩
    cases i with
    | zero => simp at hi; rw [← hi]; exact hx
    | succ i => rw [List.getElem?_cons_succ] at hi; rw [show j + (i + 1) = j + 1 + i by omega]; exact hv i v hi
theorem leaves_agg {e : TypeId} {ls : List Leaf} {n : Nat} (hv : leaves P (n + 1) e = some ls) (hl : (P.underlying e).bind leaf1 = none) : ∃ d, P.underlying e = some d ∧ isAggD d = true := by
  unfold leaves at hv
  cases hd : P.underlying e with
  | none => simp [hd] at hv
  | some d =>
    rw [hd] at hv hl
    refine ⟨d, rfl, ?_⟩
    cases d <;> first | rfl | (simp [leaf1] at hl hv)
theorem wIx_ok {t : TypeId} {v ix : Value} (h : wIx P t v ix fun v => K v H) : wpS P (Instr.index t v ix) K E H := by
  cases ix <;> simp only [wIx] at h <;> try exact h.elim
  rename_i k i
  cases hu : P.underlying t with
  | none => simp [hu] at h
  | some d =>
    rw [hu] at h
    cases d <;> try exact h.elim
    case string =>
      cases v <;> dsimp only at h <;> try exact h.elim
      rename_i s
      obtain ⟨h0, h1, hk⟩ := h
      have hlt : i.toNat < s.size := by omega
      have e : s[i.toNat]? = some (s.data.toList.getD i.toNat 0) := by
        have h2 : i.toNat < s.data.toList.length := by simpa using hlt
        rw [List.getD_eq_getElem?_getD, List.getElem?_eq_getElem h2]
        simp only [Option.getD_some]
        rw [getElem?_pos s i.toNat hlt]
        rfl
      simp only [Instr.index, zha, zka hu, wpS_asIntOf, h0, if_true, e]
      exact hk
    case array n e =>
      cases v <;> dsimp only at h <;> try exact h.elim
      rename_i cs
      cases hl : (P.underlying e).bind leaf1 with
      | none =>
        rw [hl] at h
        dsimp only at h
        cases hv : leaves P 8 e with
        | none => simp [hv] at h
        | some ls =>
          rw [hv] at h
          dsimp only at h
          by_cases hc : ls.length = P.cellsOf e
          · rw [if_pos hc] at h
            obtain ⟨h0, h1, hk⟩ := h
            obtain ⟨vs, hlen, hvs, hk⟩ := leafsAt_elim hk
            obtain ⟨d, hd, hag⟩ := leaves_agg hv hl
            simp only [Instr.index, zha, zka hu, wpS_asIntOf, h0, h1, and_self, if_true, zqc (zbf hd)]
            show wpS P (part e cs (i.toNat * P.cellsOf e)) K E H
            unfold part
            refine isAgg_ok hd ?_
            rw [hag, if_pos rfl]
            rw [zha, zqc (zbf hd)]
            have ex : cs.extract (i.toNat * P.cellsOf e) (i.toNat * P.cellsOf e + P.cellsOf e) = vs.toArray := by
              have hle : ∀ j, j < vs.length → i.toNat * P.cellsOf e + j < cs.size := fun j hj => by
                have := hvs j _ (List.getElem?_eq_getElem hj)
                obtain ⟨h, _⟩ := Array.getElem?_eq_some_iff.1 this
                exact h
              apply Array.ext_getElem?
              intro j
              have hr : vs.toArray[j]? = vs[j]? := by simp
              rw [Array.getElem?_extract, hr]
              by_cases hj : j < vs.length
              · rw [if_pos (by have := hle j hj; have := hle (vs.length - 1) (by omega); omega), hvs j _ (List.getElem?_eq_getElem hj), List.getElem?_eq_getElem hj]
              · rw [if_neg (by omega), List.getElem?_eq_none (by omega)]
            rw [ex]
            exact hk
          · rw [if_neg hc] at h; exact h.elim
      | some l =>
        rw [hl] at h
        dsimp only at h
        by_cases hc : P.cellsOf e = 1
        · rw [if_pos hc] at h
          obtain ⟨h0, h1, x, hx, hk⟩ := h
          obtain ⟨d, hd, _⟩ := Option.bind_eq_some_iff.1 hl
          simp only [Instr.index, zha, zka hu, wpS_asIntOf, h0, h1, and_self, if_true, zqc (zbf hd), hc, Nat.mul_one]
          have := part1 (P := P) (E := E) (H := H) (K := K) (f := fun v => pure v) hl hx (leafOf_elim hk)
          rw [zha] at this
          exact this
        · rw [if_neg hc] at h; exact h.elim
theorem bound_iff {k : IntKind} {i : Int} {y : Nat} {c : BoundsCode} {K : Nat → Heap → Prop} (h0 : 0 ≤ i) (h1 : i ≤ y) : wpS P (Instr.sliceBound (.int k i) y c) K E H ↔ K i.toNat H := by
  simp only [Instr.sliceBound, zha, wpS_asIntOf, h0, h1, and_self, if_true]
  exact Iff.rfl
theorem bounds_ok {b : Bool} {len cap : Nat} {lo hi : Option Value} {K : Nat × Nat × Nat → Heap → Prop} (h : bounds len cap lo hi fun l h => K (l, h, cap) H) :
    wpS P (Instr.sliceBounds b len cap lo hi none) K E H := by
  cases lo with
  | none =>
    cases hi with
    | none => exact h.2
    | some v =>
      cases v <;> simp only [bounds] at h <;> try exact h.elim
      simp only [Instr.sliceBounds, zha, zab, bound_iff h.1 h.2.1]
      exact h.2.2
  | some v =>
    cases v <;> simp only [bounds] at h <;> try exact h.elim
    cases hi with
    | none =>
      simp only [Instr.sliceBounds, zha, zab, bound_iff h.1 h.2.1]
      exact h.2.2.2
    | some u =>
      cases u <;> dsimp only at h <;> try exact h.elim
      obtain ⟨h0, h1, h2, hk⟩ := h
      simp only [Instr.sliceBounds, zha, zab]
      rw [bound_iff (by omega) h2, bound_iff h0 (by omega)]
      exact hk
theorem slA_eq (a : Addr) (c l size : Nat) : (some (if c = l then a else a.add (l * size)) : Option Addr) = slA (some a) c l size := by
  unfold slA; split <;> rfl
theorem wSl_ok {t : TypeId} {v : Value} {lo hi : Option Value} (h : wSl P t v lo hi fun v => K v H) : wpS P (Instr.sliceAt t v lo hi none) K E H := by
  unfold wSl at h
  cases hu : P.underlying t with
  | none => simp [hu] at h
  | some d =>
    rw [hu] at h
    simp only [Instr.sliceAt, zha, zka hu]
    cases d <;> try exact h.elim
    case string =>
      cases v <;> dsimp only at h <;> try exact h.elim
      simp only [Instr.slice, zha, zka hu, Option.isSome_none, Bool.false_eq_true, if_false]
      refine bounds_ok ?_
      exact h
    case slice e =>
      cases v <;> dsimp only at h <;> try exact h.elim
      by_cases hi : (P.info? e).isSome = true
      · rw [if_pos hi] at h
        simp only [Instr.slice, zha, zka hu]
        refine bounds_ok ?_
        simp only [zqc hi]
        exact h
      · rw [if_neg hi] at h; exact h.elim
    case array n e =>
      cases v <;> dsimp only at h <;> try exact h.elim
      rename_i p
      cases p with
      | none => exact h.elim
      | some a =>
        dsimp only at h
        by_cases hi : (P.info? e).isSome = true
        · rw [if_pos hi] at h
          simp only [zha, wpS_sure]
          refine bounds_ok ?_
          simp only [zqc hi, slA_eq]
          exact h
        · rw [if_neg hi] at h; exact h.elim
theorem loadCells_iff {a : Addr} {n : Nat} {cs : List Value} {K : Array Value → Heap → Prop} (hn : cs.length = n) (h : ∀ (j : Nat) (v : Value), cs[j]? = some v → H.cell? (a.add j) = some v) (hK : K cs.toArray H) :
    wpS P (loadCells a n) K E H := by
  subst hn
  exact loadCells_ok cs 0 #[] (fun j v hj => by rw [Nat.zero_add]; exact h j v hj) (by rw [show (#[] : Array Value) ++ cs.toArray = cs.toArray by simp]; exact hK)
theorem foldBytes (f : Value → ByteArray → Sem (ForInStep ByteArray)) (hf : ∀ (b : UInt8) (s : ByteArray), f (.int .u8 b.toNat) s = pure (.yield (s.push (UInt8.ofNat ((b.toNat : Int)).toNat)))) :
    ∀ (bs : List UInt8) (s : ByteArray) {K : ByteArray → Heap → Prop}, K ⟨⟨s.data.toList ++ bs⟩⟩ H →
    wpS P (forIn (bs.map fun b => Value.int .u8 b.toNat) s f) K E H := by
  intro bs
  induction bs with
  | nil =>
    intro s K h
    simp only [List.append_nil] at h
    exact h
  | cons b bs ih =>
    intro s K h
    rw [List.map_cons, List.forIn_cons, hf]
    simp only [zha, zab]
    refine ih _ ?_
    have e : (s.push (UInt8.ofNat ((b.toNat : Int)).toNat)).data.toList = s.data.toList ++ [b] := by
      simp [ByteArray.push]
    rw [e]
    simpa using h
theorem rdBytes_ok {a : Option Addr} {n c : Nat} (h : rdBytes H a n fun x => K (.string x) H) : wpS P (Conv.bytesToString (.slice a n c)) K E H := by
  obtain ⟨s, h1, _, h2, h3, hk⟩ := h
  cases a with
  | none =>
    have : s = .empty := by
      have hz : s.size = 0 := h1.trans (h3 rfl)
      cases s with | mk d => cases d with | mk l => cases l with
        | nil => rfl
        | cons x xs => cases hz
    subst this
    exact hk
  | some ad =>
    unfold Conv.bytesToString
    simp only [zha]
    refine loadCells_iff (cs := s.data.toList.map fun b => Value.int .u8 b.toNat) (by simpa using h1) (fun j v hj => ?_) ?_
    · rw [List.getElem?_map] at hj
      cases hb : s.data.toList[j]? with
      | none => simp [hb] at hj
      | some b =>
        rw [hb] at hj
        have hlt : j < n := by
          rw [← h1]
          have := (List.getElem?_eq_some_iff.1 hb).1
          simpa using this
        rw [h2 ad rfl j hlt, List.getD_eq_getElem?_getD, hb]
        exact hj
    · rw [← Array.forIn_toList]
      refine foldBytes _ (fun _ _ => rfl) s.data.toList .empty ?_
      exact hk
theorem strBytes_ok {e : TypeId} {x : ByteArray} (h : ∀ j, newB (.cells ((zxb x).toArray ++ Array.replicate j (.int .u8 0)) e (x.size + j, x.size + j + 1)) (fun b H' => K (.slice (some ⟨b, 0, none⟩) x.size (x.size + j)) H') H) :
    wpS P (Conv.stringToBytes e x) K E H := by
  unfold Conv.stringToBytes
  rw [zha]
  show ∀ t, wpS P _ K E H
  intro t
  have hc : Question.cut (.appendCap x.size 0 e) t = x.size + t % (2 ^ 63 - x.size) := rfl
  rw [hc]
  generalize t % (2 ^ 63 - x.size) = j
  have hsz : x.size + j - x.size = j := by omega
  rw [zha]
  intro b hb
  have hk := h j b hb
  have ev : (x.data.map fun b => Value.int .u8 b.toNat) = (zxb x).toArray := by apply Array.toList_inj.1; simp [zxb]
  have hlen : ((zxb x).toArray ++ Array.replicate j (Value.int .u8 0)).size = x.size + j := by simp [zxb]
  rw [hsz, ev]
  simp only [markStringish, zha]
  generalize hC : (zxb x).toArray ++ Array.replicate j (Value.int .u8 0) = C at hk hlen ⊢
  have hH : (H.set b (.cells C e)) b = some (.cells C e) := Heap.set_self _ _ _
  have hsh : Heap.shape? (H.set b (.cells C e)) b = some (e, C.size) := by simp [Heap.shape?, hH]
  show wpS P (Sem.shape b Sem.pure) _ E _
  refine ⟨by rw [hH]; rfl, ?_⟩
  rw [hsh]
  show wpS P (Sem.freeze ⟨b, C.size, none⟩ 1 (Sem.pure ())) _ E _
  refine ⟨by show ((H.set b (.cells C e)) b).isSome = true; rw [hH]; rfl, ?_⟩
  have hfr : Heap.freeze (H.set b (.cells C e)) ⟨b, C.size, none⟩ 1 = H.set b (.cells C e (x.size + j, x.size + j + 1)) := by
    funext i
    simp only [Heap.freeze, Heap.upd, Nat.one_ne_zero, if_false]
    by_cases hi : i = b
    · subst hi
      simp [Heap.set, Heap.frzObj, hlen]
    · simp [Heap.set, hi]
  rw [hfr]
  exact hk
theorem wConv_ok {s d : TypeId} {v : Value} (h : wConv P s d v K H) : wpS P (convert s d v) K E H := by
  unfold wConv at h
  cases hs : P.underlying s with
  | none => simp [hs] at h
  | some us =>
    rw [hs] at h
    dsimp only at h
    cases hd : P.underlying d with
    | none => simp [hd] at h
    | some ud =>
      rw [hd] at h
      simp only [convert, zha, zka hs, zka hd]
      cases ud <;> try exact h.elim
      case int k =>
        cases v <;> dsimp only at h <;> try exact h.elim
        cases us <;> exact h
      case string =>
        cases v <;> dsimp only at h <;> try exact h.elim
        case string x => cases us <;> exact h
        case slice a n c =>
          cases us <;> try exact h.elim
          rename_i e
          dsimp only at h ⊢
          cases he : P.underlying e with
          | none => simp [he] at h
          | some de =>
            rw [he] at h
            cases de <;> try exact h.elim
            rename_i k
            cases k <;> try exact h.elim
            simp only [zha, zka he]
            exact rdBytes_ok h
      case slice e =>
        cases v <;> dsimp only at h <;> try exact h.elim
        rename_i x
        cases he : P.underlying e with
        | none => simp [he] at h
        | some de =>
          rw [he] at h
          cases de <;> try exact h.elim
          rename_i k
          cases k <;> try exact h.elim
          cases us <;> (simp only [zha, zka he]; exact strBytes_ok h)
theorem checkKey_iff {b : Bool} {t : TypeId} {d : TypeDesc} {v : Value} {K : Unit → Heap → Prop} (hd : P.underlying t = some d) (hk : keyOk d v = true) :
    wpS P (Instr.checkKey b 10000 t v) K E H ↔ K () H := by
  show wpS P (Instr.checkKey b (9999 + 1) t v) K E H ↔ _
  unfold Instr.checkKey
  simp only [zha, zka hd]
  cases d <;> cases v <;> simp only [keyOk] at hk <;> first | exact Iff.rfl | cases hk
theorem keyIs_now {d : TypeDesc} {k : Value} {e : MapEntry} (hk : keyOk d k = true) (he : keyOk d e.key = true) : Instr.sameNow d k e.key = some (keyIs k e) := by
  cases e with
  | mk key val born =>
    cases d <;> cases k <;> simp only [keyOk] at hk <;> cases key <;> simp only [keyOk] at he <;> first
      | rfl
      | (cases hk; done)
      | (cases he; done)
      | (simp only [beq_iff_eq] at hk he
         subst hk; subst he
         simp [Instr.sameNow, keyIs])
theorem findNow_ok {d : TypeDesc} {k : Value} (hk : keyOk d k = true) : ∀ (es : List MapEntry) (i : Nat), (∀ e ∈ es, keyOk d e.key = true) →
    Instr.findNow d k es i = some ((es.findIdx? (keyIs k)).map fun j => (i + j, ((es[j]?).map (·.val)).getD undef)) := by
  intro es
  induction es with
  | nil => intro i _; rfl
  | cons e es ih =>
    intro i he
    unfold Instr.findNow
    rw [keyIs_now hk (he e (by simp))]
    rw [List.findIdx?_cons]
    cases hb : keyIs k e with
    | true => simp
    | false =>
      simp only [Bool.false_eq_true, if_false]
      rw [ih (i + 1) fun x hx => he x (by simp [hx])]
      cases hf : es.findIdx? (keyIs k) with
      | none => rfl
      | some j => simp; omega
theorem findKey_iff {t : TypeId} {d : TypeDesc} {k : Value} {es : Array MapEntry} {K : Option (Nat × Value) → Heap → Prop} (hd : P.underlying t = some d) (hk : keyOk d k = true) (he : ∀ e ∈ es, keyOk d e.key = true) :
    wpS P (Instr.findKey t k es.toList) K E H ↔ K ((es.toList.findIdx? (keyIs k)).map fun j => (j, ((es.toList[j]?).map (·.val)).getD undef)) H := by
  unfold Instr.findKey
  simp only [zha, zka hd]
  rw [findNow_ok hk es.toList 0 fun e h => he e (by simpa using h)]
  simp only [Nat.zero_add, zab]
theorem getMap_iff {r : Nat} {es : Array MapEntry} {clk : Nat} {K : Obj → Heap → Prop} (h : H r = some (.map es clk)) : wpS P (getObj r) K E H ↔ K (.map es clk) H := by
  show wpS P (Sem.getObj r Sem.pure) K E H ↔ _
  simp only [wpS, h]
theorem setMap_iff {r : Nat} {es : Array MapEntry} {clk : Nat} {o : Obj} {K : Unit → Heap → Prop} (h : H r = some (.map es clk)) : wpS P (setObj r o) K E H ↔ K () (H.set r o) := by
  show wpS P (Sem.setObj r o (Sem.pure ())) K E H ↔ _
  simp only [wpS, h]
theorem mfind_eq (k : Value) (es : Array MapEntry) : mfind k es = (es.toList.findIdx? (keyIs k)).map fun j => ((es.toList[j]?).map (·.val)).getD undef := by
  unfold mfind
  generalize es.toList = l
  induction l with
  | nil => rfl
  | cons e l ih =>
    rw [List.find?_cons, List.findIdx?_cons]
    cases hb : keyIs k e with
    | true => simp
    | false =>
      simp only [Bool.false_eq_true, if_false]
      rw [ih]
      cases l.findIdx? (keyIs k) <;> simp
theorem mapAt_elim {d : TypeDesc} {r : Nat} {K : Array MapEntry → Nat → Prop} (h : mapAt d r K H) : ∃ es clk, H r = some (.map es clk) ∧ (∀ e ∈ es, keyOk d e.key = true) ∧ K es clk := h
theorem lkp_elim {x : Option Value} {l : Leaf} {K1 : Value → Prop} {K0 : Prop} (h : lkp x l K1 K0) : (∃ v, x = some v ∧ K1 v) ∨ (x = none ∧ K0) := by
  cases x with
  | none => exact .inr ⟨rfl, h⟩
  | some v => exact .inl ⟨v, rfl, kinded_elim h⟩
theorem wLook_ok {t : TypeId} {m ix : Value} {ok : Bool} (h : wLook P t m ix ok (fun v => K v H) H) : wpS P (Instr.lookup t m ix ok) K E H := by
  unfold wLook at h
  cases hu : P.underlying t with
  | none => simp [hu] at h
  | some d =>
    rw [hu] at h
    cases d <;> try exact h.elim
    rename_i k e
    dsimp only at h
    cases hk : P.underlying k with
    | none => simp [hk] at h
    | some dk =>
      rw [hk] at h
      dsimp only at h
      by_cases hko : keyOk dk ix = true
      · rw [if_pos hko] at h
        cases hi : P.info? e with
        | none => simp [hi] at h
        | some i =>
          rw [hi] at h
          dsimp only at h
          cases hz : i.zero with
          | none => simp [hz] at h
          | some z =>
            rw [hz] at h
            dsimp only at h
            have zero : ∀ {K : Value → Heap → Prop}, wpS P (zeroValue e) K E H ↔ K z H := by
              intro K
              simp only [zeroValue, zha, zjc hi, hz]
              exact Iff.rfl
            cases m <;> try exact h.elim
            rename_i r
            cases r with
            | none =>
              simp only [Instr.lookup, zha, zka hu, zab]
              rw [checkKey_iff hk hko]
              show wpS P (Instr.findKey k ix (#[] : Array MapEntry).toList) _ E H
              rw [findKey_iff (es := #[]) hk hko (by simp)]
              simp only [List.findIdx?_nil, Option.map_none, zha, zero, zab]
              cases ok <;> exact h
            | some r =>
              obtain ⟨es, clk, hr, hes, hl⟩ := mapAt_elim h
              simp only [Instr.lookup, zha, zka hu, zab, getMap_iff hr]
              rw [checkKey_iff hk hko, findKey_iff hk hko hes]
              rw [mfind_eq] at hl
              cases hf : es.toList.findIdx? (keyIs ix) with
              | none =>
                rw [hf] at hl
                simp only [Option.map_none, zha, zero, zab]
                cases ok <;> exact hl
              | some j =>
                rw [hf] at hl
                obtain ⟨v, hv, hkv⟩ | ⟨hv, _⟩ := lkp_elim hl
                · simp only [Option.map_some, Option.some.injEq] at hv
                  rw [Option.map_some, hv]
                  cases ok <;> exact hkv
                · cases hv
      · rw [if_neg hko] at h; exact h.elim
theorem idx_val {es : Array MapEntry} {k : Value} {j : Nat} (h : es.toList.findIdx? (keyIs k) = some j) : ∃ e, es[j]? = some e ∧ keyIs k e = true := by
  obtain ⟨h1, h2, _⟩ := List.findIdx?_eq_some_iff_getElem.1 h
  exact ⟨es.toList[j], by rw [← Array.getElem?_toList]; exact List.getElem?_eq_getElem h1, h2⟩
theorem ba_beq {a b : ByteArray} : (a == b) = true ↔ a = b := by
  cases a with | mk x => cases b with | mk y =>
  show (x == y) = true ↔ _
  simp
theorem ba_self (a : ByteArray) : (a == a) = true := ba_beq.2 rfl
theorem same_key {d : TypeDesc} {k : Value} {e : MapEntry} (hk : keyOk d k = true) (h : keyIs k e = true) : Instr.sameBits 10000 e.key k = true := by
  cases e with
  | mk key val born =>
    cases k <;> cases key <;> simp only [keyIs, Bool.and_eq_true, Bool.false_eq_true] at h <;> first
      | (have h := eq_of_beq h; subst h; simp [Instr.sameBits]; done)
      | (have h := ba_beq.1 h; subst h; simp [Instr.sameBits, ba_self]; done)
      | (obtain ⟨h1, h2⟩ := h; have h1 := eq_of_beq h1; have h2 := eq_of_beq h2; subst h1; subst h2; simp [Instr.sameBits]; done)
      | exact h.elim
theorem wPut_ok {t : TypeId} {m ix x : Value} {K : Unit → Heap → Prop} (h : wPut P t m ix x (fun H' => K () H') H) : wpS P (Instr.mapUpdate t m ix x) K E H := by
  unfold wPut at h
  cases hu : P.underlying t with
  | none => simp [hu] at h
  | some d =>
    rw [hu] at h
    cases d <;> try exact h.elim
    rename_i k e
    dsimp only at h
    cases hk : P.underlying k with
    | none => simp [hk] at h
    | some dk =>
      rw [hk] at h
      dsimp only at h
      by_cases hko : keyOk dk ix = true
      · rw [if_pos hko] at h
        cases m <;> try exact h.elim
        rename_i r
        cases r with
        | none => exact h.elim
        | some r =>
          obtain ⟨es, clk, hr, hes, hl⟩ := mapAt_elim h
          simp only [Instr.mapUpdate, zha, zka hu, getMap_iff hr]
          rw [checkKey_iff hk hko, findKey_iff hk hko hes]
          unfold mput at hl
          cases hf : es.toList.findIdx? (keyIs ix) with
          | none =>
            rw [hf] at hl
            simp only [Option.map_none]
            rw [setMap_iff hr]
            exact hl
          | some j =>
            rw [hf] at hl
            simp only [Option.map_some]
            obtain ⟨e', he', hke⟩ := idx_val hf
            have hs := same_key hko hke
            rw [he']
            simp only [Option.map_some, Option.getD_some, Instr.keyThatStays, hs, if_true, zha, zab]
            rw [setMap_iff hr]
            exact hl
      · rw [if_neg hko] at h; exact h.elim
end
end Go.Sh
