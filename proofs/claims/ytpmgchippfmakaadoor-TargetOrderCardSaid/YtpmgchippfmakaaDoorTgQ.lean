/- What a request for a target asks for: plain laws. -/
import Derived.Test.YtpmgchippfmakaaDoorTgP
namespace Go.Sh
open Go.Proofs Num
set_option maxRecDepth 8000
def fieldsL (auth : ByteArray) (ip : Bool) (a : Nat) (p : Int) : FL := [(mNm, connB), (pNm, protoB ip), (sNm, httpsB), (aNm, auth), (hNm, pathB ip a p), (cNm, oneB)]
theorem hits_app (x y : FL) (n : ByteArray) : hits (x ++ y) n = hits x n ++ hits y n := by unfold hits; rw [List.filter_append]
theorem hits_off {l : FL} {n : ByteArray} (h : ∀ f ∈ l, f.1 ≠ n) : hits l n = [] := by
  unfold hits
  rw [List.filter_eq_nil_iff]
  intro f hf
  simpa using h f hf
theorem getF_one {l : FL} {n : ByteArray} {f : ByteArray × ByteArray} (h : hits l n = [f]) : getF l n = some f.2 := by
  unfold getF lastV
  rw [h]
  rfl
theorem getF_none {l : FL} {n : ByteArray} (h : hits l n = []) : getF l n = none := by
  unfold getF
  rw [h]
  rfl
theorem hits_perm {l l' : FL} (h : l.Perm l') (n : ByteArray) : (hits l n).Perm (hits l' n) := h.filter _
theorem getF_perm {l l' : FL} (h : l.Perm l') (n : ByteArray) : getF l n = getF l' n := by
  have hp := hits_perm h n
  unfold getF lastV
  rw [hp.length_eq]
  split
  · rename_i h1
    obtain ⟨x, hx⟩ := List.length_eq_one_iff.1 h1
    rw [hx] at hp
    rw [List.perm_singleton.1 hp, hx]
  · rfl
theorem chkL_perm {l l' : FL} (h : l.Perm l') : chkL l = chkL l' := by
  unfold chkL
  rw [h.length_eq, h.all_eq]
/-- The order alone. -/
def ordB : Bool → List Bool → Bool
  | _, [] => true
  | b, c :: t => if c then !b && ordB b t else ordB true t
theorem shape_ord (l : FL) : ∀ (t : FL) (b : Bool), (∀ f ∈ t, colonB f.1 = true → (getF l f.1).isSome = true ∧ pseudoB f.1 = true) → shapeGo l b t = ordB b (t.map fun f => colonB f.1)
  | [], b, _ => rfl
  | f :: t, b, h => by
    have ih := fun b => shape_ord l t b fun g hg => h g (by simp [hg])
    unfold shapeGo
    simp only [List.map_cons, ordB, ih]
    by_cases hc : colonB f.1 = true
    · obtain ⟨h1, h2⟩ := h f (by simp) hc
      rw [if_pos hc, if_pos hc, h1, h2]
      simp
    · rw [if_neg hc, if_neg hc]
theorem colon_m : colonB mNm = true := by decide
theorem colon_p : colonB pNm = true := by decide
theorem colon_s : colonB sNm = true := by decide
theorem colon_a : colonB aNm = true := by decide
theorem colon_h : colonB hNm = true := by decide
theorem colon_c : colonB cNm = false := by decide
theorem pseudo_m : pseudoB mNm = true := by decide
theorem pseudo_p : pseudoB pNm = true := by decide
theorem pseudo_s : pseudoB sNm = true := by decide
theorem pseudo_a : pseudoB aNm = true := by decide
theorem pseudo_h : pseudoB hNm = true := by decide
/-- Five values under their names, in whatever list. -/
structure Six (l : FL) (m p s a h : ByteArray) : Prop where
  m : getF l mNm = some m
  p : getF l pNm = some p
  s : getF l sNm = some s
  a : getF l aNm = some a
  h : getF l hNm = some h
theorem parse_six {l : FL} {m p s a h : ByteArray} (x : Six l m p s a h) (hk : (chkL l && shapeGo l false l) = true) : parseL l = restA l m s a h := by
  unfold parseL
  rw [if_pos hk, x.m, x.s, x.a, x.h]
theorem parse_bad {l : FL} (hk : (chkL l && shapeGo l false l) = false) : parseL l = badA 400 := by
  unfold parseL
  rw [if_neg (by rw [hk]; simp)]
theorem udp_path {a : Nat} {p : Int} (ha : a < 4294967296) (hr : rightB false a p = true) : udpV (pathB false a p) = some (a, p.toNat) := by
  have hp := right_port hr
  refine udpV_of ⟨ha, by dsimp only; omega, by dsimp only; omega, ?_⟩
  unfold pathB
  rw [hr]
  rfl
theorem proto_ne : ¬ (udpB : ByteArray) = ipB := by decide
theorem right_ip {a : Nat} {p : Int} (hr : rightB true a p = true) : a = 0 ∧ p = 0 := by
  simp [rightB] at hr
  omega
/-- All is right. -/
theorem rest_ok {l : FL} {auth : ByteArray} {ip : Bool} {a : Nat} {p : Int} (ha : a < 4294967296) (hr : rightB ip a p = true) (hp : getF l pNm = some (protoB ip)) (hc : getF l cNm = some oneB) (hn : auth.size ≠ 0) : restA l connB httpsB auth (pathB ip a p) = (ip, a, p.toNat, 200) := by
  unfold restA
  rw [hp, hc]
  rw [if_neg (by simp), if_neg (by simp)]
  cases ip with
  | true =>
    rw [if_neg (by simp [protoB]), if_neg (by simp [hn]), if_pos (show some (protoB true) = some ipB from rfl)]
    obtain ⟨rfl, rfl⟩ := right_ip hr
    have : pathB true 0 0 = packB := by unfold pathB; rw [hr]; rfl
    rw [this, if_pos rfl]
    rfl
  | false =>
    rw [if_neg (by simp [protoB]), if_neg (by simp [hn]), if_neg (by intro h; exact proto_ne (Option.some.inj h)), udp_path ha hr]
theorem rest_auth {l : FL} {ip : Bool} {h : ByteArray} (hp : getF l pNm = some (protoB ip)) : restA l connB httpsB ⟨#[]⟩ h = badA 400 := by
  unfold restA
  rw [hp, if_neg (by simp), if_neg (by simp), if_neg (by cases ip <;> simp [protoB]), if_pos (fun h => h.2.1 rfl)]
/-! ### With whatever behind -/
section
variable {auth : ByteArray} {ip : Bool} {a : Nat} {p : Int} {more : FL}
theorem hits_f (n : ByteArray) : hits (fieldsL auth ip a p) n = (if mNm = n then [(mNm, connB)] else []) ++ ((if pNm = n then [(pNm, protoB ip)] else []) ++ ((if sNm = n then [(sNm, httpsB)] else []) ++ ((if aNm = n then [(aNm, auth)] else []) ++ ((if hNm = n then [(hNm, pathB ip a p)] else []) ++ (if cNm = n then [(cNm, oneB)] else []))))) := by
  unfold hits fieldsL
  simp only [List.filter_cons, List.filter_nil]
  by_cases h1 : mNm = n <;> by_cases h2 : pNm = n <;> by_cases h3 : sNm = n <;> by_cases h4 : aNm = n <;> by_cases h5 : hNm = n <;> by_cases h6 : cNm = n <;> simp [h1, h2, h3, h4, h5, h6]
theorem f_m : hits (fieldsL auth ip a p) mNm = [(mNm, connB)] := by kernel_rfl
theorem f_p : hits (fieldsL auth ip a p) pNm = [(pNm, protoB ip)] := by kernel_rfl
theorem f_s : hits (fieldsL auth ip a p) sNm = [(sNm, httpsB)] := by kernel_rfl
theorem f_a : hits (fieldsL auth ip a p) aNm = [(aNm, auth)] := by kernel_rfl
theorem f_h : hits (fieldsL auth ip a p) hNm = [(hNm, pathB ip a p)] := by kernel_rfl
theorem f_c : hits (fieldsL auth ip a p) cNm = [(cNm, oneB)] := by kernel_rfl
/-- No name behind is one of the six. -/
def MoreOk (more : FL) : Prop := ∀ f ∈ more, colonB f.1 = false ∧ f.1 ≠ cNm
theorem MoreOk.off (h : MoreOk more) {n : ByteArray} (hn : colonB n = true ∨ n = cNm) : hits more n = [] := hits_off fun f hf e => by
  obtain ⟨h1, h2⟩ := h f hf
  rcases hn with hn | hn
  · rw [e, hn] at h1; cases h1
  · exact h2 (e.trans hn)
theorem back_six (h : MoreOk more) : Six (fieldsL auth ip a p ++ more) connB (protoB ip) httpsB auth (pathB ip a p) ∧ getF (fieldsL auth ip a p ++ more) cNm = some oneB := by
  have e : ∀ {n : ByteArray} {x : ByteArray × ByteArray}, (colonB n = true ∨ n = cNm) → hits (fieldsL auth ip a p) n = [x] → getF (fieldsL auth ip a p ++ more) n = some x.2 := fun hn hx => getF_one (by rw [hits_app, hx, h.off hn]; rfl)
  exact ⟨⟨e (.inl colon_m) f_m, e (.inl colon_p) f_p, e (.inl colon_s) f_s, e (.inl colon_a) f_a, e (.inl colon_h) f_h⟩, e (.inr rfl) f_c⟩
theorem ord_false : ∀ l : List Bool, (∀ b ∈ l, b = false) → ∀ c, ordB c l = true
  | [], _, _ => rfl
  | b :: l, h, c => by
    have := h b (by simp)
    subst this
    exact ord_false l (fun b hb => h b (by simp [hb])) true
theorem back_shape (h : MoreOk more) : shapeGo (fieldsL auth ip a p ++ more) false (fieldsL auth ip a p ++ more) = true := by
  obtain ⟨x, _⟩ := back_six (auth := auth) (ip := ip) (a := a) (p := p) h
  rw [shape_ord]
  · rw [List.map_append]
    show ordB true (more.map _) = true
    refine ord_false _ (fun b hb => ?_) _
    obtain ⟨f, hf, rfl⟩ := List.mem_map.1 hb
    exact (h f hf).1
  · intro f hf hc
    rcases List.mem_append.1 hf with hf | hf
    · simp only [fieldsL, List.mem_cons, List.not_mem_nil, or_false] at hf
      rcases hf with rfl | rfl | rfl | rfl | rfl | rfl
      · exact ⟨by rw [x.m]; rfl, pseudo_m⟩
      · exact ⟨by rw [x.p]; rfl, pseudo_p⟩
      · exact ⟨by rw [x.s]; rfl, pseudo_s⟩
      · exact ⟨by rw [x.a]; rfl, pseudo_a⟩
      · exact ⟨by rw [x.h]; rfl, pseudo_h⟩
      · rw [colon_c] at hc; cases hc
    · rw [(h f hf).1] at hc; cases hc
theorem parse_back (ha : a < 4294967296) (hr : rightB ip a p = true) (h : MoreOk more) : parseL (fieldsL auth ip a p ++ more) = if chkL (fieldsL auth ip a p ++ more) = true ∧ auth.size ≠ 0 then (ip, a, p.toNat, 200) else badA 400 := by
  obtain ⟨x, hc⟩ := back_six (auth := auth) (ip := ip) (a := a) (p := p) h
  have hs := back_shape (auth := auth) (ip := ip) (a := a) (p := p) h
  cases hk : chkL (fieldsL auth ip a p ++ more) with
  | false =>
    rw [if_neg (by simp), parse_bad (by rw [hk]; rfl)]
  | true =>
    rw [parse_six x (by rw [hk, hs]; rfl)]
    by_cases hn : auth.size = 0
    · have : auth = ⟨#[]⟩ := by
        obtain ⟨⟨l⟩⟩ := auth
        cases l with
        | nil => rfl
        | cons c t => simp [ByteArray.size] at hn
      subst this
      rw [if_neg (fun h => h.2 rfl)]
      exact rest_auth x.p
    · rw [if_pos ⟨rfl, hn⟩]
      exact rest_ok ha hr x.p hc hn
end
/-! ### Right fields -/
theorem dg_see {n : Nat} (h : n < 256) : ∀ c ∈ dg n, seeB c = true := fun c hc => by
  obtain ⟨h1, _⟩ := dg_facts h
  have := h1 c hc
  unfold seeB
  simp
  omega
theorem dot_see {a : Nat} (h : a < 4294967296) : ∀ c ∈ dotL a, seeB c = true := by
  intro c hc
  unfold dotL at hc
  simp only [List.mem_append, List.mem_cons] at hc
  have d : seeB 46 = true := by decide
  rcases hc with h1 | rfl | h1 | rfl | h1 | rfl | h1
  · exact dg_see (by omega) c h1
  · exact d
  · exact dg_see (by omega) c h1
  · exact d
  · exact dg_see (by omega) c h1
  · exact d
  · exact dg_see (by omega) c h1
theorem dot_len {a : Nat} (h : a < 4294967296) : (dotL a).length ≤ 15 := by
  have e : ∀ {n : Nat}, n < 256 → (dg n).length ≤ 3 := fun hn => (dg_facts hn).2.2.2
  have h1 := e (n := a / 16777216) (by omega)
  have h2 := e (n := a / 65536 % 256) (by omega)
  have h3 := e (n := a / 256 % 256) (by omega)
  have h4 := e (n := a % 256) (by omega)
  unfold dotL
  simp only [List.length_append, List.length_cons]
  omega
theorem path_ok {ip : Bool} {a : Nat} {p : Int} (ha : a < 4294967296) (hr : rightB ip a p = true) : (pathB ip a p).size ≤ 256 ∧ (pathB ip a p).data.toList.all seeB = true := by
  unfold pathB
  rw [hr, if_pos rfl]
  cases ip with
  | true => rw [if_pos rfl]; decide
  | false =>
    rw [if_neg (by simp)]
    have hp := right_port hr
    have hl := path_list ha (p := p.toNat)
    have d5 := dec_len5 (n := p.toNat) (by omega)
    constructor
    · rw [← list_sizeB, hl]
      have := dot_len ha
      simp only [List.length_append, List.length_cons, List.length_nil]
      have : frontB.data.toList.length = 24 := rfl
      omega
    · have hfr : ∀ c ∈ frontB.data.toList, seeB c = true := List.all_eq_true.1 (by decide)
      rw [hl]
      generalize frontB.data.toList = F at hfr
      rw [List.all_eq_true]
      intro c hc
      simp only [List.mem_append, List.mem_cons, List.not_mem_nil, or_false] at hc
      rcases hc with h1 | h1 | rfl | h1 | rfl
      · exact hfr c h1
      · exact dot_see ha c h1
      · decide
      · have := dec_dig p.toNat c h1
        unfold seeB
        simp
        omega
      · decide
theorem fields_ok {auth : ByteArray} {ip : Bool} {a : Nat} {p : Int} (ha : a < 4294967296) (hr : rightB ip a p = true) (h1 : auth.size ≤ 256) (h2 : auth.data.toList.all seeB = true) : ∀ f ∈ fieldsL auth ip a p, fieldOk f = true := by
  obtain ⟨p1, p2⟩ := path_ok ha hr
  intro f hf
  simp only [fieldsL, List.mem_cons, List.not_mem_nil, or_false] at hf
  rcases hf with rfl | rfl | rfl | rfl | rfl | rfl
  · decide
  · cases ip <;> decide
  · decide
  · unfold fieldOk; rw [h2]; simp [h1]; decide
  · unfold fieldOk; rw [p2]; simp [p1]; decide
  · decide
end Go.Sh
