/- A packet that comes once more changes nothing (part 15 of the walk and its laws) -/
import Derived.Test.YtkfkkkalcchpkaaGreatDoorTw2n
namespace Go.Sh
def sub : List Nat → Code → Code
  | [], c => c
  | 0 :: p, .seq a _ => sub p a
  | _ :: p, .seq _ b => sub p b
  | 0 :: p, .cond _ a _ => sub p a
  | _ :: p, .cond _ _ b => sub p b
  | _ :: p, .block _ a => sub p a
  | _ :: p, .scope a => sub p a
  | _ :: p, .loop a => sub p a
  | 0 :: p, .rangeFunc _ _ a _ => sub p a
  | _ :: p, .rangeFunc _ _ _ b => sub p b
  | _, c => c
def Γof : List (FuncId × FT) → FuncId → Option FT
  | [], _ => none
  | (a, F) :: l, n => if n = a then some F else Γof l n
theorem Γof_ok {P : Program} : ∀ {l : List (FuncId × FT)}, (∀ p ∈ l, zca P p.1 p.2) → ∀ f F, Γof l f = some F → zca P f F := by
  intro l
  induction l with
  | nil => intro _ f F h; cases h
  | cons x l ih =>
    intro hl f F h
    obtain ⟨a, G⟩ := x
    unfold Γof at h
    split at h
    · rename_i e; subst e; cases h; exact hl (f, F) (by simp)
    · exact ih (fun p hp => hl p (by simp [hp])) f F h
def lookI (d : TypeDesc) (m : Option Nat) (ix : Value) (k : IntKind) (z : Int) (K : Int → Bool → Prop) (H : Heap) : Prop :=
  match m with
  | none => K z false
  | some r => mapAt d r (fun es _ => match mfind ix es with
    | some v => ∃ n, v = .int k n ∧ K n true
    | none => K z false) H
def lookP (d : TypeDesc) (m : Option Nat) (ix : Value) (K : Option Addr → Bool → Prop) (H : Heap) : Prop :=
  match m with
  | none => K none false
  | some r => mapAt d r (fun es _ => match mfind ix es with
    | some v => ∃ n, v = .pointer n ∧ K n true
    | none => K none false) H
def putW (d : TypeDesc) (m : Option Nat) (ix x : Value) (K : Heap → Prop) (H : Heap) : Prop :=
  match m with
  | some r => mapAt d r (fun es clk => K (H.set r (mput ix x es clk))) H
  | none => False
def delW (d : TypeDesc) (m : Option Nat) (ix : Value) (K : Heap → Prop) (H : Heap) : Prop :=
  match m with
  | some r => mapAt d r (fun es clk => K (H.set r (mdel ix es clk))) H
  | none => False
def roomT (a : Option Addr) (n m c size : Nat) (new : List Value) (K : Option Addr → Nat → Nat → Heap → Prop) (H : Heap) : Prop :=
  match a with
  | some ad => (∀ v ∈ new, znd v = true) ∧ stcs (ad.add (n * size)) new 0 (fun H' => K (some ad) (n + m) c H') H
  | none => K none (n + m) c H
def growT (e : TypeId) (z : Value) (a : Option Addr) (n m size : Nat) (new : List Value) (K : Option Addr → Nat → Nat → Heap → Prop) (H : Heap) : Prop :=
  rdRow H a (n * size) fun old => ∀ cap, n + m ≤ cap → newB (.cells (old ++ new ++ zub z (cap - (n + m))).toArray e) (fun b H' => K (some ⟨b, 0, none⟩) (n + m) cap H') H
def appT (e : TypeId) (z : Value) (a : Option Addr) (n m c size bytes : Nat) (new : List Value) (K : Option Addr → Nat → Nat → Heap → Prop) (H : Heap) : Prop :=
  (n + m) * bytes ≤ 140737488355328 ∧ n + m ≤ 4611686018427387904 ∧ (n + m ≤ c → roomT a n m c size new K H) ∧ (c < n + m → growT e z a n m size new K H)
def slA1 (fr : Fr) (t : Nat) (K : Array Value → Prop) : Prop :=
  match fr.getD t none with
  | some (.agg n) => K n
  | _ => False
theorem slA1_elim {fr : Fr} {t : Nat} {K : Array Value → Prop} (h : slA1 fr t K) : ∃ n, fr.getD t none = some (.agg n) ∧ K n := by
  unfold slA1 at h
  cases e : fr.getD t none with
  | none => rw [e] at h; exact h.elim
  | some v => rw [e] at h; cases v <;> simp only at h <;> first | exact ⟨_, rfl, h⟩ | exact h.elim
def slPA (fr : Fr) (t : Nat) (K : Addr → Prop) : Prop :=
  match fr.getD t none with
  | some (.pointer (some n)) => K n
  | _ => False
theorem zua {fr : Fr} {t : Nat} {K : Addr → Prop} (h : slPA fr t K) : ∃ n, fr.getD t none = some (.pointer (some n)) ∧ K n := by
  unfold slPA at h
  split at h
  · rename_i e; exact ⟨_, e, h⟩
  · exact h.elim
theorem Loop.of {σ : Type} {B : (σ → Heap → Prop) → σ → Heap → Prop} (I : σ → Heap → Nat → Prop)
    (step : ∀ n s H, I s H n → ∀ RR : σ → Heap → Prop, (∀ s' H' m, m < n → I s' H' m → RR s' H') → B RR s H) {n : Nat} {s : σ} {H : Heap} (h : I s H n) : Loop B s H := by
  have key : ∀ N n s H, n < N → I s H n → loopS B N s H := by
    intro N
    induction N with
    | zero => intro n s H hn; omega
    | succ N ih =>
      intro n s H hn hi
      exact step n s H hi _ fun s' H' m hm hI => ih m s' H' (by omega) hI
  exact ⟨n + 1, key _ _ s H (by omega) h⟩
end Go.Sh
