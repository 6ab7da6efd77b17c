/-
  EV: the difference of two workspaces, in plain Lean.
-/
import Derived.Test.YtelpkdjibjddlaaEvFiles
namespace Go.Ev
open Go Go.RowKit
def comL : List UInt8 → List UInt8 → Nat
  | a :: x,b :: y => if a = b then comL x y + 1 else 0
  | _,_ => 0
def SameTo (x y : List UInt8) (n : Nat) : Prop := ∀ k,k < n → ∃ b,x[k]? = some b ∧ y[k]? = some b
theorem SameTo.zero {x y : List UInt8} : SameTo x y 0 := fun k hk => absurd hk (Nat.not_lt_zero k)
theorem SameTo.step {x y : List UInt8} {n : Nat} {a b : UInt8} (h : SameTo x y n) (ha : x[n]? = some a) (hb : y[n]? = some b) (e : a = b) : SameTo x y (n + 1) := fun k hk => by
  by_cases hkn : k = n
  · subst hkn; exact ⟨a,ha,e ▸ hb⟩
  · exact h k (by omega)
theorem com_at : ∀ {x y : List UInt8} {n : Nat},SameTo x y n → (∀ a b,x[n]? = some a → y[n]? = some b → ¬ a = b) → comL x y = n
  | [],y,0,_,_ => by unfold comL; rfl
  | [],y,n + 1,h,_ => by obtain ⟨b,hb,_⟩ := h 0 (by omega); simp at hb
  | a :: x,[],0,_,_ => by unfold comL; rfl
  | a :: x,[],n + 1,h,_ => by obtain ⟨b,_,hb⟩ := h 0 (by omega); simp at hb
  | a :: x,b :: y,0,_,hs => by
    unfold comL
    rw [if_neg (hs a b rfl rfl)]
  | a :: x,b :: y,n + 1,h,hs => by
    obtain ⟨c,h1,h2⟩ := h 0 (by omega)
    simp at h1 h2
    subst h1 h2
    unfold comL
    rw [if_pos rfl,com_at (n := n) (fun k hk => by
      obtain ⟨b,h3,h4⟩ := h (k + 1) (by omega)
      exact ⟨b,by simpa using h3,by simpa using h4⟩) fun a b ha hb => hs a b (by simpa using ha) (by simpa using hb)]
theorem com_le : ∀ (x y : List UInt8),comL x y ≤ x.length ∧ comL x y ≤ y.length
  | [],y => by unfold comL; exact ⟨Nat.zero_le _,Nat.zero_le _⟩
  | a :: x,[] => by unfold comL; exact ⟨Nat.zero_le _,Nat.zero_le _⟩
  | a :: x,b :: y => by
    have := com_le x y
    unfold comL
    split
    · simp; omega
    · exact ⟨Nat.zero_le _,Nat.zero_le _⟩
def lastL (x y : List UInt8) : Nat := comL x.reverse y.reverse
theorem lastL_le (x y : List UInt8) : lastL x y ≤ x.length ∧ lastL x y ≤ y.length := by
  have := com_le x.reverse y.reverse
  simpa [lastL] using this
theorem rev_at {x : List UInt8} {k m : Nat} {a : UInt8} (h : x[m]? = some a) (hk : m + k + 1 = x.length) : x.reverse[k]? = some a := by
  rw [List.getElem?_reverse (by omega),← h]; congr 1; omega
theorem byte_inj {a b : UInt8} (h : ((a.toNat : Nat) : Int) = ((b.toNat : Nat) : Int)) : a = b := UInt8.toNat_inj.1 (by omega)
theorem byte_ne {a b : UInt8} (h : ¬ ((a.toNat : Nat) : Int) = ((b.toNat : Nat) : Int)) : ¬ a = b := fun he => h (by rw [he])
def diffE (x y : ByteArray) : Ed :=
  ⟨((comL (B x) (B y) : Nat) : Int),(((B x).length - lastL ((B x).drop (comL (B x) (B y))) ((B y).drop (comL (B x) (B y))) : Nat) : Int),sub y (comL (B x) (B y)) ((B y).length - lastL ((B x).drop (comL (B x) (B y))) ((B y).drop (comL (B x) (B y))))⟩
structure Pv where
  file : ByteArray
  blk : Nat
  e : Ed
def Pv.cells (p : Pv) : List Value := [.string p.file,.slice (some ⟨p.blk,0,none⟩) 1 1]
theorem Pv.one : ∀ y : Pv,∀ v ∈ y.cells,oneCell v = true := by intro y v hv; simp [Pv.cells] at hv; rcases hv with rfl | rfl <;> rfl
def NE (t : Tree) (n : Nat) (l : List Pv) : Prop := ∀ p ∈ l,Row t n p.blk p.e.cells 97 0
theorem NE.nil {t : Tree} {n : Nat} : NE t n [] := fun _ h => by cases h
theorem NE.own {s s' : St} {l : List Pv} (h : NE s.t s.next l) (w : Own s s') : NE s'.t s'.next l := fun p hp => (h p hp).own w
theorem NE.oth {s s' : St} {l : List Pv} {X : TypeId → Bool} (h : NE s.t s.next l) (w : Oth X s s') (hX : X 97 = false) : NE s'.t s'.next l := fun p hp => w _ _ _ _ (h p hp) hX
theorem NE.snoc {t : Tree} {n : Nat} {l : List Pv} {p : Pv} (h : NE t n l) (r : Row t n p.blk p.e.cells 97 0) : NE t n (l ++ [p]) := fun q hq => by
  rcases List.mem_append.1 hq with hq | hq
  · exact h q hq
  · simp at hq; subst hq; exact r
section
variable {T : Tab} {cx : Ctx} {fr : Fr} {s s0 : St} {ops : Array Oper} {bef : List Nat} {i : Nat} {o : Oper} {os : List Oper} {L : List (Nat × Nat × Nat)} {Q : Fr → St → Prop}
end
def Named (a b : List Fl) : Prop := a.length = b.length ∧ ∀ (k : Nat) (f g : Fl),a[k]? = some f → b[k]? = some g → B f.nm = B g.nm
noncomputable instance (a b : List Fl) : Decidable (Named a b) := Classical.propDecidable _
end Go.Ev

