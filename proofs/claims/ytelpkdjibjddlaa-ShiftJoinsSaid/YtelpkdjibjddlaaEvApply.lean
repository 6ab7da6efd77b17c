/-
  EV: what the functions of the layer edit compute that make texts, in plain Lean.
-/
import Derived.Test.YtelpkdjibjddlaaEvDrawn
import Derived.Test.YtelpkdjibjddlaaEvShiftLaw
namespace Go.Ev
open Go Go.RowKit
def NoTwin (l : List Ed) (i : Nat) : Prop := ∀ k,k < i → ∀ e a,l[k]? = some e → 0 < k → l[k - 1]? = some a → ¬ a.lo = e.lo
noncomputable instance (l : List Ed) (i : Nat) : Decidable (NoTwin l i) := Classical.propDecidable _
noncomputable instance (a b : List Ed) : Decidable (a = b) := Classical.propDecidable _
section
variable {T : Tab} {fr : Fr} {s s0 : St} {ops : Array Oper} {o : Oper} {os : List Oper} {Q : Fr → St → Prop}
theorem OL.none {α : Type} {c : α → List Value} {k : Nat} {el : TypeId} {lo : Nat} {t : Tree} {n N : Nat} : OL c k el lo t n (.slice (some ⟨N,0,Option.none⟩) 0 0) ([] : List α) := ⟨by simp,.inl ⟨rfl,_,rfl,.inr ⟨N,rfl⟩⟩⟩
end
theorem Bd.own {bT uT lo N : Nat} {x : List UInt8} {s s' : St} (h : Bd bT uT lo s.t s.next N x) (w : Own s s') : Bd bT uT lo s'.t s'.next N x := by
  obtain ⟨h1,p,v,h2,h3,h4,h5⟩ := h
  exact ⟨h1,p,v,h2.own w,h3,h4.own w,h5⟩
theorem Sl.nil {α : Type} {c : α → List Value} {k : Nat} (t : Tree) (n : Nat) : Sl c k t n Option.none ([] : List α) 0 0 [] 0 0 := ⟨fun h => absurd rfl h,fun h => absurd rfl h,fun i x h => by simp at h,by simp⟩
theorem Ed.one : ∀ y : Ed,∀ v ∈ y.cells,oneCell v = true := by intro y v hv; simp at hv; rcases hv with rfl | rfl | rfl <;> rfl
end Go.Ev

