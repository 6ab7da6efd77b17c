/-
  EV: the layer edit: lists made plain, in plain Lean.
-/
import Derived.Test.YtelpkdjibjddlaaEvApplyLaw
import Derived.Test.YtelpkdjibjddlaaEvStore
set_option linter.unusedSimpArgs false
set_option linter.unusedVariables false
namespace Go.Ev
open Go
noncomputable def firstP {α : Type} (P : α → Prop) (l : List α) : Int := by
  classical exact if h : ∃ i : Nat,(∃ e,l[i]? = some e ∧ P e) ∧ NoB P l i then ((Classical.choose h : Nat) : Int) else -1
section
variable {α : Type} {P : α → Prop} {l : List α}
theorem firstP_at {i : Nat} {e : α} (hn : NoB P l i) (he : l[i]? = some e) (hp : P e) : firstP P l = i := by
  have h : ∃ i : Nat,(∃ e,l[i]? = some e ∧ P e) ∧ NoB P l i := ⟨i,⟨e,he,hp⟩,hn⟩
  unfold firstP
  rw [dif_pos h]
  obtain ⟨⟨e',g1,g2⟩,g3⟩ := Classical.choose_spec h
  rcases Nat.lt_trichotomy (Classical.choose h) i with hl | hl | hl
  · exact absurd g2 (hn _ hl _ g1)
  · exact congrArg Int.ofNat hl
  · exact absurd hp (g3 _ hl _ he)
theorem firstP_none {i : Nat} (hn : NoB P l i) (hi : l.length ≤ i) : firstP P l = -1 := by
  unfold firstP
  rw [dif_neg]
  rintro ⟨k,⟨e,h1,h2⟩,_⟩
  exact hn k (by have := (List.getElem?_eq_some_iff.1 h1).1; omega) e h1 h2
end
def SameX (x : ByteArray) (e : Ed) : Prop := B (sub x e.lo.toNat e.hi.toNat) = B e.tx
noncomputable instance (x : ByteArray) (e : Ed) : Decidable (SameX x e) := Classical.propDecidable _
end Go.Ev

/-
  EV: the layer edit: what the program's and the document's way to put edits together have in common; that what comes of it is plain.
-/
namespace Go.Ev
open Go
structure MgOk (n : Int) (M : List Ed) : Prop where
  w : ∀ y ∈ M,Within y n
  p : M.Pairwise fun a b => a.hi < b.lo
end Go.Ev
