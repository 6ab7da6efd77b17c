/-
  EV: the layer edit: lists made plain, in plain Lean.
-/
import Derived.Test.YtelpkdjibjddlaaEvApplyLaw
import Derived.Test.YtelpkdjibjddlaaEvStore
set_option linter.unusedSimpArgs false
set_option linter.unusedVariables false
namespace Go.Ev
open Go
section
variable {α : Type} {P : α → Prop} {l : List α}
end
def SameX (x : ByteArray) (e : Ed) : Prop := B (sub x e.lo.toNat e.hi.toNat) = B e.tx
noncomputable instance (x : ByteArray) (e : Ed) : Decidable (SameX x e) := Classical.propDecidable _
end Go.Ev

/-
  EV: the layer edit: what the program's and the document's way to put edits together have in common; that what comes of it is plain.
-/
namespace Go.Ev
open Go
structure MgOk (n : Int) (M : List Ed) : Prop where
  w : ∀ y ∈ M,Within y n
  p : M.Pairwise fun a b => a.hi < b.lo
end Go.Ev
