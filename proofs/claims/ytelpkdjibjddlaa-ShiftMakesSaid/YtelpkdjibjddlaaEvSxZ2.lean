/-
  SX: right workspaces, by the program and by the document.
-/
import Derived.Test.YtelpkdjibjddlaaEvC0
set_option linter.unusedSimpArgs false
set_option linter.unusedVariables false
namespace Go.Sx
open Go Go.Ev Go.RowKit Go.Proofs
set_option maxRecDepth 100000
set_option maxHeartbeats 4000000
def FRto (l : List Fl) (i : Nat) : Prop := ∀ (k : Nat) (f : Fl),k < i → l[k]? = some f → Titled f.nm ∧ (((B f.tx).length : Nat) : Int) ≤ 4000 ∧ placeS l f.nm = k
theorem FRto.step {l : List Fl} {i : Nat} {f : Fl} (h : FRto l i) (he : l[i]? = some f) (h1 : Titled f.nm) (h2 : (((B f.tx).length : Nat) : Int) ≤ 4000) (h3 : placeS l f.nm = i) : FRto l (i + 1) := fun k g hk hg => by
  by_cases hki : k = i
  · subst hki; rw [he] at hg; cases hg; exact ⟨h1,h2,h3⟩
  · exact h k g (by omega) hg
end Go.Sx

