/-
  SX: lists side by side; patches of their own memory.
-/
import Derived.Test.YtelpkdjibjddlaaEvSm1
set_option linter.unusedSimpArgs false
set_option linter.unusedVariables false
namespace Go.Sx
open Go Go.Ev Go.RowKit Go.Proofs
set_option maxRecDepth 100000
set_option maxHeartbeats 4000000
def SameTo' {α : Type} (a b : List α) (i : Nat) : Prop := i ≤ a.length ∧ a.length = b.length ∧ ∀ k,k < i → a[k]? = b[k]?
theorem SameTo'.all {α : Type} {a b : List α} {i : Nat} (h : SameTo' a b i) (hi : a.length ≤ i) : a = b := by
  refine List.ext_getElem? fun k => ?_
  by_cases hk : k < i
  · exact h.2.2 k hk
  · rw [List.getElem?_eq_none (by omega),List.getElem?_eq_none (by have := h.2.1; omega)]
theorem SameTo'.step {α : Type} {a b : List α} {i : Nat} (h : SameTo' a b i) {x y : α} (hx : a[i]? = some x) (hy : b[i]? = some y) (e : x = y) : SameTo' a b (i + 1) := by
  refine ⟨(List.getElem?_eq_some_iff.1 hx).1,h.2.1,fun k hk => ?_⟩
  by_cases hki : k = i
  · subst hki; rw [hx,hy,e]
  · exact h.2.2 k (by omega)
end Go.Sx

