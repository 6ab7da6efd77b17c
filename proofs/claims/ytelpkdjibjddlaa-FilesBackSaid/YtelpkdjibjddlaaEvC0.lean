/-
  SX: which edits are right, by the program and by the document.
-/
import Derived.Test.YtelpkdjibjddlaaEvSxZ0
namespace Go.Sx
open Go Go.Ev Go.RowKit Go.Proofs
set_option maxRecDepth 100000
set_option maxHeartbeats 4000000
theorem same_at {α : Type} {l : List α} {i j : Nat} {x y : α} (h : l[i]? = some x) (g : l[j]? = some y) (e : i = j) : x = y := by subst e; rw [h] at g; cases g; rfl
end Go.Sx

