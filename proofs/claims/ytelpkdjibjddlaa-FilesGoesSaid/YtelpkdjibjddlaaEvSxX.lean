/-
  SX, PART X: a law: its fixed fact by the kernel, the rest by the walk.
-/
import Derived.Test.YtelpkdjibjddlaaEvSxT
namespace Go.Sx
open Go Go.Ev Go.RowKit
variable {U : Nat → Type} {T : Tab}
def argEnv (t : Tree) (n : Nat) : Env U := ⟨fun _ => False,[],[],t,n⟩
theorem argEnv_fb (t : Tree) (n N : Nat) : ¬ (argEnv (U := U) t n).fb N := fun h => by
  rcases h with h | ⟨i,c,h,_⟩
  · exact h
  · simp [argEnv] at h
end Go.Sx

