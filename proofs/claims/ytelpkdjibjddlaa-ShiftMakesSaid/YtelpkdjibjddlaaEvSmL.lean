/-
  EV: the layer edit: edits put together make the same text, and what leads back from them is right.
-/
import Derived.Test.YtelpkdjibjddlaaEvMergeLaw
import Derived.Test.YtelpkdjibjddlaaEvPf
set_option linter.unusedSimpArgs false
set_option linter.unusedVariables false
namespace Go.Ev
open Go
theorem Chain.mono {a b n : Int} (hab : a ≤ b) : ∀ {r : List Ed},Chain r b n → Chain r a n
  | [],hc => Int.le_trans hab hc
  | e :: r,⟨c1,c2,c3,c4⟩ => ⟨Int.le_trans hab c1,c2,c3,c4⟩
end Go.Ev

