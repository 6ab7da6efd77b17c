/-
  SX, PART X, once more: a law that puts one of its arguments into a box, and then asks its fixed fact.
-/
import Derived.Test.YtelpkdjibjddlaaEvSxX
namespace Go.Sx
open Go Go.Ev Go.RowKit
variable {U : Nat → Type} {T : Tab}
end Go.Sx

