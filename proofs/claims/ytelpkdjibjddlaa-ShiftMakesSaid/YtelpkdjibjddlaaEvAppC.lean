/-
  SX: the error of patches.
-/
import Derived.Test.YtelpkdjibjddlaaEvF2
set_option linter.unusedSimpArgs false
set_option linter.unusedVariables false
namespace Go.Sx
open Go Go.Ev Go.RowKit Go.Proofs
set_option maxRecDepth 100000
set_option maxHeartbeats 4000000
section
variable {l : List Fl} {ps : List Pt}
end
end Go.Sx

