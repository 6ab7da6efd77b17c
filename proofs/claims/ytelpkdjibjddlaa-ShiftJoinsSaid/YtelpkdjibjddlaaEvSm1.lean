/-
  SX: lists of edits made plain, by the program and by the document.
-/
import Derived.Test.YtelpkdjibjddlaaEvF2
import Derived.Test.YtelpkdjibjddlaaEvMergeLaw
import Derived.Test.YtelpkdjibjddlaaEvC0
set_option linter.unusedSimpArgs false
set_option linter.unusedVariables false
namespace Go.Sx
open Go Go.Ev Go.RowKit Go.Proofs
set_option maxRecDepth 100000
set_option maxHeartbeats 4000000
@[simp] theorem B_empty : B ByteArray.empty = [] := rfl
end Go.Sx

