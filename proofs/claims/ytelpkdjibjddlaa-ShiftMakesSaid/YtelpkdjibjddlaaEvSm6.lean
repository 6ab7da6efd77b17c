/-
  SX: the law FilesApply.
-/
import Derived.Test.YtelpkdjibjddlaaEvSm4
import Derived.Test.YtelpkdjibjddlaaEvF2
import Derived.Test.YtelpkdjibjddlaaEvSmL
import Derived.Test.YtelpkdjibjddlaaEvAppC
import Derived.Test.YtelpkdjibjddlaaEvSxX2
import Derived.Test.YtelpkdjibjddlaaEvPlug
import Derived.Test.YtelpkdjibjddlaaEvR1
set_option linter.unusedSimpArgs false
set_option linter.unusedVariables false
namespace Go.Sx
open Go Go.Ev Go.RowKit Go.Proofs
set_option maxRecDepth 100000
set_option maxHeartbeats 4000000
def restOf : Code → Code
  | .seq _ (.seq _ r) => r
  | c => c
end Go.Sx

