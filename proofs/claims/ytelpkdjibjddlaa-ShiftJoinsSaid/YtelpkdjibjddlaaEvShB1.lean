/-
  EV: contracts of the first seat's functions.
-/
import Derived.Test.YtelpkdjibjddlaaEvC1
import Derived.Test.YtelpkdjibjddlaaEvR1
import Derived.Test.YtelpkdjibjddlaaEvShift
import Derived.Test.YtelpkdjibjddlaaEvShiftLaw
namespace Go.Ev.R1
open Go Go.Ev Go.Proofs
set_option maxRecDepth 10000
abbrev dot : ByteArray := ⟨#[46]⟩
end Go.Ev.R1

