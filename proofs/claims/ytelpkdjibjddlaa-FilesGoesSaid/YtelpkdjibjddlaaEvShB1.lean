/-
  EV: contracts of the first seat's functions.
-/
import Derived.Test.YtelpkdjibjddlaaEvShA1
import Derived.Test.YtelpkdjibjddlaaEvShiftLaw
namespace Go.Ev.R1
open Go Go.Ev Go.Proofs
set_option maxRecDepth 10000
abbrev dot : ByteArray := ⟨#[46]⟩
end Go.Ev.R1

