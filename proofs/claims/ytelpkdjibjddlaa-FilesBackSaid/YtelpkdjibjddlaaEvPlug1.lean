/-
  EV: the first seat's fixed facts over any arguments.
-/
import Derived.Test.YtelpkdjibjddlaaEvPlug
import Derived.Test.YtelpkdjibjddlaaEvR1
namespace Go.Ev.R1
open Go Go.Ev
set_option maxRecDepth 100000
theorem aliveP39 (x : Tree) : EndsPure T 39 [] ⟨Tree.plug dep x,nxt,[]⟩ fun v _ _ => v = .bool true := alive_plug 18889465931478580854803 rfl (by kernel_rfl)
end Go.Ev.R1

