/-
  EV: the first seat's fixed facts over any arguments.
-/
import Derived.Test.YtelpkdjibjddlaaEvPlug
import Derived.Test.YtelpkdjibjddlaaEvR1
namespace Go.Ev.R1
open Go Go.Ev
set_option maxRecDepth 100000
theorem aliveP39b (x : Tree) (a b : Int) : EndsPure T 39 [] ⟨(Tree.plug dep x).set nxt (some (.cells [.int .i64 a,.int .i64 b] 81 0)),nxt + 1,[]⟩ fun v _ _ => v = .bool true := alive_plug1 18889465931478580854804 rfl (by kernel_rfl)
end Go.Ev.R1

