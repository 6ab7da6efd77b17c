/-
  EV: a heap whose arguments are any number of blocks: they hang at one place of the tree, so that the kernel runs a fixed fact over them.
-/
import Derived.Test.YtelpkdjibjddlaaEvWalk
import Derived.Test.YtelpkdjibjddlaaEvDrawn
set_option linter.unusedSimpArgs false
set_option linter.unusedVariables false
namespace Go.Ev
open Go
namespace Tree
def clear : Nat → Tree → Tree
  | 0,_ => leaf
  | _ + 1,leaf => leaf
  | m + 1,node v l r => node v (clear m l) r
def plug : Nat → Tree → Tree
  | 0,x => x
  | m + 1,x => node none (plug m x) leaf
end Tree
def nameAt : Nat → Nat → Nat
  | 0,i => i
  | m + 1,i => 2 * nameAt m i + 1
def dep : Nat := 10
end Go.Ev

