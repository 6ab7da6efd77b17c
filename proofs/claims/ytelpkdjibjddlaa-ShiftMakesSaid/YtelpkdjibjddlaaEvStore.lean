/-
  EV: the rules of a printed walk, sixth part: what is written into a list that appends made.
-/
import Derived.Test.YtelpkdjibjddlaaEvDrawn
set_option linter.unusedSimpArgs false
set_option linter.unusedVariables false
namespace Go.Ev
open Go Go.RowKit
section
variable {α : Type} {c : α → List Value} {k : Nat}
variable {el : TypeId} {lo len cap : Nat} {a : Option Addr} {l : List α} {t : Tree} {n : Nat}
end
section
variable {T : Tab} {cx : Ctx} {fr : Fr} {s s0 : St} {ops : Array Oper} {bef : List Nat} {i : Nat} {o : Oper} {os : List Oper} {L : List (Nat × Nat × Nat)} {Q : Fr → St → Prop}
end
end Go.Ev

