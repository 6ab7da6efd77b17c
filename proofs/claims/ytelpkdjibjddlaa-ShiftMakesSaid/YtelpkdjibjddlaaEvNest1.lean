/-
  EV: a workspace and patches, as they are handed in: rows of the evaluator's heap.
-/
import Derived.Test.YtelpkdjibjddlaaEvNest
import Derived.Test.YtelpkdjibjddlaaEvLawBase
import Derived.Test.YtelpkdjibjddlaaEvKeep
import Derived.Test.YtelpkdjibjddlaaEvPf
set_option linter.unusedSimpArgs false
set_option linter.unusedVariables false
namespace Go.Ev.R1
open Go Go.Ev Go.Proofs Go.Proofs.Ytelpkdjibjddlaa Go.ChangeShapes Go.WideShapes Go.ChangeAt Go.RowKit Go.Deep
set_option maxRecDepth 100000
structure Hd where
  nm : ByteArray
  a : Option Addr
  len : Nat
  cap : Nat
  es : List Ed
abbrev Hd.cells (h : Hd) : List Value := [.string h.nm,.slice h.a h.len h.cap]
structure Hd.Ok (w : World) (h : Hd) : Prop where
  nm : (B h.nm).length ≤ 140737488351232
  es : ∀ e ∈ h.es,e.Ok
  len : h.es.length = h.len
  nil : h.a = none → h.len = 0 ∧ h.cap = 0
  hand : h.es ≠ [] → Handed Ed.cells 3 w h.a h.len h.cap h.es
def inE (N : Nat) (h : Hd) : Value := match h.a with
  | none => .slice none 0 0
  | some _ => if h.es.isEmpty = true then .slice (some ⟨0,0,none⟩) 0 (END + END) else .slice (some ⟨N,0,none⟩) h.len h.cap
def cE (p : Hd × Nat) : List Value := [.string p.1.nm,inE (nameAt dep (2 + p.2)) p.1]
noncomputable def rowP (w : World) (a : Option Addr) (l : List Hd) : Option Blk := match a with
  | none => none
  | some x => match w.heap[x.block]? with
    | some (.cells _ e _) => if l.isEmpty = true then none else some (.cells (l.zipIdx.map cE).flatten e END)
    | _ => none
noncomputable def rows (w : World) (a0 : Option Addr) (l0 : List Fl) (a1 : Option Addr) (l1 : List Hd) : List (Option Blk) := argRow Fl.cells w a0 l0 :: rowP w a1 l1 :: l1.map fun h => argRow Ed.cells w h.a h.es
noncomputable def tree (w : World) (a0 : Option Addr) (l0 : List Fl) (a1 : Option Addr) (l1 : List Hd) : Tree := Tree.plug dep (heapOf 0 (rows w a0 l0 a1 l1) .leaf)
section
variable {w : World} {a0 : Option Addr} {l0 : List Fl} {a1 : Option Addr} {l1 : List Hd} {len0 cap0 len1 cap1 : Nat}
end
end Go.Ev.R1

