/-
  EV: the rules of a printed walk, sixth part: loops over functions, their rounds; results that lie in cells.
-/
import Derived.Test.YtelpkdjibjddlaaEvFiles
namespace Go.Ev
open Go Go.RowKit
def EndsYield (T : Tab) (L : Nat) (args : List Value) (s : St) (Q : Value → St → Prop) : Prop := ∃ k v s',round (evCode T k) L args s = some (v,s') ∧ Q v s'
theorem EndsYield.mono {T : Tab} {L : Nat} {args : List Value} {s : St} {Q Q' : Value → St → Prop} (h : EndsYield T L args s Q) (hq : ∀ v s,Q v s → Q' v s) : EndsYield T L args s Q' := let ⟨k,v,s',h1,h2⟩ := h; ⟨k,v,s',h1,hq _ _ h2⟩
section
variable {T : Tab} {fr : Fr} {s s0 : St} {ops : Array Oper} {o : Oper} {os : List Oper} {Q : Fr → St → Prop}
end
def afterRound (r : Loop) (e : Ex) : Loop := { r with state := if (jumpOf e).isNone then .ready else .done,pending := jumpOf e }
def setL (s : St) (L : Nat) (r : Loop) : St := { s with t := s.t.set L (some (.obj (.loop r))),mods := L :: s.mods }
end Go.Ev

