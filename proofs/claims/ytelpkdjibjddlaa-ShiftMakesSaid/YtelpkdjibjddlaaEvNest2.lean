/-
  SX: a workspace and patches, as they are handed in: what the walker is told.
-/
import Derived.Test.YtelpkdjibjddlaaEvNest1
import Derived.Test.YtelpkdjibjddlaaEvSxZ
set_option linter.unusedSimpArgs false
set_option linter.unusedVariables false
namespace Go.Sx
open Go Go.Ev Go.Ev.R1 Go.RowKit Go.Proofs
set_option maxRecDepth 100000
theorem arg_cap {α : Type} {c : α → List Value} {k kk : Nat} {w : World} {a : Option Addr} {len cap : Nat} {l : List α} (h : Handed c k w a len cap l) (N : Nat) : (argSlice N a = none ∨ ∃ M p,argSlice N a = some ⟨M,p,none⟩) ∧ (l.length ≤ cap ∧ cap < END ∨ cap = END + kk ∨ l = [] ∧ cap = END + END) := by
  obtain ⟨h1,h2,h3,h0,h4⟩ := h
  refine ⟨?_,.inl ⟨by omega,h3⟩⟩
  cases a with
  | none => exact .inl rfl
  | some x => exact .inr ⟨N,0,rfl⟩
section
variable {w : World} {a0 : Option Addr} {l0 : List Fl} {a1 : Option Addr} {l1 : List Hd} {len0 cap0 len1 cap1 : Nat}
end
end Go.Sx

