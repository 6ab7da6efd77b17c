/-
  SX: the layer files' small functions over patches.
-/
import Derived.Test.YtelpkdjibjddlaaEvSxZ
set_option linter.unusedSimpArgs false
set_option linter.unusedVariables false
namespace Go.Sx
open Go Go.Ev Go.RowKit Go.Proofs
set_option maxRecDepth 100000
set_option maxHeartbeats 4000000
structure POk (p : Pt) : Prop where
  nm : (B p.nm).length ≤ 140737488351232
  es : ∀ e ∈ p.es,(B e.tx).length ≤ 140737488351232
def FewAt (p : Pt) : Prop := p.es.length ≤ 41 ∧ (B p.nm).length ≤ 40000 ∧ sumT p.es ≤ 40000
def Few (l : List Pt) : Prop := l.length ≤ 21 ∧ ∀ p ∈ l,FewAt p
end Go.Sx

/-
  SX: the layer files: may patches be applied, and applying them.
-/
namespace Go.Sx
open Go Go.Ev Go.RowKit Go.Proofs
set_option maxRecDepth 100000
set_option maxHeartbeats 4000000
@[simp] theorem B_eta (x : ByteArray) : (⟨⟨B x⟩⟩ : ByteArray) = x := rfl
theorem Few.at {l : List Pt} (h : Few l) {i : Nat} {p : Pt} (hp : l[i]? = some p) : FewAt p := h.2 p (List.mem_of_getElem? hp)
section
variable {l : List Fl} {ps : List Pt} {i : Nat} {p : Pt}
end
end Go.Sx
