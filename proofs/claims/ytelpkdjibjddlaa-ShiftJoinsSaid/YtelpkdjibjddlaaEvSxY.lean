/-
  SX, PART Y: contracts that printed walks have shown, for the walker's table.
-/
import Derived.Test.YtelpkdjibjddlaaEvSxX
import Derived.Test.YtelpkdjibjddlaaEvSxU0
set_option linter.unusedSimpArgs false
set_option linter.unusedVariables false
namespace Go.Sx
open Go Go.Ev Go.RowKit
variable {T : Tab} {S : Sys U1}
structure Std (S : Sys U1) : Prop where
  cells : S.cells = cells1
  k : S.k = k1
theorem nil_inv {X : Env U1} {vs : List Value} (h : DenL S X [] vs) : vs = [] := by cases h; rfl
theorem CallOk.ofPure {f : FuncId} {H : Hp U1} {args : List (SV U1)} {K : SV U1 → Hp U1 → Prop} {wr : Bool}
    (h : ∀ (X : Env U1) (vals : List Value),X.H = H → HRel S X → DenL S X args vals → ∀ s : St,s.t = X.t → s.next = X.n → ∃ sv,K sv H ∧ EndsPure T f vals s fun v t n => Den S ⟨X.wb,X.ns,X.H,t,n⟩ sv v) : CallOk T S wr f H args K := by
  intro X vals hH hr hd s h1 h2
  obtain ⟨sv,k1,k2⟩ := h X vals hH hr hd s h1 h2
  refine EndsCall.mono k2 fun v s' ⟨hk,hv⟩ => ⟨sv,X.H,[],[],by rw [hH]; exact k1,by rw [List.append_nil]; exact hv,Step.ext hr h1 h2 hk.next hk.mods hk.old,fun _ => rfl⟩
end Go.Sx

