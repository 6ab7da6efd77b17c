/-
  SX, PART Z: the first seat: contracts that printed walks have shown.
-/
import Derived.Test.YtelpkdjibjddlaaEvSxZ2
import Derived.Test.YtelpkdjibjddlaaEvC1
import Derived.Test.YtelpkdjibjddlaaEvR1
import Derived.Test.YtelpkdjibjddlaaEvKeep
import Derived.Test.YtelpkdjibjddlaaEvShB1
import Derived.Test.YtelpkdjibjddlaaEvDrawn
import Derived.Test.YtelpkdjibjddlaaEvApplyLaw
import Derived.Test.YtelpkdjibjddlaaEvGo
set_option linter.unusedSimpArgs false
set_option linter.unusedVariables false
namespace Go.Sx
open Go Go.Ev Go.RowKit Go.Proofs
set_option maxRecDepth 100000
set_option maxHeartbeats 4000000
theorem pureI {f : FuncId} {vals : List Value} {s : St} {X : Env U1} {k : IntKind} {b : Int} (h : EndsPure R1.T f vals s fun v _ _ => v = .int k b) : EndsPure R1.T f vals s fun v t n => Den S1 ⟨X.wb,X.ns,X.H,t,n⟩ (.int k b) v := h.mono fun v t n hv => by subst hv; exact .int .nil
def sp22 : Spec U1 := ⟨false,false,fun H args K => match args with
  | [.nilI] => K (.int .i64 0) H
  | [.iface 37 (.int .i64 c)] => c ≠ 0 ∧ K (.int .i64 c) H
  | _ => False⟩
theorem k22 : SpecOk R1.T S1 22 sp22 := by
  intro H args K h; unfold sp22 at h; dsimp only at h; split at h
  · refine CallOk.ofPure fun X vals hH hr hd s h1 h2 => ⟨_,h,?_⟩
    obtain ⟨v,vs,rfl,dv,dn⟩ := hd.uncons
    obtain rfl := nil_inv dn
    cases dv
    exact pureI (R1.c22n s)
  · rename_i c
    refine CallOk.ofPure fun X vals hH hr hd s h1 h2 => ⟨_,h.2,?_⟩
    obtain ⟨v,vs,rfl,dv,dn⟩ := hd.uncons
    obtain rfl := nil_inv dn
    obtain ⟨w,rfl,dw⟩ := iface_inv dv
    cases dw
    exact pureI (R1.c22 c h.1 s)
  · exact h.elim
theorem CallOk.nilS {f : FuncId} {H : Hp U1} {c : Nat} {args : List (SV U1)} {K : SV U1 → Hp U1 → Prop} {wr : Bool} (h : CallOk R1.T S1 wr f H (.sl c [] :: args) K) : CallOk R1.T S1 wr f H (.nilS :: args) K := fun X vals hH hr hd => h X vals hH hr (nilS_den hd)
end Go.Sx

