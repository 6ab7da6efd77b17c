/-
  SX, PART Y: contracts that printed walks have shown, for the walker's table.
-/
import Derived.Test.YtelpkdjibjddlaaEvSxX
import Derived.Test.YtelpkdjibjddlaaEvSxU0
set_option linter.unusedSimpArgs false
set_option linter.unusedVariables false
namespace Go.Sx
open Go Go.Ev Go.RowKit
variable {T : Tab} {S : Sys U1}
structure Std (S : Sys U1) : Prop where
  cells : S.cells = cells1
  k : S.k = k1
theorem strs_inv {X : Env U1} {l : List (SV U1)} {x : List UInt8} {vs : List Value} (h : DenL S X (.str x :: l) vs) : ∃ ws,vs = .string ⟨⟨x⟩⟩ :: ws ∧ DenL S X l ws := by cases h; exact ⟨_,rfl,by assumption⟩
theorem ints_inv {X : Env U1} {l : List (SV U1)} {k : IntKind} {x : Int} {vs : List Value} (h : DenL S X (.int k x :: l) vs) : ∃ ws,vs = .int k x :: ws ∧ DenL S X l ws := by cases h; exact ⟨_,rfl,by assumption⟩
theorem nil_inv {X : Env U1} {vs : List Value} (h : DenL S X [] vs) : vs = [] := by cases h; rfl
theorem slEd (hS : Std S) {X : Env U1} {d : List Ed} {v : Value} (h : Den S X (.sl 0 d) v) : ∃ a cap N o ws e hi,v = .slice a d.length cap ∧ Sl Ed.cells 3 X.t X.n a d N o ws e hi := by
  obtain ⟨a,cap,N,o,ws,e,hi,cs,rfl,q0,q1,q2,q3,q4⟩ := sl_inv h
  refine ⟨a,cap,N,o,ws,e,hi,rfl,fun hd => (q1 hd).1,fun hd => ⟨(q1 hd).2.1,(q1 hd).2.2.1⟩,fun j x hj => ?_,q4⟩
  have h1 := q2 j x hj
  have h2 := q3 j x hj
  rw [hS.k] at h1
  rw [hS.cells] at h2
  obtain ⟨w1,e1,h2⟩ := ints_inv h2
  obtain ⟨w2,e2,h2⟩ := ints_inv h2
  obtain ⟨w3,e3,h2⟩ := strs_inv h2
  have e4 := nil_inv h2
  rw [e1,e2,e3,e4] at h1
  exact h1
theorem CallOk.ofPure {f : FuncId} {H : Hp U1} {args : List (SV U1)} {K : SV U1 → Hp U1 → Prop} {wr : Bool}
    (h : ∀ (X : Env U1) (vals : List Value),X.H = H → HRel S X → DenL S X args vals → ∀ s : St,s.t = X.t → s.next = X.n → ∃ sv,K sv H ∧ EndsPure T f vals s fun v t n => Den S ⟨X.wb,X.ns,X.H,t,n⟩ sv v) : CallOk T S wr f H args K := by
  intro X vals hH hr hd s h1 h2
  obtain ⟨sv,k1,k2⟩ := h X vals hH hr hd s h1 h2
  refine EndsCall.mono k2 fun v s' ⟨hk,hv⟩ => ⟨sv,X.H,[],[],by rw [hH]; exact k1,by rw [List.append_nil]; exact hv,Step.ext hr h1 h2 hk.next hk.mods hk.old,fun _ => rfl⟩
end Go.Sx

