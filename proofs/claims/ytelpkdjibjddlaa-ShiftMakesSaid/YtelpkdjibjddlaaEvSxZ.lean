/-
  SX, PART Z: the first seat: contracts that printed walks have shown.
-/
import Derived.Test.YtelpkdjibjddlaaEvSxZ2
import Derived.Test.YtelpkdjibjddlaaEvC1
import Derived.Test.YtelpkdjibjddlaaEvR1
import Derived.Test.YtelpkdjibjddlaaEvKeep
import Derived.Test.YtelpkdjibjddlaaEvApA1
import Derived.Test.YtelpkdjibjddlaaEvGo
set_option linter.unusedSimpArgs false
set_option linter.unusedVariables false
namespace Go.Sx
open Go Go.Ev Go.RowKit Go.Proofs
set_option maxRecDepth 100000
set_option maxHeartbeats 4000000
theorem edOnly {X : Env U1} {l : List Ed} {vals : List Value} (hd : DenL S1 X [.sl 0 l] vals) {s : St} (h1 : s.t = X.t) (h2 : s.next = X.n) : ∃ a cap N o ws e hi,vals = [.slice a l.length cap] ∧ Sl Ed.cells 3 s.t s.next a l N o ws e hi := by
  obtain ⟨v,vs,rfl,dv,dn⟩ := hd.uncons
  obtain rfl := nil_inv dn
  obtain ⟨a,cap,N,o,ws,e,hi,rfl,hs⟩ := slEd std1 dv
  exact ⟨a,cap,N,o,ws,e,hi,rfl,by rw [h1,h2]; exact hs⟩
theorem strEd {X : Env U1} {l : List Ed} {x : List UInt8} {vals : List Value} (hd : DenL S1 X [.str x,.sl 0 l] vals) {s : St} (h1 : s.t = X.t) (h2 : s.next = X.n) : ∃ a cap N o ws e hi,vals = [.string ⟨⟨x⟩⟩,.slice a l.length cap] ∧ Sl Ed.cells 3 s.t s.next a l N o ws e hi := by
  obtain ⟨vs,rfl,dn⟩ := strs_inv hd
  obtain ⟨a,cap,N,o,ws,e,hi,rfl,hs⟩ := edOnly dn h1 h2
  exact ⟨a,cap,N,o,ws,e,hi,rfl,hs⟩
def sp22 : Spec U1 := ⟨false,false,fun H args K => match args with
  | [.nilI] => K (.int .i64 0) H
  | [.iface 37 (.int .i64 c)] => c ≠ 0 ∧ K (.int .i64 c) H
  | _ => False⟩
def spRight : Spec U1 := ⟨false,false,fun H args K => match args with
  | [.sl 0 l,.int .i64 n] => ∀ q,(q = true ↔ Right l n) → K (.bool q) H
  | _ => False⟩
def sp29 : Spec U1 := ⟨false,false,fun H args K => match args with
  | [.str x,.sl 0 l] => x.length ≤ 140737488351232 ∧ x.length + sumT l ≤ 1000000 ∧ (mayC x.length l = 0 → K (.tup [.str (B (apS ⟨⟨x⟩⟩ l)),.nilI]) H) ∧ (¬ mayC x.length l = 0 → K (.tup [.str [],.iface 37 (.int .i64 (mayC x.length l))]) H)
  | _ => False⟩
theorem k29 : SpecOk R1.T S1 29 sp29 := by
  intro H args K h; unfold sp29 at h; dsimp only at h; split at h
  · rename_i x l
    obtain ⟨h1,h2,h3,h4⟩ := h
    refine CallOk.ofPure fun X vals hH hr hd s e1 e2 => ?_
    obtain ⟨a,cap,N,o,ws,e,hi,rfl,hs⟩ := strEd hd e1 e2
    by_cases h0 : mayC x.length l = 0
    · exact ⟨_,h3 h0,(R1.c29T ⟨⟨x⟩⟩ h1 a _ cap N o ws e hi h2 h0 s hs).mono fun v t n hv => by subst hv; exact .tup (.str (.nilI .nil)) .nil⟩
    · exact ⟨_,h4 h0,(R1.c29F ⟨⟨x⟩⟩ h1 a _ cap N o ws e hi h0 s hs).mono fun v t n hv => by
        subst hv
        rw [show errV (mayC (B (⟨⟨x⟩⟩ : ByteArray)).length l) = .iface 37 (.int .i64 (mayC x.length l)) from if_neg h0]
        exact .tup (.str (.iface (.int .nil) .nil)) .nil⟩
  · exact h.elim
theorem CallOk.nilS {f : FuncId} {H : Hp U1} {c : Nat} {args : List (SV U1)} {K : SV U1 → Hp U1 → Prop} {wr : Bool} (h : CallOk R1.T S1 wr f H (.sl c [] :: args) K) : CallOk R1.T S1 wr f H (.nilS :: args) K := fun X vals hH hr hd => h X vals hH hr (nilS_den hd)
end Go.Sx

