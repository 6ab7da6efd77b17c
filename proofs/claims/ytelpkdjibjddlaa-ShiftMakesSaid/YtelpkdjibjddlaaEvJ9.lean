/-
  SX: the law ShiftJoins: its walk.
-/
import Derived.Test.YtelpkdjibjddlaaEvJ5
import Derived.Test.YtelpkdjibjddlaaEvJM
import Derived.Test.YtelpkdjibjddlaaEvJ8
import Derived.Test.YtelpkdjibjddlaaEvSm6
set_option linter.unusedSimpArgs false
set_option linter.unusedVariables false
namespace Go.Sx
open Go Go.Ev Go.RowKit Go.Proofs
set_option maxRecDepth 100000
set_option maxHeartbeats 4000000
structure JR (a b : List Ed) (n : Int) : Prop where
  ra : Right a n
  rb : Right b (n + growS a)
def sp55e : Spec U1 := ⟨false,false,fun H args K => match args with
  | [.sl 0 a,.sl 0 b,.int .i64 n] => Chk (JOk a b n) ∧ (¬ JR a b n → K (.tup [.sl 0 [],.iface 37 (.int .i64 2)]) H) ∧ (JR a b n → K (.tup [.sl 0 (joinS a b n),.nilI]) H)
  | _ => False⟩
theorem k55e : SpecOk R1.T S1 55 sp55e := by
  intro H args K h; unfold sp55e at h; dsimp only at h; split at h
  · exact k55 _ _ _ ⟨h.1,fun hR => h.2.1 fun hJ => hR hJ.ra,fun _ hR => h.2.1 fun hJ => hR hJ.rb,fun h1 h2 => h.2.2 ⟨h1,h2⟩⟩
  · exact h.elim
theorem jok_of {a b : List Ed} {n : Int} (h1 : ¬ Large3 n a) (h2 : ¬ Large3 0 b) : JOk a b n := by
  unfold Large3 at h1 h2
  exact ⟨by omega,by omega,by omega,by omega,by omega⟩
end Go.Sx

