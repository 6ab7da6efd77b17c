/-
  SX: the law FilesApply.
-/
import Derived.Test.YtelpkdjibjddlaaEvSm5
import Derived.Test.YtelpkdjibjddlaaEvSxX2
import Derived.Test.YtelpkdjibjddlaaEvPlug1
namespace Go.Sx
open Go Go.Ev Go.RowKit Go.Proofs
set_option maxRecDepth 100000
set_option maxHeartbeats 4000000
def sp61a : Spec U1 := ⟨true,false,fun H args K => match H,args with
  | [],[.sl 1 l,.sl 4 ps] => Chk (Few ps) ∧ (¬ appC l ps = 0 → K (.tup [.nilS,.iface 37 (.int .i64 (appC l ps))]) []) ∧ (appC l ps = 0 → K (.tup [.ol 0,.nilI]) [.list false true 68 1 (outS l ps)])
  | _,_ => False⟩
theorem k61a : SpecOk R1.T S1 61 sp61a := by
  intro H args K h; unfold sp61a at h; dsimp only at h; split at h
  · obtain ⟨hW,h1,h2⟩ := h
    refine k61 _ _ _ ⟨hW,fun hF => ?_,fun hF hm => ?_,fun hF hm hb => ?_,fun hF hm hb => h2 (app0 hF hm hb)⟩
    · rw [app2 hF] at h1; exact h1 (by decide)
    · rw [appN hF hm] at h1; exact h1 hm
    · rw [app4 hF hm hb] at h1; exact h1 (by decide)
  · exact h.elim
def sp46e : Spec U1 := ⟨false,false,fun H args K => match args with
  | [.sl 1 a,.sl 1 b] => a = b ∧ K (.bool true) H
  | [.nilS,.nilS] => K (.bool true) H
  | _ => False⟩
theorem k46e : SpecOk R1.T S1 46 sp46e := by
  intro H args K h; unfold sp46e at h; dsimp only at h; split at h
  · obtain ⟨rfl,h⟩ := h
    exact k46 _ _ _ fun q hq => by rw [hq.2 rfl]; exact h
  · exact k46 _ _ _ fun q hq => by rw [hq.2 rfl]; exact h
  · exact h.elim
def restOf : Code → Code
  | .seq _ (.seq _ r) => r
  | c => c
end Go.Sx

