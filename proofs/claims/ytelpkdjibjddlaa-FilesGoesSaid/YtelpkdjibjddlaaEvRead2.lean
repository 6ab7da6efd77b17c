/-
  EV: several arguments handed in.
-/
import Derived.Test.YtelpkdjibjddlaaEvRead
namespace Go.Ev
open Go Go.RowKit
theorem rel_of {φ : Phi} {w : World} {t : Tree} (C : Code → Prop) (sz : TypeId → Nat) (h : ∀ N b,t.get N = some b → ∃ L,φ N = some L ∧ BRel φ ⟨fun k => k < w.heap.size,C,sz⟩ L b w ∧ ¬ wr b) (hin : ∀ N L,φ N = some L → L.blk < w.heap.size) :
    Rel φ ⟨fun k => k < w.heap.size,C,sz⟩ t.get w := by
  refine ⟨fun _ h => h,fun N b hb => ?_,fun N N' b b' L L' hne hb hb' hL hL' hw => ?_,hin⟩
  · obtain ⟨L,h1,h2,_⟩ := h N b hb
    exact ⟨L,h1,h2⟩
  · obtain ⟨_,_,_,h3⟩ := h N b hb
    exact absurd hw h3
end Go.Ev

