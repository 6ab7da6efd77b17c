/-
  What the rows of the layer files need.
-/
import Derived.Test.YtelpkdjibjddlaaEvLawBase
import Derived.Test.YtelpkdjibjddlaaEvFiles
namespace Go.Ev.R1
open Go Go.Ev Go.Proofs Go.Proofs.Ytelpkdjibjddlaa Go.ChangeShapes Go.WideShapes Go.ChangeAt Go.RowKit
set_option maxRecDepth 100000
theorem cells68 : Try.prog.cellsOf 68 = 2 := by kernel_rfl
theorem bytes68 : 0 < Try.prog.bytesOf 68 := of_decide_eq_true (by kernel_rfl)
theorem eltFl {H : Type} {enc : TypeId × Value → H} {w : World} : ∀ cs n x,DataW.trod enc Try.prog w 0 (fun _ => true) true n 68 cs = some x → (∀ m ∈ x.1.weights Try.prog 68,m ≤ reachBytes) → ∃ y : Fl,cs = y.cells ∧ y.Ok := by
  intro cs n x h hz
  obtain ⟨xs,n',rfl,rfl,hcs,hxs,hf⟩ := DataW.trod_struct Try.underlying68 h
  rw [cells68] at hcs
  have g0 := hf 0 _ rfl
  have g1 := hf 1 _ rfl
  match xs,hxs,cs,hcs with
  | [y0,y1],_,[v0,v1],_ =>
    simp [cells9] at g0 g1
    obtain ⟨a,ha,h1,_⟩ := DataW.trod_string Try.underlying9 g0
    obtain ⟨b,hb,h2,_⟩ := DataW.trod_string Try.underlying9 g1
    simp at ha hb
    subst ha hb
    have la : a.data.toList.length ≤ reachBytes := hz _ (by
      unfold DataW.weights
      simp only [Try.underlying68]
      simp [DataW.weightsEach,h1,h2,DataW.weights])
    have lb : b.data.toList.length ≤ reachBytes := hz _ (by
      unfold DataW.weights
      simp only [Try.underlying68]
      simp [DataW.weightsEach,h1,h2,DataW.weights])
    exact ⟨⟨a,b⟩,rfl,la,lb⟩
theorem flatFl (l : List Fl) : ∀ y ∈ l,∀ v ∈ y.cells,Flat v := fun y _ v hv => by
  simp [Fl.cells] at hv
  rcases hv with rfl | rfl
  · exact .string _
  · exact .string _
end Go.Ev.R1

