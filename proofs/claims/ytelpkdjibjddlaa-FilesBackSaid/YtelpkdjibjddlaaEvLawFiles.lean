/-
  What all rows of the seat need.
-/
import Derived.Test.YtelpkdjibjddlaaEvC1
import Derived.Test.YtelpkdjibjddlaaEvR1
import Derived.Test.YtelpkdjibjddlaaEvRead2
import Derived.Test.YtelpkdjibjddlaaRows
import Derived.WalkKit
import Derived.ProofKit
import Derived.OpenShut
import Derived.ShutString
import Derived.Below
import Derived.Test.YtelpkdjibjddlaaEvFiles
namespace Go.Ev.R1
open Go Go.Ev Go.Proofs Go.Proofs.Ytelpkdjibjddlaa Go.ChangeShapes Go.WideShapes Go.ChangeAt Go.RowKit
open Go.ChangeMaps (open_string shut_string)
set_option maxRecDepth 100000
theorem cells97 : Try.prog.cellsOf 97 = 3 := by kernel_rfl
theorem cells3 : Try.prog.cellsOf 3 = 1 := by kernel_rfl
theorem cells9 : Try.prog.cellsOf 9 = 1 := by kernel_rfl
theorem bytes97 : 0 < Try.prog.bytesOf 97 := of_decide_eq_true (by kernel_rfl)
theorem wf64 {n : Int} (h : (Lit.int .i64 n).wf = true) : -9223372036854775808 ≤ n ∧ n < 9223372036854775808 := by
  simp [Lit.wf,IntKind.min,IntKind.max,IntKind.signed,IntKind.bits] at h
  omega
theorem eltEd {H : Type} {enc : TypeId × Value → H} {w : World} : ∀ cs n x,DataW.trod enc Try.prog w 0 (fun _ => true) true n 97 cs = some x → (∀ m ∈ x.1.weights Try.prog 97,m ≤ reachBytes) → ∃ y : Ed,cs = y.cells ∧ y.Ok := by
  intro cs n x h hz
  obtain ⟨xs,n',rfl,rfl,hcs,hxs,hf⟩ := DataW.trod_struct Try.underlying97 h
  rw [cells97] at hcs
  have g0 := hf 0 _ rfl
  have g1 := hf 1 _ rfl
  have g2 := hf 2 _ rfl
  match xs,hxs,cs,hcs with
  | [y0,y1,y2],_,[v0,v1,v2],_ =>
    simp [cells3,cells9] at g0 g1 g2
    obtain ⟨a,ha,_,wa⟩ := DataW.trod_int Try.underlying3 g0
    obtain ⟨b,hb,_,wb⟩ := DataW.trod_int Try.underlying3 g1
    obtain ⟨s,hs,h2,_⟩ := DataW.trod_string Try.underlying9 g2
    simp at ha hb hs
    subst ha hb hs
    have hlen : s.data.toList.length ≤ reachBytes := hz _ (by
      unfold DataW.weights
      simp only [Try.underlying97]
      simp [DataW.weightsEach,h2,DataW.weights])
    exact ⟨⟨a,b,s⟩,rfl,(wf64 wa).1,(wf64 wa).2,(wf64 wb).1,(wf64 wb).2,hlen⟩
theorem flatEd (l : List Ed) : ∀ y ∈ l,∀ v ∈ y.cells,Flat v := fun y _ v hv => by
  simp [Ed.cells] at hv
  rcases hv with rfl | rfl | rfl
  · exact .int _ _
  · exact .int _ _
  · exact .string _
theorem mixed : Try.prog.follows .mixedOrders = true := by kernel_rfl
def heapOf : Nat → List (Option Blk) → Tree → Tree
  | _,[],t => t
  | i,b :: r,t => heapOf (i + 1) r (t.set i b)
theorem get_heapOf : ∀ (bs : List (Option Blk)) (i : Nat) (t : Tree) (N : Nat),(heapOf i bs t).get N = if N < i then t.get N else match bs[N - i]? with | some b => b | none => t.get N
  | [],i,t,N => by simp [heapOf]
  | b :: r,i,t,N => by
    unfold heapOf
    rw [get_heapOf r (i + 1) (t.set i b) N,Tree.get_set]
    by_cases h1 : N < i
    · rw [if_pos (by omega),if_pos h1,if_neg (by omega)]
    · by_cases h2 : N = i
      · subst h2; rw [if_pos (by omega),if_neg h1,if_pos rfl,Nat.sub_self]; rfl
      · rw [if_neg (by omega),if_neg h1,if_neg h2]
        obtain ⟨j,rfl⟩ : ∃ j,N = i + 1 + j := ⟨N - i - 1,by omega⟩
        rw [show i + 1 + j - (i + 1) = j by omega,show i + 1 + j - i = j + 1 by omega,List.getElem?_cons_succ]
end Go.Ev.R1

/-
  What the rows of the layer files need.
-/
namespace Go.Ev.R1
open Go Go.Ev Go.Proofs Go.Proofs.Ytelpkdjibjddlaa Go.ChangeShapes Go.WideShapes Go.ChangeAt Go.RowKit
set_option maxRecDepth 100000
theorem cells68 : Try.prog.cellsOf 68 = 2 := by kernel_rfl
theorem bytes68 : 0 < Try.prog.bytesOf 68 := of_decide_eq_true (by kernel_rfl)
theorem eltFl {H : Type} {enc : TypeId × Value → H} {w : World} : ∀ cs n x,DataW.trod enc Try.prog w 0 (fun _ => true) true n 68 cs = some x → (∀ m ∈ x.1.weights Try.prog 68,m ≤ reachBytes) → ∃ y : Fl,cs = y.cells ∧ y.Ok := by
  intro cs n x h hz
  obtain ⟨xs,n',rfl,rfl,hcs,hxs,hf⟩ := DataW.trod_struct Try.underlying68 h
  rw [cells68] at hcs
  have g0 := hf 0 _ rfl
  have g1 := hf 1 _ rfl
  match xs,hxs,cs,hcs with
  | [y0,y1],_,[v0,v1],_ =>
    simp [cells9] at g0 g1
    obtain ⟨a,ha,h1,_⟩ := DataW.trod_string Try.underlying9 g0
    obtain ⟨b,hb,h2,_⟩ := DataW.trod_string Try.underlying9 g1
    simp at ha hb
    subst ha hb
    have la : a.data.toList.length ≤ reachBytes := hz _ (by
      unfold DataW.weights
      simp only [Try.underlying68]
      simp [DataW.weightsEach,h1,h2,DataW.weights])
    have lb : b.data.toList.length ≤ reachBytes := hz _ (by
      unfold DataW.weights
      simp only [Try.underlying68]
      simp [DataW.weightsEach,h1,h2,DataW.weights])
    exact ⟨⟨a,b⟩,rfl,la,lb⟩
theorem flatFl (l : List Fl) : ∀ y ∈ l,∀ v ∈ y.cells,Flat v := fun y _ v hv => by
  simp [Fl.cells] at hv
  rcases hv with rfl | rfl
  · exact .string _
  · exact .string _
end Go.Ev.R1
