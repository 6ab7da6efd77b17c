/-
  What all rows of the seat need.
-/
import Derived.Test.YtelpkdjibjddlaaEvC2
import Derived.Test.YtelpkdjibjddlaaEvRead
import Derived.Test.YtelpkdjibjddlaaRows
import Derived.WalkKit
import Derived.ProofKit
import Derived.OpenShut
import Derived.ShutString
import Derived.Below
set_option linter.unusedSimpArgs false
set_option linter.unusedVariables false
namespace Go.Ev.R1
open Go Go.Ev Go.Proofs Go.Proofs.Ytelpkdjibjddlaa Go.ChangeShapes Go.WideShapes Go.ChangeAt Go.RowKit
open Go.ChangeMaps (open_string shut_string)
set_option maxRecDepth 100000

theorem cells97 : Try.prog.cellsOf 97 = 3 := by kernel_rfl
theorem cells3 : Try.prog.cellsOf 3 = 1 := by kernel_rfl
theorem cells9 : Try.prog.cellsOf 9 = 1 := by kernel_rfl
theorem bytes97 : 0 < Try.prog.bytesOf 97 := of_decide_eq_true (by kernel_rfl)
theorem wf64 {n : Int} (h : (Lit.int .i64 n).wf = true) : -9223372036854775808 ≤ n ∧ n < 9223372036854775808 := by
  simp [Lit.wf, IntKind.min, IntKind.max, IntKind.signed, IntKind.bits] at h
  omega
theorem eltEd {H : Type} {enc : TypeId × Value → H} {w : World} : ∀ cs n x, DataW.trod enc Try.prog w 0 (fun _ => true) true n 97 cs = some x → (∀ m ∈ x.1.weights Try.prog 97, m ≤ reachBytes) → ∃ y : Ed, cs = y.cells ∧ y.Ok := by
  intro cs n x h hz
  obtain ⟨xs, n', rfl, rfl, hcs, hxs, hf⟩ := DataW.trod_struct Try.underlying97 h
  rw [cells97] at hcs
  have g0 := hf 0 _ rfl
  have g1 := hf 1 _ rfl
  have g2 := hf 2 _ rfl
  match xs, hxs, cs, hcs with
  | [y0, y1, y2], _, [v0, v1, v2], _ =>
    simp [cells3, cells9] at g0 g1 g2
    obtain ⟨a, ha, _, wa⟩ := DataW.trod_int Try.underlying3 g0
    obtain ⟨b, hb, _, wb⟩ := DataW.trod_int Try.underlying3 g1
    obtain ⟨s, hs, h2, _⟩ := DataW.trod_string Try.underlying9 g2
    simp at ha hb hs
    subst ha hb hs
    have hlen : s.data.toList.length ≤ reachBytes := hz _ (by
      unfold DataW.weights
      simp only [Try.underlying97]
      simp [DataW.weightsEach, h2, DataW.weights])
    exact ⟨⟨a, b, s⟩, rfl, (wf64 wa).1, (wf64 wa).2, (wf64 wb).1, (wf64 wb).2, hlen⟩
theorem flatEd (l : List Ed) : ∀ y ∈ l, ∀ v ∈ y.cells, Flat v := fun y _ v hv => by
  simp [Ed.cells] at hv
  rcases hv with rfl | rfl | rfl
  · exact .int _ _
  · exact .int _ _
  · exact .string _
theorem mixed : Try.prog.follows .mixedOrders = true := by kernel_rfl

/-- A heap of so many arguments. -/
def heapOf : Nat → List (Option Blk) → Tree → Tree
  | _, [], t => t
  | i, b :: r, t => heapOf (i + 1) r (t.set i b)
theorem get_heapOf : ∀ (bs : List (Option Blk)) (i : Nat) (t : Tree) (N : Nat), (heapOf i bs t).get N = if N < i then t.get N else match bs[N - i]? with | some b => b | none => t.get N
  | [], i, t, N => by simp [heapOf]
  | b :: r, i, t, N => by
    unfold heapOf
    rw [get_heapOf r (i + 1) (t.set i b) N, Tree.get_set]
    by_cases h1 : N < i
    · rw [if_pos (by omega), if_pos h1, if_neg (by omega)]
    · by_cases h2 : N = i
      · subst h2; rw [if_pos (by omega), if_neg h1, if_pos rfl, Nat.sub_self]; rfl
      · rw [if_neg (by omega), if_neg h1, if_neg h2]
        obtain ⟨j, rfl⟩ : ∃ j, N = i + 1 + j := ⟨N - i - 1, by omega⟩
        rw [show i + 1 + j - (i + 1) = j by omega, show i + 1 + j - i = j + 1 by omega, List.getElem?_cons_succ]
def heap0 (bs : List (Option Blk)) : St := ⟨heapOf 0 bs .leaf, bs.length, []⟩
theorem alive_of {f : FuncId} {bs : List (Option Blk)} (h : (evCall T 1000 f [] (heap0 bs)).map (fun p => (p.1, p.2.mods, decide (bs.length ≤ p.2.next), (List.range bs.length).map p.2.t.get)) = some (.bool true, [], true, bs)) : EndsPure T f [] (heap0 bs) fun v _ _ => v = .bool true := by
  cases he : evCall T 1000 f [] (heap0 bs) with
  | none => rw [he] at h; cases h
  | some p =>
    obtain ⟨v, s'⟩ := p
    rw [he] at h
    simp only [Option.map_some, Option.some.injEq, Prod.mk.injEq, decide_eq_true_eq] at h
    obtain ⟨h1, h2, h3, h4⟩ := h
    refine ⟨1000, v, s', he, ⟨h3, h2, fun N hN => ?_⟩, h1⟩
    have hN : N < bs.length := hN
    have h5 : (List.range bs.length).map s'.t.get = bs := h4
    have h6 : ((List.range bs.length).map s'.t.get)[N]? = bs[N]? := by rw [h5]
    rw [List.getElem?_map, List.getElem?_range hN] at h6
    show s'.t.get N = (heapOf 0 bs .leaf).get N
    rw [get_heapOf, if_neg (by omega), Nat.sub_zero, ← h6]; rfl
end Go.Ev.R1
