/-
  EditRight: the law's row.
-/
import Derived.Test.YtelpkdjibjddlaaEvC2
import Derived.Test.YtelpkdjibjddlaaEvRead
import Derived.Test.YtelpkdjibjddlaaRows
import Derived.WalkKit
import Derived.ProofKit
import Derived.OpenShut
import Derived.ShutString
import Derived.Below
namespace Go.Ev.R1
open Go Go.Ev Go.Proofs Go.Proofs.Ytelpkdjibjddlaa Go.ChangeShapes Go.WideShapes Go.ChangeAt Go.RowKit
open Go.ChangeMaps (open_string shut_string)
set_option maxRecDepth 100000

theorem cells97 : Try.prog.cellsOf 97 = 3 := by kernel_rfl
theorem cells3 : Try.prog.cellsOf 3 = 1 := by kernel_rfl
theorem cells9 : Try.prog.cellsOf 9 = 1 := by kernel_rfl
theorem bytes97 : 0 < Try.prog.bytesOf 97 := of_decide_eq_true (by kernel_rfl)
theorem wf64 {n : Int} (h : (Lit.int .i64 n).wf = true) : -9223372036854775808 ≤ n ∧ n < 9223372036854775808 := by
  simp [Lit.wf, IntKind.min, IntKind.max, IntKind.signed, IntKind.bits] at h
  omega
theorem eltEd {H : Type} {enc : TypeId × Value → H} {w : World} : ∀ cs n x, DataW.trod enc Try.prog w 0 (fun _ => true) true n 97 cs = some x → (∀ m ∈ x.1.weights Try.prog 97, m ≤ reachBytes) → ∃ y : Ed, cs = y.cells ∧ y.Ok := by
  intro cs n x h hz
  obtain ⟨xs, n', rfl, rfl, hcs, hxs, hf⟩ := DataW.trod_struct Try.underlying97 h
  rw [cells97] at hcs
  have g0 := hf 0 _ rfl
  have g1 := hf 1 _ rfl
  have g2 := hf 2 _ rfl
  match xs, hxs, cs, hcs with
  | [y0, y1, y2], _, [v0, v1, v2], _ =>
    simp [cells3, cells9] at g0 g1 g2
    obtain ⟨a, ha, _, wa⟩ := DataW.trod_int Try.underlying3 g0
    obtain ⟨b, hb, _, wb⟩ := DataW.trod_int Try.underlying3 g1
    obtain ⟨s, hs, h2, _⟩ := DataW.trod_string Try.underlying9 g2
    simp at ha hb hs
    subst ha hb hs
    have hlen : s.data.toList.length ≤ reachBytes := hz _ (by
      unfold DataW.weights
      simp only [Try.underlying97]
      simp [DataW.weightsEach, h2, DataW.weights])
    exact ⟨⟨a, b, s⟩, rfl, (wf64 wa).1, (wf64 wa).2, (wf64 wb).1, (wf64 wb).2, hlen⟩
theorem flatEd (l : List Ed) : ∀ y ∈ l, ∀ v ∈ y.cells, Flat v := fun y _ v hv => by
  simp [Ed.cells] at hv
  rcases hv with rfl | rfl | rfl
  · exact .int _ _
  · exact .int _ _
  · exact .string _
theorem mixed : Try.prog.follows .mixedOrders = true := by kernel_rfl

/-- The fixed fact, in any heap of one argument. -/
theorem alive2K (b : Option Blk) : (evCall T 1000 27 [] ⟨Tree.leaf.set 0 b, 1, []⟩).map (fun p => (p.1, p.2.mods, decide (1 ≤ p.2.next), p.2.t.get 0)) = some (.bool true, [], true, b) := by kernel_rfl
theorem alive2A (b : Option Blk) : EndsPure T 27 [] ⟨Tree.leaf.set 0 b, 1, []⟩ fun v _ _ => v = .bool true := by
  have h := alive2K b
  cases he : evCall T 1000 27 [] ⟨Tree.leaf.set 0 b, 1, []⟩ with
  | none => rw [he] at h; cases h
  | some p =>
    obtain ⟨v, s'⟩ := p
    rw [he] at h
    simp only [Option.map_some, Option.some.injEq, Prod.mk.injEq, decide_eq_true_eq] at h
    obtain ⟨h1, h2, h3, h4⟩ := h
    refine ⟨1000, v, s', he, ⟨h3, h2, fun N hN => ?_⟩, h1⟩
    have : N = 0 := by simp only at hN; omega
    subst this
    rw [h4]; exact (Tree.get_set_same _ _ _).symm

theorem walk6 (W : World) (a : Option Addr) (len cap : Nat) (n : Int) (l : List Ed) (hl : Handed Ed.cells 3 W a len cap l) (hok : ∀ e ∈ l, e.Ok) (_ : -9223372036854775808 ≤ n ∧ n < 9223372036854775808) :
    Calls Try.prog 6 #[.slice a len cap, .int .i64 n] W fun e w' => e = .returned (.bool true) ∧ Below W.heap.size W w' := by
  obtain ⟨vs, e, hs⟩ := hl.sl (c := Ed.cells) (fun _ => rfl) (t := Tree.leaf.set 0 (argRow Ed.cells W a l)) (n := 1) (N := 0) (Tree.get_set_same _ _ _) (by omega)
  obtain ⟨k, v, s', h, _, hv⟩ := c6 _ l cap _ _ _ _ _ n hok ⟨Tree.leaf.set 0 (argRow Ed.cells W a l), 1, []⟩ hs (alive2A _)
  subst hv
  have hfn : T.fn 6 = some ⟨51, (Try.f6.body).getD .skip, [.tmp 4]⟩ := by kernel_rfl
  refine law_of_ev ok okFns mixed hfn rfl h (φ := fun N => if N = 0 then argLoc 3 a l else none) (rel_one hl (fun _ => rfl) (flatEd l) _ _) (fun N hN => if_neg (by simp only at hN; omega)) ?_
  exact .cons (hl.vrel rfl) (.cons (.int _ _) .nil)
theorem own6 : ownKnob Try.prog.godebug = none := by kernel_rfl
theorem laidOut6 : laidOutB Try.prog = true := by kernel_rfl
theorem lifted6 (os : Os) (started : os.Started) (H : Type) (enc : TypeId × Value → H) :
    ReturnsInHanded {} Try.checked os 6 .any (Rows.editRightSpec.pre6 enc Try.prog Try.f6 Rows.editRightRow.domain false) (Rows.editRightSpec.post enc Try.prog Try.f6 false true false false) := by
  refine returnsInHanded_of_change_sized (C := Try.checked) own6 started (by kernel_rfl) Try.func6
    (ChangeSpec.witness6 (enc := enc) (C := Try.checked) false ⟨#[], #[.slice none 0 0, .int .i64 0], []⟩ 8 (by kernel_rfl) (by kernel_rfl) (by kernel_rfl) (by kernel_rfl)) ?_
  intro W base args ds gs before hval0 hW hcnd hsz0 _
  have hsz : (DataW.weightsEach Try.prog (Try.f6.params.toList ++ Rows.editRightSpec.plain.varTypes Try.prog) (ds ++ gs)).all (· ≤ reachBytes) = true := hsz0
  have hval : ∀ (j : Nat) t v, Try.f6.params[j]? = some t → args[j]? = some v → Value.okWide Try.prog W .any base t v := hval0
  have hW' := hW
  obtain ⟨p, q, hA0, hV, rfl, hfz, hnd⟩ := hW
  have hA : DataW.TrodAll enc Try.prog W 0 (fun _ => true) true Try.f6.params.toList args.toList ds p := hA0
  rw [Try.params6] at hA hval hsz
  obtain ⟨v0, vs0, d0, ds0, p0, q0, hargs, rfl, rfl, h0, r0⟩ := trodAll_cons hA
  obtain ⟨v1, vs1, d1, ds1, p1, q1, rfl, rfl, rfl, h1, r1⟩ := trodAll_cons r0
  obtain ⟨rfl, rfl, rfl⟩ := trodAll_nil r1
  obtain rfl : args = #[v0, v1] := by cases args; simp_all
  obtain ⟨rfl, rfl⟩ := trodVars_none hV
  obtain ⟨a0, len0, cap0, rfl⟩ := okWide_slice Try.underlying22 (hval 0 22 v0 rfl rfl)
  have k0 := h0
  have lt0 : ∀ x ∈ p0, x.block < W.heap.size := by obtain ⟨m, hm⟩ := k0; exact DataW.trod_lt m _ _ _ hm
  have z0 : ∀ m ∈ d0.weights Try.prog 22, m ≤ reachBytes := fun m hm => by simpa using List.all_eq_true.1 hsz m (DataW.weights_mem_each (j := 0) (t := 22) rfl rfl m hm)
  obtain ⟨l0, ok0, hl0⟩ := handed (c := Ed.cells) Ed.Ok Try.underlying22 cells97 (by decide) (fun _ => rfl) bytes97 eltEd (hval 0 22 (.slice a0 len0 cap0) rfl rfl) h0 z0
  obtain ⟨a1, rfl, rfl, rfl, w1⟩ := open_int Try.underlying3 (hval 1 3 v1 rfl rfl) h1
  refine (walk6 W a0 len0 cap0 a1 l0 hl0 ok0 (wf64 w1)).mono fun e W' ⟨he, bel⟩ => ?_
  subst he
  exact ⟨_, rfl, _, _, _, [], _, [], hW', trodAll_mk1 (shut_bool Try.underlying4 _), (trodAll_cons_mk (Below.trod laidOut6 (by kernel_rfl) (of_decide_eq_true (by kernel_rfl)) k0 bel lt0) (trodAll_cons_mk (shut_int Try.underlying3 w1) trodAll_mk0)), rfl, bel.frame _, fun h => by cases h⟩
theorem over6 : Rows.editRightRow.holds Try.pinned (OpenSpec.ofChange Rows.editRightSpec) :=
  OpenClaim.holds_of_wide 6 Try.f6 rfl rfl rfl rfl rfl rfl rfl ⟨rfl, rfl, rfl, rfl, rfl⟩ rfl rfl rfl rfl rfl (by kernel_rfl) Try.func6 (by kernel_rfl)
    (of_decide_eq_true (by kernel_rfl)) (by unfold Func.isWrapper; first | (rw [if_pos (by decide +kernel)]; kernel_rfl) | (rw [if_neg (by decide +kernel)]; exact ⟨rfl, rfl⟩))
    (fun os started H enc _ => lifted6 os started H enc)
end Go.Ev.R1
namespace Go.Proofs.Ytelpkdjibjddlaa
/-- The law. -/
theorem editRight_holds : Rows.EditRightSaid := Go.Ev.R1.over6
end Go.Proofs.Ytelpkdjibjddlaa
#print axioms Go.Proofs.Ytelpkdjibjddlaa.editRight_holds
