/-
  ShiftKeeps: which bytes go by any list, and that Goes and Came lead to one another, in order.
-/
import Derived.Test.YtelpkdjibjddlaaEvLawBase
import Derived.Test.YtelpkdjibjddlaaEvKpB1
set_option linter.unusedSimpArgs false
set_option linter.unusedVariables false
namespace Go.Ev.R1
open Go Go.Ev Go.Proofs Go.Proofs.Ytelpkdjibjddlaa Go.ChangeShapes Go.WideShapes Go.ChangeAt Go.RowKit
open Go.ChangeMaps (open_string shut_string)
set_option maxRecDepth 100000
theorem walk4 (W : World) (a : Option Addr) (len cap : Nat) (n q : Int) (l : List Ed) (hl : Handed Ed.cells 3 W a len cap l) (hok : ∀ e ∈ l, e.Ok) (_ : -9223372036854775808 ≤ n ∧ n < 9223372036854775808) (_ : -9223372036854775808 ≤ q ∧ q < 9223372036854775808) :
    Calls Try.prog 4 #[.slice a len cap, .int .i64 n, .int .i64 q] W fun e w' => e = .returned (.bool true) ∧ Below W.heap.size W w' := by
  obtain ⟨vs, e, hs⟩ := hl.sl (c := Ed.cells) (fun _ => rfl) (t := Tree.leaf.set 0 (argRow Ed.cells W a l)) (n := 1) (N := 0) (Tree.get_set_same _ _ _) (by omega)
  obtain ⟨k, v, s', h, hv⟩ := c4 _ l cap _ _ _ _ _ n q hok (heap0 [argRow Ed.cells W a l]) hs
  subst hv
  have hfn : T.fn 4 = some ⟨89, (Try.f4.body).getD .skip, [.cell 6 4]⟩ := by kernel_rfl
  refine law_of_ev ok okFns mixed hfn rfl h (φ := fun N => if N = 0 then argLoc 3 a l else none) (rel_one hl (fun _ => rfl) (flatEd l) _ _) (fun N hN => if_neg (by have : 1 ≤ N := hN; omega)) ?_
  exact .cons (hl.vrel rfl) (.cons (.int _ _) (.cons (.int _ _) .nil))
theorem own4 : ownKnob Try.prog.godebug = none := by kernel_rfl
theorem laidOut4 : laidOutB Try.prog = true := by kernel_rfl
theorem lifted4 (os : Os) (started : os.Started) (H : Type) (enc : TypeId × Value → H) :
    ReturnsInHanded {} Try.checked os 4 .any (Rows.shiftKeepsSpec.pre6 enc Try.prog Try.f4 Rows.shiftKeepsRow.domain false) (Rows.shiftKeepsSpec.post enc Try.prog Try.f4 false true false false) := by
  refine returnsInHanded_of_change_sized (C := Try.checked) own4 started (by kernel_rfl) Try.func4
    (ChangeSpec.witness6 (enc := enc) (C := Try.checked) false ⟨#[], #[.slice none 0 0, .int .i64 0, .int .i64 0], []⟩ 8 (by kernel_rfl) (by kernel_rfl) (by kernel_rfl) (by kernel_rfl)) ?_
  intro W base args ds gs before hval0 hW hcnd hsz0 _
  have hsz : (DataW.weightsEach Try.prog (Try.f4.params.toList ++ Rows.shiftKeepsSpec.plain.varTypes Try.prog) (ds ++ gs)).all (· ≤ reachBytes) = true := hsz0
  have hval : ∀ (j : Nat) t v, Try.f4.params[j]? = some t → args[j]? = some v → Value.okWide Try.prog W .any base t v := hval0
  have hW' := hW
  obtain ⟨p, q, hA0, hV, rfl, hfz, hnd⟩ := hW
  have hA : DataW.TrodAll enc Try.prog W 0 (fun _ => true) true Try.f4.params.toList args.toList ds p := hA0
  rw [Try.params4] at hA hval hsz
  obtain ⟨v0, vs0, d0, ds0, p0, q0, hargs, rfl, rfl, h0, r0⟩ := trodAll_cons hA
  obtain ⟨v1, vs1, d1, ds1, p1, q1, rfl, rfl, rfl, h1, r1⟩ := trodAll_cons r0
  obtain ⟨v2, vs2, d2, ds2, p2, q2, rfl, rfl, rfl, h2, r2⟩ := trodAll_cons r1
  obtain ⟨rfl, rfl, rfl⟩ := trodAll_nil r2
  obtain rfl : args = #[v0, v1, v2] := by cases args; simp_all
  obtain ⟨rfl, rfl⟩ := trodVars_none hV
  obtain ⟨a0, len0, cap0, rfl⟩ := okWide_slice Try.underlying22 (hval 0 22 v0 rfl rfl)
  have k0 := h0
  have lt0 : ∀ x ∈ p0, x.block < W.heap.size := by obtain ⟨m, hm⟩ := k0; exact DataW.trod_lt m _ _ _ hm
  have z0 : ∀ m ∈ d0.weights Try.prog 22, m ≤ reachBytes := fun m hm => by simpa using List.all_eq_true.1 hsz m (DataW.weights_mem_each (j := 0) (t := 22) rfl rfl m hm)
  obtain ⟨l0, ok0, hl0⟩ := handed (c := Ed.cells) Ed.Ok Try.underlying22 cells97 (by decide) (fun _ => rfl) bytes97 eltEd (hval 0 22 (.slice a0 len0 cap0) rfl rfl) h0 z0
  obtain ⟨a1, rfl, rfl, rfl, w1⟩ := open_int Try.underlying3 (hval 1 3 v1 rfl rfl) h1
  obtain ⟨a2, rfl, rfl, rfl, w2⟩ := open_int Try.underlying3 (hval 2 3 v2 rfl rfl) h2
  refine (walk4 W a0 len0 cap0 a1 a2 l0 hl0 ok0 (wf64 w1) (wf64 w2)).mono fun e W' ⟨he, bel⟩ => ?_
  subst he
  exact ⟨_, rfl, _, _, _, [], _, [], hW', trodAll_mk1 (shut_bool Try.underlying4 _), (trodAll_cons_mk (Below.trod laidOut4 (by kernel_rfl) (of_decide_eq_true (by kernel_rfl)) k0 bel lt0) (trodAll_cons_mk (shut_int Try.underlying3 w1) (trodAll_cons_mk (shut_int Try.underlying3 w2) trodAll_mk0))), rfl, bel.frame _, fun h => by cases h⟩
theorem over4 : Rows.shiftKeepsRow.holds Try.pinned (OpenSpec.ofChange Rows.shiftKeepsSpec) :=
  OpenClaim.holds_of_wide 4 Try.f4 rfl rfl rfl rfl rfl rfl rfl ⟨rfl, rfl, rfl, rfl, rfl⟩ rfl rfl rfl rfl rfl (by kernel_rfl) Try.func4 (by kernel_rfl)
    (of_decide_eq_true (by kernel_rfl)) (by unfold Func.isWrapper; first | (rw [if_pos (by decide +kernel)]; kernel_rfl) | (rw [if_neg (by decide +kernel)]; exact ⟨rfl, rfl⟩))
    (fun os started H enc _ => lifted4 os started H enc)
end Go.Ev.R1
namespace Go.Proofs.Ytelpkdjibjddlaa
/-- The law. -/
theorem shiftKeeps_holds : Rows.ShiftKeepsSaid := Go.Ev.R1.over4
end Go.Proofs.Ytelpkdjibjddlaa
#print axioms Go.Proofs.Ytelpkdjibjddlaa.shiftKeeps_holds
