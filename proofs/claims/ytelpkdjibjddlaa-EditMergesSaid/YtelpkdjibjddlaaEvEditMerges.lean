/-
  EditMerges: the plain list of any right one.
-/
import Derived.Test.YtelpkdjibjddlaaEvLawBase
import Derived.Test.YtelpkdjibjddlaaEvMgC1
namespace Go.Ev.R1
open Go Go.Ev Go.Proofs Go.Proofs.Ytelpkdjibjddlaa Go.ChangeShapes Go.WideShapes Go.ChangeAt Go.RowKit
open Go.ChangeMaps (open_string shut_string)
set_option maxRecDepth 100000
theorem alive2B (b : Option Blk) : EndsPure T 27 [] (heap0 [b]) fun v _ _ => v = .bool true := alive_of (by kernel_rfl)
theorem walk9 (W : World) (x : ByteArray) (a : Option Addr) (len cap : Nat) (hx : (B x).length ≤ 140737488351232) (l : List Ed) (hl : Handed Ed.cells 3 W a len cap l) (hok : ∀ e ∈ l, e.Ok) :
    Calls Try.prog 9 #[.string x, .slice a len cap] W fun e w' => e = .returned (.bool true) ∧ Below W.heap.size W w' := by
  obtain ⟨vs, e, hs⟩ := hl.sl (c := Ed.cells) (fun _ => rfl) (t := Tree.leaf.set 0 (argRow Ed.cells W a l)) (n := 1) (N := 0) (Tree.get_set_same _ _ _) (by omega)
  obtain ⟨k, v, s', h, _, hv⟩ := c9 x hx _ l cap _ _ _ _ _ (hl.cp 0) hok (heap0 [argRow Ed.cells W a l]) hs (alive2B _)
  subst hv
  have hfn : T.fn 9 = some ⟨79, (Try.f9.body).getD .skip, [.tmp 4]⟩ := by kernel_rfl
  refine law_of_ev ok okFns mixed hfn rfl h (φ := fun N => if N = 0 then argLoc 3 a l else none) (rel_one hl (fun _ => rfl) (flatEd l) _ _) (fun N hN => if_neg (by have : 1 ≤ N := hN; omega)) ?_
  exact .cons (.string _) (.cons (hl.vrel rfl) .nil)
theorem own9 : ownKnob Try.prog.godebug = none := by kernel_rfl
theorem laidOut9 : laidOutB Try.prog = true := by kernel_rfl
theorem lifted9 (os : Os) (started : os.Started) (H : Type) (enc : TypeId × Value → H) :
    ReturnsInHanded {} Try.checked os 9 .any (Rows.editMergesSpec.pre6 enc Try.prog Try.f9 Rows.editMergesRow.domain false) (Rows.editMergesSpec.post enc Try.prog Try.f9 false true false false) := by
  refine returnsInHanded_of_change_sized (C := Try.checked) own9 started (by kernel_rfl) Try.func9
    (ChangeSpec.witness6 (enc := enc) (C := Try.checked) false ⟨#[], #[.string ByteArray.empty, .slice none 0 0], []⟩ 8 (by kernel_rfl) (by kernel_rfl) (by kernel_rfl) (by kernel_rfl)) ?_
  intro W base args ds gs before hval0 hW hcnd hsz0 _
  have hsz : (DataW.weightsEach Try.prog (Try.f9.params.toList ++ Rows.editMergesSpec.plain.varTypes Try.prog) (ds ++ gs)).all (· ≤ reachBytes) = true := hsz0
  have hval : ∀ (j : Nat) t v, Try.f9.params[j]? = some t → args[j]? = some v → Value.okWide Try.prog W .any base t v := hval0
  have hW' := hW
  obtain ⟨p, q, hA0, hV, rfl, hfz, hnd⟩ := hW
  have hA : DataW.TrodAll enc Try.prog W 0 (fun _ => true) true Try.f9.params.toList args.toList ds p := hA0
  rw [Try.params9] at hA hval hsz
  obtain ⟨v0, vs0, d0, ds0, p0, q0, hargs, rfl, rfl, h0, r0⟩ := trodAll_cons hA
  obtain ⟨v1, vs1, d1, ds1, p1, q1, rfl, rfl, rfl, h1, r1⟩ := trodAll_cons r0
  obtain ⟨rfl, rfl, rfl⟩ := trodAll_nil r1
  obtain rfl : args = #[v0, v1] := by cases args; simp_all
  obtain ⟨rfl, rfl⟩ := trodVars_none hV
  obtain ⟨a0, rfl, rfl, rfl, y0⟩ := open_string Try.underlying9 (hval 0 9 v0 rfl rfl) h0
  have w0 : (B a0).length ≤ 140737488351232 := by
    have z := sized_string hsz (j := 0) (t := 9) rfl rfl
    have hr : reachBytes = 140737488351232 := rfl
    rw [hr] at z
    simpa [B] using z
  obtain ⟨a1, len1, cap1, rfl⟩ := okWide_slice Try.underlying22 (hval 1 22 v1 rfl rfl)
  have k1 := h1
  have lt1 : ∀ x ∈ p1, x.block < W.heap.size := by obtain ⟨m, hm⟩ := k1; exact DataW.trod_lt m _ _ _ hm
  have z1 : ∀ m ∈ d1.weights Try.prog 22, m ≤ reachBytes := fun m hm => by simpa using List.all_eq_true.1 hsz m (DataW.weights_mem_each (j := 1) (t := 22) rfl rfl m hm)
  obtain ⟨l1, ok1, hl1⟩ := handed (c := Ed.cells) Ed.Ok Try.underlying22 cells97 (by decide) (fun _ => rfl) bytes97 eltEd (hval 1 22 (.slice a1 len1 cap1) rfl rfl) h1 z1
  refine (walk9 W a0 a1 len1 cap1 w0 l1 hl1 ok1).mono fun e W' ⟨he, bel⟩ => ?_
  subst he
  exact ⟨_, rfl, _, _, _, [], _, [], hW', trodAll_mk1 (shut_bool Try.underlying4 _), (trodAll_cons_mk (shut_string Try.underlying9 y0) (trodAll_cons_mk (Below.trod laidOut9 (by kernel_rfl) (of_decide_eq_true (by kernel_rfl)) k1 bel lt1) trodAll_mk0)), rfl, bel.frame _, fun h => by cases h⟩
theorem over9 : Rows.editMergesRow.holds Try.pinned (OpenSpec.ofChange Rows.editMergesSpec) :=
  OpenClaim.holds_of_wide 9 Try.f9 rfl rfl rfl rfl rfl rfl rfl ⟨rfl, rfl, rfl, rfl, rfl⟩ rfl rfl rfl rfl rfl (by kernel_rfl) Try.func9 (by kernel_rfl)
    (of_decide_eq_true (by kernel_rfl)) (by unfold Func.isWrapper; first | (rw [if_pos (by decide +kernel)]; kernel_rfl) | (rw [if_neg (by decide +kernel)]; exact ⟨rfl, rfl⟩))
    (fun os started H enc _ => lifted9 os started H enc)
end Go.Ev.R1
namespace Go.Proofs.Ytelpkdjibjddlaa
/-- The law. -/
theorem editMerges_holds : Rows.EditMergesSaid := Go.Ev.R1.over9
end Go.Proofs.Ytelpkdjibjddlaa
#print axioms Go.Proofs.Ytelpkdjibjddlaa.editMerges_holds

