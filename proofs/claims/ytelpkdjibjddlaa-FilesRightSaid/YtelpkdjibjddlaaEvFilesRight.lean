/-
  FilesRight: which workspaces are right, how many bytes they have, and the number of any file.
-/
import Derived.Test.YtelpkdjibjddlaaEvLawFiles
import Derived.Test.YtelpkdjibjddlaaEvFiB1
namespace Go.Ev.R1
open Go Go.Ev Go.Proofs Go.Proofs.Ytelpkdjibjddlaa Go.ChangeShapes Go.WideShapes Go.ChangeAt Go.RowKit
open Go.ChangeMaps (open_string shut_string)
set_option maxRecDepth 100000
theorem alive4A (b : Option Blk) : EndsPure T 39 [] (heap0 [b]) fun v _ _ => v = .bool true := alive_of (by kernel_rfl)
theorem walk8 (W : World) (a : Option Addr) (len cap : Nat) (x : ByteArray) (l : List Fl) (hl : Handed Fl.cells 2 W a len cap l) (hok : ∀ e ∈ l, e.Ok) (_ : (B x).length ≤ 140737488351232) :
    Calls Try.prog 8 #[.slice a len cap, .string x] W fun e w' => e = .returned (.bool true) ∧ Below W.heap.size W w' := by
  obtain ⟨vs, e, hs⟩ := hl.sl (c := Fl.cells) (fun _ => rfl) (t := Tree.leaf.set 0 (argRow Fl.cells W a l)) (n := 1) (N := 0) (Tree.get_set_same _ _ _) (by omega)
  obtain ⟨k, v, s', h, _, hv⟩ := c8 _ l cap _ _ _ _ _ x (hl.cp 0) hok (heap0 [argRow Fl.cells W a l]) hs (alive4A _)
  subst hv
  have hfn : T.fn 8 = some ⟨85, (Try.f8.body).getD .skip, [.tmp 4]⟩ := by kernel_rfl
  refine law_of_ev ok okFns mixed hfn rfl h (φ := fun N => if N = 0 then argLoc 2 a l else none) (rel_one hl (fun _ => rfl) (flatFl l) _ _) (fun N hN => if_neg (by have : 1 ≤ N := hN; omega)) ?_
  exact .cons (hl.vrel rfl) (.cons (.string _) .nil)
theorem own8 : ownKnob Try.prog.godebug = none := by kernel_rfl
theorem laidOut8 : laidOutB Try.prog = true := by kernel_rfl
theorem lifted8 (os : Os) (started : os.Started) (H : Type) (enc : TypeId × Value → H) :
    ReturnsInHanded {} Try.checked os 8 .any (Rows.filesRightSpec.pre6 enc Try.prog Try.f8 Rows.filesRightRow.domain false) (Rows.filesRightSpec.post enc Try.prog Try.f8 false true false false) := by
  refine returnsInHanded_of_change_sized (C := Try.checked) own8 started (by kernel_rfl) Try.func8
    (ChangeSpec.witness6 (enc := enc) (C := Try.checked) false ⟨#[], #[.slice none 0 0, .string ByteArray.empty], []⟩ 8 (by kernel_rfl) (by kernel_rfl) (by kernel_rfl) (by kernel_rfl)) ?_
  intro W base args ds gs before hval0 hW hcnd hsz0 _
  have hsz : (DataW.weightsEach Try.prog (Try.f8.params.toList ++ Rows.filesRightSpec.plain.varTypes Try.prog) (ds ++ gs)).all (· ≤ reachBytes) = true := hsz0
  have hval : ∀ (j : Nat) t v, Try.f8.params[j]? = some t → args[j]? = some v → Value.okWide Try.prog W .any base t v := hval0
  have hW' := hW
  obtain ⟨p, q, hA0, hV, rfl, hfz, hnd⟩ := hW
  have hA : DataW.TrodAll enc Try.prog W 0 (fun _ => true) true Try.f8.params.toList args.toList ds p := hA0
  rw [Try.params8] at hA hval hsz
  obtain ⟨v0, vs0, d0, ds0, p0, q0, hargs, rfl, rfl, h0, r0⟩ := trodAll_cons hA
  obtain ⟨v1, vs1, d1, ds1, p1, q1, rfl, rfl, rfl, h1, r1⟩ := trodAll_cons r0
  obtain ⟨rfl, rfl, rfl⟩ := trodAll_nil r1
  obtain rfl : args = #[v0, v1] := by cases args; simp_all
  obtain ⟨rfl, rfl⟩ := trodVars_none hV
  obtain ⟨a0, len0, cap0, rfl⟩ := okWide_slice Try.underlying57 (hval 0 57 v0 rfl rfl)
  have k0 := h0
  have lt0 : ∀ x ∈ p0, x.block < W.heap.size := by obtain ⟨m, hm⟩ := k0; exact DataW.trod_lt m _ _ _ hm
  have z0 : ∀ m ∈ d0.weights Try.prog 57, m ≤ reachBytes := fun m hm => by simpa using List.all_eq_true.1 hsz m (DataW.weights_mem_each (j := 0) (t := 57) rfl rfl m hm)
  obtain ⟨l0, ok0, hl0⟩ := handed (c := Fl.cells) Fl.Ok Try.underlying57 cells68 (by decide) (fun _ => rfl) bytes68 eltFl (hval 0 57 (.slice a0 len0 cap0) rfl rfl) h0 z0
  obtain ⟨a1, rfl, rfl, rfl, y1⟩ := open_string Try.underlying9 (hval 1 9 v1 rfl rfl) h1
  have w1 : (B a1).length ≤ 140737488351232 := by
    have z := sized_string hsz (j := 1) (t := 9) rfl rfl
    have hr : reachBytes = 140737488351232 := rfl
    rw [hr] at z
    simpa [B] using z
  refine (walk8 W a0 len0 cap0 a1 l0 hl0 ok0 w1).mono fun e W' ⟨he, bel⟩ => ?_
  subst he
  exact ⟨_, rfl, _, _, _, [], _, [], hW', trodAll_mk1 (shut_bool Try.underlying4 _), (trodAll_cons_mk (Below.trod laidOut8 (by kernel_rfl) (of_decide_eq_true (by kernel_rfl)) k0 bel lt0) (trodAll_cons_mk (shut_string Try.underlying9 y1) trodAll_mk0)), rfl, bel.frame _, fun h => by cases h⟩
theorem over8 : Rows.filesRightRow.holds Try.pinned (OpenSpec.ofChange Rows.filesRightSpec) :=
  OpenClaim.holds_of_wide 8 Try.f8 rfl rfl rfl rfl rfl rfl rfl ⟨rfl, rfl, rfl, rfl, rfl⟩ rfl rfl rfl rfl rfl (by kernel_rfl) Try.func8 (by kernel_rfl)
    (of_decide_eq_true (by kernel_rfl)) (by unfold Func.isWrapper; first | (rw [if_pos (by decide +kernel)]; kernel_rfl) | (rw [if_neg (by decide +kernel)]; exact ⟨rfl, rfl⟩))
    (fun os started H enc _ => lifted8 os started H enc)
end Go.Ev.R1
namespace Go.Proofs.Ytelpkdjibjddlaa
/-- The law. -/
theorem filesRight_holds : Rows.FilesRightSaid := Go.Ev.R1.over8
end Go.Proofs.Ytelpkdjibjddlaa
#print axioms Go.Proofs.Ytelpkdjibjddlaa.filesRight_holds
