/-
  FilesDiff: the patches from any workspace to any other one.
-/
import Derived.Test.YtelpkdjibjddlaaEvRead2
import Derived.Test.YtelpkdjibjddlaaEvDfC1
namespace Go.Ev.R1
open Go Go.Ev Go.Proofs Go.Proofs.Ytelpkdjibjddlaa Go.ChangeShapes Go.WideShapes Go.ChangeAt Go.RowKit
open Go.ChangeMaps (open_string shut_string)
set_option maxRecDepth 100000
theorem alive4B (b b' : Option Blk) : EndsPure T 39 [] (heap0 [b, b']) fun v _ _ => v = .bool true := alive_of (by kernel_rfl)
theorem walk7 (W : World) (a : Option Addr) (len cap : Nat) (a' : Option Addr) (len' cap' : Nat) (l : List Fl) (hl : Handed Fl.cells 2 W a len cap l) (hok : ∀ e ∈ l, e.Ok) (l' : List Fl) (hl' : Handed Fl.cells 2 W a' len' cap' l') (hok' : ∀ e ∈ l', e.Ok) :
    Calls Try.prog 7 #[.slice a len cap, .slice a' len' cap'] W fun e w' => e = .returned (.bool true) ∧ Below W.heap.size W w' := by
  have ht : ((Tree.leaf.set 0 (argRow Fl.cells W a l)).set 1 (argRow Fl.cells W a' l')).get 0 = argRow Fl.cells W a l := by rw [Tree.get_set, if_neg (by omega), Tree.get_set, if_pos rfl]
  obtain ⟨vs, e, hs⟩ := hl.sl (c := Fl.cells) (fun _ => rfl) (n := 2) (N := 0) ht (by omega)
  obtain ⟨vs', e', hs'⟩ := hl'.sl (c := Fl.cells) (fun _ => rfl) (t := (Tree.leaf.set 0 (argRow Fl.cells W a l)).set 1 (argRow Fl.cells W a' l')) (n := 2) (N := 1) (Tree.get_set_same _ _ _) (by omega)
  obtain ⟨k, v, s', h, _, hv⟩ := c7 _ l cap _ _ _ _ _ _ l' cap' _ _ _ _ _ hok hok' (heap0 [argRow Fl.cells W a l, argRow Fl.cells W a' l']) hs hs' (alive4B _ _)
  subst hv
  have hfn : T.fn 7 = some ⟨38, (Try.f7.body).getD .skip, [.tmp 4]⟩ := by kernel_rfl
  refine law_of_ev ok okFns mixed hfn rfl h (φ := fun N => if N = 0 then argLoc 2 a l else if N = 1 then argLoc 2 a' l' else none) (rel_two hl hl' (fun _ => rfl) (fun _ => rfl) (flatFl l) (flatFl l') _ _) (fun N hN => by have : 2 ≤ N := hN; rw [if_neg (by omega), if_neg (by omega)]) ?_
  exact .cons (hl.vrel rfl) (.cons (hl'.vrel rfl) .nil)
theorem own7 : ownKnob Try.prog.godebug = none := by kernel_rfl
theorem laidOut7 : laidOutB Try.prog = true := by kernel_rfl
theorem lifted7 (os : Os) (started : os.Started) (H : Type) (enc : TypeId × Value → H) :
    ReturnsInHanded {} Try.checked os 7 .any (Rows.filesDiffSpec.pre6 enc Try.prog Try.f7 Rows.filesDiffRow.domain false) (Rows.filesDiffSpec.post enc Try.prog Try.f7 false true false false) := by
  refine returnsInHanded_of_change_sized (C := Try.checked) own7 started (by kernel_rfl) Try.func7
    (ChangeSpec.witness6 (enc := enc) (C := Try.checked) false ⟨#[], #[.slice none 0 0, .slice none 0 0], []⟩ 8 (by kernel_rfl) (by kernel_rfl) (by kernel_rfl) (by kernel_rfl)) ?_
  intro W base args ds gs before hval0 hW hcnd hsz0 _
  have hsz : (DataW.weightsEach Try.prog (Try.f7.params.toList ++ Rows.filesDiffSpec.plain.varTypes Try.prog) (ds ++ gs)).all (· ≤ reachBytes) = true := hsz0
  have hval : ∀ (j : Nat) t v, Try.f7.params[j]? = some t → args[j]? = some v → Value.okWide Try.prog W .any base t v := hval0
  have hW' := hW
  obtain ⟨p, q, hA0, hV, rfl, hfz, hnd⟩ := hW
  have hA : DataW.TrodAll enc Try.prog W 0 (fun _ => true) true Try.f7.params.toList args.toList ds p := hA0
  rw [Try.params7] at hA hval hsz
  obtain ⟨v0, vs0, d0, ds0, p0, q0, hargs, rfl, rfl, h0, r0⟩ := trodAll_cons hA
  obtain ⟨v1, vs1, d1, ds1, p1, q1, rfl, rfl, rfl, h1, r1⟩ := trodAll_cons r0
  obtain ⟨rfl, rfl, rfl⟩ := trodAll_nil r1
  obtain rfl : args = #[v0, v1] := by cases args; simp_all
  obtain ⟨rfl, rfl⟩ := trodVars_none hV
  obtain ⟨a0, len0, cap0, rfl⟩ := okWide_slice Try.underlying57 (hval 0 57 v0 rfl rfl)
  have k0 := h0
  have lt0 : ∀ x ∈ p0, x.block < W.heap.size := by obtain ⟨m, hm⟩ := k0; exact DataW.trod_lt m _ _ _ hm
  have z0 : ∀ m ∈ d0.weights Try.prog 57, m ≤ reachBytes := fun m hm => by simpa using List.all_eq_true.1 hsz m (DataW.weights_mem_each (j := 0) (t := 57) rfl rfl m hm)
  obtain ⟨l0, ok0, hl0⟩ := handed (c := Fl.cells) Fl.Ok Try.underlying57 cells68 (by decide) (fun _ => rfl) bytes68 eltFl (hval 0 57 (.slice a0 len0 cap0) rfl rfl) h0 z0
  obtain ⟨a1, len1, cap1, rfl⟩ := okWide_slice Try.underlying57 (hval 1 57 v1 rfl rfl)
  have k1 := h1
  have lt1 : ∀ x ∈ p1, x.block < W.heap.size := by obtain ⟨m, hm⟩ := k1; exact DataW.trod_lt m _ _ _ hm
  have z1 : ∀ m ∈ d1.weights Try.prog 57, m ≤ reachBytes := fun m hm => by simpa using List.all_eq_true.1 hsz m (DataW.weights_mem_each (j := 1) (t := 57) rfl rfl m hm)
  obtain ⟨l1, ok1, hl1⟩ := handed (c := Fl.cells) Fl.Ok Try.underlying57 cells68 (by decide) (fun _ => rfl) bytes68 eltFl (hval 1 57 (.slice a1 len1 cap1) rfl rfl) h1 z1
  refine (walk7 W a0 len0 cap0 a1 len1 cap1 l0 hl0 ok0 l1 hl1 ok1).mono fun e W' ⟨he, bel⟩ => ?_
  subst he
  exact ⟨_, rfl, _, _, _, [], _, [], hW', trodAll_mk1 (shut_bool Try.underlying4 _), (trodAll_cons_mk (Below.trod laidOut7 (by kernel_rfl) (of_decide_eq_true (by kernel_rfl)) k0 bel lt0) (trodAll_cons_mk (Below.trod laidOut7 (by kernel_rfl) (of_decide_eq_true (by kernel_rfl)) k1 bel lt1) trodAll_mk0)), rfl, bel.frame _, fun h => by cases h⟩
theorem over7 : Rows.filesDiffRow.holds Try.pinned (OpenSpec.ofChange Rows.filesDiffSpec) :=
  OpenClaim.holds_of_wide 7 Try.f7 rfl rfl rfl rfl rfl rfl rfl ⟨rfl, rfl, rfl, rfl, rfl⟩ rfl rfl rfl rfl rfl (by kernel_rfl) Try.func7 (by kernel_rfl)
    (of_decide_eq_true (by kernel_rfl)) (by unfold Func.isWrapper; first | (rw [if_pos (by decide +kernel)]; kernel_rfl) | (rw [if_neg (by decide +kernel)]; exact ⟨rfl, rfl⟩))
    (fun os started H enc _ => lifted7 os started H enc)
end Go.Ev.R1
namespace Go.Proofs.Ytelpkdjibjddlaa
/-- The law. -/
theorem filesDiff_holds : Rows.FilesDiffSaid := Go.Ev.R1.over7
end Go.Proofs.Ytelpkdjibjddlaa
#print axioms Go.Proofs.Ytelpkdjibjddlaa.filesDiff_holds

