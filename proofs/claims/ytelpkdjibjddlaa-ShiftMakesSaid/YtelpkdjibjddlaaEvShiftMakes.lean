/-
  ShiftMakes: the one list of two makes what both make.
-/
import Derived.Test.YtelpkdjibjddlaaEvLawBase
import Derived.Test.YtelpkdjibjddlaaEvRead2
import Derived.Test.YtelpkdjibjddlaaEvNest2
import Derived.Test.YtelpkdjibjddlaaEvK2
set_option linter.unusedSimpArgs false
set_option linter.unusedVariables false
namespace Go.Ev.R1
open Go Go.Ev Go.Proofs Go.Proofs.Ytelpkdjibjddlaa Go.ChangeShapes Go.WideShapes Go.ChangeAt Go.RowKit
open Go.ChangeMaps (open_string shut_string)
set_option maxRecDepth 100000
theorem alive11 (b b' : Option Blk) : EndsPure T 15 [] (heap0 [b,b']) fun v _ _ => v = .bool true := alive_of (by kernel_rfl)
theorem walk11 (W : World) (x : ByteArray) (a : Option Addr) (len cap : Nat) (a' : Option Addr) (len' cap' : Nat) (_ : (B x).length ≤ 140737488351232) (l : List Ed) (hl : Handed Ed.cells 3 W a len cap l) (hok : ∀ e ∈ l,e.Ok) (l' : List Ed) (hl' : Handed Ed.cells 3 W a' len' cap' l') (hok' : ∀ e ∈ l',e.Ok) :
    Calls Try.prog 11 #[.string x,.slice a len cap,.slice a' len' cap'] W fun e w' => e = .returned (.bool true) ∧ Below W.heap.size W w' := by
  have ht : ((Tree.leaf.set 0 (argRow Ed.cells W a l)).set 1 (argRow Ed.cells W a' l')).get 0 = argRow Ed.cells W a l := by rw [Tree.get_set,if_neg (by omega),Tree.get_set,if_pos rfl]
  obtain ⟨vs,e,hs⟩ := hl.sl (c := Ed.cells) (fun _ => rfl) (n := 2) (N := 0) ht (by omega)
  obtain ⟨vs',e',hs'⟩ := hl'.sl (c := Ed.cells) (fun _ => rfl) (t := (Tree.leaf.set 0 (argRow Ed.cells W a l)).set 1 (argRow Ed.cells W a' l')) (n := 2) (N := 1) (Tree.get_set_same _ _ _) (by omega)
  have hfn : T.fn 11 = some ⟨119,(Try.f11.body).getD .skip,[.tmp 6]⟩ := by kernel_rfl
  have hd : Sx.DenL Sx.S1 (Sx.argEnv ((Tree.leaf.set 0 (argRow Ed.cells W a l)).set 1 (argRow Ed.cells W a' l')) 2) [.str (B x),.sl 0 l,.sl 0 l'] [.string x,.slice (argSlice 0 a) l.length cap,.slice (argSlice 1 a') l'.length cap'] :=
    .str (.cons (Sx.ed_den hs (Sx.arg_cap hl 0) (Sx.argEnv_fb _ _)) (.cons (Sx.ed_den hs' (Sx.arg_cap hl' 1) (Sx.argEnv_fb _ _)) .nil))
  obtain ⟨k,v,s',h,hv⟩ := Sx.law_walk (T := T) (U := Sx.U1) (p := ⟨Sx.S1,Sx.C11,119,0,fun _ => none⟩) (Sx.par_ok Sx.C11_ok _ _) (f := 11) (g := 15) (s := heap0 [argRow Ed.cells W a l,argRow Ed.cells W a' l']) (hfn.trans rfl) rfl rfl (by decide) (by decide) (by decide) rfl (Nat.le_of_ble_eq_true rfl) hd
    (alive11 _ _) (Sx.walk11 (B x) l hok l' hok')
  subst hv
  refine law_of_ev ok okFns mixed hfn rfl h (φ := fun N => if N = 0 then argLoc 3 a l else if N = 1 then argLoc 3 a' l' else none) (rel_two hl hl' (fun _ => rfl) (fun _ => rfl) (flatEd l) (flatEd l') _ _) (fun N hN => by have : 2 ≤ N := hN; rw [if_neg (by omega),if_neg (by omega)]) ?_
  exact .cons (.string _) (.cons (hl.vrel rfl) (.cons (hl'.vrel rfl) .nil))
theorem own11 : ownKnob Try.prog.godebug = none := by kernel_rfl
theorem laidOut11 : laidOutB Try.prog = true := by kernel_rfl
theorem lifted11 (os : Os) (started : os.Started) (H : Type) (enc : TypeId × Value → H) :
    ReturnsInHanded {} Try.checked os 11 .any (Rows.shiftMakesSpec.pre6 enc Try.prog Try.f11 Rows.shiftMakesRow.domain false) (Rows.shiftMakesSpec.post enc Try.prog Try.f11 false true false false) := by
  refine returnsInHanded_of_change_sized (C := Try.checked) own11 started (by kernel_rfl) Try.func11
    (ChangeSpec.witness6 (enc := enc) (C := Try.checked) false ⟨#[],#[.string ByteArray.empty,.slice none 0 0,.slice none 0 0],[]⟩ 8 (by kernel_rfl) (by kernel_rfl) (by kernel_rfl) (by kernel_rfl)) ?_
  intro W base args ds gs before hval0 hW hcnd hsz0 _
  have hsz : (DataW.weightsEach Try.prog (Try.f11.params.toList ++ Rows.shiftMakesSpec.plain.varTypes Try.prog) (ds ++ gs)).all (· ≤ reachBytes) = true := hsz0
  have hval : ∀ (j : Nat) t v,Try.f11.params[j]? = some t → args[j]? = some v → Value.okWide Try.prog W .any base t v := hval0
  have hW' := hW
  obtain ⟨p,q,hA0,hV,rfl,hfz,hnd⟩ := hW
  have hA : DataW.TrodAll enc Try.prog W 0 (fun _ => true) true Try.f11.params.toList args.toList ds p := hA0
  rw [Try.params11] at hA hval hsz
  obtain ⟨v0,vs0,d0,ds0,p0,q0,hargs,rfl,rfl,h0,r0⟩ := trodAll_cons hA
  obtain ⟨v1,vs1,d1,ds1,p1,q1,rfl,rfl,rfl,h1,r1⟩ := trodAll_cons r0
  obtain ⟨v2,vs2,d2,ds2,p2,q2,rfl,rfl,rfl,h2,r2⟩ := trodAll_cons r1
  obtain ⟨rfl,rfl,rfl⟩ := trodAll_nil r2
  obtain rfl : args = #[v0,v1,v2] := by cases args; simp_all
  obtain ⟨rfl,rfl⟩ := trodVars_none hV
  obtain ⟨a0,rfl,rfl,rfl,y0⟩ := open_string Try.underlying9 (hval 0 9 v0 rfl rfl) h0
  have w0 : (B a0).length ≤ 140737488351232 := by
    have z := sized_string hsz (j := 0) (t := 9) rfl rfl
    have hr : reachBytes = 140737488351232 := rfl
    rw [hr] at z
    simpa [B] using z
  obtain ⟨a1,len1,cap1,rfl⟩ := okWide_slice Try.underlying22 (hval 1 22 v1 rfl rfl)
  have k1 := h1
  have lt1 : ∀ x ∈ p1,x.block < W.heap.size := by obtain ⟨m,hm⟩ := k1; exact DataW.trod_lt m _ _ _ hm
  have z1 : ∀ m ∈ d1.weights Try.prog 22,m ≤ reachBytes := fun m hm => by simpa using List.all_eq_true.1 hsz m (DataW.weights_mem_each (j := 1) (t := 22) rfl rfl m hm)
  obtain ⟨l1,ok1,hl1⟩ := handed (c := Ed.cells) Ed.Ok Try.underlying22 cells97 (by decide) (fun _ => rfl) bytes97 eltEd (hval 1 22 (.slice a1 len1 cap1) rfl rfl) h1 z1
  obtain ⟨a2,len2,cap2,rfl⟩ := okWide_slice Try.underlying22 (hval 2 22 v2 rfl rfl)
  have k2 := h2
  have lt2 : ∀ x ∈ p2,x.block < W.heap.size := by obtain ⟨m,hm⟩ := k2; exact DataW.trod_lt m _ _ _ hm
  have z2 : ∀ m ∈ d2.weights Try.prog 22,m ≤ reachBytes := fun m hm => by simpa using List.all_eq_true.1 hsz m (DataW.weights_mem_each (j := 2) (t := 22) rfl rfl m hm)
  obtain ⟨l2,ok2,hl2⟩ := handed (c := Ed.cells) Ed.Ok Try.underlying22 cells97 (by decide) (fun _ => rfl) bytes97 eltEd (hval 2 22 (.slice a2 len2 cap2) rfl rfl) h2 z2
  refine (walk11 W a0 a1 len1 cap1 a2 len2 cap2 w0 l1 hl1 ok1 l2 hl2 ok2).mono fun e W' ⟨he,bel⟩ => ?_
  subst he
  exact ⟨_,rfl,_,_,_,[],_,[],hW',trodAll_mk1 (shut_bool Try.underlying4 _),(trodAll_cons_mk (shut_string Try.underlying9 y0) (trodAll_cons_mk (Below.trod laidOut11 (by kernel_rfl) (of_decide_eq_true (by kernel_rfl)) k1 bel lt1) (trodAll_cons_mk (Below.trod laidOut11 (by kernel_rfl) (of_decide_eq_true (by kernel_rfl)) k2 bel lt2) trodAll_mk0))),rfl,bel.frame _,fun h => by cases h⟩
theorem over11 : Rows.shiftMakesRow.holds Try.pinned (OpenSpec.ofChange Rows.shiftMakesSpec) :=
  OpenClaim.holds_of_wide 11 Try.f11 rfl rfl rfl rfl rfl rfl rfl ⟨rfl,rfl,rfl,rfl,rfl⟩ rfl rfl rfl rfl rfl (by kernel_rfl) Try.func11 (by kernel_rfl)
    (of_decide_eq_true (by kernel_rfl)) (by unfold Func.isWrapper; first | (rw [if_pos (by decide +kernel)]; kernel_rfl) | (rw [if_neg (by decide +kernel)]; exact ⟨rfl,rfl⟩))
    (fun os started H enc _ => lifted11 os started H enc)
end Go.Ev.R1
namespace Go.Proofs.Ytelpkdjibjddlaa
theorem shiftMakes_holds : Rows.ShiftMakesSaid := Go.Ev.R1.over11
end Go.Proofs.Ytelpkdjibjddlaa
#print axioms Go.Proofs.Ytelpkdjibjddlaa.shiftMakes_holds

