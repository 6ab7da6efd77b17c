/-
  FilesBack: the inverse leads back, and the difference leads from the one workspace to the other one.
-/
import Derived.Test.YtelpkdjibjddlaaEvSm7
import Derived.Test.YtelpkdjibjddlaaEvNest2
namespace Go.Ev.R1
open Go Go.Ev Go.Proofs Go.Proofs.Ytelpkdjibjddlaa Go.ChangeShapes Go.WideShapes Go.ChangeAt Go.RowKit
open Go.ChangeMaps (open_string shut_string)
set_option maxRecDepth 100000
theorem pts_ok {W : World} {l1 : List Hd} (hok : ∀ y ∈ l1,y.Ok W) : ∀ p ∈ l1.map Sx.toPt,Sx.POk p := fun p hp => by
  obtain ⟨y,hy,rfl⟩ := List.mem_map.1 hp
  exact ⟨(hok y hy).nm,fun e he => ((hok y hy).es e he).tx⟩
theorem walk14 (W : World) (a0 : Option Addr) (len0 cap0 : Nat) (l0 : List Fl) (h0 : Handed Fl.cells 2 W a0 len0 cap0 l0) (hok0 : ∀ f ∈ l0,f.Ok) (a1 : Option Addr) (len1 cap1 : Nat) (l1 : List Hd) (h1 : Handed Hd.cells 2 W a1 len1 cap1 l1) (hok1 : ∀ y ∈ l1,y.Ok W) :
    Calls Try.prog 14 #[.slice a0 len0 cap0,.slice a1 len1 cap1] W fun e w' => e = .returned (.bool true) ∧ Below W.heap.size W w' := by
  have hfn : T.fn 14 = some ⟨77,(Try.f14.body).getD .skip,[.tmp 4]⟩ := by kernel_rfl
  have hd : Sx.DenL Sx.S1 (Sx.argEnv (tree W a0 l0 a1 l1) nxt) [.sl 1 l0,.sl 4 (l1.map Sx.toPt)] [.slice (argSlice (nameAt dep 0) a0) l0.length cap0,.slice (argSlice (nameAt dep 1) a1) l1.length cap1] := by
    obtain ⟨e0,e1⟩ := Sx.nest_den (X := Sx.argEnv (tree W a0 l0 a1 l1) nxt) h0 h1 hok1 rfl rfl (Sx.argEnv_fb _ _)
    exact .cons e0 (.cons e1 .nil)
  obtain ⟨k,v,s',h,hv⟩ := Sx.law_walk (T := T) (U := Sx.U1) (p := ⟨Sx.S1,Sx.C14,77,0,fun _ => none⟩) (Sx.par_ok Sx.C14_ok _ _) (f := 14) (g := 39) (s := ⟨tree W a0 l0 a1 l1,nxt,[]⟩) (hfn.trans rfl) rfl rfl (by decide) (by decide) (by decide) rfl (Nat.le_of_ble_eq_true rfl) hd
    (aliveP39 _) (Sx.walk14 l0 hok0 (l1.map Sx.toPt) (pts_ok hok1))
  subst hv
  refine law_of_ev ok okFns mixed hfn rfl h (φ := phi a0 l0 a1 l1) (rel_nest h0 h1 hok1 _ _) (phi_new h1.2.1 h1.1) ?_
  exact .cons (h0.vrel (by rw [phi_at]; rfl)) (.cons (h1.vrel (by rw [phi_at]; rfl)) .nil)
theorem own14 : ownKnob Try.prog.godebug = none := by kernel_rfl
theorem laidOut14 : laidOutB Try.prog = true := by kernel_rfl
theorem lifted14 (os : Os) (started : os.Started) (H : Type) (enc : TypeId × Value → H) :
    ReturnsInHanded {} Try.checked os 14 .any (Rows.filesBackSpec.pre6 enc Try.prog Try.f14 Rows.filesBackRow.domain false) (Rows.filesBackSpec.post enc Try.prog Try.f14 false true false false) := by
  refine returnsInHanded_of_change_sized (C := Try.checked) own14 started (by kernel_rfl) Try.func14
    (ChangeSpec.witness6 (enc := enc) (C := Try.checked) false ⟨#[],#[.slice none 0 0,.slice none 0 0],[]⟩ 8 (by kernel_rfl) (by kernel_rfl) (by kernel_rfl) (by kernel_rfl)) ?_
  intro W base args ds gs before hval0 hW hcnd hsz0 _
  have hsz : (DataW.weightsEach Try.prog (Try.f14.params.toList ++ Rows.filesBackSpec.plain.varTypes Try.prog) (ds ++ gs)).all (· ≤ reachBytes) = true := hsz0
  have hval : ∀ (j : Nat) t v,Try.f14.params[j]? = some t → args[j]? = some v → Value.okWide Try.prog W .any base t v := hval0
  have hW' := hW
  obtain ⟨p,q,hA0,hV,rfl,hfz,hnd⟩ := hW
  have hA : DataW.TrodAll enc Try.prog W 0 (fun _ => true) true Try.f14.params.toList args.toList ds p := hA0
  rw [Try.params14] at hA hval hsz
  obtain ⟨v0,vs0,d0,ds0,p0,q0,hargs,rfl,rfl,h0,r0⟩ := trodAll_cons hA
  obtain ⟨v1,vs1,d1,ds1,p1,q1,rfl,rfl,rfl,h1,r1⟩ := trodAll_cons r0
  obtain ⟨rfl,rfl,rfl⟩ := trodAll_nil r1
  obtain rfl : args = #[v0,v1] := by cases args; simp_all
  obtain ⟨rfl,rfl⟩ := trodVars_none hV
  obtain ⟨a0,len0,cap0,rfl⟩ := okWide_slice Try.underlying57 (hval 0 57 v0 rfl rfl)
  have k0 := h0
  have lt0 : ∀ x ∈ p0,x.block < W.heap.size := by obtain ⟨m,hm⟩ := k0; exact DataW.trod_lt m _ _ _ hm
  have z0 : ∀ m ∈ d0.weights Try.prog 57,m ≤ reachBytes := fun m hm => by simpa using List.all_eq_true.1 hsz m (DataW.weights_mem_each (j := 0) (t := 57) rfl rfl m hm)
  obtain ⟨l0,ok0,hl0⟩ := handed (c := Fl.cells) Fl.Ok Try.underlying57 cells68 (by decide) (fun _ => rfl) bytes68 eltFl (hval 0 57 (.slice a0 len0 cap0) rfl rfl) h0 z0
  obtain ⟨a1,len1,cap1,rfl⟩ := okWide_slice Try.underlying59 (hval 1 59 v1 rfl rfl)
  have k1 := h1
  have lt1 : ∀ x ∈ p1,x.block < W.heap.size := by obtain ⟨m,hm⟩ := k1; exact DataW.trod_lt m _ _ _ hm
  have z1 : ∀ m ∈ d1.weights Try.prog 59,m ≤ reachBytes := fun m hm => by simpa using List.all_eq_true.1 hsz m (DataW.weights_mem_each (j := 1) (t := 59) rfl rfl m hm)
  obtain ⟨l1,ok1,hl1⟩ := handed (c := Hd.cells) (Hd.Ok W) Try.underlying59 cells119 (by decide) (fun _ => rfl) bytes119 eltHd (hval 1 59 (.slice a1 len1 cap1) rfl rfl) h1 z1
  refine (walk14 W a0 len0 cap0 l0 hl0 ok0 a1 len1 cap1 l1 hl1 ok1).mono fun e W' ⟨he,bel⟩ => ?_
  subst he
  exact ⟨_,rfl,_,_,_,[],_,[],hW',trodAll_mk1 (shut_bool Try.underlying4 _),(trodAll_cons_mk (Below.trod laidOut14 (by kernel_rfl) (of_decide_eq_true (by kernel_rfl)) k0 bel lt0) (trodAll_cons_mk (Below.trod laidOut14 (by kernel_rfl) (of_decide_eq_true (by kernel_rfl)) k1 bel lt1) trodAll_mk0)),rfl,bel.frame _,fun h => by cases h⟩
theorem over14 : Rows.filesBackRow.holds Try.pinned (OpenSpec.ofChange Rows.filesBackSpec) :=
  OpenClaim.holds_of_wide 14 Try.f14 rfl rfl rfl rfl rfl rfl rfl ⟨rfl,rfl,rfl,rfl,rfl⟩ rfl rfl rfl rfl rfl (by kernel_rfl) Try.func14 (by kernel_rfl)
    (of_decide_eq_true (by kernel_rfl)) (by unfold Func.isWrapper; first | (rw [if_pos (by decide +kernel)]; kernel_rfl) | (rw [if_neg (by decide +kernel)]; exact ⟨rfl,rfl⟩))
    (fun os started H enc _ => lifted14 os started H enc)
end Go.Ev.R1
namespace Go.Proofs.Ytelpkdjibjddlaa
theorem filesBack_holds : Rows.FilesBackSaid := Go.Ev.R1.over14
end Go.Proofs.Ytelpkdjibjddlaa
#print axioms Go.Proofs.Ytelpkdjibjddlaa.filesBack_holds

