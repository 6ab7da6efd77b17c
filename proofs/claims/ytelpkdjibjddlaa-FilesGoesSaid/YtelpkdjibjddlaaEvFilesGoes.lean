/-
  FilesGoes: where any byte of a workspace goes.
-/
import Derived.Test.YtelpkdjibjddlaaEvF5
import Derived.Test.YtelpkdjibjddlaaEvNest2
namespace Go.Ev.R1
open Go Go.Ev Go.Proofs Go.Proofs.Ytelpkdjibjddlaa Go.ChangeShapes Go.WideShapes Go.ChangeAt Go.RowKit
open Go.ChangeMaps (open_string shut_string)
set_option maxRecDepth 100000
theorem box81 {ev : Operand → Value} (s : St) {a b : Int} (h : ev (.tmp 2) = .agg ⟨[.int .i64 a,.int .i64 b]⟩) : evPlain T ev (.box 81 (.tmp 2)) s = some (.pointer (some ⟨s.next,0,none⟩),{ s with t := s.t.set s.next (some (.cells [.int .i64 a,.int .i64 b] 81 0)),next := s.next + 1 }) := by
  simp only [evPlain]
  rw [h]
  kernel_rfl
theorem pts_ok {W : World} {l1 : List Hd} (hok : ∀ y ∈ l1,y.Ok W) : ∀ p ∈ l1.map Sx.toPt,Sx.POk p := fun p hp => by
  obtain ⟨y,hy,rfl⟩ := List.mem_map.1 hp
  exact ⟨(hok y hy).nm,fun e he => ((hok y hy).es e he).tx⟩
theorem walk12 (W : World) (a0 : Option Addr) (len0 cap0 : Nat) (l0 : List Fl) (h0 : Handed Fl.cells 2 W a0 len0 cap0 l0) (hok0 : ∀ f ∈ l0,f.Ok) (a1 : Option Addr) (len1 cap1 : Nat) (l1 : List Hd) (h1 : Handed Hd.cells 2 W a1 len1 cap1 l1) (hok1 : ∀ y ∈ l1,y.Ok W) (a b : Int) :
    Calls Try.prog 12 #[.slice a0 len0 cap0,.slice a1 len1 cap1,.agg ⟨[.int .i64 a,.int .i64 b]⟩] W fun e w' => e = .returned (.bool true) ∧ Below W.heap.size W w' := by
  have hfn : T.fn 12 = some ⟨47,(Try.f12.body).getD .skip,[.tmp 6]⟩ := by kernel_rfl
  have hd : Sx.DenL Sx.S1 (Sx.argEnv (tree W a0 l0 a1 l1) nxt) [.sl 1 l0,.sl 4 (l1.map Sx.toPt),.agg [.int .i64 a,.int .i64 b]] [.slice (argSlice (nameAt dep 0) a0) l0.length cap0,.slice (argSlice (nameAt dep 1) a1) l1.length cap1,.agg ⟨[.int .i64 a,.int .i64 b]⟩] := by
    obtain ⟨e0,e1⟩ := Sx.nest_den (X := Sx.argEnv (tree W a0 l0 a1 l1) nxt) h0 h1 hok1 rfl rfl (Sx.argEnv_fb _ _)
    exact .cons e0 (.cons e1 (.agg (.int (.int .nil)) .nil))
  obtain ⟨k,v,s',h,hv⟩ := Sx.law_box (T := T) (U := Sx.U1) (p := ⟨Sx.S1,Sx.C12,47,0,fun _ => none⟩) (Sx.par_ok Sx.C12_ok _ _) (f := 12) (g := 39) (s := ⟨tree W a0 l0 a1 l1,nxt,[]⟩) (hfn.trans rfl) rfl rfl (by decide) (by decide) (by decide) (by decide) rfl (Nat.le_of_ble_eq_true rfl) hd
    (cs := [.int .i64 a,.int .i64 b]) (vs := [.int .i64 a,.int .i64 b]) (fun fr hfr => box81 _ (hfr.trans rfl)) (Nat.le_of_ble_eq_true rfl) (fun X => .int (.int .nil)) (aliveP39b _ _ _) (Sx.walk12 l0 hok0 (l1.map Sx.toPt) (pts_ok hok1) a b)
  subst hv
  refine law_of_ev ok okFns mixed hfn rfl h (φ := phi a0 l0 a1 l1) (rel_nest h0 h1 hok1 _ _) (phi_new h1.2.1 h1.1) ?_
  refine .cons (h0.vrel (by rw [phi_at]; rfl)) (.cons (h1.vrel (by rw [phi_at]; rfl)) (.cons ?_ .nil))
  exact Flat.vrel (.agg _ fun i v hv => by
    rcases i with _ | _ | i
    · simp at hv; subst hv; exact .int _ _
    · simp at hv; subst hv; exact .int _ _
    · simp at hv)
theorem cells81 : Try.prog.cellsOf 81 = 2 := by kernel_rfl
theorem eltPos {H : Type} {enc : TypeId × Value → H} {w : World} : ∀ cs n x,DataW.trod enc Try.prog w 0 (fun _ => true) true n 81 cs = some x → ∃ a b,cs = [.int .i64 a,.int .i64 b] := by
  intro cs n x h
  obtain ⟨xs,n',rfl,rfl,hcs,hxs,hf⟩ := DataW.trod_struct Try.underlying81 h
  rw [cells81] at hcs
  have g0 := hf 0 _ rfl
  have g1 := hf 1 _ rfl
  match xs,hxs,cs,hcs with
  | [y0,y1],_,[v0,v1],_ =>
    simp [cells3] at g0 g1
    obtain ⟨a,ha,_,_⟩ := DataW.trod_int Try.underlying3 g0
    obtain ⟨b,hb,_,_⟩ := DataW.trod_int Try.underlying3 g1
    simp at ha hb
    subst ha hb
    exact ⟨a,b,rfl⟩
theorem own12 : ownKnob Try.prog.godebug = none := by kernel_rfl
theorem laidOut12 : laidOutB Try.prog = true := by kernel_rfl
theorem lifted12 (os : Os) (started : os.Started) (H : Type) (enc : TypeId × Value → H) :
    ReturnsInHanded {} Try.checked os 12 .any (Rows.filesGoesSpec.pre6 enc Try.prog Try.f12 Rows.filesGoesRow.domain false) (Rows.filesGoesSpec.post enc Try.prog Try.f12 false true false false) := by
  refine returnsInHanded_of_change_sized (C := Try.checked) own12 started (by kernel_rfl) Try.func12
    (ChangeSpec.witness6 (enc := enc) (C := Try.checked) false ⟨#[],#[.slice none 0 0,.slice none 0 0,.agg #[.int .i64 0,.int .i64 0]],[]⟩ 8 (by kernel_rfl) (by kernel_rfl) (by kernel_rfl) (by kernel_rfl)) ?_
  intro W base args ds gs before hval0 hW hcnd hsz0 _
  have hsz : (DataW.weightsEach Try.prog (Try.f12.params.toList ++ Rows.filesGoesSpec.plain.varTypes Try.prog) (ds ++ gs)).all (· ≤ reachBytes) = true := hsz0
  have hval : ∀ (j : Nat) t v,Try.f12.params[j]? = some t → args[j]? = some v → Value.okWide Try.prog W .any base t v := hval0
  have hW' := hW
  obtain ⟨p,q,hA0,hV,rfl,hfz,hnd⟩ := hW
  have hA : DataW.TrodAll enc Try.prog W 0 (fun _ => true) true Try.f12.params.toList args.toList ds p := hA0
  rw [Try.params12] at hA hval hsz
  obtain ⟨v0,vs0,d0,ds0,p0,q0,hargs,rfl,rfl,h0,r0⟩ := trodAll_cons hA
  obtain ⟨v1,vs1,d1,ds1,p1,q1,rfl,rfl,rfl,h1,r1⟩ := trodAll_cons r0
  obtain ⟨v2,vs2,d2,ds2,p2,q2,rfl,rfl,rfl,h2,r2⟩ := trodAll_cons r1
  obtain ⟨rfl,rfl,rfl⟩ := trodAll_nil r2
  obtain rfl : args = #[v0,v1,v2] := by cases args; simp_all
  obtain ⟨rfl,rfl⟩ := trodVars_none hV
  obtain ⟨a0,len0,cap0,rfl⟩ := okWide_slice Try.underlying57 (hval 0 57 v0 rfl rfl)
  have k0 := h0
  have lt0 : ∀ x ∈ p0,x.block < W.heap.size := by obtain ⟨m,hm⟩ := k0; exact DataW.trod_lt m _ _ _ hm
  have z0 : ∀ m ∈ d0.weights Try.prog 57,m ≤ reachBytes := fun m hm => by simpa using List.all_eq_true.1 hsz m (DataW.weights_mem_each (j := 0) (t := 57) rfl rfl m hm)
  obtain ⟨l0,ok0,hl0⟩ := handed (c := Fl.cells) Fl.Ok Try.underlying57 cells68 (by decide) (fun _ => rfl) bytes68 eltFl (hval 0 57 (.slice a0 len0 cap0) rfl rfl) h0 z0
  obtain ⟨a1,len1,cap1,rfl⟩ := okWide_slice Try.underlying59 (hval 1 59 v1 rfl rfl)
  have k1 := h1
  have lt1 : ∀ x ∈ p1,x.block < W.heap.size := by obtain ⟨m,hm⟩ := k1; exact DataW.trod_lt m _ _ _ hm
  have z1 : ∀ m ∈ d1.weights Try.prog 59,m ≤ reachBytes := fun m hm => by simpa using List.all_eq_true.1 hsz m (DataW.weights_mem_each (j := 1) (t := 59) rfl rfl m hm)
  obtain ⟨l1,ok1,hl1⟩ := handed (c := Hd.cells) (Hd.Ok W) Try.underlying59 cells119 (by decide) (fun _ => rfl) bytes119 eltHd (hval 1 59 (.slice a1 len1 cap1) rfl rfl) h1 z1
  have k2 := h2
  have lt2 : ∀ x ∈ p2,x.block < W.heap.size := by obtain ⟨m,hm⟩ := k2; exact DataW.trod_lt m _ _ _ hm
  have hv2 : ∃ a b,v2 = .agg ⟨[.int .i64 a,.int .i64 b]⟩ := by
    have hs := hval 2 81 v2 rfl rfl
    simp only [Value.okWide,Try.underlying81] at hs
    obtain ⟨cs,rfl,_,_⟩ := hs
    obtain ⟨m,hm⟩ := h2
    obtain ⟨a,b,hab⟩ := eltPos _ _ _ hm
    exact ⟨a,b,by obtain ⟨cs⟩ := cs; have : cs = [.int .i64 a,.int .i64 b] := hab; rw [this]⟩
  obtain ⟨a2,b2,rfl⟩ := hv2
  refine (walk12 W a0 len0 cap0 l0 hl0 ok0 a1 len1 cap1 l1 hl1 ok1 a2 b2).mono fun e W' ⟨he,bel⟩ => ?_
  subst he
  exact ⟨_,rfl,_,_,_,[],_,[],hW',trodAll_mk1 (shut_bool Try.underlying4 _),(trodAll_cons_mk (Below.trod laidOut12 (by kernel_rfl) (of_decide_eq_true (by kernel_rfl)) k0 bel lt0) (trodAll_cons_mk (Below.trod laidOut12 (by kernel_rfl) (of_decide_eq_true (by kernel_rfl)) k1 bel lt1) (trodAll_cons_mk (Below.trod laidOut12 (by kernel_rfl) (of_decide_eq_true (by kernel_rfl)) k2 bel lt2) trodAll_mk0))),rfl,bel.frame _,fun h => by cases h⟩
theorem over12 : Rows.filesGoesRow.holds Try.pinned (OpenSpec.ofChange Rows.filesGoesSpec) :=
  OpenClaim.holds_of_wide 12 Try.f12 rfl rfl rfl rfl rfl rfl rfl ⟨rfl,rfl,rfl,rfl,rfl⟩ rfl rfl rfl rfl rfl (by kernel_rfl) Try.func12 (by kernel_rfl)
    (of_decide_eq_true (by kernel_rfl)) (by unfold Func.isWrapper; first | (rw [if_pos (by decide +kernel)]; kernel_rfl) | (rw [if_neg (by decide +kernel)]; exact ⟨rfl,rfl⟩))
    (fun os started H enc _ => lifted12 os started H enc)
end Go.Ev.R1
namespace Go.Proofs.Ytelpkdjibjddlaa
theorem filesGoes_holds : Rows.FilesGoesSaid := Go.Ev.R1.over12
end Go.Proofs.Ytelpkdjibjddlaa
#print axioms Go.Proofs.Ytelpkdjibjddlaa.filesGoes_holds

