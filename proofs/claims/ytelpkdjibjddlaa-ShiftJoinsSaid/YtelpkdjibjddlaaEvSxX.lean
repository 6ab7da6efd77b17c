/-
  SX, PART X: a law: its fixed fact by the kernel, the rest by the walk.
-/
import Derived.Test.YtelpkdjibjddlaaEvSxP
namespace Go.Sx
open Go Go.Ev Go.RowKit
variable {U : Nat → Type} {T : Tab}
def argEnv (t : Tree) (n : Nat) : Env U := ⟨fun _ => False,[],[],t,n⟩
theorem argEnv_rel (S : Sys U) (t : Tree) (n : Nat) : HRel S (argEnv (U := U) t n) := ⟨rfl,fun i c N h => by simp [argEnv] at h,fun i j N h => by simp [argEnv] at h,fun i N h => by simp [argEnv] at h,fun N hN => hN.elim⟩
theorem argEnv_fb (t : Tree) (n N : Nat) : ¬ (argEnv (U := U) t n).fb N := fun h => by
  rcases h with h | ⟨i,c,h,_⟩
  · exact h
  · simp [argEnv] at h
theorem law_walk {p : Par U} (P : ParOk T p) {f g : FuncId} {i0 i1 d0 d1 d2 : Nat} {ops0 ops1 : Array Oper} {A rest : Code} {rs : List ResultVar} {ty0 ty1 ty2 bt : TypeId} {ps0 ps1 ps2 : String} {e0 e1 e2 : Array Edge} {ts : Array TypeId}
    (hF : T.fn f = some ⟨p.nt,.seq (.region i0 ops0 false) (.seq (.seq (.region i1 ops1 false) (.cond (.tmp d2) A .skip)) rest),rs⟩)
    (h0 : ops0.toList = [⟨some d0,.assign (.const (.bool false)),ty0,ps0,e0,none⟩])
    (h1 : ops1.toList = [⟨some d1,.call ⟨.value (.func g),#[],ts⟩,ty1,ps1,e1,none⟩,⟨some d2,.unOp .not bt (.tmp d1),ty2,ps2,e2,none⟩])
    (hd0 : d0 < p.nt) (hd1 : d1 < p.nt) (hd2 : d2 < p.nt)
    {args : List (SV U)} {vals : List Value} {s : St} (hm : p.m = 0) (hn : args.length ≤ p.nt) (hd : DenL p.S (argEnv s.t s.next) args vals)
    (hal : EndsPure T g [] s fun v _ _ => v = .bool true)
    (h : wp p rest ((d2,.bool false) :: (d1,.bool true) :: (d0,.bool false) :: frm0 0 args) [] (fin p rs fun v _ => v = .bool true)) :
    EndsCall T f vals s fun v _ => v = .bool true := by
  have hlen : (vals ++ List.replicate (p.nt - vals.length) Go.undef).length = p.nt := by
    have := hd.len
    simp; omega
  refine EndsCall.of hF ?_
  refine Ends.seq (Ends.region ?_)
  rw [h0]
  refine EndsOps.plain1 (v := .bool false) (s1 := s) rfl rfl (fun _ _ _ hh => by cases hh) rfl (EndsOps.nil ?_)
  refine Ends.seq (Ends.seq (Ends.region ?_))
  rw [h1]
  refine EndsOps.call1 (as := []) (g := g) (a := #[]) (c := #[]) (R := fun v s' => Keep s s' ∧ v = .bool true) rfl rfl rfl rfl hal fun v s1 ⟨hk,hv⟩ => ?_
  subst hv
  have hg : ∀ (l : List Value) (d : Nat) (v : Value),d < l.length → (l.set d v).getD d Go.undef = v := fun l d v hl => by simp [List.getD,hl]
  refine EndsOps.plain1 (v := .bool false) (s1 := s1) rfl ?_ (fun _ _ _ hh => by cases hh) rfl (EndsOps.nil ?_)
  · show evPlain T _ (.unOp .not bt (.tmp d1)) s1 = _
    simp only [evPlain,Fr.eval,Fr.put]
    rw [hg _ _ _ (by simp only [List.length_set,hlen]; exact hd1)]
    rfl
  refine Ends.cond (t := false) ?_ (Ends.skip ?_)
  · simp only [Fr.eval,Fr.put]
    rw [hg _ _ _ (by simp only [List.length_set,hlen]; exact hd2)]
  -- the rest
  have hL : Later (argEnv (U := U) s.t s.next) (argEnv s1.t s1.next) := ⟨fun i N h => by simp [argEnv] at h,fun i c h => by simp [argEnv] at h,fun N hN _ => ⟨hk.old N hN,argEnv_fb _ _ _⟩,hk.next⟩
  have hfrm : FrmOk p.S (argEnv s1.t s1.next) ((d2,.bool false) :: (d1,.bool true) :: (d0,.bool false) :: frm0 0 args) ((((vals ++ List.replicate (p.nt - vals.length) Go.undef).set d0 (.bool false)).set d1 (.bool true)).set d2 (.bool false)) := by
    have b : ∀ (q : Bool),Den p.S (argEnv (U := U) s1.t s1.next) (.bool q) (.bool q) := fun q => .bool .nil
    exact FrmOk.put (FrmOk.put (FrmOk.put (frm0_ok (hd.later hL) _) (by rw [hlen]; exact hd0) (b _)) (by simp only [List.length_set,hlen]; exact hd1) (b _)) (by simp only [List.length_set,hlen]; exact hd2) (b _)
  have hR : Rl p.S p.nt [] (argEnv s1.t s1.next) ((d2,.bool false) :: (d1,.bool true) :: (d0,.bool false) :: frm0 0 args) ⟨(((vals ++ List.replicate (p.nt - vals.length) Go.undef).set d0 (.bool false)).set d1 (.bool true)).set d2 (.bool false),[]⟩ s1 :=
    ⟨rfl,rfl,argEnv_rel _ _ _,hfrm,by simp only [List.length_set,hlen],rfl,.nil,fun _ h => by cases h⟩
  have hT : Tr p.m (argEnv (U := U) s1.t s1.next) s1 (argEnv s1.t s1.next) s1 := by rw [hm]; exact Tr.refl (argEnv_rel p.S s1.t s1.next) s1
  refine (wp_sound rest (P.r _ s1) (.inl rfl) hR hT h).mono fun e fr s2 ⟨dq1,F,Y1,k1,kR,kT,kq,_⟩ => ?_
  obtain ⟨s3,Y,yH,hfin,k2,k3⟩ := done_of kR kT fun D hD => (kq D hD).resolve_left (by simp)
  rw [← yH] at k1
  have he : isExit e = false := by cases e with
    | exit i => exact k1.elim
    | _ => rfl
  have k1 : resS p.S F Y.H rs fun l => resV Y.H (valS l) fun v H => bif below p.m v && Nat.beq p.m 0 then v = .bool true else False := by
    cases e with
    | exit i => cases he
    | _ => exact k1
  obtain ⟨l,vals',g1,g3,g4⟩ := resS_sound P.ok k2.rel k2.frm k1
  obtain ⟨v,H',q1,q2,q3⟩ := resV_sound k2.rel g1 (valS_den g3)
  obtain ⟨hb,hK⟩ := bif_true q1
  subst hK
  refine ⟨_,s3,finish_of he (by rw [kR.dfs]; exact hfin) (g4 s3 k2.t.symm),?_⟩
  generalize valOf vals' = w at q3 ⊢
  cases q3 with
  | bool _ => rfl
end Go.Sx

