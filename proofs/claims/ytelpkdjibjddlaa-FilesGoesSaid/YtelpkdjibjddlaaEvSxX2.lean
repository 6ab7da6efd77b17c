/-
  SX, PART X, once more: a law that puts one of its arguments into a box, and then asks its fixed fact.
-/
import Derived.Test.YtelpkdjibjddlaaEvSxX
namespace Go.Sx
open Go Go.Ev Go.RowKit
variable {U : Nat → Type} {T : Tab}
def boxEnv (t : Tree) (n N : Nat) (e : TypeId) (vs : List (SV U)) : Env U := ⟨fun _ => False,[some N],[.cells false e vs],t,n⟩
theorem boxEnv_live {t : Tree} {n N : Nat} {e : TypeId} {vs : List (SV U)} {M : Nat} (h : (boxEnv t n N e vs).fb M) : M = N := by
  rcases h with h | ⟨i,c,h,_⟩
  · exact h.elim
  · cases i with
    | zero => simp [boxEnv] at h; exact h.symm
    | succ i => simp [boxEnv] at h
theorem law_box {p : Par U} (P : ParOk T p) {f g : FuncId} {i0 i1 d00 d0 d1 d2 a0 : Nat} {be : TypeId} {ops0 ops1 : Array Oper} {A rest : Code} {rs : List ResultVar} {ty00 ty0 ty1 ty2 bt : TypeId} {ps00 ps0 ps1 ps2 : String} {e00 e0 e1 e2 : Array Edge} {ts : Array TypeId}
    (hF : T.fn f = some ⟨p.nt,.seq (.region i0 ops0 false) (.seq (.seq (.region i1 ops1 false) (.cond (.tmp d2) A .skip)) rest),rs⟩)
    (h0 : ops0.toList = [⟨some d00,.box be (.tmp a0),ty00,ps00,e00,none⟩,⟨some d0,.assign (.const (.bool false)),ty0,ps0,e0,none⟩])
    (h1 : ops1.toList = [⟨some d1,.call ⟨.value (.func g),#[],ts⟩,ty1,ps1,e1,none⟩,⟨some d2,.unOp .not bt (.tmp d1),ty2,ps2,e2,none⟩])
    (hd00 : d00 < p.nt) (hd0 : d0 < p.nt) (hd1 : d1 < p.nt) (hd2 : d2 < p.nt)
    {args : List (SV U)} {vals : List Value} {s : St} (hm : p.m = 0) (hn : args.length ≤ p.nt) (hd : DenL p.S (argEnv s.t s.next) args vals)
    {cs : List Value} {vs : List (SV U)} (hbox : ∀ fr : Fr,fr.eval (.tmp a0) = vals.getD a0 Go.undef → evPlain T fr.eval (.box be (.tmp a0)) s = some (.pointer (some ⟨s.next,0,none⟩),{ s with t := s.t.set s.next (some (.cells cs be 0)),next := s.next + 1 })) (ha0 : a0 < vals.length)
    (hvs : ∀ X : Env U,DenL p.S X vs cs)
    (hal : EndsPure T g [] ⟨s.t.set s.next (some (.cells cs be 0)),s.next + 1,s.mods⟩ fun v _ _ => v = .bool true)
    (h : wp p rest ((d2,.bool false) :: (d1,.bool true) :: (d0,.bool false) :: (d00,.ptr 0 0) :: frm0 0 args) [.cells false be vs] (fin p rs fun v _ => v = .bool true)) :
    EndsCall T f vals s fun v _ => v = .bool true := by
  have hlen : (vals ++ List.replicate (p.nt - vals.length) Go.undef).length = p.nt := by
    have := hd.len
    simp; omega
  refine EndsCall.of hF ?_
  refine Ends.seq (Ends.region ?_)
  rw [h0]
  refine EndsOps.plain1 (v := .pointer (some ⟨s.next,0,none⟩)) (s1 := { s with t := s.t.set s.next (some (.cells cs be 0)),next := s.next + 1 }) rfl (hbox _ ?_) (fun _ _ _ hh => by cases hh) rfl ?_
  · show (vals ++ List.replicate (p.nt - vals.length) Go.undef).getD a0 Go.undef = _
    simp [List.getD,List.getElem?_append_left ha0]
  refine EndsOps.plain1 (v := .bool false) (s1 := { s with t := s.t.set s.next (some (.cells cs be 0)),next := s.next + 1 }) rfl rfl (fun _ _ _ hh => by cases hh) rfl (EndsOps.nil ?_)
  refine Ends.seq (Ends.seq (Ends.region ?_))
  rw [h1]
  refine EndsOps.call1 (as := []) (g := g) (a := #[]) (c := #[]) (R := fun v s' => Keep ⟨s.t.set s.next (some (.cells cs be 0)),s.next + 1,s.mods⟩ s' ∧ v = .bool true) rfl rfl rfl rfl hal fun v s1 ⟨hk,hv⟩ => ?_
  subst hv
  have hg : ∀ (l : List Value) (d : Nat) (v : Value),d < l.length → (l.set d v).getD d Go.undef = v := fun l d v hl => by simp [List.getD,hl]
  refine EndsOps.plain1 (v := .bool false) (s1 := s1) rfl ?_ (fun _ _ _ hh => by cases hh) rfl (EndsOps.nil ?_)
  · show evPlain T _ (.unOp .not bt (.tmp d1)) s1 = _
    simp only [evPlain,Fr.eval,Fr.put]
    rw [hg _ _ _ (by simp only [List.length_set,hlen]; exact hd1)]
    rfl
  refine Ends.cond (t := false) ?_ (Ends.skip ?_)
  · simp only [Fr.eval,Fr.put]
    rw [hg _ _ _ (by simp only [List.length_set,hlen]; exact hd2)]
  have kn : s.next + 1 ≤ s1.next := hk.next
  have ko : ∀ N,N < s.next + 1 → s1.t.get N = (s.t.set s.next (some (.cells cs be 0))).get N := hk.old
  generalize hX : boxEnv s1.t s1.next s.next be vs = X
  have hXR : HRel p.S X := by
    subst hX
    refine ⟨rfl,fun i c N e1 e2 => ?_,fun i j N e1 e2 => ?_,fun i N e1 => ?_,fun N hN => hN.elim⟩
    · cases i with
      | zero =>
        simp [boxEnv] at e1 e2; subst e1 e2
        exact ⟨s.next,cs,rfl,by show s1.t.get s.next = _; rw [ko _ (Nat.lt_succ_self _),Tree.get_set_same],hvs _,by show s.next < s1.next; omega,fun h => by cases h⟩
      | succ i => simp [boxEnv] at e1
    · cases i with
      | zero =>
        cases j with
        | zero => rfl
        | succ j => simp [boxEnv] at e2
      | succ i => simp [boxEnv] at e1
    · cases i with
      | zero => simp [boxEnv] at e1; subst e1; exact ⟨by show s.next < s1.next; omega,fun h => h⟩
      | succ i => simp [boxEnv] at e1
  have hL : Later (argEnv (U := U) s.t s.next) X := by
    subst hX
    refine ⟨fun i N h => by simp [argEnv] at h,fun i c h => by simp [argEnv] at h,fun N hN _ => ⟨?_,fun h => ?_⟩,by show s.next ≤ s1.next; omega⟩
    · have hN : N < s.next := hN
      show s1.t.get N = s.t.get N
      rw [ko N (by omega),Tree.get_set_ne _ _ (by omega)]
    · have hN : N < s.next := hN
      have := boxEnv_live h; omega
  have hptr : Den p.S X (.ptr 0 0) (.pointer (some ⟨s.next,0,none⟩)) := by subst hX; exact .ptr rfl .nil
  have hfrm : FrmOk p.S X ((d2,.bool false) :: (d1,.bool true) :: (d0,.bool false) :: (d00,.ptr 0 0) :: frm0 0 args) (((((vals ++ List.replicate (p.nt - vals.length) Go.undef).set d00 (.pointer (some ⟨s.next,0,none⟩))).set d0 (.bool false)).set d1 (.bool true)).set d2 (.bool false)) := by
    have b : ∀ (q : Bool),Den p.S X (.bool q) (.bool q) := fun q => .bool .nil
    exact FrmOk.put (FrmOk.put (FrmOk.put (FrmOk.put (frm0_ok (hd.later hL) _) (by rw [hlen]; exact hd00) hptr) (by simp only [List.length_set,hlen]; exact hd0) (b _)) (by simp only [List.length_set,hlen]; exact hd1) (b _)) (by simp only [List.length_set,hlen]; exact hd2) (b _)
  have hR : Rl p.S p.nt [] X ((d2,.bool false) :: (d1,.bool true) :: (d0,.bool false) :: (d00,.ptr 0 0) :: frm0 0 args) ⟨((((vals ++ List.replicate (p.nt - vals.length) Go.undef).set d00 (.pointer (some ⟨s.next,0,none⟩))).set d0 (.bool false)).set d1 (.bool true)).set d2 (.bool false),[]⟩ s1 :=
    ⟨by subst hX; rfl,by subst hX; rfl,hXR,hfrm,by simp only [List.length_set,hlen],rfl,.nil,fun _ h => by cases h⟩
  have hT : Tr p.m X s1 X s1 := by rw [hm]; exact ⟨rfl,Nat.le_refl _,fun _ _ h => h,⟨[],rfl,(fun _ h => by cases h),fun _ _ _ => rfl⟩,fun i hi => absurd hi (Nat.not_lt_zero _)⟩
  have hH : X.H = [.cells false be vs] := by subst hX; rfl
  rw [← hH] at h
  refine (wp_sound rest (P.r _ s1) (.inl rfl) hR hT h).mono fun e fr s2 ⟨dq1,F,Y1,k1,kR,kT,kq,_⟩ => ?_
  obtain ⟨s3,Y,yH,hfin,k2,k3⟩ := done_of kR kT fun D hD => (kq D hD).resolve_left (by simp)
  rw [← yH] at k1
  have he : isExit e = false := by cases e with
    | exit i => exact k1.elim
    | _ => rfl
  have k1 : resS p.S F Y.H rs fun l => resV Y.H (valS l) fun v H => bif below p.m v && Nat.beq p.m 0 then v = .bool true else False := by
    cases e with
    | exit i => cases he
    | _ => exact k1
  obtain ⟨l,vals',g1,g3,g4⟩ := resS_sound P.ok k2.rel k2.frm k1
  obtain ⟨v,H',q1,q2,q3⟩ := resV_sound k2.rel g1 (valS_den g3)
  obtain ⟨hb,hK⟩ := bif_true q1
  subst hK
  refine ⟨_,s3,finish_of he (by rw [kR.dfs]; exact hfin) (g4 s3 k2.t.symm),?_⟩
  generalize valOf vals' = w at q3 ⊢
  cases q3 with
  | bool _ => rfl
end Go.Sx

