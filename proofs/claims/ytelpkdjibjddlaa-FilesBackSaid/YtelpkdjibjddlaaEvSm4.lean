/-
  SX: the edits that lead back, by the program and by the document.
-/
import Derived.Test.YtelpkdjibjddlaaEvSm1
namespace Go.Sx
open Go Go.Ev Go.RowKit Go.Proofs
set_option maxRecDepth 100000
set_option maxHeartbeats 4000000
def sp72 : Spec U1 := ⟨false,false,fun H args K => match args with
  | [.sl 0 l] => K (.int .i64 (W (growS l))) H
  | _ => False⟩
theorem k72 : SpecOk R1.T S1 72 sp72 := by
  intro H args K h; unfold sp72 at h; dsimp only at h; split at h
  · rename_i l
    refine st C0_ok (by kernel_rfl : R1.T.fn 72 = some ⟨25,Try.f72.body.getD .skip,[.tmp 2]⟩) rfl rfl ?_
    (((repeat' ((conv => whnf); all_goals first | assumption | with_reducible exact True.intro | with_reducible apply And.intro | (intro q; first | (exfalso; exact Bool.noConfusion q) | (exfalso; with_reducible exact q rfl) | subst q | (replace q : false = false := q; clear q) | (replace q : true = true := q; clear q) | (revert q; intro)) | ((with_reducible show _ = _); exact rfl))); all_goals try (conv => whnf); all_goals simp only [eq_self,true_iff,Bool.false_eq_true,false_iff,ed_eta,fl_eta,pt_eta,B_mk,Int.toNat_natCast] at *; all_goals (try contradiction); all_goals try (refine Chk.mk ?_; omega)))
    refine ⟨Nat × Int,fun y => ([(3,.int .i64 y.2),(6,.sl 0 l),(7,.int .i64 l.length),(8,.int .i64 y.1)],[]),fun y => y.1 ≤ l.length ∧ y.2 = W (growS (l.take y.1)),fun y => l.length - y.1,(0,0),⟨Nat.zero_le _,rfl⟩,?_,?_⟩
    · (repeat' ((conv => whnf); all_goals first | assumption | with_reducible exact True.intro | with_reducible apply And.intro | ((with_reducible show _ = _); exact rfl) | omega | trivial))
    · intro ⟨i,g⟩ ⟨hi,hg⟩
      dsimp only at hi hg
      (((repeat' ((conv => whnf); all_goals first | assumption | with_reducible exact True.intro | with_reducible apply And.intro | (intro q; first | (exfalso; exact Bool.noConfusion q) | (exfalso; with_reducible exact q rfl) | subst q | (replace q : false = false := q; clear q) | (replace q : true = true := q; clear q) | (revert q; intro)) | ((with_reducible show _ = _); exact rfl))); all_goals try (conv => whnf); all_goals simp only [eq_self,true_iff,Bool.false_eq_true,false_iff,ed_eta,fl_eta,pt_eta,B_mk,Int.toNat_natCast] at *; all_goals (try contradiction); all_goals try (refine Chk.mk ?_; omega)))
      · rename_i e he _ _ _ hw _
        rw [hw (by omega)]
        refine ⟨(i + 1,_),by simp only; omega,⟨by simp only; omega,?_⟩,by (repeat' ((conv => whnf); all_goals first | assumption | with_reducible exact True.intro | with_reducible apply And.intro | ((with_reducible show _ = _); exact rfl) | omega | trivial))⟩
        simp only
        rw [growS_step he,hg]
        show W _ = W _
        simp only [W_def,wr]
        omega
      · have : i = l.length := by omega
        subst this
        rw [List.take_length] at hg
        subst hg
        exact h
  · exact h.elim
def sp69 : Spec U1 := ⟨false,false,fun H args K => match args with
  | [.str x,.sl 0 l] => Chk (x.length ≤ 140737488351232) ∧ (mayC x.length l = 0 → K .nilI H) ∧ (¬ mayC x.length l = 0 → K (.iface 37 (.int .i64 (mayC x.length l))) H)
  | _ => False⟩
theorem k69 : SpecOk R1.T S1 69 sp69 := by
  intro H args K h; unfold sp69 at h; dsimp only at h; split at h
  · rename_i x l
    obtain ⟨hx,h1,h2⟩ := h
    replace hx := hx.out
    refine st (addC_ok k35 (addC_ok k72 C0_ok)) (by kernel_rfl : R1.T.fn 69 = some ⟨20,Try.f69.body.getD .skip,[.tmp 4]⟩) rfl rfl ?_
    (((repeat' ((conv => whnf); all_goals first | assumption | with_reducible exact True.intro | with_reducible apply And.intro | (intro q; first | (exfalso; exact Bool.noConfusion q) | (exfalso; with_reducible exact q rfl) | subst q | (replace q : false = false := q; clear q) | (replace q : true = true := q; clear q) | (revert q; intro)) | ((with_reducible show _ = _); exact rfl))); all_goals try (conv => whnf); all_goals simp only [eq_self,true_iff,Bool.false_eq_true,false_iff,ed_eta,fl_eta,pt_eta,B_mk,Int.toNat_natCast] at *; all_goals (try contradiction); all_goals try (refine Chk.mk ?_; omega)))
    · rename_i hR hw
      rw [may4 hR hw] at h2; exact h2 (by decide)
    · rename_i hR hw
      exact h1 (mayOk hR hw)
    · rename_i hR
      rw [may2 hR] at h2; exact h2 (by decide)
  · exact h.elim
def sp31 : Spec U1 := ⟨false,false,fun H args K => match args with
  | [.str x,.sl 0 l] => Chk (x.length ≤ 140737488351232) ∧ Chk (x.length + sumT l ≤ 1000000) ∧ Chk (l.length ≤ 1000) ∧ (¬ mayC x.length l = 0 → K (.tup [.nilS,.iface 37 (.int .i64 (mayC x.length l))]) H) ∧
    (mayC x.length l = 0 → Right (invS ⟨⟨x⟩⟩ l) (W (x.length + W (growS l))) → K (.tup [.sl 0 (invS ⟨⟨x⟩⟩ l),.nilI]) H) ∧ (mayC x.length l = 0 → ¬ Right (invS ⟨⟨x⟩⟩ l) (W (x.length + W (growS l))) → K (.tup [.nilS,.iface 37 (.int .i64 6)]) H)
  | _ => False⟩
abbrev C31 := addC 69 sp69 (addC 35 spRight C0)
theorem C31_ok : COk C31 := addC_ok k69 (addC_ok k35 C0_ok)
theorem k31 : SpecOk R1.T S1 31 sp31 := by
  intro H args K h; unfold sp31 at h; dsimp only at h; split at h
  · rename_i x l
    obtain ⟨hx,hS,hl,h1,h2,h3⟩ := h
    replace hx := hx.out
    replace hS := hS.out
    replace hl := hl.out
    refine st C31_ok (by kernel_rfl : R1.T.fn 31 = some ⟨66,Try.f31.body.getD .skip,[.tmp 4,.tmp 5]⟩) rfl rfl ?_
    (((repeat' ((conv => whnf); all_goals first | assumption | with_reducible exact True.intro | with_reducible apply And.intro | (intro q; first | (exfalso; exact Bool.noConfusion q) | (exfalso; with_reducible exact q rfl) | subst q | (replace q : false = false := q; clear q) | (replace q : true = true := q; clear q) | (revert q; intro)) | ((with_reducible show _ = _); exact rfl))); all_goals try (conv => whnf); all_goals simp only [eq_self,true_iff,Bool.false_eq_true,false_iff,ed_eta,fl_eta,pt_eta,B_mk,Int.toNat_natCast] at *; all_goals (try contradiction); all_goals try (refine Chk.mk ?_; omega)))
    · exact Chk.mk hx
    · rename_i h0 hL
      obtain ⟨hR,_⟩ := may0 h0
      refine ⟨Nat × List Ed × Int,fun y => ([(0,.str x),(1,.sl 0 l),(7,.ol 0),(8,.int .i64 y.2.2),(17,.sl 0 l),(18,.int .i64 l.length),(19,.int .i64 y.1)],[.list false false 97 0 y.2.1]),fun y => y.1 ≤ l.length ∧ (y.2.1,y.2.2) = invF ⟨⟨x⟩⟩ (l.take y.1),fun y => l.length - y.1,(0,[],0),⟨Nat.zero_le _,rfl⟩,?_,?_⟩
      · (repeat' ((conv => whnf); all_goals first | assumption | with_reducible exact True.intro | with_reducible apply And.intro | ((with_reducible show _ = _); exact rfl) | omega | trivial))
      · intro ⟨i,o,b⟩ ⟨hi,hp⟩
        dsimp only at hi hp
        have hol : o.length = i := by have := invF_len' (x := ⟨⟨x⟩⟩) hi; rw [← hp] at this; exact this
        have hwi : wr .i64 ((i : Int) + 1) = (i : Int) + 1 := wr64 (by omega)
        have nx : ∀ {e : Ed},l[i]? = some e → ∀ {o' : List Ed} {b' : Int},(o',b') = invStep ⟨⟨x⟩⟩ (o,b) e → (o',b') = invF ⟨⟨x⟩⟩ (l.take (i + 1)) := fun he _ _ h => by rw [invF_step he,← hp]; exact h
        have hin : ∀ {e : Ed},l[i]? = some e → 0 ≤ e.lo ∧ e.lo ≤ e.hi ∧ e.hi ≤ x.length := fun he => (hR.2 i (List.getElem?_eq_some_iff.1 he).1 _ he).1
        (((repeat' ((conv => whnf); all_goals first | assumption | with_reducible exact True.intro | with_reducible apply And.intro | (intro q; first | (exfalso; exact Bool.noConfusion q) | (exfalso; with_reducible exact q rfl) | subst q | (replace q : false = false := q; clear q) | (replace q : true = true := q; clear q) | (revert q; intro)) | ((with_reducible show _ = _); exact rfl))); all_goals try (conv => whnf); all_goals simp only [eq_self,true_iff,Bool.false_eq_true,false_iff,ed_eta,fl_eta,pt_eta,B_mk,Int.toNat_natCast] at *; all_goals (try contradiction); all_goals try (refine Chk.mk ?_; omega)))
        all_goals simp only [hwi] at *
        · rename_i e he _ _ _ _
          exact Chk.mk (hin he)
        · exact Chk.mk (show (o.length + 1) * 32 ≤ 140737488355328 by omega)
        · rename_i e he _ _ _ _ _ _ _ _
          exact ⟨(i + 1,invStep ⟨⟨x⟩⟩ (o,b) e),by simp only; omega,⟨by simp only; omega,nx he rfl⟩,by (repeat' ((conv => whnf); all_goals first | assumption | with_reducible exact True.intro | with_reducible apply And.intro | ((with_reducible show _ = _); exact rfl) | omega | trivial))⟩
        all_goals have hil : i = l.length := by omega
        all_goals subst hil
        all_goals rw [List.take_length] at hp
        all_goals have ho : o = invS ⟨⟨x⟩⟩ l := congrArg Prod.fst hp
        all_goals have hb : b = W (growS l) := (congrArg Prod.snd hp).trans (by have := invF_by (x := ⟨⟨x⟩⟩) (l := l) (Nat.le_refl _); rwa [List.take_length] at this)
        all_goals subst ho hb
        · exact h2 h0 (by assumption)
        · exact h3 h0 (by assumption)
    · rename_i h0
      exact h1 h0
  · exact h.elim
def atL {α : Type} (l : List α) (i : Nat) : Option α := l[i]?
end Go.Sx

/-
  SX: lists side by side; patches of their own memory.
-/
namespace Go.Sx
open Go Go.Ev Go.RowKit Go.Proofs
set_option maxRecDepth 100000
set_option maxHeartbeats 4000000
def SameTo' {α : Type} (a b : List α) (i : Nat) : Prop := i ≤ a.length ∧ a.length = b.length ∧ ∀ k,k < i → a[k]? = b[k]?
theorem SameTo'.all {α : Type} {a b : List α} {i : Nat} (h : SameTo' a b i) (hi : a.length ≤ i) : a = b := by
  refine List.ext_getElem? fun k => ?_
  by_cases hk : k < i
  · exact h.2.2 k hk
  · rw [List.getElem?_eq_none (by omega),List.getElem?_eq_none (by have := h.2.1; omega)]
theorem SameTo'.step {α : Type} {a b : List α} {i : Nat} (h : SameTo' a b i) {x y : α} (hx : a[i]? = some x) (hy : b[i]? = some y) (e : x = y) : SameTo' a b (i + 1) := by
  refine ⟨(List.getElem?_eq_some_iff.1 hx).1,h.2.1,fun k hk => ?_⟩
  by_cases hki : k = i
  · subst hki; rw [hx,hy,e]
  · exact h.2.2 k (by omega)
theorem ne_at {α : Type} {a b : List α} {i : Nat} {x y : α} (hx : a[i]? = some x) (hy : b[i]? = some y) (e : ¬ x = y) : ¬ a = b := fun h => e (by subst h; rw [hx] at hy; cases hy; rfl)
theorem CallOk.nilS2 {f : FuncId} {H : Hp U1} {c : Nat} {v : SV U1} {args : List (SV U1)} {K : SV U1 → Hp U1 → Prop} {wr : Bool} (h : CallOk R1.T S1 wr f H (v :: .sl c [] :: args) K) : CallOk R1.T S1 wr f H (v :: .nilS :: args) K := fun X vals hH hr hd => h X vals hH hr (by
  obtain ⟨w,ws,rfl,h1,h2⟩ := hd.uncons
  exact DenL.cons h1 (nilS_den h2))
def runEq {α : Type} (a b : List α) (H : Hp U1) (K : SV U1 → Hp U1 → Prop) : Prop := ∀ q,(q = true ↔ a = b) → K (.bool q) H
theorem fl_ext {x y : Fl} (h : B x.nm = B y.nm ∧ B x.tx = B y.tx ∧ True) : x = y := by
  obtain ⟨h1,h2,_⟩ := h
  obtain ⟨a,b⟩ := x
  obtain ⟨d,e⟩ := y
  have := B_inj h1
  have := B_inj h2
  simp_all
def sp33 : Spec U1 := ⟨false,false,fun H args K => match args with
  | [.sl 0 a,.sl 0 b] => runEq a b H K
  | [.nilS,.sl 0 b] => runEq [] b H K
  | [.sl 0 a,.nilS] => runEq a [] H K
  | [.nilS,.nilS] => runEq ([] : List Ed) [] H K
  | _ => False⟩
def sp46 : Spec U1 := ⟨false,false,fun H args K => match args with
  | [.sl 1 a,.sl 1 b] => runEq a b H K
  | [.nilS,.sl 1 b] => runEq [] b H K
  | [.sl 1 a,.nilS] => runEq a [] H K
  | [.nilS,.nilS] => runEq ([] : List Fl) [] H K
  | _ => False⟩
theorem k46' {H : Hp U1} {K : SV U1 → Hp U1 → Prop} {a b : List Fl} (h : runEq a b H K) : CallOk R1.T S1 false 46 H [.sl 1 a,.sl 1 b] K := by
  refine st C0_ok (by kernel_rfl : R1.T.fn 46 = some ⟨26,Try.f46.body.getD .skip,[.tmp 4]⟩) rfl rfl ?_
  (((repeat' ((conv => whnf); all_goals first | assumption | with_reducible exact True.intro | with_reducible apply And.intro | (intro q; first | (exfalso; exact Bool.noConfusion q) | (exfalso; with_reducible exact q rfl) | subst q | (replace q : false = false := q; clear q) | (replace q : true = true := q; clear q) | (revert q; intro)) | ((with_reducible show _ = _); exact rfl))); all_goals try (conv => whnf); all_goals simp only [eq_self,true_iff,Bool.false_eq_true,false_iff,ed_eta,fl_eta,pt_eta,B_mk,Int.toNat_natCast] at *; all_goals (try contradiction); all_goals try (refine Chk.mk ?_; omega)))
  · exact h _ ⟨nofun,fun e => absurd (congrArg (fun l => ((List.length l : Nat) : Int)) e) (by assumption)⟩
  · refine ⟨Nat,fun i => ([(0,.sl 1 a),(1,.sl 1 b),(11,.sl 1 a),(12,.int .i64 a.length),(13,.int .i64 i)],[]),fun i => SameTo' a b i,fun i => a.length - i,0,⟨Nat.zero_le _,by omega,fun k hk => absurd hk (Nat.not_lt_zero _)⟩,?_,?_⟩
    · (repeat' ((conv => whnf); all_goals first | assumption | with_reducible exact True.intro | with_reducible apply And.intro | ((with_reducible show _ = _); exact rfl) | omega | trivial))
    · intro i hS
      have hi := hS.1
      have hl := hS.2.1
      (((repeat' ((conv => whnf); all_goals first | assumption | with_reducible exact True.intro | with_reducible apply And.intro | (intro q; first | (exfalso; exact Bool.noConfusion q) | (exfalso; with_reducible exact q rfl) | subst q | (replace q : false = false := q; clear q) | (replace q : true = true := q; clear q) | (revert q; intro)) | ((with_reducible show _ = _); exact rfl))); all_goals try (conv => whnf); all_goals simp only [eq_self,true_iff,Bool.false_eq_true,false_iff,ed_eta,fl_eta,pt_eta,B_mk,Int.toNat_natCast] at *; all_goals (try contradiction); all_goals try (refine Chk.mk ?_; omega)))
      · rename_i x hx y hy hw _ heq
        rw [hw (by omega)]
        exact ⟨i + 1,by omega,hS.step hx hy (fl_ext heq),by (repeat' ((conv => whnf); all_goals first | assumption | with_reducible exact True.intro | with_reducible apply And.intro | ((with_reducible show _ = _); exact rfl) | omega | trivial))⟩
      · rename_i x hx y hy _ hne
        exact h _ ⟨nofun,fun e => absurd e (ne_at hx hy fun e => hne (by subst e; simp))⟩
      · exact h _ ⟨fun _ => hS.all (by omega),fun _ => rfl⟩
theorem k46 : SpecOk R1.T S1 46 sp46 := by
  intro H args K h; unfold sp46 at h; dsimp only at h; split at h
  · exact k46' h
  · exact CallOk.nilS (k46' h)
  · exact CallOk.nilS2 (k46' h)
  · exact CallOk.nilS (CallOk.nilS2 (k46' h))
  · exact h.elim
end Go.Sx
