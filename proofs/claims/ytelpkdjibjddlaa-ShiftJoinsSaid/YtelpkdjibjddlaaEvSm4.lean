/-
  SX: lists side by side; patches of their own memory.
-/
import Derived.Test.YtelpkdjibjddlaaEvSm1
set_option linter.unusedSimpArgs false
set_option linter.unusedVariables false
namespace Go.Sx
open Go Go.Ev Go.RowKit Go.Proofs
set_option maxRecDepth 100000
set_option maxHeartbeats 4000000
def SameTo' {α : Type} (a b : List α) (i : Nat) : Prop := i ≤ a.length ∧ a.length = b.length ∧ ∀ k,k < i → a[k]? = b[k]?
theorem SameTo'.all {α : Type} {a b : List α} {i : Nat} (h : SameTo' a b i) (hi : a.length ≤ i) : a = b := by
  refine List.ext_getElem? fun k => ?_
  by_cases hk : k < i
  · exact h.2.2 k hk
  · rw [List.getElem?_eq_none (by omega),List.getElem?_eq_none (by have := h.2.1; omega)]
theorem SameTo'.step {α : Type} {a b : List α} {i : Nat} (h : SameTo' a b i) {x y : α} (hx : a[i]? = some x) (hy : b[i]? = some y) (e : x = y) : SameTo' a b (i + 1) := by
  refine ⟨(List.getElem?_eq_some_iff.1 hx).1,h.2.1,fun k hk => ?_⟩
  by_cases hki : k = i
  · subst hki; rw [hx,hy,e]
  · exact h.2.2 k (by omega)
theorem ne_at {α : Type} {a b : List α} {i : Nat} {x y : α} (hx : a[i]? = some x) (hy : b[i]? = some y) (e : ¬ x = y) : ¬ a = b := fun h => e (by subst h; rw [hx] at hy; cases hy; rfl)
theorem CallOk.nilS2 {f : FuncId} {H : Hp U1} {c : Nat} {v : SV U1} {args : List (SV U1)} {K : SV U1 → Hp U1 → Prop} {wr : Bool} (h : CallOk R1.T S1 wr f H (v :: .sl c [] :: args) K) : CallOk R1.T S1 wr f H (v :: .nilS :: args) K := fun X vals hH hr hd => h X vals hH hr (by
  obtain ⟨w,ws,rfl,h1,h2⟩ := hd.uncons
  exact DenL.cons h1 (nilS_den h2))
def runEq {α : Type} (a b : List α) (H : Hp U1) (K : SV U1 → Hp U1 → Prop) : Prop := ∀ q,(q = true ↔ a = b) → K (.bool q) H
theorem ed_ext {x y : Ed} (h : x.lo = y.lo ∧ x.hi = y.hi ∧ B x.tx = B y.tx ∧ True) : x = y := by
  obtain ⟨h1,h2,h3,_⟩ := h
  obtain ⟨a,b,c⟩ := x
  obtain ⟨d,e,f⟩ := y
  have := B_inj h3
  simp only at h1 h2 this
  subst h1 h2 this; rfl
def sp33 : Spec U1 := ⟨false,false,fun H args K => match args with
  | [.sl 0 a,.sl 0 b] => runEq a b H K
  | [.nilS,.sl 0 b] => runEq [] b H K
  | [.sl 0 a,.nilS] => runEq a [] H K
  | [.nilS,.nilS] => runEq ([] : List Ed) [] H K
  | _ => False⟩
theorem k33' {H : Hp U1} {K : SV U1 → Hp U1 → Prop} {a b : List Ed} (h : runEq a b H K) : CallOk R1.T S1 false 33 H [.sl 0 a,.sl 0 b] K := by
  refine st C0_ok (by kernel_rfl : R1.T.fn 33 = some ⟨26,Try.f33.body.getD .skip,[.tmp 4]⟩) rfl rfl ?_
  (((repeat' ((conv => whnf); all_goals first | assumption | with_reducible exact True.intro | with_reducible apply And.intro | (intro q; first | (exfalso; exact Bool.noConfusion q) | (exfalso; with_reducible exact q rfl) | subst q | (replace q : false = false := q; clear q) | (replace q : true = true := q; clear q) | (revert q; intro)) | ((with_reducible show _ = _); exact rfl))); all_goals try (conv => whnf); all_goals simp only [eq_self,true_iff,Bool.false_eq_true,false_iff,ed_eta,fl_eta,pt_eta,B_mk,Int.toNat_natCast] at *; all_goals (try contradiction); all_goals try (refine Chk.mk ?_; omega)))
  · exact h _ ⟨nofun,fun e => absurd (congrArg (fun l => ((List.length l : Nat) : Int)) e) (by assumption)⟩
  · refine ⟨Nat,fun i => ([(0,.sl 0 a),(1,.sl 0 b),(11,.sl 0 a),(12,.int .i64 a.length),(13,.int .i64 i)],[]),fun i => SameTo' a b i,fun i => a.length - i,0,⟨Nat.zero_le _,by omega,fun k hk => absurd hk (Nat.not_lt_zero _)⟩,?_,?_⟩
    · (repeat' ((conv => whnf); all_goals first | assumption | with_reducible exact True.intro | with_reducible apply And.intro | ((with_reducible show _ = _); exact rfl) | omega | trivial))
    · intro i hS
      have hi := hS.1
      have hl := hS.2.1
      (((repeat' ((conv => whnf); all_goals first | assumption | with_reducible exact True.intro | with_reducible apply And.intro | (intro q; first | (exfalso; exact Bool.noConfusion q) | (exfalso; with_reducible exact q rfl) | subst q | (replace q : false = false := q; clear q) | (replace q : true = true := q; clear q) | (revert q; intro)) | ((with_reducible show _ = _); exact rfl))); all_goals try (conv => whnf); all_goals simp only [eq_self,true_iff,Bool.false_eq_true,false_iff,ed_eta,fl_eta,pt_eta,B_mk,Int.toNat_natCast] at *; all_goals (try contradiction); all_goals try (refine Chk.mk ?_; omega)))
      · rename_i x hx y hy hw _ heq
        rw [hw (by omega)]
        exact ⟨i + 1,by omega,hS.step hx hy (ed_ext heq),by (repeat' ((conv => whnf); all_goals first | assumption | with_reducible exact True.intro | with_reducible apply And.intro | ((with_reducible show _ = _); exact rfl) | omega | trivial))⟩
      · rename_i x hx y hy _ hne
        exact h _ ⟨nofun,fun e => absurd e (ne_at hx hy fun e => hne (by subst e; simp))⟩
      · exact h _ ⟨fun _ => hS.all (by omega),fun _ => rfl⟩
theorem k33 : SpecOk R1.T S1 33 sp33 := by
  intro H args K h; unfold sp33 at h; dsimp only at h; split at h
  · exact k33' h
  · exact CallOk.nilS (k33' h)
  · exact CallOk.nilS2 (k33' h)
  · exact CallOk.nilS (CallOk.nilS2 (k33' h))
  · exact h.elim
end Go.Sx

