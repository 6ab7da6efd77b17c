/-
  SX: lists of edits made plain, by the program and by the document.
-/
import Derived.Test.YtelpkdjibjddlaaEvF2
import Derived.Test.YtelpkdjibjddlaaEvMergeLaw
import Derived.Test.YtelpkdjibjddlaaEvC0
set_option linter.unusedSimpArgs false
set_option linter.unusedVariables false
namespace Go.Sx
open Go Go.Ev Go.RowKit Go.Proofs
set_option maxRecDepth 100000
set_option maxHeartbeats 4000000
@[simp] theorem B_empty : B ByteArray.empty = [] := rfl
def sp76 : Spec U1 := ⟨false,false,fun H args K => match args with
  | [.agg [.int .i64 a,.int .i64 b,.str x]] => ∀ q,(q = true ↔ a = b ∧ x = []) → K (.bool q) H
  | _ => False⟩
theorem k76 : SpecOk R1.T S1 76 sp76 := by
  intro H args K h; unfold sp76 at h; dsimp only at h; split at h
  · refine st C0_ok (by kernel_rfl : R1.T.fn 76 = some ⟨13,Try.f76.body.getD .skip,[.tmp 2]⟩) rfl rfl ?_
    (repeat' ((conv => whnf); all_goals first | assumption | with_reducible exact True.intro | with_reducible apply And.intro | (intro q; first | (exfalso; exact Bool.noConfusion q) | (exfalso; with_reducible exact q rfl) | subst q | (revert q; intro)) | ((with_reducible show _ = _); exact rfl)))
    all_goals (refine h _ ?_; clear h; simp_all)
  · exact h.elim
def sp91 : Spec U1 := ⟨false,false,fun H args K => match args with
  | [.sl 0 l,.func 76 [] []] => K (.int .i64 (firstP Nothing l)) H
  | _ => False⟩
theorem k91 : SpecOk R1.T S1 91 sp91 := by
  intro H args K h; unfold sp91 at h; dsimp only at h; split at h
  · rename_i l
    refine st (addC_ok k76 C0_ok) (by kernel_rfl : R1.T.fn 91 = some ⟨19,Try.f91.body.getD .skip,[.tmp 4]⟩) rfl rfl ?_
    repeat' (conv => whnf); all_goals intro hL
    conv => whnf
    refine ⟨Nat,fun i => ([(0,.sl 0 l),(1,.func 76 [] []),(6,.sl 0 l),(7,.int .i64 l.length),(8,.int .i64 i)],[]),fun i => i ≤ l.length ∧ NoB Nothing l i,fun i => l.length - i,0,⟨Nat.zero_le _,NoB.zero⟩,?_,?_⟩
    · (repeat' ((conv => whnf); all_goals first | assumption | with_reducible exact True.intro | with_reducible apply And.intro | ((with_reducible show _ = _); exact rfl) | omega | trivial))
    · intro i hi
      (((repeat' ((conv => whnf); all_goals first | assumption | with_reducible exact True.intro | with_reducible apply And.intro | (intro q; first | (exfalso; exact Bool.noConfusion q) | (exfalso; with_reducible exact q rfl) | subst q | (replace q : false = false := q; clear q) | (replace q : true = true := q; clear q) | (revert q; intro)) | ((with_reducible show _ = _); exact rfl))); all_goals try (conv => whnf); all_goals simp only [eq_self,true_iff,Bool.false_eq_true,false_iff,ed_eta,fl_eta,pt_eta,B_mk,Int.toNat_natCast] at *; all_goals (try contradiction); all_goals try (refine Chk.mk ?_; omega)))
      · rename_i e he _ hn
        rw [firstP_at hi.2 he hn] at h; exact h
      · rename_i e he hw _ hn
        refine ⟨i + 1,by omega,⟨by omega,hi.2.step he hn⟩,?_⟩
        rw [hw (by omega)]
        (repeat' ((conv => whnf); all_goals first | assumption | with_reducible exact True.intro | with_reducible apply And.intro | ((with_reducible show _ = _); exact rfl) | omega | trivial))
      · rw [firstP_none hi.2 (by omega)] at h; exact h
  · exact h.elim
end Go.Sx

