/-
  SX: the law ShiftJoins: what is too large.
-/
import Derived.Test.YtelpkdjibjddlaaEvJ6
import Derived.Test.YtelpkdjibjddlaaEvDrawn
set_option linter.unusedSimpArgs false
set_option linter.unusedVariables false
namespace Go.Sx
open Go Go.Ev Go.RowKit Go.Proofs
set_option maxRecDepth 100000
set_option maxHeartbeats 4000000
def sp16 : Spec U1 := ⟨false,false,fun H args K => match args with
  | [.int .i64 n,.sl 0 l] => Chk (∀ e ∈ l,e.Ok) ∧ (Large3 n l → K (.bool true) H) ∧ (¬ Large3 n l → K (.bool false) H)
  | _ => False⟩
theorem k16 : SpecOk R1.T S1 16 sp16 := by
  intro H args K h; unfold sp16 at h; dsimp only at h; split at h
  · rename_i n l
    obtain ⟨ho,h1,h2⟩ := h
    replace ho := ho.out
    have htx : ∀ (i : Nat) (e : U1 0),(l : List (U1 0))[i]? = some e → (B e.tx).length ≤ 140737488351232 := fun i e he => (ho e (List.mem_of_getElem? he)).tx
    refine st C0_ok (by kernel_rfl : R1.T.fn 16 = some ⟨29,Try.f16.body.getD .skip,[.tmp 4]⟩) rfl rfl ?_
    (((repeat' ((conv => whnf); all_goals first | assumption | with_reducible exact True.intro | with_reducible apply And.intro | (intro q; first | (exfalso; exact Bool.noConfusion q) | (exfalso; with_reducible exact q rfl) | subst q | (replace q : false = false := q; clear q) | (replace q : true = true := q; clear q) | (revert q; intro)) | ((with_reducible show _ = _); exact rfl))); all_goals try (conv => whnf); all_goals simp only [eq_self,true_iff,Bool.false_eq_true,false_iff,ed_eta,fl_eta,pt_eta,B_mk,Int.toNat_natCast] at *; all_goals (try contradiction); all_goals try (refine Chk.mk ?_; omega)))
    refine ⟨Nat,fun i => ([(0,.int .i64 n),(4,.bool false),(5,.int .i64 (sumT (l.take i))),(8,.sl 0 l),(9,.int .i64 l.length),(10,.int .i64 i)],[]),fun i => i ≤ l.length ∧ i ≤ 31 ∧ sumT (l.take i) ≤ 500,fun i => l.length - i,0,⟨Nat.zero_le _,Nat.zero_le _,Nat.zero_le _⟩,?_,?_⟩
    · (repeat' ((conv => whnf); all_goals first | assumption | with_reducible exact True.intro | with_reducible apply And.intro | ((with_reducible show _ = _); exact rfl) | omega | trivial))
    · intro i ⟨hi,hi2,hs⟩
      have hst := sumT_le l i
      (((repeat' ((conv => whnf); all_goals first | assumption | with_reducible exact True.intro | with_reducible apply And.intro | (intro q; first | (exfalso; exact Bool.noConfusion q) | (exfalso; with_reducible exact q rfl) | subst q | (replace q : false = false := q; clear q) | (replace q : true = true := q; clear q) | (revert q; intro)) | ((with_reducible show _ = _); exact rfl))); all_goals try (conv => whnf); all_goals simp only [eq_self,true_iff,Bool.false_eq_true,false_iff,ed_eta,fl_eta,pt_eta,B_mk,Int.toNat_natCast] at *; all_goals (try contradiction); all_goals try (refine Chk.mk ?_; omega)))
      · rename_i e he hw _ _ hgt
        have := htx i e he
        rw [hw (by omega)] at hgt
        have h3 := sumT_step he
        have h4 := sumT_le l (i + 1)
        exact h1 (.inr (.inl (by omega)))
      · rename_i e he hw hw2 _ _ hgt
        have := htx i e he
        rw [hw (by omega)] at hgt ⊢
        rw [hw2 (by omega)]
        have h3 := sumT_step he
        refine ⟨i + 1,by omega,⟨by omega,by omega,by omega⟩,?_⟩
        rw [h3,Int.natCast_add]
        (repeat' ((conv => whnf); all_goals first | assumption | with_reducible exact True.intro | with_reducible apply And.intro | ((with_reducible show _ = _); exact rfl) | omega | trivial))
      · exact h1 (.inl (by omega))
      · rename_i q hq _
        have hil : i = l.length := by omega
        subst hil
        rw [List.take_length] at hs
        cases q with
        | true => exact h1 (.inr (.inr (hq.1 rfl)))
        | false =>
          refine h2 fun hL => ?_
          rcases hL with hL | hL | hL
          · omega
          · omega
          · exact absurd (hq.2 hL) (by decide)
  · exact h.elim
end Go.Sx

