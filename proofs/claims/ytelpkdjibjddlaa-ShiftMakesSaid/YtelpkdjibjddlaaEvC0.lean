/-
  SX: which edits are right, by the program and by the document.
-/
import Derived.Test.YtelpkdjibjddlaaEvSxZ0
set_option linter.unusedSimpArgs false
set_option linter.unusedVariables false
namespace Go.Sx
open Go Go.Ev Go.RowKit Go.Proofs
set_option maxRecDepth 100000
set_option maxHeartbeats 4000000
def spWithin : Spec U1 := ⟨false,false,fun H args K => match args with
  | [.agg [.int .i64 a,.int .i64 b,.str x],.int .i64 n] => ∀ q,(q = true ↔ 0 ≤ a ∧ a ≤ b ∧ b ≤ n) → K (.bool q) H
  | _ => False⟩
def spBehind : Spec U1 := ⟨false,false,fun H args K => match args with
  | [.agg [.int .i64 a,.int .i64 b,.str x],.agg [.int .i64 c,.int .i64 d,.str y]] => ∀ q,(q = true ↔ b ≤ c ∧ a < c) → K (.bool q) H
  | _ => False⟩
theorem k73 : SpecOk R1.T S1 73 spWithin := by
  intro H args K h; unfold spWithin at h; dsimp only at h; split at h
  · refine st C0_ok (by kernel_rfl : R1.T.fn 73 = some ⟨21,Try.f73.body.getD .skip,[.tmp 4]⟩) rfl rfl ?_
    (repeat' ((conv => whnf); all_goals first | assumption | with_reducible exact True.intro | with_reducible apply And.intro | (intro q; first | (exfalso; exact Bool.noConfusion q) | (exfalso; with_reducible exact q rfl) | subst q | (revert q; intro)) | ((with_reducible show _ = _); exact rfl)))
    all_goals (refine h _ ?_; clear h; grind)
  · exact h.elim
theorem k74 : SpecOk R1.T S1 74 spBehind := by
  intro H args K h; unfold spBehind at h; dsimp only at h; split at h
  · refine st C0_ok (by kernel_rfl : R1.T.fn 74 = some ⟨17,Try.f74.body.getD .skip,[.tmp 4]⟩) rfl rfl ?_
    (repeat' ((conv => whnf); all_goals first | assumption | with_reducible exact True.intro | with_reducible apply And.intro | (intro q; first | (exfalso; exact Bool.noConfusion q) | (exfalso; with_reducible exact q rfl) | subst q | (revert q; intro)) | ((with_reducible show _ = _); exact rfl)))
    all_goals (refine h _ ?_; clear h; grind)
  · exact h.elim
abbrev C35 := addC 73 spWithin (addC 74 spBehind C0)
theorem C35_ok : COk C35 := addC_ok k73 (addC_ok k74 C0_ok)
def spRightN : Spec U1 := ⟨false,false,fun H args K => match args with
  | [.sl 0 l,.int .i64 n] => ∀ q,(q = true ↔ Right l n) → K (.bool q) H
  | _ => False⟩
theorem j35 : SpecOk R1.T S1 35 spRightN := by
  intro H args K h; unfold spRightN at h; dsimp only at h; split at h
  · rename_i l n
    refine st C35_ok (by kernel_rfl : R1.T.fn 35 = some ⟨35,Try.f35.body.getD .skip,[.tmp 4]⟩) rfl rfl ?_
    repeat' (conv => whnf); all_goals intro hL
    conv => whnf
    refine ⟨Nat,fun i => ([(0,.sl 0 l),(1,.int .i64 n),(7,.sl 0 l),(8,.int .i64 l.length),(9,.int .i64 i)],[]),fun i => i ≤ l.length ∧ Ok l n i,fun i => l.length - i,0,⟨Nat.zero_le _,fun k hk => absurd hk (Nat.not_lt_zero _)⟩,?_,?_⟩
    · (repeat' ((conv => whnf); all_goals first | assumption | with_reducible exact True.intro | with_reducible apply And.intro | ((with_reducible show _ = _); exact rfl) | omega | trivial))
    · intro i ⟨hi,ho⟩
      (((repeat' ((conv => whnf); all_goals first | assumption | with_reducible exact True.intro | with_reducible apply And.intro | (intro q; first | (exfalso; exact Bool.noConfusion q) | (exfalso; with_reducible exact q rfl) | subst q | (revert q; intro)) | ((with_reducible show _ = _); exact rfl))); all_goals try (conv => whnf); all_goals simp only [eq_self,true_iff,Bool.false_eq_true,false_iff,ed_eta,fl_eta,pt_eta,B_mk,Int.toNat_natCast] at *; all_goals (try contradiction); all_goals try (refine Chk.mk ?_; omega)))
      · rw [show (wr IntKind.i64 (↑i - 1)).toNat = i - 1 by omega] at *
        refine ⟨i + 1,by omega,⟨by omega,ho.step (by assumption) (by assumption) (by assumption) (by omega) (by assumption)⟩,?_⟩
        (repeat' ((conv => whnf); all_goals first | assumption | with_reducible exact True.intro | with_reducible apply And.intro | ((with_reducible show _ = _); exact rfl) | omega | trivial))
      · rw [show (wr IntKind.i64 (↑i - 1)).toNat = i - 1 by omega] at *
        exact h _ ⟨nofun,fun hR => absurd (((hR.2 i (by omega) _ (by assumption)).2 _ (by omega) (by assumption))) (by assumption)⟩
      · refine ⟨i + 1,by omega,⟨by omega,ho.step0 (by assumption) (by assumption) (by omega)⟩,?_⟩
        (repeat' ((conv => whnf); all_goals first | assumption | with_reducible exact True.intro | with_reducible apply And.intro | ((with_reducible show _ = _); exact rfl) | omega | trivial))
      · exact h _ ⟨nofun,fun hR => absurd (hR.2 i (by omega) _ (by assumption)).1 (by assumption)⟩
      · exact h _ (Iff.trans (by assumption) ⟨fun h0 => ⟨h0,fun k hk => ho k (by omega)⟩,fun h0 => h0.1⟩)
  · exact h.elim
end Go.Sx

