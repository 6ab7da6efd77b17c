/-
  SX: the law ShiftJoins: its walk.
-/
import Derived.Test.YtelpkdjibjddlaaEvJ5
import Derived.Test.YtelpkdjibjddlaaEvJM
import Derived.Test.YtelpkdjibjddlaaEvJ8
import Derived.Test.YtelpkdjibjddlaaEvSm6
set_option linter.unusedSimpArgs false
set_option linter.unusedVariables false
namespace Go.Sx
open Go Go.Ev Go.RowKit Go.Proofs
set_option maxRecDepth 100000
set_option maxHeartbeats 4000000
structure JR (a b : List Ed) (n : Int) : Prop where
  ra : Right a n
  rb : Right b (n + growS a)
def sp55e : Spec U1 := ⟨false,false,fun H args K => match args with
  | [.sl 0 a,.sl 0 b,.int .i64 n] => Chk (JOk a b n) ∧ (¬ JR a b n → K (.tup [.sl 0 [],.iface 37 (.int .i64 2)]) H) ∧ (JR a b n → K (.tup [.sl 0 (joinS a b n),.nilI]) H)
  | _ => False⟩
theorem k55e : SpecOk R1.T S1 55 sp55e := by
  intro H args K h; unfold sp55e at h; dsimp only at h; split at h
  · exact k55 _ _ _ ⟨h.1,fun hR => h.2.1 fun hJ => hR hJ.ra,fun _ hR => h.2.1 fun hJ => hR hJ.rb,fun h1 h2 => h.2.2 ⟨h1,h2⟩⟩
  · exact h.elim
def sp56e : Spec U1 := ⟨false,false,fun H args K => match args with
  | [.sl 0 a,.sl 0 b,.int .i64 n] => Chk (JOk a b n) ∧ (¬ JR a b n → K (.tup [.sl 0 [],.int .i64 2]) H) ∧ (JR a b n → K (.tup [.sl 0 (joinS a b n),.int .i64 0]) H)
  | _ => False⟩
theorem k56e : SpecOk R1.T S1 56 sp56e := by
  intro H args K h; unfold sp56e at h; dsimp only at h; split at h
  · rename_i a b n
    exact k56 _ _ _ ⟨h.1,fun hR => h.2.1 fun hJ => hR hJ.ra,fun _ hR => h.2.1 fun hJ => hR hJ.rb,fun h1 h2 => by rw [← join_same h.1.out h1 h2]; exact h.2.2 ⟨h1,h2⟩⟩
  · exact h.elim
def sp33e : Spec U1 := ⟨false,false,fun H args K => match args with
  | [.sl 0 a,.sl 0 b] => a = b ∧ K (.bool true) H
  | _ => False⟩
theorem k33e : SpecOk R1.T S1 33 sp33e := by
  intro H args K h; unfold sp33e at h; dsimp only at h; split at h
  · obtain ⟨rfl,h⟩ := h
    exact k33 _ _ _ fun q hq => by rw [hq.2 rfl]; exact h
  · exact h.elim
abbrev C10 := addC 22 sp22 (addC 16 sp16 (addC 55 sp55e (addC 56 sp56e (addC 33 sp33e C0))))
theorem C10_ok : COk C10 := addC_ok k22 (addC_ok k16 (addC_ok k55e (addC_ok k56e (addC_ok k33e C0_ok))))
theorem jok_of {a b : List Ed} {n : Int} (h1 : ¬ Large3 n a) (h2 : ¬ Large3 0 b) : JOk a b n := by
  unfold Large3 at h1 h2
  exact ⟨by omega,by omega,by omega,by omega,by omega⟩
theorem few_of {a : List Ed} {n : Int} (h1 : ¬ Large3 n a) : (0 + a.length) * 32 ≤ 140737488355328 := by
  unfold Large3 at h1
  omega
theorem walk10 (a : List Ed) (ha : ∀ e ∈ a,e.Ok) (b : List Ed) (hb : ∀ e ∈ b,e.Ok) (n : Int) :
    wp ⟨S1,C10,61,0,fun _ => none⟩ (restOf (Try.f10.body.getD .skip)) ((14,.bool false) :: (13,.bool true) :: (6,.bool false) :: frm0 0 [.sl 0 a,.sl 0 b,.int .i64 n]) [] (fin ⟨S1,C10,61,0,fun _ => none⟩ [.tmp 6] fun v _ => v = .bool true) := by
  by_cases hJ : JR a b n
  · (((repeat' ((conv => whnf); all_goals first | assumption | with_reducible exact True.intro | with_reducible apply And.intro | (intro q; first | (exfalso; exact Bool.noConfusion q) | (exfalso; with_reducible exact q rfl) | (exfalso; contradiction) | subst q | (replace q : false = false := q; clear q) | (replace q : true = true := q; clear q) | (revert q; intro)) | ((with_reducible show _ = _); exact rfl))); all_goals try (conv => whnf); all_goals simp only [eq_self,true_iff,Bool.false_eq_true,false_iff,ed_eta,fl_eta,pt_eta,B_mk,Int.toNat_natCast] at *; all_goals (try contradiction); all_goals try (refine Chk.mk ?_; omega)))
    all_goals first
      | rfl
      | exact Chk.mk ha
      | exact Chk.mk hb
      | exact Chk.mk (few_of (a := a) (by assumption))
      | exact Chk.mk (few_of (a := b) (by assumption))
      | exact Chk.mk (jok_of (by assumption) (by assumption))
  · (((repeat' ((conv => whnf); all_goals first | assumption | with_reducible exact True.intro | with_reducible apply And.intro | (intro q; first | (exfalso; exact Bool.noConfusion q) | (exfalso; with_reducible exact q rfl) | (exfalso; contradiction) | subst q | (replace q : false = false := q; clear q) | (replace q : true = true := q; clear q) | (revert q; intro)) | ((with_reducible show _ = _); exact rfl))); all_goals try (conv => whnf); all_goals simp only [eq_self,true_iff,Bool.false_eq_true,false_iff,ed_eta,fl_eta,pt_eta,B_mk,Int.toNat_natCast] at *; all_goals (try contradiction); all_goals try (refine Chk.mk ?_; omega)))
    all_goals first
      | rfl
      | exact Chk.mk ha
      | exact Chk.mk hb
      | exact Chk.mk (few_of (a := a) (by assumption))
      | exact Chk.mk (few_of (a := b) (by assumption))
      | exact Chk.mk (jok_of (by assumption) (by assumption))
end Go.Sx

