/-
  SX: the law FilesGoes.
-/
import Derived.Test.YtelpkdjibjddlaaEvF4
import Derived.Test.YtelpkdjibjddlaaEvGoL
import Derived.Test.YtelpkdjibjddlaaEvSxX2
import Derived.Test.YtelpkdjibjddlaaEvPlug1
namespace Go.Sx
open Go Go.Ev Go.RowKit Go.Proofs
set_option maxRecDepth 100000
set_option maxHeartbeats 4000000
theorem appC0 {l : List Fl} {ps : List Pt} (h : appC l ps = 0) : FR l ∧ mayN l ps ps.length = 0 ∧ ¬ Big l ps ps.length := by
  unfold appC at h
  split at h
  · rename_i h1
    split at h
    · rename_i h2
      split at h
      · cases h
      · rename_i h3; exact ⟨h1,h2,h3⟩
    · rename_i h2; exact absurd h h2
  · cases h
theorem goes_eq {l : List Fl} {ps : List Pt} (hW : Few ps) (a b : Int) : goesF goS l ps a b = goesF rgoS l ps a b := by
  by_cases h : appC l ps = 0
  · obtain ⟨h1,h2,h3⟩ := appC0 h
    by_cases h4 : a < 0 ∨ (l.length : Int) ≤ a
    · rw [goesF_out h h4,goesF_out h h4]
    · obtain ⟨f,hf⟩ : ∃ f : Fl,l[a.toNat]? = some f := ⟨_,List.getElem?_eq_getElem (by omega)⟩
      rw [goesF_at h h4 hf,goesF_at h h4 hf]
      have hr := edits_right h1 h2 hf
      have := text_len h1 hf
      have he := (edits_few hW f.nm).2
      exact goS_eqL hr (by omega) (by omega)
  · rw [goesF_err rfl h,goesF_err rfl h]
abbrev C12 := addC 22 sp22 (addC 40 sp40 (addC 57 sp57 (addC 47 sp47 (addC 58 sp58 (addC 59 sp59 C0)))))
theorem C12_ok : COk C12 := addC_ok k22 (addC_ok k40 (addC_ok k57 (addC_ok k47 (addC_ok k58 (addC_ok k59 C0_ok)))))
def restOf : Code → Code
  | .seq _ (.seq _ r) => r
  | c => c
theorem walk12 (l : List Fl) (hl : ∀ f ∈ l,f.Ok) (ps : List Pt) (hps : ∀ p ∈ ps,POk p) (a b : Int) :
    wp ⟨S1,C12,47,0,fun _ => none⟩ (restOf (Try.f12.body.getD .skip)) ((12,.bool false) :: (11,.bool true) :: (6,.bool false) :: (5,.ptr 0 0) :: frm0 0 [.sl 1 l,.sl 4 ps,.agg [.int .i64 a,.int .i64 b]]) [.cells false 81 [.int .i64 a,.int .i64 b]] (fin ⟨S1,C12,47,0,fun _ => none⟩ [.tmp 6] fun v _ => v = .bool true) := by
  (((repeat' ((conv => whnf); all_goals first | trivial | apply And.intro | (intro q; first | exact Bool.noConfusion q | subst q | (revert q; intro)))); all_goals try (conv => whnf); all_goals simp only [eq_self,true_iff,Bool.false_eq_true,false_iff,ed_eta,fl_eta,pt_eta,B_mk,Int.toNat_natCast] at *; all_goals try (refine Chk.mk ?_; omega)))
  all_goals (have hW : Few ps := (by assumption : True → Few ps) trivial)
  all_goals try exact Chk.mk hW
  all_goals simp only [goes_eq hW] at *
  all_goals try contradiction
  all_goals (show SV.bool _ = SV.bool true; congr 1; simp_all)
end Go.Sx

