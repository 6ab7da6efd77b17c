/-
  SX: the error of patches.
-/
import Derived.Test.YtelpkdjibjddlaaEvF2
namespace Go.Sx
open Go Go.Ev Go.RowKit Go.Proofs
set_option maxRecDepth 100000
set_option maxHeartbeats 4000000
open Classical in
noncomputable def appC (l : List Fl) (ps : List Pt) : Int := if FR l then (if mayN l ps ps.length = 0 then (if Big l ps ps.length then 4 else 0) else mayN l ps ps.length) else 2
section
variable {l : List Fl} {ps : List Pt}
theorem app2 (h : ¬ FR l) : appC l ps = 2 := by unfold appC; rw [if_neg h]
theorem appN (h : FR l) (h1 : ¬ mayN l ps ps.length = 0) : appC l ps = mayN l ps ps.length := by unfold appC; rw [if_pos h,if_neg h1]
theorem app4 (h : FR l) (h1 : mayN l ps ps.length = 0) (h2 : Big l ps ps.length) : appC l ps = 4 := by unfold appC; rw [if_pos h,if_pos h1,if_pos h2]
theorem app0 (h : FR l) (h1 : mayN l ps ps.length = 0) (h2 : ¬ Big l ps ps.length) : appC l ps = 0 := by unfold appC; rw [if_pos h,if_pos h1,if_neg h2]
end
theorem appC0 {l : List Fl} {ps : List Pt} (h : appC l ps = 0) : FR l ∧ mayN l ps ps.length = 0 ∧ ¬ Big l ps ps.length := by
  unfold appC at h
  split at h
  · rename_i h1
    split at h
    · rename_i h2
      split at h
      · cases h
      · rename_i h3; exact ⟨h1,h2,h3⟩
    · rename_i h2; exact absurd h h2
  · cases h
end Go.Sx

