/-
  EV: patches of a workspace, in plain Lean: what the layer files does with them, by the program and by the document.
-/
import Derived.Test.YtelpkdjibjddlaaEvKeep
import Derived.Test.YtelpkdjibjddlaaEvApplyLaw
set_option linter.unusedSimpArgs false
set_option linter.unusedVariables false
namespace Go.Ev
open Go Go.RowKit
structure Pt where
  nm : ByteArray
  es : List Ed
def textOf (l : List Fl) (x : ByteArray) : ByteArray := match l[(placeS l x).toNat]? with
  | some f => f.tx
  | none => ByteArray.empty
section
variable {l : List Fl} {ps : List Pt}
end
theorem Right.ord {l : List Ed} {n : Int} (h : Right l n) : ∀ e ∈ l,e.lo ≤ e.hi := fun e he => by
  obtain ⟨i,hi⟩ := List.mem_iff_getElem?.1 he
  exact ((h.2 i (List.getElem?_eq_some_iff.1 hi).1 e hi).1).2.1
def BigAt (l : List Fl) (p : Pt) : Prop := 4000 < (((B (textOf l p.nm)).length : Nat) : Int) + growS p.es
def Big (l : List Fl) (ps : List Pt) (n : Nat) : Prop := ∃ (k : Nat) (p : Pt),k < n ∧ ps[k]? = some p ∧ BigAt l p
theorem Big.step {l : List Fl} {ps : List Pt} {n : Nat} {p : Pt} (h : ¬ Big l ps n) (hp : ps[n]? = some p) (hn : ¬ BigAt l p) : ¬ Big l ps (n + 1) := fun ⟨k,q,h1,h2,h3⟩ => by
  by_cases e : k = n
  · subst e; rw [hp] at h2; cases h2; exact hn h3
  · exact h ⟨k,q,by omega,h2,h3⟩
theorem Big.mono {l : List Fl} {ps : List Pt} {n m : Nat} (h : Big l ps n) (hm : n ≤ m) : Big l ps m := by
  obtain ⟨k,p,h1,h2⟩ := h
  exact ⟨k,p,by omega,h2⟩
theorem Big.zero {l : List Fl} {ps : List Pt} : ¬ Big l ps 0 := fun ⟨_,_,h,_⟩ => absurd h (Nat.not_lt_zero _)
end Go.Ev

