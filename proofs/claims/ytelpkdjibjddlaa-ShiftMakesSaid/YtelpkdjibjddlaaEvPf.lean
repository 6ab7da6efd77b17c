/-
  EV: patches of a workspace, in plain Lean: what the layer files does with them, by the program and by the document.
-/
import Derived.Test.YtelpkdjibjddlaaEvKeep
import Derived.Test.YtelpkdjibjddlaaEvApplyLaw
set_option linter.unusedSimpArgs false
set_option linter.unusedVariables false
namespace Go.Ev
open Go Go.RowKit
structure Pt where
  nm : ByteArray
  es : List Ed
def textOf (l : List Fl) (x : ByteArray) : ByteArray := match l[(placeS l x).toNat]? with
  | some f => f.tx
  | none => ByteArray.empty
section
variable {l : List Fl} {ps : List Pt}
end
theorem appR_len (x : ByteArray) : ∀ (l : List Ed) (a : Int),0 ≤ a → Chain l a (((B x).length : Nat) : Int) → (((appR x l a).length : Nat) : Int) = (((B x).length : Nat) : Int) - a + growS l
  | [],a,h0,hc => by
    have hc : a ≤ (((B x).length : Nat) : Int) := hc
    simp only [appR,List.length_drop,growS,List.map_nil,List.sum_nil]
    omega
  | e :: r,a,h0,hc => by
    obtain ⟨c1,c2,c3,c4⟩ := hc
    have ih := appR_len x r e.hi (by omega) c4
    have hg : growS (e :: r) = (((B e.tx).length : Nat) : Int) - (e.hi - e.lo) + growS r := by simp [growS]
    simp only [appR,List.length_append,List.length_take,List.length_drop,hg]
    omega
theorem ap_len {x : ByteArray} {l : List Ed} (h : Right l (((B x).length : Nat) : Int)) : (((B (apS x l)).length : Nat) : Int) = (((B x).length : Nat) : Int) + growS l := by
  have h1 := ap_R x l [] 0
  rw [List.nil_append] at h1
  have h2 : B (apS x l) = appR x l 0 := by simpa [apS,apF,B] using h1
  rw [h2,appR_len x l 0 (by omega) h.chain]; omega
theorem Right.ord {l : List Ed} {n : Int} (h : Right l n) : ∀ e ∈ l,e.lo ≤ e.hi := fun e he => by
  obtain ⟨i,hi⟩ := List.mem_iff_getElem?.1 he
  exact ((h.2 i (List.getElem?_eq_some_iff.1 hi).1 e hi).1).2.1
def BigAt (l : List Fl) (p : Pt) : Prop := 4000 < (((B (textOf l p.nm)).length : Nat) : Int) + growS p.es
def Big (l : List Fl) (ps : List Pt) (n : Nat) : Prop := ∃ (k : Nat) (p : Pt),k < n ∧ ps[k]? = some p ∧ BigAt l p
theorem Big.step {l : List Fl} {ps : List Pt} {n : Nat} {p : Pt} (h : ¬ Big l ps n) (hp : ps[n]? = some p) (hn : ¬ BigAt l p) : ¬ Big l ps (n + 1) := fun ⟨k,q,h1,h2,h3⟩ => by
  by_cases e : k = n
  · subst e; rw [hp] at h2; cases h2; exact hn h3
  · exact h ⟨k,q,by omega,h2,h3⟩
theorem Big.mono {l : List Fl} {ps : List Pt} {n m : Nat} (h : Big l ps n) (hm : n ≤ m) : Big l ps m := by
  obtain ⟨k,p,h1,h2⟩ := h
  exact ⟨k,p,by omega,h2⟩
theorem Big.zero {l : List Fl} {ps : List Pt} : ¬ Big l ps 0 := fun ⟨_,_,h,_⟩ => absurd h (Nat.not_lt_zero _)
end Go.Ev

