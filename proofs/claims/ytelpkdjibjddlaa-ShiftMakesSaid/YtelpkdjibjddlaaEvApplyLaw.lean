/-
  EV: what the functions of the layer edit compute that make texts, in plain Lean.
-/
import Derived.Test.YtelpkdjibjddlaaEvDrawn
import Derived.Test.YtelpkdjibjddlaaEvShiftLaw
set_option linter.unusedSimpArgs false
set_option linter.unusedVariables false
namespace Go.Ev
open Go Go.RowKit
noncomputable def mayC (n : Nat) (l : List Ed) : Int := if Right l n then (if (65536 : Int) < W ((n : Int) + W (growS l)) then 4 else 0) else 2
theorem may0 {n : Nat} {l : List Ed} (h : mayC n l = 0) : Right l n ∧ ¬ (65536 : Int) < W ((n : Int) + W (growS l)) := by
  unfold mayC at h
  split at h
  · rename_i hR
    split at h
    · cases h
    · rename_i hw; exact ⟨hR,hw⟩
  · cases h
theorem may2 {n : Nat} {l : List Ed} (h : ¬ Right l n) : mayC n l = 2 := by unfold mayC; rw [if_neg h]
theorem may4 {n : Nat} {l : List Ed} (h : Right l n) (h2 : (65536 : Int) < W ((n : Int) + W (growS l))) : mayC n l = 4 := by unfold mayC; rw [if_pos h,if_pos h2]
theorem mayOk {n : Nat} {l : List Ed} (h : Right l n) (h2 : ¬ (65536 : Int) < W ((n : Int) + W (growS l))) : mayC n l = 0 := by unfold mayC; rw [if_pos h,if_neg h2]
def apStep (x : ByteArray) (p : List UInt8 × Int) (e : Ed) : List UInt8 × Int := (p.1 ++ B (sub x p.2.toNat e.lo.toNat) ++ B e.tx,e.hi)
def apF (x : ByteArray) (l : List Ed) : List UInt8 × Int := l.foldl (apStep x) ([],0)
theorem apF_step {x : ByteArray} {l : List Ed} {i : Nat} {e : Ed} (he : l[i]? = some e) : apF x (l.take (i + 1)) = apStep x (apF x (l.take i)) e := foldl_step he
def apS (x : ByteArray) (l : List Ed) : ByteArray := ⟨⟨(apF x l).1 ++ B (sub x (apF x l).2.toNat (B x).length)⟩⟩
def NoTwin (l : List Ed) (i : Nat) : Prop := ∀ k,k < i → ∀ e a,l[k]? = some e → 0 < k → l[k - 1]? = some a → ¬ a.lo = e.lo
noncomputable instance (l : List Ed) (i : Nat) : Decidable (NoTwin l i) := Classical.propDecidable _
noncomputable instance (a b : List Ed) : Decidable (a = b) := Classical.propDecidable _
section
variable {T : Tab} {fr : Fr} {s s0 : St} {ops : Array Oper} {o : Oper} {os : List Oper} {Q : Fr → St → Prop}
theorem OL.none {α : Type} {c : α → List Value} {k : Nat} {el : TypeId} {lo : Nat} {t : Tree} {n N : Nat} : OL c k el lo t n (.slice (some ⟨N,0,Option.none⟩) 0 0) ([] : List α) := ⟨by simp,.inl ⟨rfl,_,rfl,.inr ⟨N,rfl⟩⟩⟩
end
theorem Bd.own {bT uT lo N : Nat} {x : List UInt8} {s s' : St} (h : Bd bT uT lo s.t s.next N x) (w : Own s s') : Bd bT uT lo s'.t s'.next N x := by
  obtain ⟨h1,p,v,h2,h3,h4,h5⟩ := h
  exact ⟨h1,p,v,h2.own w,h3,h4.own w,h5⟩
theorem Sl.nil {α : Type} {c : α → List Value} {k : Nat} (t : Tree) (n : Nat) : Sl c k t n Option.none ([] : List α) 0 0 [] 0 0 := ⟨fun h => absurd rfl h,fun h => absurd rfl h,fun i x h => by simp at h,by simp⟩
theorem Ed.one : ∀ y : Ed,∀ v ∈ y.cells,oneCell v = true := by intro y v hv; simp at hv; rcases hv with rfl | rfl | rfl <;> rfl
end Go.Ev

/-
  EV: the layer edit: the plain law: both ways to apply a list make the same text; what leads back is right where no two places are one.
-/
namespace Go.Ev
open Go
theorem NoTwin.step0 {L : List Ed} {i : Nat} (_ : NoTwin L i) (h0 : i = 0) : NoTwin L (i + 1) := fun k hk e a _ h => by omega
theorem NoTwin.step {L : List Ed} {i q : Nat} {e a : Ed} (h : NoTwin L i) (he : L[i]? = some e) (ha : L[q]? = some a) (hq : i = q + 1) (hne : ¬ a.lo = e.lo) : NoTwin L (i + 1) := fun k hk e' a' he' h0 ha' => by
  by_cases hki : k = i
  · subst hki; rw [he] at he'; cases he'; rw [show k - 1 = q by omega,ha] at ha'; cases ha'; exact hne
  · exact h k (by omega) e' a' he' h0 ha'
def appR (x : ByteArray) : List Ed → Int → List UInt8
  | [],a => (B x).drop a.toNat
  | e :: r,a => ((B x).drop a.toNat).take (e.lo.toNat - a.toNat) ++ B e.tx ++ appR x r e.hi
theorem ap_R (x : ByteArray) : ∀ (l : List Ed) (p : List UInt8) (a : Int),(l.foldl (apStep x) (p,a)).1 ++ B (sub x (l.foldl (apStep x) (p,a)).2.toNat (B x).length) = p ++ appR x l a
  | [],p,a => by
    simp only [List.foldl_nil,B_sub,appR]
    rw [List.take_of_length_le (by rw [List.length_drop]; exact Nat.le_refl _)]
  | e :: r,p,a => by
    have := ap_R x r (p ++ B (sub x a.toNat e.lo.toNat) ++ B e.tx) e.hi
    simp only [List.foldl_cons,apStep] at this ⊢
    rw [this]
    simp only [appR,B_sub,List.append_assoc]
section
variable {l : List Ed} {n : Int} (hR : Right l n)
include hR
theorem at_le {k : Nat} {e : Ed} (he : l[k]? = some e) : (fromF (l.take k)).2 ≤ e.lo := by
  cases k with
  | zero => exact (hR.2 0 (List.getElem?_eq_some_iff.1 he).1 e he).1.1
  | succ j =>
    have hl := (List.getElem?_eq_some_iff.1 he).1
    obtain ⟨a,ha⟩ := ex_at (l := l) (i := j) (by omega)
    rw [fromF_step ha]
    exact (hR.at he ha rfl).1
theorem pos_all : ∀ k,k ≤ l.length → 0 ≤ (fromF (l.take k)).2 ∧ (fromF (l.take k)).2 ≤ n ∧ 0 ≤ (fromF (l.take k)).2 + growS (l.take k) ∧ growS (l.take k) ≤ sumT (l.take k)
  | 0,_ => ⟨Int.le_refl _,hR.1,Int.le_refl _,by simp [growS,sumT]⟩
  | k + 1,h => by
    obtain ⟨e,he⟩ := ex_at (l := l) (i := k) (by omega)
    obtain ⟨h1,h2,h3,h4⟩ := pos_all k (by omega)
    have hw := (hR.2 k (by omega) e he).1
    have ha := at_le hR he
    have hs := sumT_step he
    have e1 : (fromF (l.take (k + 1))).2 = e.hi := by rw [fromF_step he]; rfl
    rw [e1,growS_step he]
    refine ⟨by omega,by omega,by omega,?_⟩
    rw [hs]; push_cast; omega
end
end Go.Ev
