/-
  EV: what the functions of the layer edit compute that make texts, in plain Lean.
-/
import Derived.Test.YtelpkdjibjddlaaEvDrawn
import Derived.Test.YtelpkdjibjddlaaEvShiftLaw
namespace Go.Ev
open Go Go.RowKit
noncomputable def mayC (n : Nat) (l : List Ed) : Int := if Right l n then (if (65536 : Int) < W ((n : Int) + W (growS l)) then 4 else 0) else 2
theorem may0 {n : Nat} {l : List Ed} (h : mayC n l = 0) : Right l n ∧ ¬ (65536 : Int) < W ((n : Int) + W (growS l)) := by
  unfold mayC at h
  split at h
  · rename_i hR
    split at h
    · cases h
    · rename_i hw; exact ⟨hR,hw⟩
  · cases h
theorem may2 {n : Nat} {l : List Ed} (h : ¬ Right l n) : mayC n l = 2 := by unfold mayC; rw [if_neg h]
theorem may4 {n : Nat} {l : List Ed} (h : Right l n) (h2 : (65536 : Int) < W ((n : Int) + W (growS l))) : mayC n l = 4 := by unfold mayC; rw [if_pos h,if_pos h2]
theorem mayOk {n : Nat} {l : List Ed} (h : Right l n) (h2 : ¬ (65536 : Int) < W ((n : Int) + W (growS l))) : mayC n l = 0 := by unfold mayC; rw [if_pos h,if_neg h2]
def apStep (x : ByteArray) (p : List UInt8 × Int) (e : Ed) : List UInt8 × Int := (p.1 ++ B (sub x p.2.toNat e.lo.toNat) ++ B e.tx,e.hi)
def apF (x : ByteArray) (l : List Ed) : List UInt8 × Int := l.foldl (apStep x) ([],0)
theorem apF_step {x : ByteArray} {l : List Ed} {i : Nat} {e : Ed} (he : l[i]? = some e) : apF x (l.take (i + 1)) = apStep x (apF x (l.take i)) e := foldl_step he
def apS (x : ByteArray) (l : List Ed) : ByteArray := ⟨⟨(apF x l).1 ++ B (sub x (apF x l).2.toNat (B x).length)⟩⟩
def invStep (x : ByteArray) (p : List Ed × Int) (e : Ed) : List Ed × Int := (p.1 ++ [⟨W (e.lo + p.2),W (W (e.lo + p.2) + (((B e.tx).length : Nat) : Int)),sub x e.lo.toNat e.hi.toNat⟩],W (p.2 + W ((((B e.tx).length : Nat) : Int) - W (e.hi - e.lo))))
def invF (x : ByteArray) (l : List Ed) : List Ed × Int := l.foldl (invStep x) ([],0)
def invS (x : ByteArray) (l : List Ed) : List Ed := (invF x l).1
theorem invF_step {x : ByteArray} {l : List Ed} {i : Nat} {e : Ed} (he : l[i]? = some e) : invF x (l.take (i + 1)) = invStep x (invF x (l.take i)) e := foldl_step he
theorem invF_len (x : ByteArray) : ∀ (l : List Ed) (p : List Ed × Int),(l.foldl (invStep x) p).1.length = p.1.length + l.length
  | [],p => by simp
  | e :: l,p => by simp [invF_len x l,invStep]; omega
theorem invF_len' {x : ByteArray} {l : List Ed} {i : Nat} (hi : i ≤ l.length) : (invF x (l.take i)).1.length = i := by
  unfold invF; rw [invF_len]; simp; omega
theorem invF_by {x : ByteArray} {l : List Ed} : ∀ {i : Nat},i ≤ l.length → (invF x (l.take i)).2 = W (growS (l.take i))
  | 0,_ => rfl
  | i + 1,h => by
    obtain ⟨e,he⟩ := ex_at (l := l) (i := i) (by omega)
    rw [invF_step he,growS_step he]
    show W ((invF x (l.take i)).2 + _) = _
    rw [invF_by (by omega)]
    simp only [W_def]
    omega
def NoTwin (l : List Ed) (i : Nat) : Prop := ∀ k,k < i → ∀ e a,l[k]? = some e → 0 < k → l[k - 1]? = some a → ¬ a.lo = e.lo
noncomputable instance (l : List Ed) (i : Nat) : Decidable (NoTwin l i) := Classical.propDecidable _
noncomputable instance (a b : List Ed) : Decidable (a = b) := Classical.propDecidable _
section
variable {T : Tab} {fr : Fr} {s s0 : St} {ops : Array Oper} {o : Oper} {os : List Oper} {Q : Fr → St → Prop}
theorem OL.none {α : Type} {c : α → List Value} {k : Nat} {el : TypeId} {lo : Nat} {t : Tree} {n N : Nat} : OL c k el lo t n (.slice (some ⟨N,0,Option.none⟩) 0 0) ([] : List α) := ⟨by simp,.inl ⟨rfl,_,rfl,.inr ⟨N,rfl⟩⟩⟩
end
theorem Bd.own {bT uT lo N : Nat} {x : List UInt8} {s s' : St} (h : Bd bT uT lo s.t s.next N x) (w : Own s s') : Bd bT uT lo s'.t s'.next N x := by
  obtain ⟨h1,p,v,h2,h3,h4,h5⟩ := h
  exact ⟨h1,p,v,h2.own w,h3,h4.own w,h5⟩
theorem Sl.nil {α : Type} {c : α → List Value} {k : Nat} (t : Tree) (n : Nat) : Sl c k t n Option.none ([] : List α) 0 0 [] 0 0 := ⟨fun h => absurd rfl h,fun h => absurd rfl h,fun i x h => by simp at h,by simp⟩
theorem Ed.one : ∀ y : Ed,∀ v ∈ y.cells,oneCell v = true := by intro y v hv; simp at hv; rcases hv with rfl | rfl | rfl <;> rfl
end Go.Ev

