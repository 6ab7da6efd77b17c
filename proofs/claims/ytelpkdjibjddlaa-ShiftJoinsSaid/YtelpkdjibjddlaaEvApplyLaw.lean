/-
  EV: the layer edit: the plain law: both ways to apply a list make the same text; what leads back is right where no two places are one.
-/
import Derived.Test.YtelpkdjibjddlaaEvApply
namespace Go.Ev
open Go
theorem NoTwin.step0 {L : List Ed} {i : Nat} (_ : NoTwin L i) (h0 : i = 0) : NoTwin L (i + 1) := fun k hk e a _ h => by omega
theorem NoTwin.step {L : List Ed} {i q : Nat} {e a : Ed} (h : NoTwin L i) (he : L[i]? = some e) (ha : L[q]? = some a) (hq : i = q + 1) (hne : ¬ a.lo = e.lo) : NoTwin L (i + 1) := fun k hk e' a' he' h0 ha' => by
  by_cases hki : k = i
  · subst hki; rw [he] at he'; cases he'; rw [show k - 1 = q by omega,ha] at ha'; cases ha'; exact hne
  · exact h k (by omega) e' a' he' h0 ha'
section
variable {l : List Ed} {n : Int} (hR : Right l n)
include hR
theorem at_le {k : Nat} {e : Ed} (he : l[k]? = some e) : (fromF (l.take k)).2 ≤ e.lo := by
  cases k with
  | zero => exact (hR.2 0 (List.getElem?_eq_some_iff.1 he).1 e he).1.1
  | succ j =>
    have hl := (List.getElem?_eq_some_iff.1 he).1
    obtain ⟨a,ha⟩ := ex_at (l := l) (i := j) (by omega)
    rw [fromF_step ha]
    exact (hR.at he ha rfl).1
theorem pos_all : ∀ k,k ≤ l.length → 0 ≤ (fromF (l.take k)).2 ∧ (fromF (l.take k)).2 ≤ n ∧ 0 ≤ (fromF (l.take k)).2 + growS (l.take k) ∧ growS (l.take k) ≤ sumT (l.take k)
  | 0,_ => ⟨Int.le_refl _,hR.1,Int.le_refl _,by simp [growS,sumT]⟩
  | k + 1,h => by
    obtain ⟨e,he⟩ := ex_at (l := l) (i := k) (by omega)
    obtain ⟨h1,h2,h3,h4⟩ := pos_all k (by omega)
    have hw := (hR.2 k (by omega) e he).1
    have ha := at_le hR he
    have hs := sumT_step he
    have e1 : (fromF (l.take (k + 1))).2 = e.hi := by rw [fromF_step he]; rfl
    rw [e1,growS_step he]
    refine ⟨by omega,by omega,by omega,?_⟩
    rw [hs]; push_cast; omega
end
end Go.Ev

