/-
  EV: the layer edit: the plain law: both ways to apply a list make the same text; what leads back is right where no two places are one.
-/
import Derived.Test.YtelpkdjibjddlaaEvApply
namespace Go.Ev
open Go
theorem inv_pre (x : ByteArray) : ∀ (l : List Ed) (p : List Ed × Int),∃ r,(l.foldl (invStep x) p).1 = p.1 ++ r
  | [],p => ⟨[],by simp⟩
  | e :: l,p => by
    obtain ⟨r,hr⟩ := inv_pre x l (invStep x p e)
    refine ⟨(invStep x ([],p.2) e).1 ++ r,?_⟩
    rw [List.foldl_cons,hr]
    simp [invStep]
theorem inv_take (x : ByteArray) (l : List Ed) (i : Nat) : ∃ r,invS x l = (invF x (l.take i)).1 ++ r := by
  unfold invS invF
  conv => enter [1,r,1]; rw [← List.take_append_drop i l,List.foldl_append]
  exact inv_pre x _ _
theorem inv_old {x : ByteArray} {l : List Ed} {i q : Nat} {a : Ed} (hq : q < i) (hi : i ≤ l.length) (h : (invF x (l.take i)).1[q]? = some a) : (invS x l)[q]? = some a := by
  obtain ⟨r,hr⟩ := inv_take x l i
  rw [hr,List.getElem?_append_left (by rw [invF_len' hi]; exact hq)]; exact h
theorem inv_at {x : ByteArray} {l : List Ed} {i : Nat} {e : Ed} (he : l[i]? = some e) : (invS x l)[i]? = some ⟨W (e.lo + (invF x (l.take i)).2),W (W (e.lo + (invF x (l.take i)).2) + (((B e.tx).length : Nat) : Int)),sub x e.lo.toNat e.hi.toNat⟩ := by
  have hi := (List.getElem?_eq_some_iff.1 he).1
  refine inv_old (i := i + 1) (Nat.lt_succ_self i) hi ?_
  rw [invF_step he]
  show ((invF x (l.take i)).1 ++ [_])[i]? = _
  rw [List.getElem?_append_right (by rw [invF_len' (by omega)]; exact Nat.le_refl _),invF_len' (by omega),Nat.sub_self]; rfl
theorem NoTwin.step0 {L : List Ed} {i : Nat} (_ : NoTwin L i) (h0 : i = 0) : NoTwin L (i + 1) := fun k hk e a _ h => by omega
theorem NoTwin.step {L : List Ed} {i q : Nat} {e a : Ed} (h : NoTwin L i) (he : L[i]? = some e) (ha : L[q]? = some a) (hq : i = q + 1) (hne : ¬ a.lo = e.lo) : NoTwin L (i + 1) := fun k hk e' a' he' h0 ha' => by
  by_cases hki : k = i
  · subst hki; rw [he] at he'; cases he'; rw [show k - 1 = q by omega,ha] at ha'; cases ha'; exact hne
  · exact h k (by omega) e' a' he' h0 ha'
def appR (x : ByteArray) : List Ed → Int → List UInt8
  | [],a => (B x).drop a.toNat
  | e :: r,a => ((B x).drop a.toNat).take (e.lo.toNat - a.toNat) ++ B e.tx ++ appR x r e.hi
theorem ap_R (x : ByteArray) : ∀ (l : List Ed) (p : List UInt8) (a : Int),(l.foldl (apStep x) (p,a)).1 ++ B (sub x (l.foldl (apStep x) (p,a)).2.toNat (B x).length) = p ++ appR x l a
  | [],p,a => by
    simp only [List.foldl_nil,B_sub,appR]
    rw [List.take_of_length_le (by rw [List.length_drop]; exact Nat.le_refl _)]
  | e :: r,p,a => by
    have := ap_R x r (p ++ B (sub x a.toNat e.lo.toNat) ++ B e.tx) e.hi
    simp only [List.foldl_cons,apStep] at this ⊢
    rw [this]
    simp only [appR,B_sub,List.append_assoc]
section
variable {l : List Ed} {n : Int} (hR : Right l n)
include hR
theorem at_le {k : Nat} {e : Ed} (he : l[k]? = some e) : (fromF (l.take k)).2 ≤ e.lo := by
  cases k with
  | zero => exact (hR.2 0 (List.getElem?_eq_some_iff.1 he).1 e he).1.1
  | succ j =>
    have hl := (List.getElem?_eq_some_iff.1 he).1
    obtain ⟨a,ha⟩ := ex_at (l := l) (i := j) (by omega)
    rw [fromF_step ha]
    exact (hR.at he ha rfl).1
theorem pos_all : ∀ k,k ≤ l.length → 0 ≤ (fromF (l.take k)).2 ∧ (fromF (l.take k)).2 ≤ n ∧ 0 ≤ (fromF (l.take k)).2 + growS (l.take k) ∧ growS (l.take k) ≤ sumT (l.take k)
  | 0,_ => ⟨Int.le_refl _,hR.1,Int.le_refl _,by simp [growS,sumT]⟩
  | k + 1,h => by
    obtain ⟨e,he⟩ := ex_at (l := l) (i := k) (by omega)
    obtain ⟨h1,h2,h3,h4⟩ := pos_all k (by omega)
    have hw := (hR.2 k (by omega) e he).1
    have ha := at_le hR he
    have hs := sumT_step he
    have e1 : (fromF (l.take (k + 1))).2 = e.hi := by rw [fromF_step he]; rfl
    rw [e1,growS_step he]
    refine ⟨by omega,by omega,by omega,?_⟩
    rw [hs]; push_cast; omega
theorem pos_step {k : Nat} {e : Ed} (he : l[k]? = some e) : e.lo + growS (l.take k) + ((B e.tx).length : Int) = (fromF (l.take (k + 1))).2 + growS (l.take (k + 1)) := by
  have _ := hR
  rw [growS_step he,fromF_step he]
  show _ = e.hi + _
  omega
theorem pos_mono : ∀ j k,k + j ≤ l.length → (fromF (l.take k)).2 + growS (l.take k) ≤ (fromF (l.take (k + j))).2 + growS (l.take (k + j))
  | 0,k,_ => Int.le_refl _
  | j + 1,k,h => by
    have h1 := pos_mono j k (by omega)
    obtain ⟨e,he⟩ := ex_at (l := l) (i := k + j) (by omega)
    have h2 := pos_step hR he
    have h3 := at_le hR he
    rw [← Nat.add_assoc,← h2]; omega
end
theorem inv_iff {x : ByteArray} {l : List Ed} (hS : (B x).length + sumT l ≤ 1000000) (hB : l.length ≤ 1000) (h0 : mayC (B x).length l = 0) : Right (invS x l) (W ((((B x).length : Nat) : Int) + W (growS l))) ↔ NoTwin (invS x l) l.length := by
  have hR := (may0 h0).1
  have hlen : (invS x l).length = l.length := by have := invF_len' (x := x) (Nat.le_refl l.length); rwa [List.take_length] at this
  have hall := pos_all hR l.length (Nat.le_refl _)
  rw [List.take_length] at hall
  obtain ⟨a1,a2,a3,a4⟩ := hall
  have w1 : W (growS l) = growS l := W_id (by omega) (by omega)
  have w2 : W ((((B x).length : Nat) : Int) + growS l) = ((B x).length : Int) + growS l := W_id (by omega) (by omega)
  rw [w1,w2]
  -- what stands at each place
  have each : ∀ k e,l[k]? = some e → ∃ E : Ed,(invS x l)[k]? = some E ∧ E.lo = e.lo + growS (l.take k) ∧ E.hi = e.lo + growS (l.take k) + ((B e.tx).length : Int) := fun k e he => by
    have hk := (List.getElem?_eq_some_iff.1 he).1
    obtain ⟨b1,b2,b3,b4⟩ := pos_all hR k (by omega)
    have hw := (hR.2 k hk e he).1
    have ha := at_le hR he
    have hT := sumT_le l k
    have hE := sumT_get he
    refine ⟨_,inv_at he,?_,?_⟩
    · rw [invF_by (by omega),W_id (x := growS (l.take k)) (by omega) (by omega)]
      exact W_id (by omega) (by omega)
    · simp only
      rw [invF_by (by omega),W_id (x := growS (l.take k)) (by omega) (by omega),W_id (x := e.lo + growS (l.take k)) (by omega) (by omega)]
      exact W_id (by omega) (by omega)
  have step : ∀ k e a,l[k + 1]? = some e → l[k]? = some a → a.lo + growS (l.take k) + ((B a.tx).length : Int) ≤ e.lo + growS (l.take (k + 1)) := fun k e a he ha => by
    have h1 := pos_step hR ha
    have h2 := at_le hR he
    rw [h1]; omega
  constructor
  · intro hI k hk e a he h0' ha
    have := (hI.2 k (by omega) e he).2 a h0' ha
    exact Int.ne_of_lt this.2
  · intro hN
    refine ⟨by omega,fun k hk E hE => ?_⟩
    obtain ⟨e,he⟩ := ex_at (l := l) (i := k) (by omega)
    obtain ⟨E',h1,h2,h3⟩ := each k e he
    rw [h1] at hE; cases hE
    obtain ⟨b1,b2,b3,b4⟩ := pos_all hR k (by omega)
    have ha := at_le hR he
    have hst := pos_step hR he
    have hm := pos_mono hR (l.length - (k + 1)) (k + 1) (by omega)
    rw [show k + 1 + (l.length - (k + 1)) = l.length by omega,List.take_length] at hm
    refine ⟨⟨by omega,by omega,by omega⟩,fun A hk0 hA => ?_⟩
    obtain ⟨j,rfl⟩ : ∃ j,k = j + 1 := ⟨k - 1,by omega⟩
    rw [Nat.add_sub_cancel] at hA
    obtain ⟨a,ha'⟩ := ex_at (l := l) (i := j) (by omega)
    obtain ⟨A',g1,g2,g3⟩ := each j a ha'
    rw [g1] at hA; cases hA
    have hs := step j e a he ha'
    have hne := hN (j + 1) (by omega) _ _ h1 (by omega) (by rw [Nat.add_sub_cancel]; exact g1)
    exact ⟨by omega,by omega⟩
end Go.Ev

