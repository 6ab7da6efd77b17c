/-
  EV: the layer edit: the plain law: both ways to apply a list make the same text; what leads back is right where no two places are one.
-/
import Derived.Test.YtelpkdjibjddlaaEvApply
namespace Go.Ev
open Go
theorem NoTwin.step0 {L : List Ed} {i : Nat} (_ : NoTwin L i) (h0 : i = 0) : NoTwin L (i + 1) := fun k hk e a _ h => by omega
theorem NoTwin.step {L : List Ed} {i q : Nat} {e a : Ed} (h : NoTwin L i) (he : L[i]? = some e) (ha : L[q]? = some a) (hq : i = q + 1) (hne : ¬ a.lo = e.lo) : NoTwin L (i + 1) := fun k hk e' a' he' h0 ha' => by
  by_cases hki : k = i
  · subst hki; rw [he] at he'; cases he'; rw [show k - 1 = q by omega,ha] at ha'; cases ha'; exact hne
  · exact h k (by omega) e' a' he' h0 ha'
def appR (x : ByteArray) : List Ed → Int → List UInt8
  | [],a => (B x).drop a.toNat
  | e :: r,a => ((B x).drop a.toNat).take (e.lo.toNat - a.toNat) ++ B e.tx ++ appR x r e.hi
theorem ap_R (x : ByteArray) : ∀ (l : List Ed) (p : List UInt8) (a : Int),(l.foldl (apStep x) (p,a)).1 ++ B (sub x (l.foldl (apStep x) (p,a)).2.toNat (B x).length) = p ++ appR x l a
  | [],p,a => by
    simp only [List.foldl_nil,B_sub,appR]
    rw [List.take_of_length_le (by rw [List.length_drop]; exact Nat.le_refl _)]
  | e :: r,p,a => by
    have := ap_R x r (p ++ B (sub x a.toNat e.lo.toNat) ++ B e.tx) e.hi
    simp only [List.foldl_cons,apStep] at this ⊢
    rw [this]
    simp only [appR,B_sub,List.append_assoc]
theorem rap_R (x : ByteArray) : ∀ (l : List Ed) (a : Int),0 ≤ a → Chain l a (((B x).length : Nat) : Int) → B (rapS x l) = (B x).take a.toNat ++ appR x l a
  | [],a,h0,hc => by simp [rapS,appR]
  | e :: r,a,h0,hc => by
    obtain ⟨c1,c2,c3,c4⟩ := hc
    have ih := rap_R x r e.hi (by omega) c4
    show B (rapStep e (rapS x r)) = _
    have hl1 : ((B x).take e.hi.toNat).length = e.hi.toNat := by rw [List.length_take]; omega
    have e1 : (B (rapS x r)).take e.lo.toNat = (B x).take e.lo.toNat := by
      rw [ih,List.take_append_of_le_length (by omega),List.take_take,Nat.min_eq_left (by omega)]
    have e2 : (B (rapS x r)).drop e.hi.toNat = appR x r e.hi := by
      rw [ih,List.drop_left' hl1]
    have e3 : (B x).take e.lo.toNat = (B x).take a.toNat ++ ((B x).drop a.toNat).take (e.lo.toNat - a.toNat) := by
      rw [← List.take_add]; congr 1; omega
    unfold rapStep
    rw [B_cat,B_cat,B_sub,B_sub,List.drop_zero,Nat.sub_zero,e1,e2]
    have e4 : (appR x r e.hi).take ((B (rapS x r)).length - e.hi.toNat) = appR x r e.hi := by
      refine List.take_of_length_le ?_
      rw [← e2,List.length_drop]; exact Nat.le_refl _
    rw [e4,e3]
    simp only [appR,List.append_assoc]
theorem ap_eq {x : ByteArray} {l : List Ed} (hR : Right l (((B x).length : Nat) : Int)) : apS x l = rapS x l := by
  refine B_inj ?_
  rw [rap_R x l 0 (by omega) hR.chain]
  have := ap_R x l [] 0
  rw [List.nil_append] at this
  simpa [apS,apF,B] using this
section
variable {l : List Ed} {n : Int} (hR : Right l n)
include hR
end
end Go.Ev

