/-
  EV: the layer shift: the plain law: where a byte goes by the runs is where it goes by the list of all bytes.
-/
import Derived.Test.YtelpkdjibjddlaaEvShift
namespace Go.Ev
open Go
theorem sumT_get {l : List Ed} {i : Nat} {e : Ed} (he : l[i]? = some e) : (B e.tx).length ≤ sumT l := by
  have h1 := sumT_step he
  have h2 := sumT_le l (i + 1)
  omega
def Chain : List Ed → Int → Int → Prop
  | [],a,n => a ≤ n
  | e :: r,a,n => a ≤ e.lo ∧ e.lo ≤ e.hi ∧ e.hi ≤ n ∧ Chain r e.hi n
theorem chain_of {n : Int} : ∀ (l : List Ed) (a : Int),(∀ k,k < l.length → OkAt l n k) → (∀ e,l[0]? = some e → a ≤ e.lo) → a ≤ n → Chain l a n
  | [],a,_,_,h => h
  | e :: r,a,h,h0,hn => by
    have hw := (h 0 (by simp) e rfl).1
    refine ⟨h0 e rfl,hw.2.1,hw.2.2,chain_of r e.hi (fun k hk => ?_) (fun e' he' => ?_) hw.2.2⟩
    · intro e' he'
      have := h (k + 1) (by simp; omega) e' (by simpa using he')
      refine ⟨this.1,fun a' h0 ha' => this.2 a' (by omega) ?_⟩
      rw [Nat.add_sub_cancel]
      obtain ⟨j,rfl⟩ : ∃ j,k = j + 1 := ⟨k - 1,by omega⟩
      simpa using ha'
    · have hl : 0 < r.length := (List.getElem?_eq_some_iff.1 he').1
      exact ((h 1 (by simp; omega) e' (by simpa using he')).2 e (by omega) rfl).1
theorem Right.chain {l : List Ed} {n : Int} (h : Right l n) : Chain l 0 n := chain_of l 0 h.2 (fun e he => (h.2 0 (List.getElem?_eq_some_iff.1 he).1 e he).1.1) h.1
theorem Chain.le : ∀ {l : List Ed} {a n : Int},Chain l a n → a ≤ n
  | [],_,_,h => h
  | _ :: _,_,_,h => by obtain ⟨h1,h2,h3,_⟩ := h; omega
end Go.Ev

