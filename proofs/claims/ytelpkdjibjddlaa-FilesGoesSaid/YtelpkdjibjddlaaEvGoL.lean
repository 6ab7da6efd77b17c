/-
  EV: where a byte goes: the program's answer is the document's, for longer texts.
-/
import Derived.Test.YtelpkdjibjddlaaEvShiftLaw
namespace Go.Ev
open Go Go.RowKit
theorem go_genL {n q : Int} (hn : n ≤ 1000000) : ∀ (l : List Ed) (a b : Int) (S : Nat),Chain l a n → 0 ≤ a → 0 ≤ a + b → b ≤ S → S + sumT l ≤ 1000000 →
    (match (runsR l a b n).find? (fun r => decide (InR q r)) with | some r => (W (q + r.by'),0) | none => ((0,5) : Int × Int)) =
      match (fromR l a n).findIdx? (fun x => decide (x = q ∧ 0 ≤ q)) with | some i => (a + b + (i : Int),0) | none => (0,5)
  | [],a,b,S,hc,h0,h1,h2,h3 => by
    have hc : a ≤ n := hc
    simp only [runsR,fromR]
    rw [upTo_idx h0]
    by_cases h : a ≤ q ∧ q < n
    · rw [if_pos h,List.find?_cons_of_pos (by simpa [InR] using h)]
      simp only
      rw [W_id (by omega) (by omega)]
      simp only [Prod.mk.injEq,and_true]; omega
    · rw [if_neg h,List.find?_cons_of_neg (by simpa [InR] using h)]
      rfl
  | e :: r,a,b,S,hc,h0,h1,h2,h3 => by
    obtain ⟨c1,c2,c3,c4⟩ := hc
    have hs : sumT (e :: r) = (B e.tx).length + sumT r := by simp [sumT]
    simp only [runsR,fromR]
    rw [List.append_assoc,List.findIdx?_append,upTo_idx h0]
    by_cases h : a ≤ q ∧ q < e.lo
    · rw [if_pos h,List.find?_cons_of_pos (by simpa [InR] using h)]
      simp only [Option.some_or]
      rw [W_id (by omega) (by omega)]
      simp only [Prod.mk.injEq,and_true]; omega
    · rw [if_neg h,List.find?_cons_of_neg (by simpa [InR] using h),List.findIdx?_append,neg_idx]
      simp only [Option.none_or]
      rw [W_id (x := e.hi - e.lo) (by omega) (by omega),W_id (x := (((B e.tx).length : Nat) : Int) - (e.hi - e.lo)) (by omega) (by omega),W_id (by omega) (by omega)]
      rw [go_genL hn r e.hi _ (S + (B e.tx).length) c4 (by omega) (by omega) (by omega) (by omega)]
      cases (fromR r e.hi n).findIdx? (fun x => decide (x = q ∧ 0 ≤ q)) with
      | none => rfl
      | some i =>
        simp only [Option.map_some,List.length_replicate,upTo_len,Prod.mk.injEq,and_true]
        omega
theorem goS_eqL {l : List Ed} {n q : Int} (hR : Right l n) (hn : n ≤ 1000000) (hT : sumT l ≤ 1000000) : goS l n q = rgoS l n q := by
  unfold goS rgoS
  rw [runsS_R,fromS_R]
  refine (go_genL hn l 0 0 0 hR.chain (by omega) (by omega) (by omega) (by omega)).trans ?_
  cases (fromR l 0 n).findIdx? (fun x => decide (x = q ∧ 0 ≤ q)) with
  | none => rfl
  | some i => simp
end Go.Ev

