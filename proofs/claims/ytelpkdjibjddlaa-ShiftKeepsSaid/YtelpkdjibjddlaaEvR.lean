/-
  EV, PART R: what a part of the heap has become, put back into the whole; places that some of many write.
-/
import Derived.Test.YtelpkdjibjddlaaEvQ
import Derived.Orders
set_option linter.unusedSimpArgs false
set_option linter.unusedVariables false
namespace Go.Ev
open Go Go.RowKit

/-! A place that some of many write. -/

/-- What the last of the first 'n' that write a place has written there. -/
def lay {β : Type} (b0 : β) (τ : Nat → Bool) (val : Nat → β) : Nat → β
  | 0 => b0
  | n + 1 => if τ n = true then val n else lay b0 τ val n

theorem lay_congr {β : Type} {b0 : β} {τ τ' : Nat → Bool} {val : Nat → β} : ∀ {n : Nat}, (∀ i, i < n → τ i = τ' i) → lay b0 τ val n = lay b0 τ' val n
  | 0, _ => rfl
  | n + 1, h => by
    simp only [lay]
    rw [h n (Nat.lt_succ_self _), lay_congr fun i hi => h i (Nat.lt_succ_of_lt hi)]

theorem lay_skip {β : Type} {b0 : β} {τ : Nat → Bool} {val : Nat → β} {j : Nat} : ∀ {n : Nat}, j ≤ n → (∀ i, j ≤ i → i < n → τ i = false) → lay b0 τ val n = lay b0 τ val j
  | 0, hj, _ => by have : j = 0 := by omega
                   subst this; rfl
  | n + 1, hj, h => by
    by_cases e : j = n + 1
    · subst e; rfl
    · have := h n (by omega) (Nat.lt_succ_self _)
      simp only [lay, this, Bool.false_eq_true, if_false]
      exact lay_skip (by omega) fun i h1 h2 => h i h1 (by omega)

/-- What one that reads the place is shown: the same, whoever else has written. -/
theorem lay_view {β : Type} {b0 : β} {τ S : Nat → Bool} {val : Nat → β} {n j : Nat} (hj : j ≤ n) (h : ∀ i, i < n → τ i = true → (S i = true ↔ i < j)) : lay b0 (fun i => S i && τ i) val n = lay b0 τ val j := by
  rw [lay_skip hj fun i h1 h2 => ?_]
  · refine lay_congr fun i hi => ?_
    cases ht : τ i with
    | false => simp
    | true => rw [(h i (by omega) ht).2 hi]; rfl
  · cases ht : τ i with
    | false => simp
    | true =>
      cases hs : S i with
      | false => rfl
      | true => have := (h i h2 ht).1 hs; omega

theorem lay_put {β : Type} {b0 : β} {τ S : Nat → Bool} {val : Nat → β} {n j : Nat} (hj : j < n) (hτ : τ j = true) (h : ∀ i, j < i → i < n → S i = true → τ i = false) : lay b0 (fun i => (S i || i == j) && τ i) val n = val j := by
  rw [lay_skip (j := j + 1) (by omega) fun i h1 h2 => ?_]
  · simp [lay, hτ]
  · have : (i == j) = false := by simp; omega
    show ((S i || i == j) && τ i) = false
    rw [this, Bool.or_false]
    cases hs : S i with
    | false => rfl
    | true => simp [h i (by omega) h2 hs]

theorem lay_other {β : Type} {b0 : β} {τ S : Nat → Bool} {val : Nat → β} {n j : Nat} (hτ : τ j = false) : lay b0 (fun i => (S i || i == j) && τ i) val n = lay b0 (fun i => S i && τ i) val n := by
  refine lay_congr fun i _ => ?_
  by_cases e : i = j
  · subst e; simp [hτ]
  · have e' : (i == j) = false := by simpa using e
    show ((S i || i == j) && τ i) = (S i && τ i)
    rw [e', Bool.or_false]

/-! A part of the heap. -/

def Base.more (B : Base) (K : Nat → Prop) : Base := { B with keep := fun k => B.keep k ∨ K k }

/-- The blocks of names that aren't shown. -/
def Aside (φ : Phi) (H V : Nat → Option Blk) (k : Nat) : Prop := ∃ N L, H N ≠ none ∧ V N = none ∧ φ N = some L ∧ L.blk = k

theorem Rel.narrow {φ : Phi} {B : Base} {H V : Nat → Option Blk} {w : World} (h : Rel φ B H w) (hV : ∀ N b, V N = some b → H N = some b) : Rel φ (B.more (Aside φ H V)) V w := by
  have key : ∀ M b L, V M = some b → φ M = some L → wr b → ¬ Aside φ H V L.blk := by
    rintro M b L hM hL hw ⟨N, L', h1, h2, h3, h4⟩
    cases hN : H N with
    | none => exact h1 hN
    | some b' =>
      refine h.apart M N b b' L L' (fun e => ?_) (hV _ _ hM) hN hL h3 hw h4.symm
      subst e; rw [h2] at hM; cases hM
  refine ⟨fun k hk => ?_, fun N b hN => ?_, (h.sub hV).apart, h.inw⟩
  · rcases hk with hk | ⟨N, L, _, _, h3, rfl⟩
    · exact h.base k hk
    · exact h.inw N L h3
  · obtain ⟨L, hL, r⟩ := h.blk N b (hV _ _ hN)
    refine ⟨L, hL, ?_⟩
    have hk := key N b L hN hL
    cases b with
    | cells vs e hi =>
      obtain ⟨c, fz, k1, k2, k3, k4, k5⟩ := r
      exact ⟨c, fz, k1, k2, k3, k4, fun hh => ⟨fun x => x.elim (k5 hh).1 (hk hh), (k5 hh).2⟩⟩
    | obj o =>
      obtain ⟨o', k1, k2, k3, k4⟩ := r
      exact ⟨o', k1, k2, fun x => x.elim k3 (hk trivial), k4⟩

theorem Rel.widen {φ φ' : Phi} {B : Base} {H V V' : Nat → Option Blk} {w w' : World} {lo hi : Nat} {τ : Nat → Bool} (h : Rel φ B H w) (hV : ∀ N b, V N = some b → H N = some b)
    (hR : Rel φ' (B.more (Aside φ H V)) V' w') (hG : Grows (B.more (Aside φ H V)) φ φ' lo hi) (hK : KeepsB (B.more (Aside φ H V)) w w') (hf : Fresh φ lo hi)
    (hoff : ∀ N, τ N = false → V' N = V N) (hon : ∀ N, τ N = true → V' N ≠ none → V N ≠ none ∨ (lo ≤ N ∧ N < hi)) :
    Rel φ' B (fun N => if τ N = true then V' N else H N) w' ∧ Grows B φ φ' lo hi ∧ KeepsB B w w' := by
  -- each name is of the part, or it is aside
  have src : ∀ N b, (if τ N = true then V' N else H N) = some b → V' N = some b ∨ (H N = some b ∧ V N = none) := fun N b hN => by
    cases ht : τ N with
    | true => rw [ht] at hN; exact .inl (by simpa using hN)
    | false =>
      rw [ht] at hN
      simp only [Bool.false_eq_true, if_false] at hN
      cases hv : V N with
      | none => exact .inr ⟨hN, rfl⟩
      | some b' => have := hV _ _ hv; rw [hN] at this; cases this; exact .inl (by rw [hoff N ht, hv])
  have aside : ∀ N b L, H N = some b → V N = none → φ' N = some L → φ N = some L ∧ Aside φ H V L.blk := fun N b L h1 h2 h3 => by
    obtain ⟨L', hL', _⟩ := h.blk N b h1
    have := hG.1 N L' hL'
    rw [h3] at this; cases this
    exact ⟨hL', N, L, by rw [h1]; simp, h2, hL', rfl⟩
  -- a name of the part: it was there, or it stands for no block that is kept
  have part : ∀ N b L, V' N = some b → φ' N = some L → (∃ b', H N = some b' ∧ φ N = some L) ∨ ¬ Aside φ H V L.blk := fun N b L h1 h3 => by
    by_cases hv : V N = none
    · refine .inr fun ha => ?_
      have ht : τ N = true := by
        cases ht : τ N with
        | true => rfl
        | false => rw [hoff N ht, hv] at h1; cases h1
      rcases hon N ht (by rw [h1]; simp) with h4 | ⟨h4, h5⟩
      · exact h4 hv
      · rcases hG.2.2 N L h3 with h6 | h6
        · rw [hf N h4 h5] at h6; cases h6
        · exact h6 (.inr ha)
    · cases hv' : V N with
      | none => exact absurd hv' hv
      | some b' =>
        obtain ⟨L', hL', _⟩ := h.blk N b' (hV _ _ hv')
        have := hG.1 N L' hL'
        rw [h3] at this; cases this
        exact .inl ⟨b', hV _ _ hv', hL'⟩
  -- a writable name of the part stands for no block that is kept
  have apart : ∀ N b L, V' N = some b → φ' N = some L → wr b → ¬ Aside φ H V L.blk := fun N b L h1 h3 hw ha => by
    obtain ⟨L', hL', r⟩ := hR.blk N b h1
    rw [h3] at hL'; cases hL'
    cases b with
    | cells vs e hi => obtain ⟨_, _, _, _, _, _, k5⟩ := r; exact (k5 hw).1 (.inr ha)
    | obj o => obtain ⟨_, _, _, k3, _⟩ := r; exact k3 (.inr ha)
  refine ⟨⟨fun k hk => hR.base k (.inl hk), fun N b hN => ?_, fun N N' b b' L L' hne hN hN' hL hL' hw => ?_, hR.inw⟩, ⟨hG.1, hG.2.1, fun N L hL => (hG.2.2 N L hL).imp id fun x y => x (.inl y)⟩, ⟨hK.os, hK.tape, hK.output, hK.size, fun k hk => hK.block k (.inl hk)⟩⟩
  · rcases src N b hN with h1 | ⟨h1, h2⟩
    · obtain ⟨L, hL, r⟩ := hR.blk N b h1
      refine ⟨L, hL, ?_⟩
      cases b with
      | cells vs e hi =>
        obtain ⟨c, fz, k1, k2, k3, k4, k5⟩ := r
        exact ⟨c, fz, k1, k2, k3, k4, fun hh => ⟨fun x => (k5 hh).1 (.inl x), (k5 hh).2⟩⟩
      | obj o =>
        obtain ⟨o', k1, k2, k3, k4⟩ := r
        exact ⟨o', k1, k2, fun x => k3 (.inl x), k4⟩
    · obtain ⟨L, hL, r⟩ := h.blk N b h1
      have hL' := hG.1 N L hL
      have hk := hK.block L.blk (.inr (aside N b L h1 h2 hL').2)
      exact ⟨L, hL', (r.mono hG.1).congr hk⟩
  · rcases src N b hN with h1 | ⟨h1, h2⟩ <;> rcases src N' b' hN' with h1' | ⟨h1', h2'⟩
    · exact hR.apart N N' b b' L L' hne h1 h1' hL hL' hw
    · intro e
      exact apart N b L h1 hL hw (e ▸ (aside N' b' L' h1' h2' hL').2)
    · rcases part N' b' L' h1' hL' with ⟨b2, h5, h6⟩ | h5
      · exact h.apart N N' b b2 L L' hne h1 h5 (aside N b L h1 h2 hL).1 h6 hw
      · intro e
        exact h5 (e ▸ (aside N b L h1 h2 hL).2)
    · exact h.apart N N' b b' L L' hne h1 h1' (aside N b L h1 h2 hL).1 (aside N' b' L' h1' h2' hL').1 hw

end Go.Ev
