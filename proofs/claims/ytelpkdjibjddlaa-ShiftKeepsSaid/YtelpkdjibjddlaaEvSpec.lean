/-
  EV: what the functions of lists of edits compute, in plain Lean.
-/
import Derived.Test.YtelpkdjibjddlaaEvGrow
set_option linter.unusedSimpArgs false
set_option linter.unusedVariables false
namespace Go.Ev
open Go
abbrev Within (e : Ed) (n : Int) : Prop := 0 ≤ e.lo ∧ e.lo ≤ e.hi ∧ e.hi ≤ n
abbrev Behind (a e : Ed) : Prop := a.hi ≤ e.lo ∧ a.lo < e.lo
abbrev Nothing (e : Ed) : Prop := e.lo = e.hi ∧ B e.tx = B ByteArray.empty
/-- Is what stands at this place as told? -/
def OkAt (l : List Ed) (n : Int) (i : Nat) : Prop := ∀ e, l[i]? = some e → Within e n ∧ ∀ a, 0 < i → l[i - 1]? = some a → Behind a e
def Ok (l : List Ed) (n : Int) (i : Nat) : Prop := ∀ k, k < i → OkAt l n k
def Right (l : List Ed) (n : Int) : Prop := 0 ≤ n ∧ ∀ k, k < l.length → OkAt l n k
noncomputable instance (l : List Ed) (n : Int) : Decidable (Right l n) := Classical.propDecidable _
theorem Ok.step0 {l : List Ed} {n : Int} {i : Nat} {e : Ed} (h : Ok l n i) (he : l[i]? = some e) (hw : Within e n) (h0 : i = 0) : Ok l n (i + 1) := fun k hk => by
  by_cases hki : k = i
  · subst hki; intro e' he'; rw [he] at he'; cases he'; exact ⟨hw, fun _ h => by omega⟩
  · exact h k (by omega)
theorem Ok.step {l : List Ed} {n : Int} {i q : Nat} {e a : Ed} (h : Ok l n i) (he : l[i]? = some e) (hw : Within e n) (ha : l[q]? = some a) (hq : i = q + 1) (hb : Behind a e) : Ok l n (i + 1) := fun k hk => by
  by_cases hki : k = i
  · subst hki; intro e' he'; rw [he] at he'; cases he'
    refine ⟨hw, fun a' _ ha' => ?_⟩
    rw [hq, Nat.add_sub_cancel, ha] at ha'; cases ha'; exact hb
  · exact h k (by omega)
theorem Ok.at {l : List Ed} {n : Int} {i k : Nat} {e : Ed} (h : Ok l n i) (he : l[k]? = some e) (hk : k < i) : Within e n := (h k hk e he).1
theorem Right.at {l : List Ed} {n : Int} {i q : Nat} {e a : Ed} (h : Right l n) (he : l[i]? = some e) (ha : l[q]? = some a) (hq : i = q + 1) : Behind a e := by
  obtain ⟨hl, _⟩ := List.getElem?_eq_some_iff.1 he
  exact (h.2 i hl e he).2 a (by omega) (by rw [hq, Nat.add_sub_cancel]; exact ha)

structure Ed.Ok (e : Ed) : Prop where
  lo1 : -9223372036854775808 ≤ e.lo
  lo2 : e.lo < 9223372036854775808
  hi1 : -9223372036854775808 ≤ e.hi
  hi2 : e.hi < 9223372036854775808
  tx : (B e.tx).length ≤ 140737488351232
/-- The bytes of all texts. -/
def sumT (l : List Ed) : Nat := (l.map fun e => (B e.tx).length).sum
theorem sumT_step {l : List Ed} {i : Nat} {e : Ed} (he : l[i]? = some e) : sumT (l.take (i + 1)) = sumT (l.take i) + (B e.tx).length := by
  unfold sumT
  rw [List.take_add_one, he]
  simp
theorem sumT_le (l : List Ed) (i : Nat) : sumT (l.take i) ≤ sumT l := by
  unfold sumT
  conv => rhs; rw [← List.take_append_drop i l]
  rw [List.map_append, List.sum_append]
  omega
theorem sumT_all (l : List Ed) : sumT (l.take l.length) = sumT l := by rw [List.take_length]
abbrev Large (n : Nat) (l : List Ed) : Prop := 41 < l.length ∨ 70000 < n + sumT l
/-- By how much a text grows. -/
def growS (l : List Ed) : Int := (l.map fun e => ((B e.tx).length : Int) - (e.hi - e.lo)).sum
theorem growS_step {l : List Ed} {i : Nat} {e : Ed} (he : l[i]? = some e) : growS (l.take (i + 1)) = growS (l.take i) + (((B e.tx).length : Int) - (e.hi - e.lo)) := by
  unfold growS
  rw [List.take_add_one, he]
  simp
theorem W_def (x : Int) : W x = if 9223372036854775808 ≤ x % 18446744073709551616 then x % 18446744073709551616 - 18446744073709551616 else x % 18446744073709551616 := by
  unfold W IntKind.wrap
  simp [IntKind.signed, IntKind.bits]
theorem W_grow1 {l : List Ed} {i : Nat} {e : Ed} (he : l[i]? = some e) : W (W (growS (l.take i)) + W ((((B e.tx).length : Nat) : Int) - W (e.hi - e.lo))) = W (growS (l.take (i + 1))) := by
  rw [growS_step he]
  simp only [W_def]
  omega
theorem W_grow2 {l : List Ed} {i : Nat} {e : Ed} (he : l[i]? = some e) : W (W (W (W (growS (l.take i)) + (((B e.tx).length : Nat) : Int)) - e.hi) + e.lo) = W (growS (l.take (i + 1))) := by
  rw [growS_step he]
  simp only [W_def]
  omega
/-- The first place of an edit that puts nothing in place of nothing. -/
def firstN (l : List Ed) : Int := match l.findIdx? (fun e => decide (Nothing e)) with
  | some i => (i : Int)
  | none => -1
def NoN (l : List Ed) (i : Nat) : Prop := ∀ k, k < i → ∀ e, l[k]? = some e → ¬ Nothing e
theorem NoN.step {l : List Ed} {i : Nat} {e : Ed} (h : NoN l i) (he : l[i]? = some e) (hn : ¬ Nothing e) : NoN l (i + 1) := fun k hk e' he' => by
  by_cases hki : k = i
  · subst hki; rw [he] at he'; cases he'; exact hn
  · exact h k (by omega) e' he'
theorem firstN_at {l : List Ed} {i : Nat} {e : Ed} (he : l[i]? = some e) (hn : Nothing e) (h : NoN l i) : firstN l = (i : Int) := by
  obtain ⟨hi, rfl⟩ := List.getElem?_eq_some_iff.1 he
  have : l.findIdx? (fun e => decide (Nothing e)) = some i := by
    rw [List.findIdx?_eq_some_iff_getElem]
    refine ⟨hi, decide_eq_true hn, fun j hj => ?_⟩
    have := h j hj l[j] (List.getElem?_eq_getElem (by omega))
    simpa using this
  unfold firstN; rw [this]
theorem firstN_none {l : List Ed} {i : Nat} (h : NoN l i) (hi : l.length ≤ i) : firstN l = -1 := by
  have : l.findIdx? (fun e => decide (Nothing e)) = none := by
    rw [List.findIdx?_eq_none_iff]
    intro e he
    obtain ⟨k, hk⟩ := List.getElem?_of_mem he
    obtain ⟨hkl, _⟩ := List.getElem?_eq_some_iff.1 hk
    exact decide_eq_false (h k (by omega) e hk)
  unfold firstN; rw [this]
theorem NoN.none {l : List Ed} {i : Nat} (h : NoN l i) (hi : l.length ≤ i) : ¬ 0 ≤ firstN l := by rw [firstN_none h hi]; decide
theorem firstN_has {l : List Ed} {i : Nat} {e : Ed} (he : l[i]? = some e) (hn : Nothing e) : 0 ≤ firstN l := by
  unfold firstN
  split
  · exact Int.natCast_nonneg _
  · rename_i h
    rw [List.findIdx?_eq_none_iff] at h
    have := h e (List.mem_of_getElem? he)
    exact absurd hn (of_decide_eq_false this)
def Apt (l : List Ed) (i : Nat) : Prop := ∀ k, k < i → ∀ e a, l[k]? = some e → 0 < k → l[k - 1]? = some a → ¬ e.lo = a.hi
theorem Apt.one (l : List Ed) : Apt l 1 := fun k hk e a _ h => by omega
theorem Apt.step0 {l : List Ed} {i : Nat} (h : Apt l i) (h0 : i = 0) : Apt l (i + 1) := fun k hk e a _ h => by omega
theorem Apt.step {l : List Ed} {i q : Nat} {e a : Ed} (h : Apt l i) (he : l[i]? = some e) (ha : l[q]? = some a) (hq : i = q + 1) (hne : ¬ e.lo = a.hi) : Apt l (i + 1) := fun k hk e' a' he' h0 ha' => by
  by_cases hki : k = i
  · subst hki; rw [he] at he'; cases he'; rw [show k - 1 = q by omega, ha] at ha'; cases ha'; exact hne
  · exact h k (by omega) e' a' he' h0 ha'
def Plain (l : List Ed) (n : Int) : Prop := Right l n ∧ ¬ 0 ≤ firstN l ∧ ∀ k, k < l.length → ∀ e a, l[k]? = some e → 0 < k → l[k - 1]? = some a → ¬ e.lo = a.hi
noncomputable instance (l : List Ed) (n : Int) : Decidable (Plain l n) := Classical.propDecidable _
theorem nn2 {e : Ed} (h : ¬ (((B e.tx).length : Nat) : Int) = 0) : ¬ Nothing e := fun hn => h (by rw [hn.2]; rfl)
theorem nn3 {e : Ed} (h : (((B e.tx).length : Nat) : Int) = 0) : B e.tx = B ByteArray.empty := by
  have : (B e.tx).length = 0 := by omega
  exact List.eq_nil_of_length_eq_zero this
end Go.Ev
