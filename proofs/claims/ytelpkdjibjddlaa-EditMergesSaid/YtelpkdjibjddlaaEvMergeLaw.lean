/-
  EV: the layer edit: what the program's and the document's way to put edits together have in common; that what comes of it is plain.
-/
import Derived.Test.YtelpkdjibjddlaaEvMerge
namespace Go.Ev
open Go

theorem right_mem {l : List Ed} {n : Int} (h : Right l n) {e : Ed} (he : e ∈ l) : Within e n := by
  obtain ⟨k, hk⟩ := List.getElem?_of_mem he
  exact (h.2 k (List.getElem?_eq_some_iff.1 hk).1 e hk).1
theorem mg_sep {o : List Ed} {e : Ed} (h : ∀ a, o.getLast? = some a → ¬ a.hi = e.lo) : mgStep o e = o ++ [e] := by
  unfold mgStep
  split
  · rename_i a ha; rw [if_neg (h a ha)]
  · rename_i ha
    have := List.getLast?_eq_none_iff.1 ha
    subst this; rfl
theorem mg_join {p : List Ed} {a e : Ed} (h : e.lo = a.hi) : mgStep (p ++ [a]) e = p ++ [⟨a.lo, e.hi, cat a.tx e.tx⟩] := by
  unfold mgStep
  simp [h]
theorem kept_T {p : List Ed} {e : Ed} (h : Keeps1 e) : keptR (p ++ [e]) = keptR p ++ [e] := by
  unfold keptR rmP; simp [List.filter_append, h]
theorem kept_F {p : List Ed} {e : Ed} (h : ¬ Keeps1 e) : keptR (p ++ [e]) = keptR p := by
  unfold keptR rmP; simp [List.filter_append, h]
/-- How what has been put together lies. -/
structure MgOk (n : Int) (M : List Ed) : Prop where
  w : ∀ y ∈ M, Within y n
  p : M.Pairwise fun a b => a.hi < b.lo
theorem MgOk.rm {n : Int} {M : List Ed} (h : MgOk n M) (P : Ed → Prop) : MgOk n (rmP P M) := by
  refine ⟨fun y hy => h.w y (rm_mem hy).1, ?_⟩
  unfold rmP
  exact h.p.filter _
theorem mg_ok {l : List Ed} {n : Int} (hR : Right l n) : ∀ i, i ≤ l.length → MgOk n (mgF (l.take i)) ∧ ∀ e, 0 < i → l[i - 1]? = some e → ∃ p a, mgF (l.take i) = p ++ [a] ∧ a.hi = e.hi
  | 0, _ => ⟨⟨fun y hy => by simp [mgF] at hy, by simp [mgF]⟩, fun _ h => by omega⟩
  | i + 1, hi => by
    obtain ⟨e, he⟩ := ex_at (l := l) (i := i) (by omega)
    obtain ⟨ih, ihl⟩ := mg_ok hR i (by omega)
    have hw := (hR.2 i (by omega) e he).1
    rw [mgF_step he]
    simp only [Nat.add_sub_cancel]
    by_cases h0 : i = 0
    · subst h0
      have : mgStep (mgF (l.take 0)) e = [e] := by simp [mgF, mgStep]
      rw [this]
      exact ⟨⟨fun y hy => by simp at hy; subst hy; exact hw, by simp⟩, fun e' _ he' => ⟨[], e, rfl, by rw [he] at he'; cases he'; rfl⟩⟩
    · obtain ⟨b, hb⟩ := ex_at (l := l) (i := i - 1) (by omega)
      obtain ⟨p, a, hM, ha⟩ := ihl b (by omega) hb
      have hbe := hR.at he hb (by omega)
      rw [hM] at ih ⊢
      have hpa := ih.p
      have hwa := ih.w a (by simp)
      rw [List.pairwise_append] at hpa
      obtain ⟨hp1, _, hp3⟩ := hpa
      by_cases ht : e.lo = a.hi
      · rw [mg_join ht]
        refine ⟨⟨fun y hy => ?_, ?_⟩, fun e' _ he' => ⟨p, _, rfl, by rw [he] at he'; cases he'; rfl⟩⟩
        · rcases List.mem_append.1 hy with hy | hy
          · exact ih.w y (List.mem_append_left _ hy)
          · simp at hy; subst hy
            simp only [Within] at *
            omega
        · rw [List.pairwise_append]
          refine ⟨hp1, by simp, fun x hx y hy => ?_⟩
          simp at hy; subst hy
          exact hp3 x hx a (by simp)
      · rw [mg_sep fun a' ha' => by simp at ha'; subst ha'; exact fun h => ht h.symm]
        refine ⟨⟨fun y hy => ?_, ?_⟩, fun e' _ he' => ⟨p ++ [a], e, rfl, by rw [he] at he'; cases he'; rfl⟩⟩
        · rcases List.mem_append.1 hy with hy | hy
          · exact ih.w y hy
          · simp at hy; subst hy; exact hw
        · rw [List.pairwise_append]
          refine ⟨ih.p, by simp, fun x hx y hy => ?_⟩
          simp at hy; subst hy
          simp only [Within, Behind] at *
          rcases List.mem_append.1 hx with hx | hx
          · have := hp3 x hx a (by simp); omega
          · simp at hx; subst hx; omega
theorem mg_ok' {l : List Ed} {n : Int} (hR : Right l n) : MgOk n (mgF l) := by
  have := (mg_ok hR l.length (Nat.le_refl _)).1
  rwa [List.take_length] at this
theorem mg_kept {l : List Ed} {n : Int} (hR : Right l n) : mgS l = keptR (mgF l) := by
  have h := mg_ok' hR
  unfold mgS keptR rmP
  refine List.filter_congr fun y hy => ?_
  have hw := h.w y hy
  simp only [Within] at hw
  have : Nothing y ↔ ¬ Keeps1 y := by
    unfold Keeps1
    constructor
    · rintro ⟨h1, h2⟩
      have : (B y.tx).length = 0 := by rw [h2]; rfl
      omega
    · intro h1
      refine ⟨by omega, List.eq_nil_of_length_eq_zero ?_⟩
      omega
  by_cases hn : Nothing y
  · simp [hn, this.1 hn]
  · have h2 : Keeps1 y := Classical.byContradiction fun h => hn (this.2 h)
    simp [hn, h2]
theorem mg_plain {l : List Ed} {n : Int} (hR : Right l n) : Plain (mgS l) n := by
  have h := (mg_ok' hR).rm Nothing
  have hno : ∀ e ∈ mgS l, ¬ Nothing e := fun e he => (rm_mem he).2
  have hlt : ∀ k e a, (mgS l)[k]? = some e → 0 < k → (mgS l)[k - 1]? = some a → a.hi < e.lo := fun k e a he h0 ha => by
    obtain ⟨h1, rfl⟩ := List.getElem?_eq_some_iff.1 he
    obtain ⟨h2, rfl⟩ := List.getElem?_eq_some_iff.1 ha
    exact (List.pairwise_iff_getElem.1 h.p) _ _ h2 h1 (by omega)
  refine ⟨⟨hR.1, fun k hk e he => ⟨h.w e (List.mem_of_getElem? he), fun a h0 ha => ?_⟩⟩, ?_, fun k hk e a he h0 ha => ?_⟩
  · have h1 := hlt k e a he h0 ha
    have h2 := h.w a (List.mem_of_getElem? ha)
    simp only [Within, Behind] at *
    omega
  · rw [firstN_none (i := (mgS l).length) (fun k _ e he => hno e (List.mem_of_getElem? he)) (Nat.le_refl _)]
    decide
  · have := hlt k e a he h0 ha; omega
theorem nil_of_none {α : Type} {c : α → List Value} {k : Nat} {t : Tree} {n : Nat} {a : Option Addr} {l : List α} {N o e hi : Nat} {vs : List Value} (H : Sl c k t n a l N o vs e hi) (h : a = none) : l = [] :=
  Classical.byContradiction fun h1 => by have h2 := H.addr h1; rw [h] at h2; cases h2
end Go.Ev

