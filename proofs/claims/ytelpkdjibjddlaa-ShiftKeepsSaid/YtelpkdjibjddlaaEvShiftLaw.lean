/-
  EV: the layer shift: the plain law: where a byte goes by the runs is where it goes by the list of all bytes.
-/
import Derived.Test.YtelpkdjibjddlaaEvShift
set_option linter.unusedSimpArgs false
set_option linter.unusedVariables false
namespace Go.Ev
open Go

theorem sumT_get {l : List Ed} {i : Nat} {e : Ed} (he : l[i]? = some e) : (B e.tx).length ≤ sumT l := by
  have h1 := sumT_step he
  have h2 := sumT_le l (i + 1)
  omega
theorem from_next {l : List Ed} {i : Nat} {e : Ed} {out r : List Int} {q : Int} (he : l[i]? = some e) (h1 : out = (fromF (l.take i)).1) (h2 : q = (fromF (l.take i)).2) (hr : r = out ++ upTo q e.lo ++ List.replicate (B e.tx).length (-1)) : r = (fromF (l.take (i + 1))).1 ∧ e.hi = (fromF (l.take (i + 1))).2 := by
  rw [fromF_step he, hr, h1, h2]; exact ⟨rfl, rfl⟩
theorem from_end {l : List Ed} {i : Nat} {n : Int} {out r : List Int} {q : Int} (hi : i = l.length) (h1 : out = (fromF (l.take i)).1) (h2 : q = (fromF (l.take i)).2) (hr : r = out ++ upTo q n) : r = fromS l n := by
  subst hi; rw [List.take_length] at h1 h2; rw [hr, h1, h2]; rfl
theorem rgo_at {l : List Ed} {n q : Int} {i : Nat} {e : Int} (h : NoB (fun x => x = q ∧ 0 ≤ q) (fromS l n) i) (he : (fromS l n)[i]? = some e) (hp : e = q ∧ 0 ≤ q) : rgoS l n q = ((i : Int), 0) := by
  unfold rgoS; rw [h.idx_at he hp]
theorem rgo_none {l : List Ed} {n q : Int} {i : Nat} (h : NoB (fun x => x = q ∧ 0 ≤ q) (fromS l n) i) (hi : (fromS l n).length ≤ i) : rgoS l n q = (0, 5) := by
  unfold rgoS; rw [h.idx_none hi]
theorem rca1 {l : List Ed} {n q : Int} (h : q < 0) : rcaS l n q = (0, 5) := by unfold rcaS; rw [if_pos h]
theorem rca2 {l : List Ed} {n q : Int} (h : ¬ q < 0) (h2 : ((fromS l n).length : Int) ≤ q) : rcaS l n q = (0, 5) := by
  unfold rcaS; rw [if_neg h, List.getElem?_eq_none (by omega)]
theorem rca3 {l : List Ed} {n q : Int} {m : Nat} {e : Int} (hm : (m : Int) = q) (he : (fromS l n)[m]? = some e) (h : e < 0) : rcaS l n q = (0, 5) := by
  subst hm; unfold rcaS; rw [if_neg (by omega), Int.toNat_natCast, he]; simp only; rw [if_pos h]
theorem rca4 {l : List Ed} {n q : Int} {m : Nat} {e : Int} (hm : (m : Int) = q) (he : (fromS l n)[m]? = some e) (h : ¬ e < 0) : rcaS l n q = (e, 0) := by
  subst hm; unfold rcaS; rw [if_neg (by omega), Int.toNat_natCast, he]; simp only; rw [if_neg h]

/-! The same, from one end to the other. -/
def runsR : List Ed → Int → Int → Int → List Run
  | [], a, b, n => [⟨a, n, b⟩]
  | e :: r, a, b, n => ⟨a, e.lo, b⟩ :: runsR r e.hi (W (b + W ((((B e.tx).length : Nat) : Int) - W (e.hi - e.lo)))) n
def fromR : List Ed → Int → Int → List Int
  | [], a, n => upTo a n
  | e :: r, a, n => upTo a e.lo ++ List.replicate (B e.tx).length (-1) ++ fromR r e.hi n
theorem runs_R (n : Int) : ∀ (l : List Ed) (p : List Run) (a b : Int), (l.foldl runStep (p, a, b)).1 ++ [⟨(l.foldl runStep (p, a, b)).2.1, n, (l.foldl runStep (p, a, b)).2.2⟩] = p ++ runsR l a b n
  | [], p, a, b => rfl
  | e :: r, p, a, b => by
    show (r.foldl runStep (p ++ [⟨a, e.lo, b⟩], e.hi, _)).1 ++ _ = _
    have := runs_R n r (p ++ [⟨a, e.lo, b⟩]) e.hi (W (b + W ((((B e.tx).length : Nat) : Int) - W (e.hi - e.lo))))
    simp only [List.foldl_cons, runStep] at this ⊢
    rw [this, List.append_assoc]; rfl
theorem from_R (n : Int) : ∀ (l : List Ed) (p : List Int) (a : Int), (l.foldl fromStep (p, a)).1 ++ upTo (l.foldl fromStep (p, a)).2 n = p ++ fromR l a n
  | [], p, a => rfl
  | e :: r, p, a => by
    have := from_R n r (p ++ upTo a e.lo ++ List.replicate (B e.tx).length (-1)) e.hi
    simp only [List.foldl_cons, fromStep] at this ⊢
    rw [this, fromR]; simp only [List.append_assoc]
theorem runsS_R (l : List Ed) (n : Int) : runsS l n = runsR l 0 0 n := by
  have := runs_R n l [] 0 0; rw [List.nil_append] at this; exact this
theorem fromS_R (l : List Ed) (n : Int) : fromS l n = fromR l 0 n := by
  have := from_R n l [] 0; rw [List.nil_append] at this; exact this

/-- The edits stand behind one another. -/
def Chain : List Ed → Int → Int → Prop
  | [], a, n => a ≤ n
  | e :: r, a, n => a ≤ e.lo ∧ e.lo ≤ e.hi ∧ e.hi ≤ n ∧ Chain r e.hi n
theorem chain_of {n : Int} : ∀ (l : List Ed) (a : Int), (∀ k, k < l.length → OkAt l n k) → (∀ e, l[0]? = some e → a ≤ e.lo) → a ≤ n → Chain l a n
  | [], a, _, _, h => h
  | e :: r, a, h, h0, hn => by
    have hw := (h 0 (by simp) e rfl).1
    refine ⟨h0 e rfl, hw.2.1, hw.2.2, chain_of r e.hi (fun k hk => ?_) (fun e' he' => ?_) hw.2.2⟩
    · intro e' he'
      have := h (k + 1) (by simp; omega) e' (by simpa using he')
      refine ⟨this.1, fun a' h0 ha' => this.2 a' (by omega) ?_⟩
      rw [Nat.add_sub_cancel]
      obtain ⟨j, rfl⟩ : ∃ j, k = j + 1 := ⟨k - 1, by omega⟩
      simpa using ha'
    · have hl : 0 < r.length := (List.getElem?_eq_some_iff.1 he').1
      exact ((h 1 (by simp; omega) e' (by simpa using he')).2 e (by omega) rfl).1
theorem Right.chain {l : List Ed} {n : Int} (h : Right l n) : Chain l 0 n := chain_of l 0 h.2 (fun e he => (h.2 0 (List.getElem?_eq_some_iff.1 he).1 e he).1.1) h.1
theorem Chain.le : ∀ {l : List Ed} {a n : Int}, Chain l a n → a ≤ n
  | [], _, _, h => h
  | _ :: _, _, _, h => by obtain ⟨h1, h2, h3, _⟩ := h; omega

theorem upTo_get {a b : Int} {k : Nat} : (upTo a b)[k]? = if (k : Int) < b - a then some (a + (k : Int)) else none := by
  unfold upTo
  rw [List.getElem?_map]
  by_cases h : (k : Int) < b - a
  · rw [if_pos h, List.getElem?_range (by omega)]; rfl
  · rw [if_neg h, List.getElem?_eq_none (by simp; omega)]; rfl
theorem upTo_idx {a b q : Int} (h0 : 0 ≤ a) : (upTo a b).findIdx? (fun x => decide (x = q ∧ 0 ≤ q)) = if a ≤ q ∧ q < b then some (q - a).toNat else none := by
  split
  · rename_i h
    have hk : (upTo a b)[(q - a).toNat]? = some q := by
      rw [upTo_get, if_pos (by omega)]; congr 1; omega
    refine NoB.idx_at (p := fun x => x = q ∧ 0 ≤ q) (fun k hk x hx hp => ?_) hk ⟨rfl, by omega⟩
    rw [upTo_get] at hx
    split at hx
    · cases hx; have := hp.1; omega
    · cases hx
  · rename_i h
    rw [List.findIdx?_eq_none_iff]
    intro x hx
    obtain ⟨k, hk⟩ := List.getElem?_of_mem hx
    rw [upTo_get] at hk
    split at hk
    · cases hk; refine decide_eq_false fun hp => h ?_; have := hp.1; omega
    · cases hk
theorem neg_idx (m : Nat) (q : Int) : (List.replicate m (-1 : Int)).findIdx? (fun x => decide (x = q ∧ 0 ≤ q)) = none := by
  rw [List.findIdx?_eq_none_iff]
  intro x hx
  obtain ⟨_, rfl⟩ := List.mem_replicate.1 hx
  exact decide_eq_false fun hp => by have := hp.1; omega

theorem go_gen {n q : Int} (hn : n ≤ 1000) : ∀ (l : List Ed) (a b : Int) (S : Nat), Chain l a n → 0 ≤ a → 0 ≤ a + b → b ≤ S → S + sumT l ≤ 1000 →
    (match (runsR l a b n).find? (fun r => decide (InR q r)) with | some r => (W (q + r.by'), 0) | none => ((0, 5) : Int × Int)) =
      match (fromR l a n).findIdx? (fun x => decide (x = q ∧ 0 ≤ q)) with | some i => (a + b + (i : Int), 0) | none => (0, 5)
  | [], a, b, S, hc, h0, h1, h2, h3 => by
    have hc : a ≤ n := hc
    simp only [runsR, fromR]
    rw [upTo_idx h0]
    by_cases h : a ≤ q ∧ q < n
    · rw [if_pos h, List.find?_cons_of_pos (by simpa [InR] using h)]
      simp only
      rw [W_id (by omega) (by omega)]
      simp only [Prod.mk.injEq, and_true]; omega
    · rw [if_neg h, List.find?_cons_of_neg (by simpa [InR] using h)]
      rfl
  | e :: r, a, b, S, hc, h0, h1, h2, h3 => by
    obtain ⟨c1, c2, c3, c4⟩ := hc
    have hs : sumT (e :: r) = (B e.tx).length + sumT r := by simp [sumT]
    simp only [runsR, fromR]
    rw [List.append_assoc, List.findIdx?_append, upTo_idx h0]
    by_cases h : a ≤ q ∧ q < e.lo
    · rw [if_pos h, List.find?_cons_of_pos (by simpa [InR] using h)]
      simp only [Option.some_or]
      rw [W_id (by omega) (by omega)]
      simp only [Prod.mk.injEq, and_true]; omega
    · rw [if_neg h, List.find?_cons_of_neg (by simpa [InR] using h), List.findIdx?_append, neg_idx]
      simp only [Option.none_or]
      rw [W_id (x := e.hi - e.lo) (by omega) (by omega), W_id (x := (((B e.tx).length : Nat) : Int) - (e.hi - e.lo)) (by omega) (by omega), W_id (by omega) (by omega)]
      rw [go_gen hn r e.hi _ (S + (B e.tx).length) c4 (by omega) (by omega) (by omega) (by omega)]
      cases (fromR r e.hi n).findIdx? (fun x => decide (x = q ∧ 0 ≤ q)) with
      | none => rfl
      | some i =>
        simp only [Option.map_some, List.length_replicate, upTo_len, Prod.mk.injEq, and_true]
        omega
theorem goS_eq {l : List Ed} {n q : Int} (hR : Right l n) (hn : n ≤ 1000) (hT : sumT l ≤ 1000) : goS l n q = rgoS l n q := by
  unfold goS rgoS
  rw [runsS_R, fromS_R]
  refine (go_gen hn l 0 0 0 hR.chain (by omega) (by omega) (by omega) (by omega)).trans ?_
  cases (fromR l 0 n).findIdx? (fun x => decide (x = q ∧ 0 ≤ q)) with
  | none => rfl
  | some i => simp

theorem ca_gen {n q : Int} (hn : n ≤ 1000) : ∀ (l : List Ed) (a b : Int) (S : Nat), Chain l a n → 0 ≤ a → 0 ≤ a + b → b ≤ S → S + sumT l ≤ 1000 →
    (match (runsR l a b n).find? (fun r => decide (InC q r)) with | some r => (W (q - r.by'), 0) | none => ((0, 5) : Int × Int)) =
      if q < a + b then ((0, 5) : Int × Int) else match (fromR l a n)[(q - (a + b)).toNat]? with | some x => if x < 0 then (0, 5) else (x, 0) | none => (0, 5)
  | [], a, b, S, hc, h0, h1, h2, h3 => by
    have hc : a ≤ n := hc
    simp only [runsR, fromR]
    rw [upTo_get]
    have w1 : W (a + b) = a + b := W_id (by omega) (by omega)
    have w2 : W (n + b) = n + b := W_id (by omega) (by omega)
    by_cases h : InC q ⟨a, n, b⟩
    · rw [List.find?_cons_of_pos (by simpa using h)]
      simp only [InC, w1, w2] at h ⊢
      rw [if_neg (by omega), if_pos (by omega)]
      simp only
      rw [if_neg (by omega), W_id (by omega) (by omega)]
      simp only [Prod.mk.injEq, and_true]; omega
    · rw [List.find?_cons_of_neg (by simpa using h)]
      simp only [InC, w1, w2] at h ⊢
      by_cases hq : q < a + b
      · rw [if_pos hq]; rfl
      · rw [if_neg hq, if_neg (by omega)]; rfl
  | e :: r, a, b, S, hc, h0, h1, h2, h3 => by
    obtain ⟨c1, c2, c3, c4⟩ := hc
    have hs : sumT (e :: r) = (B e.tx).length + sumT r := by simp [sumT]
    have w1 : W (a + b) = a + b := W_id (by omega) (by omega)
    have hl := c4.le
    have w2 : W (e.lo + b) = e.lo + b := W_id (by omega) (by omega)
    simp only [runsR, fromR]
    by_cases h : InC q ⟨a, e.lo, b⟩
    · rw [List.find?_cons_of_pos (by simpa using h)]
      simp only [InC, w1, w2] at h ⊢
      rw [if_neg (by omega), List.append_assoc, List.getElem?_append_left (by rw [upTo_len]; omega), upTo_get, if_pos (by omega)]
      simp only
      rw [if_neg (by omega), W_id (by omega) (by omega)]
      simp only [Prod.mk.injEq, and_true]; omega
    · rw [List.find?_cons_of_neg (by simpa using h)]
      simp only [InC, w1, w2] at h
      rw [W_id (x := e.hi - e.lo) (by omega) (by omega), W_id (x := (((B e.tx).length : Nat) : Int) - (e.hi - e.lo)) (by omega) (by omega), W_id (by omega) (by omega)]
      rw [ca_gen hn r e.hi _ (S + (B e.tx).length) c4 (by omega) (by omega) (by omega) (by omega)]
      by_cases hq : q < a + b
      · rw [if_pos hq, if_pos (by omega)]
      · rw [if_neg hq]
        by_cases hq2 : q < e.hi + (b + (((B e.tx).length : Int) - (e.hi - e.lo)))
        · rw [if_pos hq2, List.getElem?_append_left (by rw [List.length_append, upTo_len, List.length_replicate]; omega), List.getElem?_append_right (by rw [upTo_len]; omega), List.getElem?_replicate, if_pos (by rw [upTo_len]; omega)]
          rfl
        · rw [if_neg hq2, List.getElem?_append_right (by rw [List.length_append, upTo_len, List.length_replicate]; omega)]
          rw [List.length_append, upTo_len, List.length_replicate]
          have hk : (q - (a + b)).toNat - ((e.lo - a).toNat + (B e.tx).length) = (q - (e.hi + (b + (((B e.tx).length : Int) - (e.hi - e.lo))))).toNat := by omega
          rw [hk]
theorem caS_eq {l : List Ed} {n q : Int} (hR : Right l n) (hn : n ≤ 1000) (hT : sumT l ≤ 1000) : caS l n q = rcaS l n q := by
  unfold caS rcaS
  rw [runsS_R, fromS_R]
  refine (ca_gen hn l 0 0 0 hR.chain (by omega) (by omega) (by omega) (by omega)).trans ?_
  rw [show (0 : Int) + 0 = 0 by rfl, Int.sub_zero]
  rfl
end Go.Ev
