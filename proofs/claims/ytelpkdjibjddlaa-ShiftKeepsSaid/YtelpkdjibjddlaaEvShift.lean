/-
  EV: what the functions of the layer shift compute, in plain Lean.
-/
import Derived.Test.YtelpkdjibjddlaaEvSpec
set_option linter.unusedSimpArgs false
set_option linter.unusedVariables false
namespace Go.Ev
open Go

theorem foldl_step {α β : Type} {f : β → α → β} {b : β} {l : List α} {i : Nat} {e : α} (he : l[i]? = some e) : (l.take (i + 1)).foldl f b = f ((l.take i).foldl f b) e := by
  rw [List.take_add_one, he]; simp [List.foldl_append]
/-- None of those before is as told. -/
def NoB {α : Type} (p : α → Prop) (l : List α) (i : Nat) : Prop := ∀ k, k < i → ∀ x, l[k]? = some x → ¬ p x
theorem NoB.zero {α : Type} {p : α → Prop} {l : List α} : NoB p l 0 := fun k hk => absurd hk (Nat.not_lt_zero k)
theorem NoB.step {α : Type} {p : α → Prop} {l : List α} {i : Nat} {e : α} (h : NoB p l i) (he : l[i]? = some e) (hn : ¬ p e) : NoB p l (i + 1) := fun k hk x hx => by
  by_cases hki : k = i
  · subst hki; rw [he] at hx; cases hx; exact hn
  · exact h k (by omega) x hx
theorem NoB.find_at {α : Type} {p : α → Prop} [DecidablePred p] {l : List α} {i : Nat} {e : α} (h : NoB p l i) (he : l[i]? = some e) (hp : p e) : l.find? (fun x => decide (p x)) = some e := by
  induction l generalizing i with
  | nil => simp at he
  | cons x l ih =>
    cases i with
    | zero => simp at he; subst he; simp [hp]
    | succ i =>
      have hx : ¬ p x := h 0 (by omega) x rfl
      rw [List.find?_cons_of_neg (by simpa using hx)]
      exact ih (i := i) (fun k hk y hy => h (k + 1) (by omega) y (by simpa using hy)) (by simpa using he)
theorem NoB.find_none {α : Type} {p : α → Prop} [DecidablePred p] {l : List α} {i : Nat} (h : NoB p l i) (hi : l.length ≤ i) : l.find? (fun x => decide (p x)) = none := by
  rw [List.find?_eq_none]
  intro x hx
  obtain ⟨k, hk⟩ := List.getElem?_of_mem hx
  obtain ⟨hl, _⟩ := List.getElem?_eq_some_iff.1 hk
  simpa using h k (by omega) x hk
theorem NoB.idx_at {α : Type} {p : α → Prop} [DecidablePred p] {l : List α} {i : Nat} {e : α} (h : NoB p l i) (he : l[i]? = some e) (hp : p e) : l.findIdx? (fun x => decide (p x)) = some i := by
  obtain ⟨hi, rfl⟩ := List.getElem?_eq_some_iff.1 he
  rw [List.findIdx?_eq_some_iff_getElem]
  refine ⟨hi, decide_eq_true hp, fun j hj => ?_⟩
  have := h j hj l[j] (List.getElem?_eq_getElem (by omega))
  simpa using this
theorem NoB.idx_none {α : Type} {p : α → Prop} [DecidablePred p] {l : List α} {i : Nat} (h : NoB p l i) (hi : l.length ≤ i) : l.findIdx? (fun x => decide (p x)) = none := by
  rw [List.findIdx?_eq_none_iff]
  intro x hx
  obtain ⟨k, hk⟩ := List.getElem?_of_mem hx
  obtain ⟨hl, _⟩ := List.getElem?_eq_some_iff.1 hk
  exact decide_eq_false (h k (by omega) x hk)

theorem Sl.ixI {α : Type} {c : α → List Value} {k : Nat} {a : Option Addr} {l : List α} {N o e hi : Nat} {vs : List Value} {t : Tree} {n : Nat} (h : Sl c k t n a l N o vs e hi) {T : Tab} {ty el : TypeId} (hu : T.und ty = some (.slice el)) (hs : T.size el = some k) {i : Nat} {q : Int} (hq : (i : Int) = q) {x : α} (hx : l[i]? = some x) (cap : Nat) : indexAddr T ty (.slice a l.length cap) (.int .i64 q) = some (.pointer (some ⟨N, o + i * k, none⟩)) := by
  rw [← hq]; exact h.ix hu hs hx cap
/-- Errors as numbers. -/
def errV (c : Int) : Value := if c = 0 then .nilIface else .iface 37 (.int .i64 c)
theorem errV0 : errV 0 = .nilIface := rfl

/-- A run of bytes that go together. -/
structure Run where
  fr : Int
  to : Int
  by' : Int
abbrev Run.cells (r : Run) : List Value := [.int .i64 r.fr, .int .i64 r.to, .int .i64 r.by']
theorem Run.one : ∀ y : Run, ∀ v ∈ y.cells, oneCell v = true := by intro y v hv; simp at hv; rcases hv with rfl | rfl | rfl <;> rfl
def runStep (p : List Run × Int × Int) (e : Ed) : List Run × Int × Int := (p.1 ++ [⟨p.2.1, e.lo, p.2.2⟩], e.hi, W (p.2.2 + W ((((B e.tx).length : Nat) : Int) - W (e.hi - e.lo))))
def runF (l : List Ed) : List Run × Int × Int := l.foldl runStep ([], 0, 0)
theorem runF_step {l : List Ed} {i : Nat} {e : Ed} (he : l[i]? = some e) : runF (l.take (i + 1)) = runStep (runF (l.take i)) e := foldl_step he
theorem runF_len : ∀ (l : List Ed) (p : List Run × Int × Int), (l.foldl runStep p).1.length = p.1.length + l.length
  | [], p => by simp
  | e :: l, p => by simp [runF_len l, runStep]; omega
theorem runF_len' {l : List Ed} {i : Nat} (hi : i ≤ l.length) : (runF (l.take i)).1.length = i := by
  unfold runF; rw [runF_len]; simp; omega
def runsS (l : List Ed) (n : Int) : List Run := (runF l).1 ++ [⟨(runF l).2.1, n, (runF l).2.2⟩]
theorem runsS_len (l : List Ed) (n : Int) : (runsS l n).length = l.length + 1 := by
  unfold runsS runF; rw [List.length_append, runF_len]; simp
abbrev InR (q : Int) (r : Run) : Prop := r.fr ≤ q ∧ q < r.to
abbrev InC (q : Int) (r : Run) : Prop := W (r.fr + r.by') ≤ q ∧ q < W (r.to + r.by')
def goS (l : List Ed) (n q : Int) : Int × Int := match (runsS l n).find? (fun r => decide (InR q r)) with
  | some r => (W (q + r.by'), 0)
  | none => (0, 5)
def caS (l : List Ed) (n q : Int) : Int × Int := match (runsS l n).find? (fun r => decide (InC q r)) with
  | some r => (W (q - r.by'), 0)
  | none => (0, 5)
theorem goS_at {l : List Ed} {n q : Int} {i : Nat} {r : Run} (h : NoB (InR q) (runsS l n) i) (he : (runsS l n)[i]? = some r) (hp : InR q r) : goS l n q = (W (q + r.by'), 0) := by
  unfold goS; rw [h.find_at he hp]
theorem goS_none {l : List Ed} {n q : Int} {i : Nat} (h : NoB (InR q) (runsS l n) i) (hi : (runsS l n).length ≤ i) : goS l n q = (0, 5) := by
  unfold goS; rw [h.find_none hi]
theorem caS_at {l : List Ed} {n q : Int} {i : Nat} {r : Run} (h : NoB (InC q) (runsS l n) i) (he : (runsS l n)[i]? = some r) (hp : InC q r) : caS l n q = (W (q - r.by'), 0) := by
  unfold caS; rw [h.find_at he hp]
theorem caS_none {l : List Ed} {n q : Int} {i : Nat} (h : NoB (InC q) (runsS l n) i) (hi : (runsS l n).length ≤ i) : caS l n q = (0, 5) := by
  unfold caS; rw [h.find_none hi]

/-- Where new bytes stand. -/
structure Sp where
  a : Int
  b : Int
abbrev Sp.cells (r : Sp) : List Value := [.int .i64 r.a, .int .i64 r.b]
theorem Sp.one : ∀ y : Sp, ∀ v ∈ y.cells, oneCell v = true := by intro y v hv; simp at hv; rcases hv with rfl | rfl <;> rfl
def spanStep (p : List Sp × Int) (e : Ed) : List Sp × Int := (p.1 ++ [⟨W (e.lo + p.2), W (W (e.lo + p.2) + (((B e.tx).length : Nat) : Int))⟩], W (p.2 + W ((((B e.tx).length : Nat) : Int) - W (e.hi - e.lo))))
def spanF (l : List Ed) : List Sp × Int := l.foldl spanStep ([], 0)
def spansS (l : List Ed) : List Sp := (spanF l).1
theorem spanF_step {l : List Ed} {i : Nat} {e : Ed} (he : l[i]? = some e) : spanF (l.take (i + 1)) = spanStep (spanF (l.take i)) e := foldl_step he
theorem spanF_len : ∀ (l : List Ed) (p : List Sp × Int), (l.foldl spanStep p).1.length = p.1.length + l.length
  | [], p => by simp
  | e :: l, p => by simp [spanF_len l, spanStep]; omega
theorem spanF_len' {l : List Ed} {i : Nat} (hi : i ≤ l.length) : (spanF (l.take i)).1.length = i := by
  unfold spanF; rw [spanF_len]; simp; omega
theorem spanF_by {l : List Ed} : ∀ {i : Nat}, i ≤ l.length → (spanF (l.take i)).2 = W (growS (l.take i))
  | 0, _ => rfl
  | i + 1, h => by
    obtain ⟨e, he⟩ := ex_at (l := l) (i := i) (by omega)
    rw [spanF_step he, growS_step he]
    show W ((spanF (l.take i)).2 + _) = _
    rw [spanF_by (by omega)]
    simp only [W_def]
    omega

/-- Whence each byte came. -/
def upTo (a b : Int) : List Int := (List.range (b - a).toNat).map fun k : Nat => a + (k : Int)
theorem upTo_self (a : Int) : upTo a a = [] := by simp [upTo]
theorem upTo_succ {a b : Int} (h : a ≤ b) : upTo a (b + 1) = upTo a b ++ [b] := by
  unfold upTo
  rw [show (b + 1 - a).toNat = (b - a).toNat + 1 by omega, List.range_succ, List.map_append]
  simp
  omega
theorem upTo_len {a b : Int} : (upTo a b).length = (b - a).toNat := by simp [upTo]
def fromStep (p : List Int × Int) (e : Ed) : List Int × Int := (p.1 ++ upTo p.2 e.lo ++ List.replicate (B e.tx).length (-1), e.hi)
def fromF (l : List Ed) : List Int × Int := l.foldl fromStep ([], 0)
def fromS (l : List Ed) (n : Int) : List Int := (fromF l).1 ++ upTo (fromF l).2 n
theorem fromF_step {l : List Ed} {i : Nat} {e : Ed} (he : l[i]? = some e) : fromF (l.take (i + 1)) = fromStep (fromF (l.take i)) e := foldl_step he
def intCells (x : Int) : List Value := [.int .i64 x]
theorem intOne : ∀ y : Int, ∀ v ∈ intCells y, oneCell v = true := by intro y v hv; simp [intCells] at hv; subst hv; rfl
def rgoS (l : List Ed) (n q : Int) : Int × Int := match (fromS l n).findIdx? (fun x => decide (x = q ∧ 0 ≤ q)) with
  | some i => ((i : Int), 0)
  | none => (0, 5)
def rcaS (l : List Ed) (n q : Int) : Int × Int := if q < 0 then (0, 5) else match (fromS l n)[q.toNat]? with
  | some x => if x < 0 then (0, 5) else (x, 0)
  | none => (0, 5)
abbrev Large3 (n : Int) (l : List Ed) : Prop := 31 < l.length ∨ 500 < sumT l ∨ 500 < n
end Go.Ev
