/-
  EV: the rules of a printed walk, third part: lists that appends make, results that lie in memory.
-/
import Derived.Test.YtelpkdjibjddlaaEvWalk
set_option linter.unusedSimpArgs false
set_option linter.unusedVariables false
namespace Go.Ev
open Go Go.RowKit
def OL {α : Type} (c : α → List Value) (k : Nat) (el : TypeId) (lo : Nat) (t : Tree) (n : Nat) (v : Value) (l : List α) : Prop :=
  l.length < 4611686018427387904 ∧ ((l = [] ∧ ∃ a,v = .slice a 0 0 ∧ (a = none ∨ ∃ N,a = some ⟨N,0,none⟩)) ∨ ∃ N,v = .slice (some ⟨N,0,none⟩) l.length (END + k) ∧ Row t n N ((l.map c).flatten) el 0 ∧ lo ≤ N)
section
variable {α : Type} {c : α → List Value} {k : Nat} {el : TypeId} {lo : Nat} {v : Value} {l : List α}
theorem OL.nil {t : Tree} {n : Nat} : OL c k el lo t n (.slice none 0 0) [] := ⟨by simp,.inl ⟨rfl,none,rfl,.inl rfl⟩⟩
theorem OL.own {s s' : St} (h : OL c k el lo s.t s.next v l) (w : Own s s') : OL c k el lo s'.t s'.next v l := by
  obtain ⟨h1,h2⟩ := h
  rcases h2 with h | ⟨N,h2,h3,h4⟩
  · exact ⟨h1,.inl h⟩
  · exact ⟨h1,.inr ⟨N,h2,h3.own w,h4⟩⟩
theorem OL.le {t : Tree} {n lo' : Nat} (h : OL c k el lo t n v l) (hlo : lo' ≤ lo) : OL c k el lo' t n v l := by
  obtain ⟨h1,h2⟩ := h
  rcases h2 with h | ⟨N,h2,h3,h4⟩
  · exact ⟨h1,.inl h⟩
  · exact ⟨h1,.inr ⟨N,h2,h3,Nat.le_trans hlo h4⟩⟩
theorem OL.len {t : Tree} {n : Nat} (h : OL c k el lo t n v l) : ∃ a cap,v = .slice a l.length cap := by
  obtain ⟨h1,h2⟩ := h
  rcases h2 with ⟨rfl,a,rfl,ha⟩ | ⟨N,rfl,h3,h4⟩
  · exact ⟨a,0,rfl⟩
  · exact ⟨_,_,rfl⟩
end
theorem Sl.take {α : Type} {c : α → List Value} {k : Nat} {a : Option Addr} {l : List α} {N o e hi : Nat} {vs : List Value} {t : Tree} {n : Nat} (h : Sl c k t n a l N o vs e hi) (i : Nat) : Sl c k t n a (l.take i) N o vs e hi :=
  ⟨fun hl => h.addr fun h0 => hl (by rw [h0]; simp),fun hl => h.row fun h0 => hl (by rw [h0]; simp),fun j x hx => h.get j x (by
    rw [List.getElem?_take] at hx; split at hx
    · exact hx
    · cases hx),by have := h.small; rw [List.length_take]; omega⟩
structure AppOk (T : Tab) (sT xT el : TypeId) (k b : Nat) : Prop where
  und : T.und sT = some (.slice el)
  arg : (T.und xT).map appendable = some true
  size : T.size el = some k
  bytes : T.bytes el = some b
  zero : ∃ z,T.zero el = some z ∧ (cellsOf z).length = k
  pos : 0 < k
  lt : k < END
def Struck (v : Value) (M : Nat) : Prop := ∃ len cap,v = .slice (some ⟨M,0,none⟩) len cap ∧ END ≤ cap
section
variable {T : Tab} {fr : Fr} {s s0 : St} {ops : Array Oper} {o : Oper} {os : List Oper} {Q : Fr → St → Prop}
theorem Own.store {z s1 : St} {N : Nat} (hz : Own z s) (hN : z.next ≤ N) (hlt : N < s.next) (hm : ∃ m,s1.mods = m ++ s.mods ∧ ∀ M ∈ m,M = N) (hn : s1.next = s.next) (hu : ∀ M,M ≠ N → s1.t.get M = s.t.get M) : Own z s1 := by
  obtain ⟨m,h1,h2⟩ := hm
  obtain ⟨q,h3,h4⟩ := hz.mods
  refine ⟨by rw [hn]; exact hz.next,⟨m ++ q,by rw [h1,h3,List.append_assoc],fun M hM => ?_⟩,fun M hM => (hu M (by omega)).trans (hz.old M hM)⟩
  rcases List.mem_append.1 hM with hM | hM
  · have := h2 M hM; omega
  · have := h4 M hM; omega
end
end Go.Ev

/-
  EV: what the functions of lists of edits compute, in plain Lean.
-/
namespace Go.Ev
open Go
abbrev Within (e : Ed) (n : Int) : Prop := 0 ≤ e.lo ∧ e.lo ≤ e.hi ∧ e.hi ≤ n
abbrev Behind (a e : Ed) : Prop := a.hi ≤ e.lo ∧ a.lo < e.lo
abbrev Nothing (e : Ed) : Prop := e.lo = e.hi ∧ B e.tx = B ByteArray.empty
def OkAt (l : List Ed) (n : Int) (i : Nat) : Prop := ∀ e,l[i]? = some e → Within e n ∧ ∀ a,0 < i → l[i - 1]? = some a → Behind a e
def Ok (l : List Ed) (n : Int) (i : Nat) : Prop := ∀ k,k < i → OkAt l n k
def Right (l : List Ed) (n : Int) : Prop := 0 ≤ n ∧ ∀ k,k < l.length → OkAt l n k
noncomputable instance (l : List Ed) (n : Int) : Decidable (Right l n) := Classical.propDecidable _
theorem Ok.step0 {l : List Ed} {n : Int} {i : Nat} {e : Ed} (h : Ok l n i) (he : l[i]? = some e) (hw : Within e n) (h0 : i = 0) : Ok l n (i + 1) := fun k hk => by
  by_cases hki : k = i
  · subst hki; intro e' he'; rw [he] at he'; cases he'; exact ⟨hw,fun _ h => by omega⟩
  · exact h k (by omega)
theorem Ok.step {l : List Ed} {n : Int} {i q : Nat} {e a : Ed} (h : Ok l n i) (he : l[i]? = some e) (hw : Within e n) (ha : l[q]? = some a) (hq : i = q + 1) (hb : Behind a e) : Ok l n (i + 1) := fun k hk => by
  by_cases hki : k = i
  · subst hki; intro e' he'; rw [he] at he'; cases he'
    refine ⟨hw,fun a' _ ha' => ?_⟩
    rw [hq,Nat.add_sub_cancel,ha] at ha'; cases ha'; exact hb
  · exact h k (by omega)
theorem Ok.at {l : List Ed} {n : Int} {i k : Nat} {e : Ed} (h : Ok l n i) (he : l[k]? = some e) (hk : k < i) : Within e n := (h k hk e he).1
theorem Right.at {l : List Ed} {n : Int} {i q : Nat} {e a : Ed} (h : Right l n) (he : l[i]? = some e) (ha : l[q]? = some a) (hq : i = q + 1) : Behind a e := by
  obtain ⟨hl,_⟩ := List.getElem?_eq_some_iff.1 he
  exact (h.2 i hl e he).2 a (by omega) (by rw [hq,Nat.add_sub_cancel]; exact ha)
structure Ed.Ok (e : Ed) : Prop where
  lo1 : -9223372036854775808 ≤ e.lo
  lo2 : e.lo < 9223372036854775808
  hi1 : -9223372036854775808 ≤ e.hi
  hi2 : e.hi < 9223372036854775808
  tx : (B e.tx).length ≤ 140737488351232
def sumT (l : List Ed) : Nat := (l.map fun e => (B e.tx).length).sum
theorem sumT_step {l : List Ed} {i : Nat} {e : Ed} (he : l[i]? = some e) : sumT (l.take (i + 1)) = sumT (l.take i) + (B e.tx).length := by
  unfold sumT
  rw [List.take_add_one,he]
  simp
theorem sumT_le (l : List Ed) (i : Nat) : sumT (l.take i) ≤ sumT l := by
  unfold sumT
  conv => rhs; rw [← List.take_append_drop i l]
  rw [List.map_append,List.sum_append]
  omega
def growS (l : List Ed) : Int := (l.map fun e => ((B e.tx).length : Int) - (e.hi - e.lo)).sum
theorem growS_step {l : List Ed} {i : Nat} {e : Ed} (he : l[i]? = some e) : growS (l.take (i + 1)) = growS (l.take i) + (((B e.tx).length : Int) - (e.hi - e.lo)) := by
  unfold growS
  rw [List.take_add_one,he]
  simp
theorem W_def (x : Int) : W x = if 9223372036854775808 ≤ x % 18446744073709551616 then x % 18446744073709551616 - 18446744073709551616 else x % 18446744073709551616 := by
  unfold W IntKind.wrap
  simp [IntKind.signed,IntKind.bits]
theorem W_grow2 {l : List Ed} {i : Nat} {e : Ed} (he : l[i]? = some e) : W (W (W (W (growS (l.take i)) + (((B e.tx).length : Nat) : Int)) - e.hi) + e.lo) = W (growS (l.take (i + 1))) := by
  rw [growS_step he]
  simp only [W_def]
  omega
def firstN (l : List Ed) : Int := match l.findIdx? (fun e => decide (Nothing e)) with
  | some i => (i : Int)
  | none => -1
def NoN (l : List Ed) (i : Nat) : Prop := ∀ k,k < i → ∀ e,l[k]? = some e → ¬ Nothing e
theorem NoN.step {l : List Ed} {i : Nat} {e : Ed} (h : NoN l i) (he : l[i]? = some e) (hn : ¬ Nothing e) : NoN l (i + 1) := fun k hk e' he' => by
  by_cases hki : k = i
  · subst hki; rw [he] at he'; cases he'; exact hn
  · exact h k (by omega) e' he'
theorem firstN_none {l : List Ed} {i : Nat} (h : NoN l i) (hi : l.length ≤ i) : firstN l = -1 := by
  have : l.findIdx? (fun e => decide (Nothing e)) = none := by
    rw [List.findIdx?_eq_none_iff]
    intro e he
    obtain ⟨k,hk⟩ := List.getElem?_of_mem he
    obtain ⟨hkl,_⟩ := List.getElem?_eq_some_iff.1 hk
    exact decide_eq_false (h k (by omega) e hk)
  unfold firstN; rw [this]
theorem NoN.none {l : List Ed} {i : Nat} (h : NoN l i) (hi : l.length ≤ i) : ¬ 0 ≤ firstN l := by rw [firstN_none h hi]; decide
def Apt (l : List Ed) (i : Nat) : Prop := ∀ k,k < i → ∀ e a,l[k]? = some e → 0 < k → l[k - 1]? = some a → ¬ e.lo = a.hi
theorem Apt.one (l : List Ed) : Apt l 1 := fun k hk e a _ h => by omega
theorem Apt.step0 {l : List Ed} {i : Nat} (h : Apt l i) (h0 : i = 0) : Apt l (i + 1) := fun k hk e a _ h => by omega
theorem Apt.step {l : List Ed} {i q : Nat} {e a : Ed} (h : Apt l i) (he : l[i]? = some e) (ha : l[q]? = some a) (hq : i = q + 1) (hne : ¬ e.lo = a.hi) : Apt l (i + 1) := fun k hk e' a' he' h0 ha' => by
  by_cases hki : k = i
  · subst hki; rw [he] at he'; cases he'; rw [show k - 1 = q by omega,ha] at ha'; cases ha'; exact hne
  · exact h k (by omega) e' a' he' h0 ha'
def Plain (l : List Ed) (n : Int) : Prop := Right l n ∧ ¬ 0 ≤ firstN l ∧ ∀ k,k < l.length → ∀ e a,l[k]? = some e → 0 < k → l[k - 1]? = some a → ¬ e.lo = a.hi
noncomputable instance (l : List Ed) (n : Int) : Decidable (Plain l n) := Classical.propDecidable _
end Go.Ev

/-
  EV: what the functions of the layer shift compute, in plain Lean.
-/
namespace Go.Ev
open Go
theorem foldl_step {α β : Type} {f : β → α → β} {b : β} {l : List α} {i : Nat} {e : α} (he : l[i]? = some e) : (l.take (i + 1)).foldl f b = f ((l.take i).foldl f b) e := by
  rw [List.take_add_one,he]; simp [List.foldl_append]
def NoB {α : Type} (p : α → Prop) (l : List α) (i : Nat) : Prop := ∀ k,k < i → ∀ x,l[k]? = some x → ¬ p x
theorem NoB.zero {α : Type} {p : α → Prop} {l : List α} : NoB p l 0 := fun k hk => absurd hk (Nat.not_lt_zero k)
theorem NoB.step {α : Type} {p : α → Prop} {l : List α} {i : Nat} {e : α} (h : NoB p l i) (he : l[i]? = some e) (hn : ¬ p e) : NoB p l (i + 1) := fun k hk x hx => by
  by_cases hki : k = i
  · subst hki; rw [he] at hx; cases hx; exact hn
  · exact h k (by omega) x hx
theorem NoB.find_at {α : Type} {p : α → Prop} [DecidablePred p] {l : List α} {i : Nat} {e : α} (h : NoB p l i) (he : l[i]? = some e) (hp : p e) : l.find? (fun x => decide (p x)) = some e := by
  induction l generalizing i with
  | nil => simp at he
  | cons x l ih =>
    cases i with
    | zero => simp at he; subst he; simp [hp]
    | succ i =>
      have hx : ¬ p x := h 0 (by omega) x rfl
      rw [List.find?_cons_of_neg (by simpa using hx)]
      exact ih (i := i) (fun k hk y hy => h (k + 1) (by omega) y (by simpa using hy)) (by simpa using he)
theorem NoB.find_none {α : Type} {p : α → Prop} [DecidablePred p] {l : List α} {i : Nat} (h : NoB p l i) (hi : l.length ≤ i) : l.find? (fun x => decide (p x)) = none := by
  rw [List.find?_eq_none]
  intro x hx
  obtain ⟨k,hk⟩ := List.getElem?_of_mem hx
  obtain ⟨hl,_⟩ := List.getElem?_eq_some_iff.1 hk
  simpa using h k (by omega) x hk
theorem NoB.idx_at {α : Type} {p : α → Prop} [DecidablePred p] {l : List α} {i : Nat} {e : α} (h : NoB p l i) (he : l[i]? = some e) (hp : p e) : l.findIdx? (fun x => decide (p x)) = some i := by
  obtain ⟨hi,rfl⟩ := List.getElem?_eq_some_iff.1 he
  rw [List.findIdx?_eq_some_iff_getElem]
  refine ⟨hi,decide_eq_true hp,fun j hj => ?_⟩
  have := h j hj l[j] (List.getElem?_eq_getElem (by omega))
  simpa using this
structure Run where
  fr : Int
  to : Int
  by' : Int
abbrev Run.cells (r : Run) : List Value := [.int .i64 r.fr,.int .i64 r.to,.int .i64 r.by']
theorem Run.one : ∀ y : Run,∀ v ∈ y.cells,oneCell v = true := by intro y v hv; simp at hv; rcases hv with rfl | rfl | rfl <;> rfl
def runStep (p : List Run × Int × Int) (e : Ed) : List Run × Int × Int := (p.1 ++ [⟨p.2.1,e.lo,p.2.2⟩],e.hi,W (p.2.2 + W ((((B e.tx).length : Nat) : Int) - W (e.hi - e.lo))))
def runF (l : List Ed) : List Run × Int × Int := l.foldl runStep ([],0,0)
theorem runF_step {l : List Ed} {i : Nat} {e : Ed} (he : l[i]? = some e) : runF (l.take (i + 1)) = runStep (runF (l.take i)) e := foldl_step he
theorem runF_len : ∀ (l : List Ed) (p : List Run × Int × Int),(l.foldl runStep p).1.length = p.1.length + l.length
  | [],p => by simp
  | e :: l,p => by simp [runF_len l,runStep]; omega
theorem runF_len' {l : List Ed} {i : Nat} (hi : i ≤ l.length) : (runF (l.take i)).1.length = i := by
  unfold runF; rw [runF_len]; simp; omega
def runsS (l : List Ed) (n : Int) : List Run := (runF l).1 ++ [⟨(runF l).2.1,n,(runF l).2.2⟩]
theorem runsS_len (l : List Ed) (n : Int) : (runsS l n).length = l.length + 1 := by
  unfold runsS runF; rw [List.length_append,runF_len]; simp
abbrev InR (q : Int) (r : Run) : Prop := r.fr ≤ q ∧ q < r.to
abbrev InC (q : Int) (r : Run) : Prop := W (r.fr + r.by') ≤ q ∧ q < W (r.to + r.by')
def goS (l : List Ed) (n q : Int) : Int × Int := match (runsS l n).find? (fun r => decide (InR q r)) with
  | some r => (W (q + r.by'),0)
  | none => (0,5)
def caS (l : List Ed) (n q : Int) : Int × Int := match (runsS l n).find? (fun r => decide (InC q r)) with
  | some r => (W (q - r.by'),0)
  | none => (0,5)
theorem goS_at {l : List Ed} {n q : Int} {i : Nat} {r : Run} (h : NoB (InR q) (runsS l n) i) (he : (runsS l n)[i]? = some r) (hp : InR q r) : goS l n q = (W (q + r.by'),0) := by
  unfold goS; rw [h.find_at he hp]
theorem goS_none {l : List Ed} {n q : Int} {i : Nat} (h : NoB (InR q) (runsS l n) i) (hi : (runsS l n).length ≤ i) : goS l n q = (0,5) := by
  unfold goS; rw [h.find_none hi]
theorem caS_at {l : List Ed} {n q : Int} {i : Nat} {r : Run} (h : NoB (InC q) (runsS l n) i) (he : (runsS l n)[i]? = some r) (hp : InC q r) : caS l n q = (W (q - r.by'),0) := by
  unfold caS; rw [h.find_at he hp]
theorem caS_none {l : List Ed} {n q : Int} {i : Nat} (h : NoB (InC q) (runsS l n) i) (hi : (runsS l n).length ≤ i) : caS l n q = (0,5) := by
  unfold caS; rw [h.find_none hi]
structure Sp where
  a : Int
  b : Int
abbrev Sp.cells (r : Sp) : List Value := [.int .i64 r.a,.int .i64 r.b]
theorem Sp.one : ∀ y : Sp,∀ v ∈ y.cells,oneCell v = true := by intro y v hv; simp at hv; rcases hv with rfl | rfl <;> rfl
def spanStep (p : List Sp × Int) (e : Ed) : List Sp × Int := (p.1 ++ [⟨W (e.lo + p.2),W (W (e.lo + p.2) + (((B e.tx).length : Nat) : Int))⟩],W (p.2 + W ((((B e.tx).length : Nat) : Int) - W (e.hi - e.lo))))
def spanF (l : List Ed) : List Sp × Int := l.foldl spanStep ([],0)
def spansS (l : List Ed) : List Sp := (spanF l).1
theorem spanF_step {l : List Ed} {i : Nat} {e : Ed} (he : l[i]? = some e) : spanF (l.take (i + 1)) = spanStep (spanF (l.take i)) e := foldl_step he
theorem spanF_len : ∀ (l : List Ed) (p : List Sp × Int),(l.foldl spanStep p).1.length = p.1.length + l.length
  | [],p => by simp
  | e :: l,p => by simp [spanF_len l,spanStep]; omega
theorem spanF_len' {l : List Ed} {i : Nat} (hi : i ≤ l.length) : (spanF (l.take i)).1.length = i := by
  unfold spanF; rw [spanF_len]; simp; omega
def upTo (a b : Int) : List Int := (List.range (b - a).toNat).map fun k : Nat => a + (k : Int)
theorem upTo_self (a : Int) : upTo a a = [] := by simp [upTo]
theorem upTo_succ {a b : Int} (h : a ≤ b) : upTo a (b + 1) = upTo a b ++ [b] := by
  unfold upTo
  rw [show (b + 1 - a).toNat = (b - a).toNat + 1 by omega,List.range_succ,List.map_append]
  simp
  omega
theorem upTo_len {a b : Int} : (upTo a b).length = (b - a).toNat := by simp [upTo]
def fromStep (p : List Int × Int) (e : Ed) : List Int × Int := (p.1 ++ upTo p.2 e.lo ++ List.replicate (B e.tx).length (-1),e.hi)
def fromF (l : List Ed) : List Int × Int := l.foldl fromStep ([],0)
def fromS (l : List Ed) (n : Int) : List Int := (fromF l).1 ++ upTo (fromF l).2 n
theorem fromF_step {l : List Ed} {i : Nat} {e : Ed} (he : l[i]? = some e) : fromF (l.take (i + 1)) = fromStep (fromF (l.take i)) e := foldl_step he
def rgoS (l : List Ed) (n q : Int) : Int × Int := match (fromS l n).findIdx? (fun x => decide (x = q ∧ 0 ≤ q)) with
  | some i => ((i : Int),0)
  | none => (0,5)
def rcaS (l : List Ed) (n q : Int) : Int × Int := if q < 0 then (0,5) else match (fromS l n)[q.toNat]? with
  | some x => if x < 0 then (0,5) else (x,0)
  | none => (0,5)
abbrev Large3 (n : Int) (l : List Ed) : Prop := 31 < l.length ∨ 500 < sumT l ∨ 500 < n
end Go.Ev

/-
  EV: the rules of a printed walk, fourth part: texts, functions that write what was their caller's, Builders.
-/
namespace Go.Ev
open Go Go.RowKit
def sub (x : ByteArray) (l h : Nat) : ByteArray := ⟨⟨((B x).drop l).take (h - l)⟩⟩
theorem B_inj {x y : ByteArray} (h : B x = B y) : x = y := by
  obtain ⟨⟨x⟩⟩ := x
  obtain ⟨⟨y⟩⟩ := y
  have : x = y := h
  rw [this]
section
variable {T : Tab} {ρ : Operand → Value} {s : St}
end
theorem Own.trim {s0 s s1 : St} (h0 : Own s0 s) (h : Own s0 s1) (hx : s.next ≤ s1.next) : Own s0 { s1 with mods := Ev.newMods s s1 ++ s.mods } := by
  obtain ⟨q,h1,h2⟩ := h.mods
  obtain ⟨p,h3,h4⟩ := h0.mods
  refine ⟨h.next,⟨Ev.newMods s s1 ++ p,by simp only [h3,List.append_assoc],fun N hN => ?_⟩,h.old⟩
  rcases List.mem_append.1 hN with hN | hN
  · unfold Ev.newMods at hN
    obtain ⟨hN,_⟩ := List.mem_filter.1 hN
    rw [h1,h3,List.length_append,List.length_append,List.take_append_of_le_length (by omega)] at hN
    exact h2 N (List.mem_of_mem_take hN)
  · have := h4 N hN; simp only; omega
def EndsOn (T : Tab) (f : FuncId) (args : List Value) (s0 s : St) (R : Value → Tree → Nat → Prop) : Prop := EndsCall T f args s fun v s' => Own s0 s' ∧ s.next ≤ s'.next ∧ R v s'.t s'.next
def FinOn (s0 s : St) (rs : List Tmp) (R : Value → Tree → Nat → Prop) (e : Ex) (fr : Fr) (s1 : St) : Prop := isExit e = false ∧ fr.defers = [] ∧ (Own s0 s1 ∧ s.next ≤ s1.next) ∧ R (valOf (rs.map (fr.tmps.getD · undef))) s1.t s1.next
section
variable {T : Tab} {fr : Fr} {s s0 : St} {ops : Array Oper} {o : Oper} {os : List Oper} {Q : Fr → St → Prop}
theorem EndsOn.of {f : FuncId} {n : Nat} {body : Code} {rs : List Tmp} {args : List Value} {fr0 : Fr} {R : Value → Tree → Nat → Prop} (hF : T.fn f = some ⟨n,body,rs.map ResultVar.tmp⟩) (h0 : (⟨args ++ List.replicate (n - args.length) undef,[]⟩ : Fr) = fr0) (hO : Own s0 s)
    (h : Ends T ⟨f,none⟩ body fr0 s (FinOn s0 s rs R)) : EndsOn T f args s0 s R :=
  EndsCall.of1 hF h0 (h.mono fun e fr s1 ⟨h1,h2,h3,h4⟩ => ⟨h1,h2,hO.trim h3.1 h3.2,h3.2,h4⟩)
theorem EndsOn.mono {f : FuncId} {args : List Value} {R R' : Value → Tree → Nat → Prop} (h : EndsOn T f args s0 s R) (hr : ∀ v t n,R v t n → R' v t n) : EndsOn T f args s0 s R' := EndsCall.mono h fun _ _ ⟨h1,h2,h3⟩ => ⟨h1,h2,hr _ _ _ h3⟩
end
def byteCell (b : UInt8) : List Value := [.int .u8 b.toNat]
def Oth (X : TypeId → Bool) (s s' : St) : Prop := ∀ M vs e hi,Row s.t s.next M vs e hi → X e = false → Row s'.t s'.next M vs e hi
theorem Oth.refl (X : TypeId → Bool) (s : St) : Oth X s s := fun _ _ _ _ h _ => h
theorem Oth.trans {X : TypeId → Bool} {a b c : St} (h : Oth X a b) (k : Oth X b c) : Oth X a c := fun M vs e hi r hx => k M vs e hi (h M vs e hi r hx) hx
theorem Oth.own {X : TypeId → Bool} {a b c : St} (h : Oth X a b) (k : Own b c) : Oth X a c := fun M vs e hi r hx => (h M vs e hi r hx).own k
theorem Row.ne {t : Tree} {n N M e e' hi hi' : Nat} {vs vs' : List Value} (r : Row t n N vs e hi) (r' : Row t n M vs' e' hi') (h : e ≠ e') : N ≠ M := by
  intro hN; subst hN; have := r.get.symm.trans r'.get; cases this; exact h rfl
theorem Oth.upd {X : TypeId → Bool} {a b c : St} {N e hi : Nat} {vs : List Value} (h : Oth X a b) (r : Row b.t b.next N vs e hi) (hX : X e = true) (hn : c.next = b.next) (hu : ∀ M,M ≠ N → c.t.get M = b.t.get M) : Oth X a c := fun M vs' e' hi' r' hx => by
  have h1 := h M vs' e' hi' r' hx
  exact h1.upd hn hu (h1.ne r (fun he => by subst he; rw [hX] at hx; cases hx))
section
variable {T : Tab} {fr : Fr} {s s0 : St} {ops : Array Oper} {o : Oper} {os : List Oper} {Q : Fr → St → Prop}
end
def Bd (bT uT lo : Nat) (t : Tree) (n : Nat) (N : Nat) (x : List UInt8) : Prop :=
  lo ≤ N ∧ ∃ p v,Row t n N [p,v] bT 0 ∧ (p = .pointer none ∨ p = .pointer (some ⟨N,0,none⟩)) ∧ OL byteCell 1 uT lo t n v x ∧ (x = [] → v = .slice none 0 0)
theorem Oth.weak {X Y : TypeId → Bool} {s s' : St} (h : Oth X s s') (hw : ∀ e,Y e = false → X e = false) : Oth Y s s' := fun M vs e hi r hx => h M vs e hi r (hw e hx)
section
variable {T : Tab} {fr : Fr} {s : St} {ops : Array Oper} {bef : List Nat} {i : Nat} {o : Oper} {os : List Oper} {ds : List (Nat × Did)} {Q : Fr → St → Prop}
end
end Go.Ev

/-
  EV: the rules of a printed walk, fifth part: drawn regions that lay blocks and write.
-/
namespace Go.Ev
open Go Go.RowKit
section
variable {T : Tab} {fr : Fr} {s : St} {ops : Array Oper} {bef : List Nat} {i : Nat} {o : Oper} {os : List Oper} {ds : List (Nat × Did)} {Q : Fr → St → Prop}
end
def EndsE (T : Tab) (ops : Array Oper) (bef : List Nat) (i : Nat) (os : List Oper) (L : List (Nat × Nat × Nat)) (fr : Fr) (s : St) (Q : Fr → St → Prop) : Prop :=
  ∀ ds,Calm ds → (∀ bits p,p ∈ hiddenOf bits ds → p ∈ hidL bits L) → (∀ p ∈ ds,p.1 < i) → EndsDraw T ops bef i os ds fr s Q
def EndsF (T : Tab) (ops : Array Oper) (bef : List Nat) (i : Nat) (os : List Oper) (fr : Fr) (s : St) (Q : Fr → St → Prop) : Prop := ∀ ds,EndsDraw T ops bef i os ds fr s Q
section
variable {T : Tab} {cx : Ctx} {fr : Fr} {s s0 : St} {ops : Array Oper} {bef : List Nat} {i : Nat} {o : Oper} {os : List Oper} {L : List (Nat × Nat × Nat)} {Q : Fr → St → Prop}
theorem ahead {ds : List (Nat × Did)} {d : Did} (h : ∀ p ∈ ds,p.1 < i) : ∀ p ∈ (i,d) :: ds,p.1 < i + 1 := fun p hp => by
  rcases List.mem_cons.1 hp with rfl | hp
  · exact Nat.lt_succ_self _
  · exact Nat.lt_succ_of_lt (h p hp)
theorem E.nil (h : Q fr s) : EndsE T ops bef i [] L fr s Q := fun _ _ _ _ => EndsDraw.nil h
theorem E.skip {fr1 : Fr} (hw : Region.wanted o (yieldedL ops fr.tmps) = false) (hf : fr.put o.dst undef = fr1) (h : EndsE T ops bef (i + 1) os L fr1 s Q) : EndsE T ops bef i (o :: os) L fr s Q := fun ds h1 h2 h3 => EndsDraw.skip1 hw hf (h ds h1 h2 fun p hp => Nat.lt_succ_of_lt (h3 p hp))
theorem OL.same {α : Type} {c : α → List Value} {k : Nat} {el : TypeId} {lo : Nat} {v : Value} {l : List α} {t t' : Tree} {n n' : Nat} (h : OL c k el lo t n v l) (hn : n ≤ n') (hg : ∀ M,M < n → t'.get M = t.get M) : OL c k el lo t' n' v l := by
  obtain ⟨h1,h2⟩ := h
  rcases h2 with h | ⟨N,h2,h3,h4⟩
  · exact ⟨h1,.inl h⟩
  · exact ⟨h1,.inr ⟨N,h2,⟨(hg N h3.lt).trans h3.get,Nat.lt_of_lt_of_le h3.lt hn⟩,h4⟩⟩
theorem Own.same {z s s2 : St} (h : Own z s) (hn : s2.next = s.next) (hm : s2.mods = s.mods) (hg : ∀ M,M < s.next → s2.t.get M = s.t.get M) : Own z s2 :=
  ⟨hn ▸ h.next,by obtain ⟨q,h1,h2⟩ := h.mods; exact ⟨q,hm.trans h1,fun N hN => hn ▸ h2 N hN⟩,fun N hN => (hg N (Nat.lt_of_lt_of_le hN h.next)).trans (h.old N hN)⟩
theorem OL.struck {α : Type} {c : α → List Value} {k : Nat} {el : TypeId} {lo : Nat} {v : Value} {l : List α} {t : Tree} {n : Nat} (h : OL c k el lo t n v l) {M : Nat} (hM : Struck v M) : M < n ∧ lo ≤ M ∧ (t.get M).isSome = true := by
  obtain ⟨len,cap,e,hcap⟩ := hM
  obtain ⟨_,h2⟩ := h
  rcases h2 with ⟨_,a,h,_⟩ | ⟨N,h,hr,hN⟩
  · rw [e] at h; cases h; exact absurd hcap (by decide)
  · rw [e] at h; cases h; exact ⟨hr.lt,hN,by rw [hr.get]; rfl⟩
theorem F.nil (h : Q fr s) : EndsF T ops bef i [] fr s Q := fun _ => EndsDraw.nil h
end
end Go.Ev
