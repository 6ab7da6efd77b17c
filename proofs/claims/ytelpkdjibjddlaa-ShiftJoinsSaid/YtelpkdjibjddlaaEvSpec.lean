/-
  EV: the rules of a printed walk, third part: lists that appends make, results that lie in memory.
-/
import Derived.Test.YtelpkdjibjddlaaEvWalk
namespace Go.Ev
open Go Go.RowKit
def OL {α : Type} (c : α → List Value) (k : Nat) (el : TypeId) (lo : Nat) (t : Tree) (n : Nat) (v : Value) (l : List α) : Prop :=
  l.length < 4611686018427387904 ∧ ((l = [] ∧ ∃ a,v = .slice a 0 0 ∧ (a = none ∨ ∃ N,a = some ⟨N,0,none⟩)) ∨ ∃ N,v = .slice (some ⟨N,0,none⟩) l.length (END + k) ∧ Row t n N ((l.map c).flatten) el 0 ∧ lo ≤ N)
section
variable {α : Type} {c : α → List Value} {k : Nat} {el : TypeId} {lo : Nat} {v : Value} {l : List α}
theorem OL.nil {t : Tree} {n : Nat} : OL c k el lo t n (.slice none 0 0) [] := ⟨by simp,.inl ⟨rfl,none,rfl,.inl rfl⟩⟩
theorem OL.own {s s' : St} (h : OL c k el lo s.t s.next v l) (w : Own s s') : OL c k el lo s'.t s'.next v l := by
  obtain ⟨h1,h2⟩ := h
  rcases h2 with h | ⟨N,h2,h3,h4⟩
  · exact ⟨h1,.inl h⟩
  · exact ⟨h1,.inr ⟨N,h2,h3.own w,h4⟩⟩
theorem OL.le {t : Tree} {n lo' : Nat} (h : OL c k el lo t n v l) (hlo : lo' ≤ lo) : OL c k el lo' t n v l := by
  obtain ⟨h1,h2⟩ := h
  rcases h2 with h | ⟨N,h2,h3,h4⟩
  · exact ⟨h1,.inl h⟩
  · exact ⟨h1,.inr ⟨N,h2,h3,Nat.le_trans hlo h4⟩⟩
theorem OL.len {t : Tree} {n : Nat} (h : OL c k el lo t n v l) : ∃ a cap,v = .slice a l.length cap := by
  obtain ⟨h1,h2⟩ := h
  rcases h2 with ⟨rfl,a,rfl,ha⟩ | ⟨N,rfl,h3,h4⟩
  · exact ⟨a,0,rfl⟩
  · exact ⟨_,_,rfl⟩
end
theorem Sl.take {α : Type} {c : α → List Value} {k : Nat} {a : Option Addr} {l : List α} {N o e hi : Nat} {vs : List Value} {t : Tree} {n : Nat} (h : Sl c k t n a l N o vs e hi) (i : Nat) : Sl c k t n a (l.take i) N o vs e hi :=
  ⟨fun hl => h.addr fun h0 => hl (by rw [h0]; simp),fun hl => h.row fun h0 => hl (by rw [h0]; simp),fun j x hx => h.get j x (by
    rw [List.getElem?_take] at hx; split at hx
    · exact hx
    · cases hx),by have := h.small; rw [List.length_take]; omega⟩
structure AppOk (T : Tab) (sT xT el : TypeId) (k b : Nat) : Prop where
  und : T.und sT = some (.slice el)
  arg : (T.und xT).map appendable = some true
  size : T.size el = some k
  bytes : T.bytes el = some b
  zero : ∃ z,T.zero el = some z ∧ (cellsOf z).length = k
  pos : 0 < k
  lt : k < END
def Struck (v : Value) (M : Nat) : Prop := ∃ len cap,v = .slice (some ⟨M,0,none⟩) len cap ∧ END ≤ cap
section
variable {T : Tab} {fr : Fr} {s s0 : St} {ops : Array Oper} {o : Oper} {os : List Oper} {Q : Fr → St → Prop}
theorem Own.store {z s1 : St} {N : Nat} (hz : Own z s) (hN : z.next ≤ N) (hlt : N < s.next) (hm : ∃ m,s1.mods = m ++ s.mods ∧ ∀ M ∈ m,M = N) (hn : s1.next = s.next) (hu : ∀ M,M ≠ N → s1.t.get M = s.t.get M) : Own z s1 := by
  obtain ⟨m,h1,h2⟩ := hm
  obtain ⟨q,h3,h4⟩ := hz.mods
  refine ⟨by rw [hn]; exact hz.next,⟨m ++ q,by rw [h1,h3,List.append_assoc],fun M hM => ?_⟩,fun M hM => (hu M (by omega)).trans (hz.old M hM)⟩
  rcases List.mem_append.1 hM with hM | hM
  · have := h2 M hM; omega
  · have := h4 M hM; omega
end
end Go.Ev

/-
  EV: what the functions of lists of edits compute, in plain Lean.
-/
namespace Go.Ev
open Go
abbrev Within (e : Ed) (n : Int) : Prop := 0 ≤ e.lo ∧ e.lo ≤ e.hi ∧ e.hi ≤ n
abbrev Behind (a e : Ed) : Prop := a.hi ≤ e.lo ∧ a.lo < e.lo
abbrev Nothing (e : Ed) : Prop := e.lo = e.hi ∧ B e.tx = B ByteArray.empty
def OkAt (l : List Ed) (n : Int) (i : Nat) : Prop := ∀ e,l[i]? = some e → Within e n ∧ ∀ a,0 < i → l[i - 1]? = some a → Behind a e
def Ok (l : List Ed) (n : Int) (i : Nat) : Prop := ∀ k,k < i → OkAt l n k
def Right (l : List Ed) (n : Int) : Prop := 0 ≤ n ∧ ∀ k,k < l.length → OkAt l n k
noncomputable instance (l : List Ed) (n : Int) : Decidable (Right l n) := Classical.propDecidable _
theorem Ok.step0 {l : List Ed} {n : Int} {i : Nat} {e : Ed} (h : Ok l n i) (he : l[i]? = some e) (hw : Within e n) (h0 : i = 0) : Ok l n (i + 1) := fun k hk => by
  by_cases hki : k = i
  · subst hki; intro e' he'; rw [he] at he'; cases he'; exact ⟨hw,fun _ h => by omega⟩
  · exact h k (by omega)
theorem Ok.step {l : List Ed} {n : Int} {i q : Nat} {e a : Ed} (h : Ok l n i) (he : l[i]? = some e) (hw : Within e n) (ha : l[q]? = some a) (hq : i = q + 1) (hb : Behind a e) : Ok l n (i + 1) := fun k hk => by
  by_cases hki : k = i
  · subst hki; intro e' he'; rw [he] at he'; cases he'
    refine ⟨hw,fun a' _ ha' => ?_⟩
    rw [hq,Nat.add_sub_cancel,ha] at ha'; cases ha'; exact hb
  · exact h k (by omega)
theorem Ok.at {l : List Ed} {n : Int} {i k : Nat} {e : Ed} (h : Ok l n i) (he : l[k]? = some e) (hk : k < i) : Within e n := (h k hk e he).1
theorem Right.at {l : List Ed} {n : Int} {i q : Nat} {e a : Ed} (h : Right l n) (he : l[i]? = some e) (ha : l[q]? = some a) (hq : i = q + 1) : Behind a e := by
  obtain ⟨hl,_⟩ := List.getElem?_eq_some_iff.1 he
  exact (h.2 i hl e he).2 a (by omega) (by rw [hq,Nat.add_sub_cancel]; exact ha)
structure Ed.Ok (e : Ed) : Prop where
  lo1 : -9223372036854775808 ≤ e.lo
  lo2 : e.lo < 9223372036854775808
  hi1 : -9223372036854775808 ≤ e.hi
  hi2 : e.hi < 9223372036854775808
  tx : (B e.tx).length ≤ 140737488351232
def sumT (l : List Ed) : Nat := (l.map fun e => (B e.tx).length).sum
theorem sumT_step {l : List Ed} {i : Nat} {e : Ed} (he : l[i]? = some e) : sumT (l.take (i + 1)) = sumT (l.take i) + (B e.tx).length := by
  unfold sumT
  rw [List.take_add_one,he]
  simp
theorem sumT_le (l : List Ed) (i : Nat) : sumT (l.take i) ≤ sumT l := by
  unfold sumT
  conv => rhs; rw [← List.take_append_drop i l]
  rw [List.map_append,List.sum_append]
  omega
def growS (l : List Ed) : Int := (l.map fun e => ((B e.tx).length : Int) - (e.hi - e.lo)).sum
theorem growS_step {l : List Ed} {i : Nat} {e : Ed} (he : l[i]? = some e) : growS (l.take (i + 1)) = growS (l.take i) + (((B e.tx).length : Int) - (e.hi - e.lo)) := by
  unfold growS
  rw [List.take_add_one,he]
  simp
theorem W_def (x : Int) : W x = if 9223372036854775808 ≤ x % 18446744073709551616 then x % 18446744073709551616 - 18446744073709551616 else x % 18446744073709551616 := by
  unfold W IntKind.wrap
  simp [IntKind.signed,IntKind.bits]
theorem W_grow2 {l : List Ed} {i : Nat} {e : Ed} (he : l[i]? = some e) : W (W (W (W (growS (l.take i)) + (((B e.tx).length : Nat) : Int)) - e.hi) + e.lo) = W (growS (l.take (i + 1))) := by
  rw [growS_step he]
  simp only [W_def]
  omega
def firstN (l : List Ed) : Int := match l.findIdx? (fun e => decide (Nothing e)) with
  | some i => (i : Int)
  | none => -1
def NoN (l : List Ed) (i : Nat) : Prop := ∀ k,k < i → ∀ e,l[k]? = some e → ¬ Nothing e
theorem NoN.step {l : List Ed} {i : Nat} {e : Ed} (h : NoN l i) (he : l[i]? = some e) (hn : ¬ Nothing e) : NoN l (i + 1) := fun k hk e' he' => by
  by_cases hki : k = i
  · subst hki; rw [he] at he'; cases he'; exact hn
  · exact h k (by omega) e' he'
theorem firstN_none {l : List Ed} {i : Nat} (h : NoN l i) (hi : l.length ≤ i) : firstN l = -1 := by
  have : l.findIdx? (fun e => decide (Nothing e)) = none := by
    rw [List.findIdx?_eq_none_iff]
    intro e he
    obtain ⟨k,hk⟩ := List.getElem?_of_mem he
    obtain ⟨hkl,_⟩ := List.getElem?_eq_some_iff.1 hk
    exact decide_eq_false (h k (by omega) e hk)
  unfold firstN; rw [this]
theorem NoN.none {l : List Ed} {i : Nat} (h : NoN l i) (hi : l.length ≤ i) : ¬ 0 ≤ firstN l := by rw [firstN_none h hi]; decide
def Apt (l : List Ed) (i : Nat) : Prop := ∀ k,k < i → ∀ e a,l[k]? = some e → 0 < k → l[k - 1]? = some a → ¬ e.lo = a.hi
theorem Apt.one (l : List Ed) : Apt l 1 := fun k hk e a _ h => by omega
theorem Apt.step0 {l : List Ed} {i : Nat} (h : Apt l i) (h0 : i = 0) : Apt l (i + 1) := fun k hk e a _ h => by omega
theorem Apt.step {l : List Ed} {i q : Nat} {e a : Ed} (h : Apt l i) (he : l[i]? = some e) (ha : l[q]? = some a) (hq : i = q + 1) (hne : ¬ e.lo = a.hi) : Apt l (i + 1) := fun k hk e' a' he' h0 ha' => by
  by_cases hki : k = i
  · subst hki; rw [he] at he'; cases he'; rw [show k - 1 = q by omega,ha] at ha'; cases ha'; exact hne
  · exact h k (by omega) e' a' he' h0 ha'
def Plain (l : List Ed) (n : Int) : Prop := Right l n ∧ ¬ 0 ≤ firstN l ∧ ∀ k,k < l.length → ∀ e a,l[k]? = some e → 0 < k → l[k - 1]? = some a → ¬ e.lo = a.hi
noncomputable instance (l : List Ed) (n : Int) : Decidable (Plain l n) := Classical.propDecidable _
end Go.Ev
