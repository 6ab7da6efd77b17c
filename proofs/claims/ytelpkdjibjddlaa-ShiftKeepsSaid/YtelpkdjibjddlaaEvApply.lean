/-
  EV: what the functions of the layer edit compute that make texts, in plain Lean.
-/
import Derived.Test.YtelpkdjibjddlaaEvDrawn
import Derived.Test.YtelpkdjibjddlaaEvShiftLaw
set_option linter.unusedSimpArgs false
set_option linter.unusedVariables false
namespace Go.Ev
open Go Go.RowKit

/-- May a list be applied to a text of so many bytes? 0: yes. -/
noncomputable def mayC (n : Nat) (l : List Ed) : Int := if Right l n then (if (65536 : Int) < W ((n : Int) + W (growS l)) then 4 else 0) else 2
theorem may0 {n : Nat} {l : List Ed} (h : mayC n l = 0) : Right l n ∧ ¬ (65536 : Int) < W ((n : Int) + W (growS l)) := by
  unfold mayC at h
  split at h
  · rename_i hR
    split at h
    · cases h
    · rename_i hw; exact ⟨hR, hw⟩
  · cases h
theorem may2 {n : Nat} {l : List Ed} (h : ¬ Right l n) : mayC n l = 2 := by unfold mayC; rw [if_neg h]
theorem may4 {n : Nat} {l : List Ed} (h : Right l n) (h2 : (65536 : Int) < W ((n : Int) + W (growS l))) : mayC n l = 4 := by unfold mayC; rw [if_pos h, if_pos h2]
theorem mayOk {n : Nat} {l : List Ed} (h : Right l n) (h2 : ¬ (65536 : Int) < W ((n : Int) + W (growS l))) : mayC n l = 0 := by unfold mayC; rw [if_pos h, if_neg h2]

/-- The text behind edits, from the first one on. -/
def apStep (x : ByteArray) (p : List UInt8 × Int) (e : Ed) : List UInt8 × Int := (p.1 ++ B (sub x p.2.toNat e.lo.toNat) ++ B e.tx, e.hi)
def apF (x : ByteArray) (l : List Ed) : List UInt8 × Int := l.foldl (apStep x) ([], 0)
theorem apF_step {x : ByteArray} {l : List Ed} {i : Nat} {e : Ed} (he : l[i]? = some e) : apF x (l.take (i + 1)) = apStep x (apF x (l.take i)) e := foldl_step he
def apS (x : ByteArray) (l : List Ed) : ByteArray := ⟨⟨(apF x l).1 ++ B (sub x (apF x l).2.toNat (B x).length)⟩⟩
/-- From the last one on. -/
def rapStep (e : Ed) (y : ByteArray) : ByteArray := cat (cat (sub y 0 e.lo.toNat) e.tx) (sub y e.hi.toNat (B y).length)
def rapS (x : ByteArray) (l : List Ed) : ByteArray := l.foldr rapStep x
theorem rap_step {x : ByteArray} {l : List Ed} {k : Nat} {e : Ed} (he : l[k]? = some e) : rapS x (l.drop k) = rapStep e (rapS x (l.drop (k + 1))) := by
  unfold rapS
  rw [List.drop_eq_getElem?_toList_append, he]
  rfl
/-- The edits that lead back. -/
def invStep (x : ByteArray) (p : List Ed × Int) (e : Ed) : List Ed × Int := (p.1 ++ [⟨W (e.lo + p.2), W (W (e.lo + p.2) + (((B e.tx).length : Nat) : Int)), sub x e.lo.toNat e.hi.toNat⟩], W (p.2 + W ((((B e.tx).length : Nat) : Int) - W (e.hi - e.lo))))
def invF (x : ByteArray) (l : List Ed) : List Ed × Int := l.foldl (invStep x) ([], 0)
def invS (x : ByteArray) (l : List Ed) : List Ed := (invF x l).1
theorem invF_step {x : ByteArray} {l : List Ed} {i : Nat} {e : Ed} (he : l[i]? = some e) : invF x (l.take (i + 1)) = invStep x (invF x (l.take i)) e := foldl_step he
theorem invF_len (x : ByteArray) : ∀ (l : List Ed) (p : List Ed × Int), (l.foldl (invStep x) p).1.length = p.1.length + l.length
  | [], p => by simp
  | e :: l, p => by simp [invF_len x l, invStep]; omega
theorem invF_len' {x : ByteArray} {l : List Ed} {i : Nat} (hi : i ≤ l.length) : (invF x (l.take i)).1.length = i := by
  unfold invF; rw [invF_len]; simp; omega
theorem invF_by {x : ByteArray} {l : List Ed} : ∀ {i : Nat}, i ≤ l.length → (invF x (l.take i)).2 = W (growS (l.take i))
  | 0, _ => rfl
  | i + 1, h => by
    obtain ⟨e, he⟩ := ex_at (l := l) (i := i) (by omega)
    rw [invF_step he, growS_step he]
    show W ((invF x (l.take i)).2 + _) = _
    rw [invF_by (by omega)]
    simp only [W_def]
    omega
/-- No two neighbours begin at the same place. -/
def NoTwin (l : List Ed) (i : Nat) : Prop := ∀ k, k < i → ∀ e a, l[k]? = some e → 0 < k → l[k - 1]? = some a → ¬ a.lo = e.lo
noncomputable instance (l : List Ed) (i : Nat) : Decidable (NoTwin l i) := Classical.propDecidable _
noncomputable instance (a b : List Ed) : Decidable (a = b) := Classical.propDecidable _

/-- A list that is handed on, as the cells of an append. -/
theorem slice_all {α : Type} {c : α → List Value} {k : Nat} {vs : List Value} (hc : ∀ y, (c y).length = k) : ∀ (l : List α) (o : Nat), (∀ i x, l[i]? = some x → Ev.slice vs (o + i * k) k = some (c x)) → (vs.drop o).take (l.length * k) = (l.map c).flatten
  | [], o, _ => by simp
  | x :: l, o, h => by
    have h0 := h 0 x rfl
    rw [Nat.zero_mul, Nat.add_zero] at h0
    unfold Ev.slice at h0
    simp only at h0
    split at h0
    · rename_i hlen
      have e0 : (vs.drop o).take k = c x := Option.some.inj h0
      have ih := slice_all hc l (o + k) fun i y hy => by
        have := h (i + 1) y (by simpa using hy)
        rwa [Nat.succ_mul, ← Nat.add_assoc, Nat.add_right_comm] at this
      rw [← List.drop_drop] at ih
      simp only [List.length_cons, List.map_cons, List.flatten_cons]
      rw [Nat.succ_mul, Nat.add_comm, List.take_add, e0, ih]
    · cases h0
theorem firstSl {α : Type} {c : α → List Value} {k : Nat} {s : St} {a : Option Addr} {l : List α} {N o e hi cap : Nat} {vs : List Value} (h : Sl c k s.t s.next a l N o vs e hi) (hc : ∀ y, (c y).length = k) (hcp : Cp k a l.length cap) : firstCells l.length k (.slice a l.length cap) s = some ((l.map c).flatten, s) := by
  by_cases hl : l = []
  · subst hl
    rcases hcp.2 with rfl | ⟨N', o', rfl⟩
    · rfl
    · rfl
  · rw [h.addr hl]
    unfold firstCells
    have hpos : 0 < l.length := List.length_pos_iff.2 hl
    dsimp only
    rw [if_neg (by omega), if_pos (Nat.le_refl _)]
    have hs := slice_all hc l o h.get
    have : Ev.slice vs o (l.length * k) = some ((l.map c).flatten) := by
      unfold Ev.slice
      simp only
      rw [hs, if_pos (flat_len hc l)]
    simp only [bnd, rowOf, (h.row hl).get, this]; rfl
section
variable {T : Tab} {fr : Fr} {s s0 : St} {ops : Array Oper} {o : Oper} {os : List Oper} {Q : Fr → St → Prop}
/-- An append of a whole list to an empty one. -/
theorem W.appendL {α : Type} {c : α → List Value} {k b : Nat} {el sT xT : TypeId} {l : List α} {v : Value} {a : Option Addr} {N p' e hi cap : Nat} {vs : List Value} {p q : Operand} {fF : Value → Fr} (A : AppOk T sT xT el k b) (hc : ∀ y, (c y).length = k) (h1 : ∀ y, ∀ v ∈ c y, oneCell v = true) (hO : Own s0 s) (hl : OL c k el s0.next s.t s.next v ([] : List α))
    (hX : Sl c k s.t s.next a l N p' vs e hi) (hcp : Cp k a l.length cap) (hw : Region.wanted o (yieldedL ops fr.tmps) = true) (ho : o.op = .call ⟨.builtin .append, #[p, q], #[sT, xT]⟩) (hp : fr.eval p = v) (hq : fr.eval q = .slice a l.length cap) (hb : l.length * b ≤ 140737488355328)
    (hf : ∀ v', fr.put o.dst v' = fF v')
    (h : ∀ v' s1, Own s0 s1 → s.next ≤ s1.next → OL c k el s0.next s1.t s1.next v' l → EndsOps T ops os (fF v') s1 Q) : EndsOps T ops (o :: os) fr s Q := by
  have hc' : noCall o.op = true := by rw [ho]; rfl
  obtain ⟨v', s1, e1, e2', e3, e4, e5⟩ := append_run A hc h1 hl hO.next (xs := .slice a l.length cap) (ys := l) rfl (firstSl hX hc hcp) (by simpa using hb) (by simpa using hX.small)
  rw [List.nil_append] at e3
  refine EndsOps.plain1 hw (v := v') (s1 := s1) ?_ (noCall_ne hc') (hf v') (h v' s1 (Own.append hO hl (Nat.le_refl _) e2' e4 e5) e2' e3)
  rw [ho]
  show Ev.append T [sT, xT] [fr.eval p, fr.eval q] s = _
  rw [hp, hq]; exact e1
/-- An empty slice that is not nil. -/
theorem W.newE {N : Nat} {ty e : TypeId} {k : Nat} {z : Value} {fr1 : Fr} (hO : Own s0 s) (hN : N = s.next) (hw : Region.wanted o (yieldedL ops fr.tmps) = true) (ho : o.op = .buildSlice ty 0 #[]) (hu : T.und ty = some (.slice e)) (hs : T.size e = some k) (hz : T.zero e = some z) (hzk : (cellsOf z).length = k) (hf : fr.put o.dst (.slice (some ⟨N, 0, none⟩) 0 0) = fr1)
    (h : ∀ s1 : St, Own s0 s1 → Own s s1 → EndsOps T ops os fr1 s1 Q) : EndsOps T ops (o :: os) fr s Q := by
  subst hN
  have hc : noCall o.op = true := by rw [ho]; rfl
  have hS : Own s { s with t := s.t.set s.next (some (.cells [] e 0)), next := s.next + 1 } := ⟨Nat.le_succ _, ⟨[], rfl, fun _ h => by cases h⟩, fun N hN => Tree.get_set_ne _ _ (Nat.ne_of_lt hN)⟩
  refine EndsOps.plain1 hw (v := .slice (some ⟨s.next, 0, none⟩) 0 0) (s1 := { s with t := s.t.set s.next (some (.cells [] e 0)), next := s.next + 1 }) ?_ (noCall_ne hc) hf (h _ (hO.trans hS) hS)
  rw [ho]
  unfold evPlain
  show buildSlice T ty 0 [] s = _
  unfold buildSlice
  have hzs : zeros T e 0 = some [] := by
    unfold zeros; simp only [hz, hs]; rw [if_pos hzk]; rfl
  simp only [hu, hs, hzs]
  rw [if_neg (by omega)]
  simp only [and_self, if_true, bnd, newB, ret]
theorem OL.none {α : Type} {c : α → List Value} {k : Nat} {el : TypeId} {lo : Nat} {t : Tree} {n N : Nat} : OL c k el lo t n (.slice (some ⟨N, 0, Option.none⟩) 0 0) ([] : List α) := ⟨by simp, .inl ⟨rfl, _, rfl, .inr ⟨N, rfl⟩⟩⟩
end
theorem Bd.own {bT uT lo N : Nat} {x : List UInt8} {s s' : St} (h : Bd bT uT lo s.t s.next N x) (w : Own s s') : Bd bT uT lo s'.t s'.next N x := by
  obtain ⟨h1, p, v, h2, h3, h4, h5⟩ := h
  exact ⟨h1, p, v, h2.own w, h3, h4.own w, h5⟩
theorem Sl.nil {α : Type} {c : α → List Value} {k : Nat} (t : Tree) (n : Nat) : Sl c k t n Option.none ([] : List α) 0 0 [] 0 0 := ⟨fun h => absurd rfl h, fun h => absurd rfl h, fun i x h => by simp at h, by simp⟩
theorem Ed.one : ∀ y : Ed, ∀ v ∈ y.cells, oneCell v = true := by intro y v hv; simp at hv; rcases hv with rfl | rfl | rfl <;> rfl
end Go.Ev
