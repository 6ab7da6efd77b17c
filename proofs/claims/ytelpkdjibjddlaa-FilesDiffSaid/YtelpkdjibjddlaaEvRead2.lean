/-
  EV: what the functions of the layer edit compute that make texts, in plain Lean.
-/
import Derived.Test.YtelpkdjibjddlaaEvDrawn
import Derived.Test.YtelpkdjibjddlaaEvShiftLaw
import Derived.Laws.RangeAny
import Derived.Laws.RangeString
namespace Go.Ev
open Go Go.RowKit

/-- May a list be applied to a text of so many bytes? 0: yes. -/
noncomputable def mayC (n : Nat) (l : List Ed) : Int := if Right l n then (if (65536 : Int) < W ((n : Int) + W (growS l)) then 4 else 0) else 2
theorem may0 {n : Nat} {l : List Ed} (h : mayC n l = 0) : Right l n ∧ ¬ (65536 : Int) < W ((n : Int) + W (growS l)) := by
  unfold mayC at h
  split at h
  · rename_i hR
    split at h
    · cases h
    · rename_i hw; exact ⟨hR, hw⟩
  · cases h
theorem may2 {n : Nat} {l : List Ed} (h : ¬ Right l n) : mayC n l = 2 := by unfold mayC; rw [if_neg h]
theorem may4 {n : Nat} {l : List Ed} (h : Right l n) (h2 : (65536 : Int) < W ((n : Int) + W (growS l))) : mayC n l = 4 := by unfold mayC; rw [if_pos h, if_pos h2]
theorem mayOk {n : Nat} {l : List Ed} (h : Right l n) (h2 : ¬ (65536 : Int) < W ((n : Int) + W (growS l))) : mayC n l = 0 := by unfold mayC; rw [if_pos h, if_neg h2]

/-- The text behind edits, from the first one on. -/
def apStep (x : ByteArray) (p : List UInt8 × Int) (e : Ed) : List UInt8 × Int := (p.1 ++ B (sub x p.2.toNat e.lo.toNat) ++ B e.tx, e.hi)
def apF (x : ByteArray) (l : List Ed) : List UInt8 × Int := l.foldl (apStep x) ([], 0)
theorem apF_step {x : ByteArray} {l : List Ed} {i : Nat} {e : Ed} (he : l[i]? = some e) : apF x (l.take (i + 1)) = apStep x (apF x (l.take i)) e := foldl_step he
def apS (x : ByteArray) (l : List Ed) : ByteArray := ⟨⟨(apF x l).1 ++ B (sub x (apF x l).2.toNat (B x).length)⟩⟩
/-- From the last one on. -/
def rapStep (e : Ed) (y : ByteArray) : ByteArray := cat (cat (sub y 0 e.lo.toNat) e.tx) (sub y e.hi.toNat (B y).length)
def rapS (x : ByteArray) (l : List Ed) : ByteArray := l.foldr rapStep x
theorem rap_step {x : ByteArray} {l : List Ed} {k : Nat} {e : Ed} (he : l[k]? = some e) : rapS x (l.drop k) = rapStep e (rapS x (l.drop (k + 1))) := by
  unfold rapS
  rw [List.drop_eq_getElem?_toList_append, he]
  rfl
/-- The edits that lead back. -/
def invStep (x : ByteArray) (p : List Ed × Int) (e : Ed) : List Ed × Int := (p.1 ++ [⟨W (e.lo + p.2), W (W (e.lo + p.2) + (((B e.tx).length : Nat) : Int)), sub x e.lo.toNat e.hi.toNat⟩], W (p.2 + W ((((B e.tx).length : Nat) : Int) - W (e.hi - e.lo))))
def invF (x : ByteArray) (l : List Ed) : List Ed × Int := l.foldl (invStep x) ([], 0)
def invS (x : ByteArray) (l : List Ed) : List Ed := (invF x l).1
theorem invF_step {x : ByteArray} {l : List Ed} {i : Nat} {e : Ed} (he : l[i]? = some e) : invF x (l.take (i + 1)) = invStep x (invF x (l.take i)) e := foldl_step he
theorem invF_len (x : ByteArray) : ∀ (l : List Ed) (p : List Ed × Int), (l.foldl (invStep x) p).1.length = p.1.length + l.length
  | [], p => by simp
  | e :: l, p => by simp [invF_len x l, invStep]; omega
theorem invF_len' {x : ByteArray} {l : List Ed} {i : Nat} (hi : i ≤ l.length) : (invF x (l.take i)).1.length = i := by
  unfold invF; rw [invF_len]; simp; omega
theorem invF_by {x : ByteArray} {l : List Ed} : ∀ {i : Nat}, i ≤ l.length → (invF x (l.take i)).2 = W (growS (l.take i))
  | 0, _ => rfl
  | i + 1, h => by
    obtain ⟨e, he⟩ := ex_at (l := l) (i := i) (by omega)
    rw [invF_step he, growS_step he]
    show W ((invF x (l.take i)).2 + _) = _
    rw [invF_by (by omega)]
    simp only [W_def]
    omega
/-- No two neighbours begin at the same place. -/
def NoTwin (l : List Ed) (i : Nat) : Prop := ∀ k, k < i → ∀ e a, l[k]? = some e → 0 < k → l[k - 1]? = some a → ¬ a.lo = e.lo
noncomputable instance (l : List Ed) (i : Nat) : Decidable (NoTwin l i) := Classical.propDecidable _
noncomputable instance (a b : List Ed) : Decidable (a = b) := Classical.propDecidable _

/-- A list that is handed on, as the cells of an append. -/
theorem slice_all {α : Type} {c : α → List Value} {k : Nat} {vs : List Value} (hc : ∀ y, (c y).length = k) : ∀ (l : List α) (o : Nat), (∀ i x, l[i]? = some x → Ev.slice vs (o + i * k) k = some (c x)) → (vs.drop o).take (l.length * k) = (l.map c).flatten
  | [], o, _ => by simp
  | x :: l, o, h => by
    have h0 := h 0 x rfl
    rw [Nat.zero_mul, Nat.add_zero] at h0
    unfold Ev.slice at h0
    simp only at h0
    split at h0
    · rename_i hlen
      have e0 : (vs.drop o).take k = c x := Option.some.inj h0
      have ih := slice_all hc l (o + k) fun i y hy => by
        have := h (i + 1) y (by simpa using hy)
        rwa [Nat.succ_mul, ← Nat.add_assoc, Nat.add_right_comm] at this
      rw [← List.drop_drop] at ih
      simp only [List.length_cons, List.map_cons, List.flatten_cons]
      rw [Nat.succ_mul, Nat.add_comm, List.take_add, e0, ih]
    · cases h0
theorem firstSl {α : Type} {c : α → List Value} {k : Nat} {s : St} {a : Option Addr} {l : List α} {N o e hi cap : Nat} {vs : List Value} (h : Sl c k s.t s.next a l N o vs e hi) (hc : ∀ y, (c y).length = k) (hcp : Cp k a l.length cap) : firstCells l.length k (.slice a l.length cap) s = some ((l.map c).flatten, s) := by
  by_cases hl : l = []
  · subst hl
    rcases hcp.2 with rfl | ⟨N', o', rfl⟩
    · rfl
    · rfl
  · rw [h.addr hl]
    unfold firstCells
    have hpos : 0 < l.length := List.length_pos_iff.2 hl
    dsimp only
    rw [if_neg (by omega), if_pos (Nat.le_refl _)]
    have hs := slice_all hc l o h.get
    have : Ev.slice vs o (l.length * k) = some ((l.map c).flatten) := by
      unfold Ev.slice
      simp only
      rw [hs, if_pos (flat_len hc l)]
    simp only [bnd, rowOf, (h.row hl).get, this]; rfl
section
variable {T : Tab} {fr : Fr} {s s0 : St} {ops : Array Oper} {o : Oper} {os : List Oper} {Q : Fr → St → Prop}
/-- An append of a whole list to an empty one. -/
theorem W.appendL {α : Type} {c : α → List Value} {k b : Nat} {el sT xT : TypeId} {l : List α} {v : Value} {a : Option Addr} {N p' e hi cap : Nat} {vs : List Value} {p q : Operand} {fF : Value → Fr} (A : AppOk T sT xT el k b) (hc : ∀ y, (c y).length = k) (h1 : ∀ y, ∀ v ∈ c y, oneCell v = true) (hO : Own s0 s) (hl : OL c k el s0.next s.t s.next v ([] : List α))
    (hX : Sl c k s.t s.next a l N p' vs e hi) (hcp : Cp k a l.length cap) (hw : Region.wanted o (yieldedL ops fr.tmps) = true) (ho : o.op = .call ⟨.builtin .append, #[p, q], #[sT, xT]⟩) (hp : fr.eval p = v) (hq : fr.eval q = .slice a l.length cap) (hb : l.length * b ≤ 140737488355328)
    (hf : ∀ v', fr.put o.dst v' = fF v')
    (h : ∀ v' s1, Own s0 s1 → s.next ≤ s1.next → OL c k el s0.next s1.t s1.next v' l → EndsOps T ops os (fF v') s1 Q) : EndsOps T ops (o :: os) fr s Q := by
  have hc' : noCall o.op = true := by rw [ho]; rfl
  obtain ⟨v', s1, e1, e2', e3, e4, e5⟩ := append_run A hc h1 hl hO.next (xs := .slice a l.length cap) (ys := l) rfl (firstSl hX hc hcp) (by simpa using hb) (by simpa using hX.small)
  rw [List.nil_append] at e3
  refine EndsOps.plain1 hw (v := v') (s1 := s1) ?_ (noCall_ne hc') (hf v') (h v' s1 (Own.append hO hl (Nat.le_refl _) e2' e4 e5) e2' e3)
  rw [ho]
  show Ev.append T [sT, xT] [fr.eval p, fr.eval q] s = _
  rw [hp, hq]; exact e1
/-- An empty slice that is not nil. -/
theorem W.newE {N : Nat} {ty e : TypeId} {k : Nat} {z : Value} {fr1 : Fr} (hO : Own s0 s) (hN : N = s.next) (hw : Region.wanted o (yieldedL ops fr.tmps) = true) (ho : o.op = .buildSlice ty 0 #[]) (hu : T.und ty = some (.slice e)) (hs : T.size e = some k) (hz : T.zero e = some z) (hzk : (cellsOf z).length = k) (hf : fr.put o.dst (.slice (some ⟨N, 0, none⟩) 0 0) = fr1)
    (h : ∀ s1 : St, Own s0 s1 → Own s s1 → EndsOps T ops os fr1 s1 Q) : EndsOps T ops (o :: os) fr s Q := by
  subst hN
  have hc : noCall o.op = true := by rw [ho]; rfl
  have hS : Own s { s with t := s.t.set s.next (some (.cells [] e 0)), next := s.next + 1 } := ⟨Nat.le_succ _, ⟨[], rfl, fun _ h => by cases h⟩, fun N hN => Tree.get_set_ne _ _ (Nat.ne_of_lt hN)⟩
  refine EndsOps.plain1 hw (v := .slice (some ⟨s.next, 0, none⟩) 0 0) (s1 := { s with t := s.t.set s.next (some (.cells [] e 0)), next := s.next + 1 }) ?_ (noCall_ne hc) hf (h _ (hO.trans hS) hS)
  rw [ho]
  unfold evPlain
  show buildSlice T ty 0 [] s = _
  unfold buildSlice
  have hzs : zeros T e 0 = some [] := by
    unfold zeros; simp only [hz, hs]; rw [if_pos hzk]; rfl
  simp only [hu, hs, hzs]
  rw [if_neg (by omega)]
  simp only [and_self, if_true, bnd, newB, ret]
theorem OL.none {α : Type} {c : α → List Value} {k : Nat} {el : TypeId} {lo : Nat} {t : Tree} {n N : Nat} : OL c k el lo t n (.slice (some ⟨N, 0, Option.none⟩) 0 0) ([] : List α) := ⟨by simp, .inl ⟨rfl, _, rfl, .inr ⟨N, rfl⟩⟩⟩
end
theorem Bd.own {bT uT lo N : Nat} {x : List UInt8} {s s' : St} (h : Bd bT uT lo s.t s.next N x) (w : Own s s') : Bd bT uT lo s'.t s'.next N x := by
  obtain ⟨h1, p, v, h2, h3, h4, h5⟩ := h
  exact ⟨h1, p, v, h2.own w, h3, h4.own w, h5⟩
theorem Sl.nil {α : Type} {c : α → List Value} {k : Nat} (t : Tree) (n : Nat) : Sl c k t n Option.none ([] : List α) 0 0 [] 0 0 := ⟨fun h => absurd rfl h, fun h => absurd rfl h, fun i x h => by simp at h, by simp⟩
theorem Ed.one : ∀ y : Ed, ∀ v ∈ y.cells, oneCell v = true := by intro y v hv; simp at hv; rcases hv with rfl | rfl | rfl <;> rfl
end Go.Ev

/-
  EV: the layer files: rules for texts that are ranged over, copies of lists, functions with what they have caught; what the functions compute, in plain Lean.
-/
namespace Go.Ev
open Go Go.RowKit

/-- Another object of the heap. -/
structure Ob (t : Tree) (n N : Nat) (o : Obj) : Prop where
  get : t.get N = some (.obj o)
  lt : N < n
theorem Ob.own {s s' : St} {N : Nat} {o : Obj} (r : Ob s.t s.next N o) (h : Own s s') : Ob s'.t s'.next N o := ⟨(h.old N r.lt).trans r.get, Nat.lt_of_lt_of_le r.lt h.next⟩

section
variable {T : Tab} {fr : Fr} {s s0 : St} {ops : Array Oper} {o : Oper} {os : List Oper} {Q : Fr → St → Prop}
theorem W.range {N : Nat} {ty : TypeId} {x : Operand} {t : ByteArray} {fr1 : Fr} (hO : Own s0 s) (hN : N = s.next) (hw : Region.wanted o (yieldedL ops fr.tmps) = true) (ho : o.op = .range ty x) (hu : T.und ty = some .string) (hx : fr.eval x = .string t) (hf : fr.put o.dst (.pointer (some ⟨N, 0, none⟩)) = fr1)
    (h : ∀ s1 : St, Own s0 s1 → Own s s1 → Ob s1.t s1.next N (.stringIter t 0) → s0.next ≤ N → EndsOps T ops os fr1 s1 Q) : EndsOps T ops (o :: os) fr s Q := by
  subst hN
  have hc : noCall o.op = true := by rw [ho]; rfl
  have hS : Own s { s with t := s.t.set s.next (some (.obj (.stringIter t 0))), next := s.next + 1 } := ⟨Nat.le_succ _, ⟨[], rfl, fun _ h => by cases h⟩, fun N hN => Tree.get_set_ne _ _ (Nat.ne_of_lt hN)⟩
  refine EndsOps.plain1 hw (s1 := { s with t := s.t.set s.next (some (.obj (.stringIter t 0))), next := s.next + 1 }) ?_ (noCall_ne hc) hf (h _ (hO.trans hS) hS ⟨Tree.get_set_same _ _ _, Nat.lt_succ_self _⟩ hO.next)
  rw [ho]
  unfold evPlain
  simp only [rangeOp, hu, hx, bnd, newB, ret]
theorem W.nextT {N pos : Nat} {x : Operand} {t : ByteArray} {fr1 : Fr} (hO : Own s0 s) (r : Ob s.t s.next N (.stringIter t pos)) (hN : s0.next ≤ N) (hw : Region.wanted o (yieldedL ops fr.tmps) = true) (ho : o.op = .next x true) (hx : fr.eval x = .pointer (some ⟨N, 0, none⟩)) (hp : pos < t.size)
    (hf : fr.put o.dst (.tuple ⟨[.bool true, .int .i64 ((pos : Nat) : Int), .int .i32 (((Utf8.decode t pos).1 : Nat) : Int)]⟩) = fr1)
    (h : ∀ s1 : St, Own s0 s1 → s1.next = s.next → (∀ M, M ≠ N → s1.t.get M = s.t.get M) → Ob s1.t s1.next N (.stringIter t (pos + (Utf8.decode t pos).2)) → EndsOps T ops os fr1 s1 Q) : EndsOps T ops (o :: os) fr s Q := by
  have hc : noCall o.op = true := by rw [ho]; rfl
  refine EndsOps.plain1 hw (s1 := { s with t := s.t.set N (some (.obj (.stringIter t (pos + (Utf8.decode t pos).2)))), mods := N :: s.mods }) ?_ (noCall_ne hc) hf (h _ (Own.store hO hN r.lt ⟨[N], rfl, fun M hM => by simpa using hM⟩ rfl fun M hM => Tree.get_set_ne _ _ hM) rfl (fun M hM => Tree.get_set_ne _ _ hM) ⟨Tree.get_set_same _ _ _, r.lt⟩)
  rw [ho]
  unfold evPlain
  simp only [nextOp, hx, r.get, if_pos hp, bnd, setB, ret]
  rfl
theorem W.nextF {N pos : Nat} {x : Operand} {t : ByteArray} {fr1 : Fr} (r : Ob s.t s.next N (.stringIter t pos)) (hw : Region.wanted o (yieldedL ops fr.tmps) = true) (ho : o.op = .next x true) (hx : fr.eval x = .pointer (some ⟨N, 0, none⟩)) (hp : ¬ pos < t.size)
    (hf : fr.put o.dst (.tuple ⟨[.bool false]⟩) = fr1) (h : EndsOps T ops os fr1 s Q) : EndsOps T ops (o :: os) fr s Q := by
  have hc : noCall o.op = true := by rw [ho]; rfl
  refine EndsOps.plain1 hw (s1 := s) ?_ (noCall_ne hc) hf h
  rw [ho]
  unfold evPlain
  simp only [nextOp, hx, r.get, if_neg hp]
/-- A call of a function that has caught values. -/
theorem W.callC {f : Operand} {args : Array Operand} {ts : Array TypeId} {g : FuncId} {c : Array Value} {ar : List Value} {X : Value} {fr1 : Fr} (hO : Own s0 s) (hw : Region.wanted o (yieldedL ops fr.tmps) = true) (ho : o.op = .call ⟨.value f, args, ts⟩)
    (hf : fr.eval f = .func (.func g) #[] c) (ha : args.toList.map fr.eval ++ c.toList = ar) (hR : EndsPure T g ar s fun v _ _ => v = X) (hp : fr.put o.dst X = fr1) (h : ∀ s1, Own s0 s1 → Own s s1 → EndsOps T ops os fr1 s1 Q) : EndsOps T ops (o :: os) fr s Q := by
  subst hp
  refine EndsOps.call1 hw ho hf rfl (R := fun v s' => Keep s s' ∧ v = X) ?_ fun v s1 ⟨hk, hv⟩ => by subst hv; exact h s1 (hO.trans hk.own) hk.own
  simp only [List.nil_append, ha]; exact hR
/-- A new slice. -/
theorem rep_len (n : Nat) (l : List Value) : (rep n l).length = n * l.length := by
  induction n with
  | zero => simp [rep]
  | succ n ih => simp only [rep, List.length_append, ih, Nat.succ_mul]; omega
theorem W.makeS {N n k b : Nat} {ty el : TypeId} {x y : Operand} {z : Value} {fr1 : Fr} (hO : Own s0 s) (hN : N = s.next) (hw : Region.wanted o (yieldedL ops fr.tmps) = true) (ho : o.op = .makeSlice ty x y) (hu : T.und ty = some (.slice el)) (hs : T.size el = some k) (hbt : T.bytes el = some b) (hz : T.zero el = some z) (hzk : (cellsOf z).length = k)
    (hx : fr.eval x = .int .i64 (n : Int)) (hy : fr.eval y = .int .i64 (n : Int)) (hn : n ≤ 1000000) (hb : b ≤ 1000) (hf : fr.put o.dst (.slice (some ⟨N, 0, none⟩) n n) = fr1)
    (h : ∀ s1 : St, Own s0 s1 → Own s s1 → (∃ vs, vs.length = n * k ∧ Row s1.t s1.next N vs el 0) → s0.next ≤ N → EndsOps T ops os fr1 s1 Q) : EndsOps T ops (o :: os) fr s Q := by
  subst hN
  have hc : noCall o.op = true := by rw [ho]; rfl
  have hS : Own s { s with t := s.t.set s.next (some (.cells (rep n (cellsOf z)) el 0)), next := s.next + 1 } := ⟨Nat.le_succ _, ⟨[], rfl, fun _ h => by cases h⟩, fun N hN => Tree.get_set_ne _ _ (Nat.ne_of_lt hN)⟩
  refine EndsOps.plain1 hw (v := .slice (some ⟨s.next, 0, none⟩) n n) (s1 := { s with t := s.t.set s.next (some (.cells (rep n (cellsOf z)) el 0)), next := s.next + 1 }) ?_ (noCall_ne hc) hf (h _ (hO.trans hS) hS ⟨_, by rw [rep_len, hzk], Tree.get_set_same _ _ _, Nat.lt_succ_self _⟩ hO.next)
  rw [ho]
  unfold evPlain
  have hzs : zeros T el n = some (rep n (cellsOf z)) := by
    unfold zeros; simp only [hz, hs]; rw [if_pos hzk]
  have hbn : b * n ≤ 1000 * 1000000 := Nat.mul_le_mul hb hn
  simp only [makeSlice, hu, hx, hy, asInt, hbt, Int.toNat_natCast, hzs]
  rw [if_pos ⟨by omega, Int.le_refl _, by omega, by omega⟩]
  simp only [bnd, newB, ret]
theorem putAt_all : ∀ (vs m : List Value), m.length = vs.length → putAt vs 0 m = m
  | [], [], _ => rfl
  | [], _ :: _, h => by cases h
  | _ :: _, [], h => by cases h
  | a :: r, b :: q, h => by simp only [putAt]; rw [putAt_all r q (by simpa using h)]
/-- A whole list is copied into a slice of one's own. -/
theorem W.copyL {α : Type} {c : α → List Value} {k : Nat} {l : List α} {N M p e hi cap : Nat} {a : Option Addr} {vs ws : List Value} {el t1 t2 : TypeId} {x y : Operand} {fr1 : Fr} (hO : Own s0 s) (hN : s0.next ≤ N) (r : Row s.t s.next N ws el 0) (hwl : ws.length = l.length * k) (hk0 : 0 < k) (hc : ∀ y, (c y).length = k) (h1 : ∀ y, ∀ v ∈ c y, oneCell v = true)
    (hX : Sl c k s.t s.next a l M p vs e hi) (hcp : Cp k a l.length cap) (hw : Region.wanted o (yieldedL ops fr.tmps) = true) (ho : o.op = .call ⟨.builtin .copy, #[x, y], #[t1, t2]⟩) (hu : T.und t1 = some (.slice el)) (hs : T.size el = some k) (hx : fr.eval x = .slice (some ⟨N, 0, none⟩) l.length l.length) (hy : fr.eval y = .slice a l.length cap)
    (hf : fr.put o.dst (.int .i64 ((l.length : Nat) : Int)) = fr1)
    (h : ∀ s1 : St, Own s0 s1 → s.next ≤ s1.next → Sl c k s1.t s1.next (some ⟨N, 0, none⟩) l N 0 ((l.map c).flatten) el 0 → EndsOps T ops os fr1 s1 Q) : EndsOps T ops (o :: os) fr s Q := by
  have hc' : noCall o.op = true := by rw [ho]; rfl
  have hfc := firstSl hX hc hcp
  have hmin : Nat.min l.length l.length = l.length := Nat.min_self _
  have e0 : evPlain T fr.eval o.op s = (bnd (storeCells N 0 ((l.map c).flatten)) fun _ => ret (goInt l.length)) s := by
    rw [ho]
    show Ev.copy T [t1, t2] [fr.eval x, fr.eval y] s = _
    rw [hx, hy]
    unfold Ev.copy
    simp only [hu, lenOf, hs, hmin, bnd, hfc]
  by_cases hl : l = []
  · subst hl
    refine EndsOps.plain1 hw (v := goInt 0) (s1 := s) ?_ (noCall_ne hc') hf (h s hO (Nat.le_refl _) ⟨fun h => absurd rfl h, fun h => absurd rfl h, fun i x h => by simp at h, by simp⟩)
    rw [e0]; rfl
  · have hfl := flat_len hc l
    have hall : (l.map c).flatten.all oneCell = true := List.all_eq_true.2 fun w hw => by
      obtain ⟨q, hq, hw⟩ := List.mem_flatten.1 hw
      obtain ⟨y, _, rfl⟩ := List.mem_map.1 hq
      exact h1 y w hw
    have hsc : storeCells N 0 ((l.map c).flatten) s = some ((), { s with t := s.t.set N (some (.cells ((l.map c).flatten) el 0)), mods := N :: s.mods }) := by
      have hpos : 0 < l.length * k := Nat.mul_pos (List.length_pos_iff.2 hl) hk0
      cases hcs : (l.map c).flatten with
      | nil => rw [hcs] at hfl; simp only [List.length_nil] at hfl; omega
      | cons c0 cr =>
        unfold storeCells
        simp only [bnd, rowOf, r.get]
        rw [← hcs, if_pos ⟨by decide, Nat.zero_le _, by omega, hall⟩, putAt_all _ _ (by omega)]
        simp only [setB, r.get]
    refine EndsOps.plain1 hw (v := goInt l.length) (s1 := { s with t := s.t.set N (some (.cells ((l.map c).flatten) el 0)), mods := N :: s.mods }) ?_ (noCall_ne hc') hf (h _ (Own.store hO hN r.lt ⟨[N], rfl, fun M hM => by simpa using hM⟩ rfl fun M hM => Tree.get_set_ne _ _ hM) (Nat.le_refl _) ⟨fun _ => rfl, fun _ => ⟨Tree.get_set_same _ _ _, r.lt⟩, fun i y hy => by rw [Nat.zero_add]; exact flat_slice hc l i y hy, hX.small⟩)
    rw [e0]; simp only [bnd, hsc, ret]
end

theorem p_idxS {T : Tab} {ρ : Operand → Value} {s : St} {ty : TypeId} {x i : Operand} {t : ByteArray} {n : Nat} {b : UInt8} (hu : T.und ty = some .string) (hx : ρ x = .string t) (hi : ρ i = .int .i64 (n : Int)) (he : (B t)[n]? = some b) : evPlain T ρ (.index ty x i) s = some (.int .u8 ((b.toNat : Nat) : Int), s) := by
  unfold evPlain
  have he' : t.data.toList[n]? = some b := he
  simp only [hx, hi, index, hu]
  rw [if_pos (by omega), Int.toNat_natCast, he']; rfl
/-! What the functions compute. -/
structure Fl where
  nm : ByteArray
  tx : ByteArray
abbrev Fl.cells (f : Fl) : List Value := [.string f.nm, .string f.tx]
theorem Fl.one : ∀ y : Fl, ∀ v ∈ y.cells, oneCell v = true := by intro y v hv; simp at hv; rcases hv with rfl | rfl <;> rfl
structure Fl.Ok (f : Fl) : Prop where
  nm : (B f.nm).length ≤ 140737488351232
  tx : (B f.tx).length ≤ 140737488351232
/-- May a rune stand in a file's name? -/
abbrev PlainC (c : Int) : Prop := (97 ≤ c ∧ c ≤ 122) ∨ (65 ≤ c ∧ c ≤ 90) ∨ (48 ≤ c ∧ c ≤ 57) ∨ c = 46 ∨ c = 45 ∨ c = 95
abbrev PlainB (b : UInt8) : Prop := PlainC ((b.toNat : Nat) : Int)
def badS (x : ByteArray) : Int := match (B x).findIdx? (fun b => decide (¬ PlainB b)) with
  | some i => (i : Int)
  | none => -1
theorem badS_at {x : ByteArray} {i : Nat} {b : UInt8} (h : NoB (fun b => ¬ PlainB b) (B x) i) (he : (B x)[i]? = some b) (hp : ¬ PlainB b) : badS x = (i : Int) := by
  unfold badS; rw [h.idx_at he hp]
theorem badS_none {x : ByteArray} {i : Nat} (h : NoB (fun b => ¬ PlainB b) (B x) i) (hi : (B x).length ≤ i) : badS x = -1 := by
  unfold badS; rw [h.idx_none hi]
theorem dec_plain {x : ByteArray} {i : Nat} {b : UInt8} (he : (B x)[i]? = some b) (hc : PlainC (((Utf8.decode x i).1 : Nat) : Int)) : PlainB b ∧ (Utf8.decode x i).2 = 1 := by
  have hi : i < x.size := by
    have := (List.getElem?_eq_some_iff.1 he).1
    exact this
  have hb : x[i]'hi = b := by
    have := (List.getElem?_eq_some_iff.1 he).2
    exact this
  by_cases h : (x[i]'hi).toNat < 128
  · have hd := decode_ascii x i hi h
    rw [hd] at hc ⊢
    rw [hb] at hc
    exact ⟨hc, rfl⟩
  · have := (decode_high x i hi (by omega)).1
    exfalso
    unfold PlainC at hc
    omega
theorem dec_bad {x : ByteArray} {i : Nat} {b : UInt8} (he : (B x)[i]? = some b) (hc : ¬ PlainC (((Utf8.decode x i).1 : Nat) : Int)) : ¬ PlainB b := by
  have hi : i < x.size := (List.getElem?_eq_some_iff.1 he).1
  have hb : x[i]'hi = b := (List.getElem?_eq_some_iff.1 he).2
  intro hp
  have h : (x[i]'hi).toNat < 128 := by
    rw [hb]; unfold PlainB PlainC at hp; omega
  rw [decode_ascii x i hi h, hb] at hc
  exact hc hp
abbrev Titled (x : ByteArray) : Prop := ¬ B x = B ByteArray.empty ∧ (((B x).length : Nat) : Int) ≤ 40 ∧ ¬ 0 ≤ badS x
def placeS (l : List Fl) (x : ByteArray) : Int := match l.findIdx? (fun f => decide (B f.nm = B x)) with
  | some i => (i : Int)
  | none => -1
theorem place_at {l : List Fl} {x : ByteArray} {i : Nat} {f : Fl} (h : NoB (fun f => B f.nm = B x) l i) (he : l[i]? = some f) (hp : B f.nm = B x) : placeS l x = (i : Int) := by
  unfold placeS; rw [h.idx_at (p := fun f : Fl => B f.nm = B x) he hp]
theorem place_none {l : List Fl} {x : ByteArray} {i : Nat} (h : NoB (fun f => B f.nm = B x) l i) (hi : l.length ≤ i) : placeS l x = -1 := by
  unfold placeS; rw [h.idx_none (p := fun f : Fl => B f.nm = B x) hi]
theorem place_le {l : List Fl} {i : Nat} {f : Fl} (he : l[i]? = some f) : placeS l f.nm ≤ i := by
  unfold placeS
  split
  · rename_i j hj
    rw [List.findIdx?_eq_some_iff_getElem] at hj
    obtain ⟨h1, h2, h3⟩ := hj
    rcases Nat.lt_or_ge i j with h | h
    · exfalso
      obtain ⟨hi, rfl⟩ := List.getElem?_eq_some_iff.1 he
      have := h3 i h
      simp at this
    · omega
  · omega
/-- Is a workspace right? -/
def FR (l : List Fl) : Prop := ¬ l.length = 0 ∧ l.length ≤ 8 ∧ ∀ (k : Nat) (f : Fl), l[k]? = some f → Titled f.nm ∧ (((B f.tx).length : Nat) : Int) ≤ 4000 ∧ placeS l f.nm = k
noncomputable instance (l : List Fl) : Decidable (FR l) := Classical.propDecidable _
noncomputable instance (a b : List Fl) : Decidable (a = b) := Classical.propDecidable _
def sumF (l : List Fl) : Nat := (l.map fun f => (B f.nm).length + (B f.tx).length).sum
theorem sumF_step {l : List Fl} {i : Nat} {f : Fl} (he : l[i]? = some f) : sumF (l.take (i + 1)) = sumF (l.take i) + ((B f.nm).length + (B f.tx).length) := by
  unfold sumF; rw [List.take_add_one, he]; simp
theorem sumF_le (l : List Fl) (i : Nat) : sumF (l.take i) ≤ sumF l := by
  unfold sumF
  conv => rhs; rw [← List.take_append_drop i l]
  rw [List.map_append, List.sum_append]; omega
theorem sumF_all (l : List Fl) : sumF (l.take l.length) = sumF l := by rw [List.take_length]
abbrev LargeF (l : List Fl) : Prop := 21 < l.length ∨ 40000 < sumF l
def sizeF (l : List Fl) : Int := (l.map fun f => (((B f.tx).length : Nat) : Int)).sum
theorem sizeF_step {l : List Fl} {i : Nat} {f : Fl} (he : l[i]? = some f) : W (W (sizeF (l.take i)) + (((B f.tx).length : Nat) : Int)) = W (sizeF (l.take (i + 1))) := by
  unfold sizeF
  rw [List.take_add_one, he]
  simp only [List.map_append, List.sum_append, Option.toList_some, List.map_cons, List.map_nil, List.sum_cons, List.sum_nil, Int.add_zero, W_def]
  omega
theorem list_sameF {a b : List Fl} {i : Nat} (hl : a.length = b.length) (h : ∀ k, k < i → a[k]? = b[k]?) (hi : a.length ≤ i) : a = b := by
  refine List.ext_getElem? fun k => ?_
  by_cases hk : k < i
  · exact h k hk
  · rw [List.getElem?_eq_none (by omega), List.getElem?_eq_none (by omega)]
theorem same_stepF {a b : List Fl} {i : Nat} {x y : Fl} (h : ∀ k, k < i → a[k]? = b[k]?) (hx : a[i]? = some x) (hy : b[i]? = some y) (he : B x.nm = B y.nm ∧ B x.tx = B y.tx) : ∀ k, k < i + 1 → a[k]? = b[k]? := fun k hk => by
  by_cases hki : k = i
  · subst hki
    rw [hx, hy]
    obtain ⟨a1, a2⟩ := x
    obtain ⟨b1, b2⟩ := y
    have h1 := B_inj he.1
    have h2 := B_inj he.2
    simp only at h1 h2
    subst h1 h2; rfl
  · exact h k (by omega)
end Go.Ev

/-
  What the rows of the layer files need.
-/
namespace Go.Ev.R1
open Go Go.Ev Go.Proofs Go.Proofs.Ytelpkdjibjddlaa Go.ChangeShapes Go.WideShapes Go.ChangeAt Go.RowKit
set_option maxRecDepth 100000
theorem cells68 : Try.prog.cellsOf 68 = 2 := by kernel_rfl
theorem bytes68 : 0 < Try.prog.bytesOf 68 := of_decide_eq_true (by kernel_rfl)
theorem eltFl {H : Type} {enc : TypeId × Value → H} {w : World} : ∀ cs n x, DataW.trod enc Try.prog w 0 (fun _ => true) true n 68 cs = some x → (∀ m ∈ x.1.weights Try.prog 68, m ≤ reachBytes) → ∃ y : Fl, cs = y.cells ∧ y.Ok := by
  intro cs n x h hz
  obtain ⟨xs, n', rfl, rfl, hcs, hxs, hf⟩ := DataW.trod_struct Try.underlying68 h
  rw [cells68] at hcs
  have g0 := hf 0 _ rfl
  have g1 := hf 1 _ rfl
  match xs, hxs, cs, hcs with
  | [y0, y1], _, [v0, v1], _ =>
    simp [cells9] at g0 g1
    obtain ⟨a, ha, h1, _⟩ := DataW.trod_string Try.underlying9 g0
    obtain ⟨b, hb, h2, _⟩ := DataW.trod_string Try.underlying9 g1
    simp at ha hb
    subst ha hb
    have la : a.data.toList.length ≤ reachBytes := hz _ (by
      unfold DataW.weights
      simp only [Try.underlying68]
      simp [DataW.weightsEach, h1, h2, DataW.weights])
    have lb : b.data.toList.length ≤ reachBytes := hz _ (by
      unfold DataW.weights
      simp only [Try.underlying68]
      simp [DataW.weightsEach, h1, h2, DataW.weights])
    exact ⟨⟨a, b⟩, rfl, la, lb⟩
theorem flatFl (l : List Fl) : ∀ y ∈ l, ∀ v ∈ y.cells, Flat v := fun y _ v hv => by
  simp [Fl.cells] at hv
  rcases hv with rfl | rfl
  · exact .string _
  · exact .string _
end Go.Ev.R1

/-
  EV: several arguments handed in.
-/
namespace Go.Ev
open Go Go.RowKit

/-- The heap of what is handed in: each block is there, and none is written. -/
theorem rel_of {φ : Phi} {w : World} {t : Tree} (C : Code → Prop) (sz : TypeId → Nat) (h : ∀ N b, t.get N = some b → ∃ L, φ N = some L ∧ BRel φ ⟨fun k => k < w.heap.size, C, sz⟩ L b w ∧ ¬ wr b) (hin : ∀ N L, φ N = some L → L.blk < w.heap.size) :
    Rel φ ⟨fun k => k < w.heap.size, C, sz⟩ t.get w := by
  refine ⟨fun _ h => h, fun N b hb => ?_, fun N N' b b' L L' hne hb hb' hL hL' hw => ?_, hin⟩
  · obtain ⟨L, h1, h2, _⟩ := h N b hb
    exact ⟨L, h1, h2⟩
  · obtain ⟨_, _, _, h3⟩ := h N b hb
    exact absurd hw h3
/-- Two slices are handed in. -/
theorem rel_two {α β : Type} {c : α → List Value} {d : β → List Value} {k m : Nat} {w : World} {a a' : Option Addr} {len cap len' cap' : Nat} {l : List α} {l' : List β} (h : Handed c k w a len cap l) (h' : Handed d m w a' len' cap' l')
    (hc : ∀ y, (c y).length = k) (hd : ∀ y, (d y).length = m) (hflat : ∀ y ∈ l, ∀ v ∈ c y, Flat v) (hflat' : ∀ y ∈ l', ∀ v ∈ d y, Flat v) (C : Code → Prop) (sz : TypeId → Nat) :
    Rel (fun N => if N = 0 then argLoc k a l else if N = 1 then argLoc m a' l' else none) ⟨fun k => k < w.heap.size, C, sz⟩ ((Tree.leaf.set 0 (argRow c w a l)).set 1 (argRow d w a' l')).get w := by
  refine rel_of C sz (fun N b hb => ?_) fun N L hL => ?_
  · rw [Tree.get_set] at hb
    by_cases h1 : N = 1
    · subst h1
      rw [if_pos rfl] at hb
      exact h'.brel hd hflat' hb
    · rw [if_neg h1, Tree.get_set] at hb
      by_cases h0 : N = 0
      · subst h0
        rw [if_pos rfl] at hb
        exact h.brel hc hflat hb
      · rw [if_neg h0] at hb; simp [Tree.get] at hb
  · split at hL
    · exact h.inw hL
    · split at hL
      · exact h'.inw hL
      · cases hL
end Go.Ev
