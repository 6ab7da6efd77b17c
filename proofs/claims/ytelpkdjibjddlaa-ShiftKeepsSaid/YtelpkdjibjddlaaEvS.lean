/-
  EV, PART S: what a region that draws its order has done, operation by operation, in the order of the text.
-/
import Derived.Test.YtelpkdjibjddlaaEvR
set_option linter.unusedSimpArgs false
set_option linter.unusedVariables false
namespace Go.Ev
open Go Go.RowKit

theorem takeOut_get : ∀ (n a : Nat) (t : Tree) (N : Nat), (takeOut n a t).get N = if a ≤ N ∧ N < a + n then none else t.get N
  | 0, a, t, N => by simp only [takeOut]; rw [if_neg (by omega)]
  | n + 1, a, t, N => by
    simp only [takeOut]
    rw [Tree.get_set]
    by_cases e : N = a
    · subst e; rw [if_pos rfl, if_pos (by omega)]
    · rw [if_neg e, takeOut_get n (a + 1) t N]
      by_cases h : a + 1 ≤ N ∧ N < a + 1 + n
      · rw [if_pos h, if_pos (by omega)]
      · rw [if_neg h, if_neg (by omega)]

theorem takeOutAll_get : ∀ (l : List (Nat × Nat)) (t : Tree) (N : Nat), ((takeOutAll l t).get N = none ∨ (takeOutAll l t).get N = t.get N) ∧ (∀ p ∈ l, p.1 ≤ N → N < p.2 → (takeOutAll l t).get N = none)
  | [], t, N => ⟨.inr rfl, fun p hp => by cases hp⟩
  | (a, b) :: r, t, N => by
    obtain ⟨h1, h2⟩ := takeOutAll_get r (takeOut (b - a) a t) N
    simp only [takeOutAll]
    have e := takeOut_get (b - a) a t N
    constructor
    · rcases h1 with h1 | h1
      · exact .inl h1
      · by_cases h : a ≤ N ∧ N < a + (b - a)
        · rw [if_pos h] at e; rw [h1, e]; exact .inl rfl
        · rw [if_neg h] at e; rw [h1, e]; exact .inr rfl
    · intro p hp h3 h4
      rcases List.mem_cons.1 hp with rfl | hp
      · rcases h1 with h1 | h1
        · exact h1
        · rw [h1, e, if_pos (by simp only at h3 h4; omega)]
      · exact h2 p hp h3 h4

theorem giveRange_get : ∀ (n a : Nat) (t' t : Tree) (N : Nat), (giveRange n a t' t).get N = if a ≤ N ∧ N < a + n then t'.get N else t.get N
  | 0, a, t', t, N => by simp only [giveRange]; rw [if_neg (by omega)]
  | n + 1, a, t', t, N => by
    simp only [giveRange]
    rw [giveRange_get n (a + 1)]
    by_cases h : a + 1 ≤ N ∧ N < a + 1 + n
    · rw [if_pos h, if_pos (by omega)]
    · rw [if_neg h, Tree.get_set]
      by_cases e : N = a
      · subst e; rw [if_pos rfl, if_pos (by omega)]
      · rw [if_neg e, if_neg (by omega)]

theorem giveBack_get : ∀ (l : List Nat) (t' t : Tree) (N : Nat), (giveBack l t' t).get N = if N ∈ l then t'.get N else t.get N
  | [], t', t, N => by simp [giveBack]
  | M :: r, t', t, N => by
    simp only [giveBack]
    rw [giveBack_get r t']
    by_cases h : N ∈ r
    · rw [if_pos h, if_pos (List.mem_cons_of_mem _ h)]
    · rw [if_neg h, Tree.get_set]
      by_cases e : N = M
      · subst e; rw [if_pos rfl, if_pos (by simp)]
      · rw [if_neg e, if_neg (by simp [e, h])]

theorem hiddenOf_mem : ∀ (bits : Nat) (ds : List (Nat × Did)) (p : Nat × Did), p ∈ ds → bits.testBit p.1 = false → p.2.lo ≠ p.2.hi → (p.2.lo, p.2.hi) ∈ hiddenOf bits ds
  | bits, [], p, hp, _, _ => by cases hp
  | bits, (j, d) :: ds, p, hp, hb, hl => by
    unfold hiddenOf
    rcases List.mem_cons.1 hp with rfl | hp
    · rw [if_neg (by simp [hb, hl])]
      exact List.mem_cons_self ..
    · split
      · exact hiddenOf_mem bits ds p hp hb hl
      · exact List.mem_cons_of_mem _ (hiddenOf_mem bits ds p hp hb hl)

/-- What an operation has written or laid. -/
def Did.touch (d : Did) (N : Nat) : Bool := d.mods.contains N || (decide (d.lo ≤ N) && decide (N < d.hi))

theorem Did.touch_iff {d : Did} {N : Nat} : d.touch N = true ↔ N ∈ d.mods ∨ (d.lo ≤ N ∧ N < d.hi) := by simp [Did.touch]

/-- What an operation is shown, by its kind; what it wrote was there. -/
structure Shown (d : Did) (V : Nat → Option Blk) : Prop where
  none : d.kind ≤ 1 → ∀ N, V N = none
  one : d.kind = 2 → ∀ N, V N ≠ Option.none → N = d.blk
  kind : d.kind ≤ 1 ∨ d.kind = 2 ∨ d.kind = 3
  mods : ∀ N ∈ d.mods, N < d.lo ∧ V N ≠ Option.none ∧ d.kind = 3
  le : d.lo ≤ d.hi

/-- Of an earlier operation and one that isn't ordered after it. -/
def PairD (e d : Did) (V : Nat → Option Blk) : Prop := okPair e d = true ∧ ∀ N, e.lo ≤ N → N < e.hi → V N = none

theorem okOne_spec {a b : Did} (h : okOne a b = true) {N : Nat} (hN : N ∈ a.mods) : b.kind ≤ 1 ∨ (b.kind = 2 ∧ b.blk ∉ a.mods) := by
  unfold okOne at h
  have hne : a.mods.isEmpty = false := by cases hm : a.mods with
    | nil => rw [hm] at hN; cases hN
    | cons x y => rfl
  simp [hne] at h
  exact h

theorem PairD.apart {e d : Did} {U V : Nat → Option Blk} (h : PairD e d V) (he : Shown e U) (hd : Shown d V) (hle : e.hi ≤ d.lo) (hU : ∀ N, d.lo ≤ N → N < d.hi → U N = none) (N : Nat) :
    (e.touch N = true → V N = none) ∧ (d.touch N = true → U N = none) ∧ (e.touch N = true → d.touch N = false) := by
  obtain ⟨h1, h2⟩ := h
  unfold okPair at h1
  rw [Bool.and_eq_true] at h1
  refine ⟨fun ht => ?_, fun ht => ?_, fun ht => ?_⟩
  · rcases Did.touch_iff.1 ht with hm | ⟨k1, k2⟩
    · rcases okOne_spec h1.1 hm with k | ⟨k, k'⟩
      · exact hd.none k N
      · cases hv : V N with
        | none => rfl
        | some x => exact absurd (hd.one k N (by rw [hv]; simp) ▸ hm) k'
    · exact h2 N k1 k2
  · rcases Did.touch_iff.1 ht with hm | ⟨k1, k2⟩
    · rcases okOne_spec h1.2 hm with k | ⟨k, k'⟩
      · exact he.none k N
      · cases hv : U N with
        | none => rfl
        | some x => exact absurd (he.one k N (by rw [hv]; simp) ▸ hm) k'
    · exact hU N k1 k2
  · cases hx : d.touch N with
    | false => rfl
    | true =>
      exfalso
      rcases Did.touch_iff.1 ht with hm | ⟨k1, k2⟩ <;> rcases Did.touch_iff.1 hx with hm' | ⟨k1', k2'⟩
      · have a3 := (hd.mods N hm').2.2
        rcases okOne_spec h1.1 hm with k | ⟨k, _⟩ <;> omega
      · have := (he.mods N hm).1; have := he.le; omega
      · exact (hd.mods N hm').2.1 (h2 N k1 k2)
      · omega

section
variable {T : Tab}

/-- One operation: what it is shown, what it leaves. -/
structure One (T : Tab) (rec : RunCode) (bits : Nat) (ds : List (Nat × Did)) (fr : Fr) (o : Oper) (s : St) (v : Value) (d : Did) (s' a b : St) : Prop where
  run : evOp T rec fr o a = some (v, b)
  anext : a.next = s.next
  bnext : b.next = s'.next
  lo : d.lo = s.next
  hi : d.hi = s'.next
  heap : ∀ N, s'.t.get N = if d.touch N = true then b.t.get N else s.t.get N
  view : ∀ N x, a.t.get N = some x → s.t.get N = some x
  off : ∀ N, d.touch N = false → b.t.get N = a.t.get N
  shown : Shown d a.t.get
  pairs : ∀ p ∈ ds, bits.testBit p.1 = false → PairD p.2 d a.t.get

theorem Tree.get_leaf (N : Nat) : Tree.leaf.get N = none := by simp [Tree.get]; try rfl

theorem drawOne_some {rec : RunCode} (hLg : ∀ cx c fr, Logs (rec cx c fr)) {bits : Nat} {ds : List (Nat × Did)} {fr : Fr} {o : Oper} {s s' : St} {v : Value} {d : Did} (h : drawOne T rec bits ds fr o s = some ((v, d), s')) :
    ∃ a b, One T rec bits ds fr o s v d s' a b := by
  unfold drawOne at h
  split at h
  · cases h
  · rename_i v1 s1 hrun
    split at h
    · rename_i hok
      simp only [Option.some.injEq, Prod.mk.injEq] at h
      obtain ⟨⟨rfl, rfl⟩, rfl⟩ := h
      generalize ha : viewOf (kindOf o) (blkOf fr o) (hiddenOf bits ds) s.t = av at hrun hok
      obtain ⟨g1, l, g2, g3⟩ := Logs.evOp hLg fr o _ _ _ hrun
      simp only [List.append_nil] at g1 g2 g3
      unfold drawOk at hok
      simp only [Bool.and_eq_true] at hok
      obtain ⟨⟨⟨k1, k2⟩, k3⟩, k4⟩ := hok
      have hle : s.next ≤ s1.next := g1
      have hkind : kindOf o ≤ 1 ∨ kindOf o = 2 ∨ kindOf o = 3 := by unfold kindOf; split <;> simp
      have hview : ∀ N x, av.get N = some x → s.t.get N = some x := fun N x hx => by
        rw [← ha] at hx
        unfold viewOf at hx
        split at hx
        · rcases (takeOutAll_get (hiddenOf bits ds) s.t N).1 with e | e
          · rw [e] at hx; cases hx
          · rw [← e]; exact hx
        · split at hx
          · rw [Tree.get_set] at hx
            by_cases e : N = blkOf fr o
            · rw [if_pos e] at hx; rw [e]; exact hx
            · rw [if_neg e, Tree.get_leaf] at hx; cases hx
          · rw [Tree.get_leaf] at hx; cases hx
      refine ⟨⟨av, s.next, []⟩, s1, ⟨hrun, rfl, rfl, rfl, rfl, fun N => ?_, hview, fun N hN => ?_, ⟨fun hk N => ?_, fun hk N hN => ?_, hkind, fun N hN => ?_, hle⟩, fun p hp hb => ⟨?_, fun N h1 h2 => ?_⟩⟩⟩
      · simp only
        rw [giveBack_get, giveRange_get]
        by_cases ht : N ∈ outer s.next s1
        · rw [if_pos ht, if_pos (Did.touch_iff.2 (.inl ht))]
        · rw [if_neg ht]
          by_cases hr : s.next ≤ N ∧ N < s.next + (s1.next - s.next)
          · rw [if_pos hr, if_pos (Did.touch_iff.2 (.inr ⟨hr.1, by simp only; omega⟩))]
          · rw [if_neg hr, if_neg fun hx => (Did.touch_iff.1 hx).elim ht fun hy => hr ⟨hy.1, by have := hy.2; simp only at this; omega⟩]
      · by_cases e : s1.t.get N = av.get N
        · exact e
        · exfalso
          have hx : ∀ {p : Prop}, p → (⟨kindOf o, blkOf fr o, s.next, s1.next, outer s.next s1⟩ : Did).touch N = true → False := fun _ ht => by rw [ht] at hN; cases hN
          by_cases hr : s.next ≤ N ∧ N < s1.next
          · exact hx trivial (Did.touch_iff.2 (.inr hr))
          · rcases g3 N e with hm | hm
            · refine hx trivial (Did.touch_iff.2 (.inl ?_))
              simp only [outer, List.mem_filter, Bool.or_eq_true, decide_eq_true_eq]
              exact ⟨by rw [g2]; exact hm, by omega⟩
            · exact hr hm
      · simp only at hk
        simp only [← ha]
        unfold viewOf
        rw [if_neg (by simp; omega), if_neg (by simp; omega), Tree.get_leaf]
      · simp only at hk hN ⊢
        rw [← ha] at hN
        unfold viewOf at hN
        rw [if_neg (by simp; omega), if_pos (by simp; omega), Tree.get_set] at hN
        by_cases e : N = blkOf fr o
        · exact e
        · rw [if_neg e, Tree.get_leaf] at hN; exact absurd rfl hN
      · simp only at hN k1 k2 ⊢
        have := List.all_eq_true.1 k2 N hN
        simp only [Bool.and_eq_true, decide_eq_true_eq] at this
        refine ⟨this.1, fun e => by rw [e] at this; simp at this, ?_⟩
        rw [Bool.or_eq_true] at k1
        rcases k1 with k | k
        · simpa using k
        · cases hm : outer s.next s1 with
          | nil => rw [hm] at hN; cases hN
          | cons x y => rw [hm] at k; cases k
      · have := List.all_eq_true.1 k4 p hp
        rw [hb, Bool.false_or] at this
        exact this
      · simp only
        by_cases e : p.2.lo = p.2.hi
        · omega
        · have hm := hiddenOf_mem bits ds p hp hb e
          rw [← ha]
          unfold viewOf
          split
          · exact (takeOutAll_get (hiddenOf bits ds) s.t N).2 _ hm h1 h2
          · rename_i hk3
            split
            · rename_i hk2
              rw [Tree.get_set, if_neg, Tree.get_leaf]
              intro e2
              simp only [bne, hk2, Bool.not_true, Bool.false_or] at k3
              have := List.all_eq_true.1 k3 _ hm
              simp only [Bool.or_eq_true, decide_eq_true_eq] at this
              omega
            · exact Tree.get_leaf N
    · cases h

/-- What one operation of the region has done. -/
structure Tr where
  ran : Bool
  fr : Fr
  v : Value
  st : St
  a : St
  b : St
  did : Did

def Tr.touch (x : Tr) (N : Nat) : Bool := x.ran && x.did.touch N

/-- The record of the operation at 'j', and where the next one begins. -/
structure Good (T : Tab) (rec : RunCode) (ops : Array Oper) (X : Nat → Tr) (j : Nat) (o : Oper) : Prop where
  at_ : ops[j]? = some o
  ran : (X j).ran = Region.wanted o (yieldedL ops (X j).fr.tmps)
  fr : (X (j + 1)).fr = (X j).fr.put o.dst (X j).v
  skip : (X j).ran = false → (X j).v = undef ∧ (X (j + 1)).st = (X j).st
  one : (X j).ran = true → One T rec 0 [] (X j).fr o (X j).st (X j).v (X j).did (X (j + 1)).st (X j).a (X j).b

theorem One.weak {rec : RunCode} {bits : Nat} {ds : List (Nat × Did)} {fr : Fr} {o : Oper} {s s' a b : St} {v : Value} {d : Did} (h : One T rec bits ds fr o s v d s' a b) : One T rec 0 [] fr o s v d s' a b :=
  ⟨h.run, h.anext, h.bnext, h.lo, h.hi, h.heap, h.view, h.off, h.shown, fun p hp => by cases hp⟩

theorem evDraw_trace {rec : RunCode} (hLg : ∀ cx c fr, Logs (rec cx c fr)) {ops : Array Oper} {bef : List Nat} : ∀ (os : List Oper) (i : Nat) (ds : List (Nat × Did)) (fr fr' : Fr) (s s' : St), os = ops.toList.drop i → i ≤ ops.size →
    evDraw T rec ops bef i os ds fr s = some (fr', s') →
    ∃ X : Nat → Tr, (X i).fr = fr ∧ (X i).st = s ∧ (X ops.size).fr = fr' ∧ (X ops.size).st = s' ∧ (∀ j, i ≤ j → j < ops.size → ∃ o, Good T rec ops X j o) ∧
      (∀ j, i ≤ j → j < ops.size → (X j).ran = true → ∀ p ∈ ds, (bef.getD j 0).testBit p.1 = false → PairD p.2 (X j).did (X j).a.t.get) ∧
      (∀ k j, i ≤ k → k < j → j < ops.size → (X k).ran = true → (X j).ran = true → (bef.getD j 0).testBit k = false → PairD (X k).did (X j).did (X j).a.t.get)
  | [], i, ds, fr, fr', s, s', hos, hi, h => by
    obtain ⟨rfl, rfl⟩ := ret_some h
    have : ops.size ≤ i := by have := congrArg List.length hos; simp at this; omega
    have e : ops.size = i := by omega
    exact ⟨fun _ => ⟨false, fr', undef, s', s', s', ⟨0, 0, 0, 0, []⟩⟩, rfl, rfl, rfl, rfl, fun j h1 h2 => by omega, fun j h1 h2 => by omega, fun k j h1 h2 h3 => by omega⟩
  | o :: os, i, ds, fr, fr', s, s', hos, hi, h => by
    have hlt : i < ops.toList.length := by
      rcases Nat.lt_or_ge i ops.toList.length with h1 | h1
      · exact h1
      · rw [List.drop_eq_nil_of_le h1] at hos; cases hos
    have hlt' : i < ops.size := by simpa using hlt
    rw [List.drop_eq_getElem_cons hlt, List.cons.injEq] at hos
    have ho : ops[i]? = some o := by rw [← Array.getElem?_toList, hos.1]; exact List.getElem?_eq_getElem hlt
    unfold evDraw at h
    split at h
    · rename_i hw
      obtain ⟨⟨v, d⟩, s1, h1, h2⟩ := bnd_some h
      obtain ⟨a, b, hone⟩ := drawOne_some hLg h1
      obtain ⟨X, x1, x2, x3, x4, x5, x6, x7⟩ := evDraw_trace hLg os (i + 1) ((i, d) :: ds) (fr.put o.dst v) fr' s1 s' hos.2 (by omega) h2
      refine ⟨fun n => if n = i then ⟨true, fr, v, s, a, b, d⟩ else X n, by simp, by simp, by simpa [show ¬ ops.size = i by omega] using x3, by simpa [show ¬ ops.size = i by omega] using x4, fun j k1 k2 => ?_, fun j k1 k2 hr p hp hb => ?_, fun k j k1 k2 k3 hr hr' hb => ?_⟩
      · by_cases e : j = i
        · subst e
          refine ⟨o, ho, by simp [hw], by simp [x1], by simp, fun _ => ?_⟩
          simp only [if_true, if_neg (show ¬ j + 1 = j by omega), x2]
          exact hone.weak
        · obtain ⟨o', g⟩ := x5 j (by omega) k2
          refine ⟨o', g.at_, ?_, ?_, ?_, ?_⟩ <;> simp only [if_neg e, if_neg (show ¬ j + 1 = i by omega)]
          · exact g.ran
          · exact g.fr
          · exact g.skip
          · exact g.one
      · by_cases e : j = i
        · subst e; simp only [if_true]; exact hone.pairs p hp hb
        · simp only [if_neg e] at hr ⊢; exact x6 j (by omega) k2 hr p (List.mem_cons_of_mem _ hp) hb
      · simp only [if_neg (show ¬ j = i by omega)] at hr' ⊢
        by_cases e : k = i
        · subst e; simp only [if_true]; exact x6 j (by omega) k3 hr' (k, d) (List.mem_cons_self ..) hb
        · simp only [if_neg e] at hr ⊢; exact x7 k j (by omega) k2 k3 hr hr' hb
    · rename_i hw
      obtain ⟨X, x1, x2, x3, x4, x5, x6, x7⟩ := evDraw_trace hLg os (i + 1) ds (fr.put o.dst undef) fr' s s' hos.2 (by omega) h
      refine ⟨fun n => if n = i then ⟨false, fr, undef, s, s, s, ⟨0, 0, 0, 0, []⟩⟩ else X n, by simp, by simp, by simpa [show ¬ ops.size = i by omega] using x3, by simpa [show ¬ ops.size = i by omega] using x4, fun j k1 k2 => ?_, fun j k1 k2 hr p hp hb => ?_, fun k j k1 k2 k3 hr hr' hb => ?_⟩
      · by_cases e : j = i
        · subst e
          refine ⟨o, ho, by simp; simpa using hw, by simp [x1], fun _ => ⟨by simp, by simp [x2]⟩, fun hh => by simp at hh⟩
        · obtain ⟨o', g⟩ := x5 j (by omega) k2
          refine ⟨o', g.at_, ?_, ?_, ?_, ?_⟩ <;> simp only [if_neg e, if_neg (show ¬ j + 1 = i by omega)]
          · exact g.ran
          · exact g.fr
          · exact g.skip
          · exact g.one
      · by_cases e : j = i
        · subst e; simp at hr
        · simp only [if_neg e] at hr ⊢; exact x6 j (by omega) k2 hr p hp hb
      · simp only [if_neg (show ¬ j = i by omega)] at hr' ⊢
        by_cases e : k = i
        · subst e; simp at hr
        · simp only [if_neg e] at hr ⊢; exact x7 k j (by omega) k2 k3 hr hr' hb

end
end Go.Ev
