/-
  EV, PART B: what the evaluator's names, values and heap stand for in a world of the model.
-/
import Derived.Test.YtelpkdjibjddlaaEvA
import Derived.Below
set_option linter.unusedSimpArgs false
set_option linter.unusedVariables false
namespace Go.Ev
open Go Go.RowKit

/-! The tree. -/
namespace Tree
theorem get_setF (x : Option Blk) : ∀ (f : Nat) (t : Tree) (k : Nat), k < f → ∀ j, get (setF f t k x) j = if j = k then x else get t j
  | 0, _, _, h, _ => by omega
  | f + 1, leaf, k, h, j => by
    unfold setF
    by_cases h0 : k = 0
    · subst h0
      by_cases hj : j = 0
      · subst hj; simp [get]
      · simp [get, hj]
    · rw [if_neg h0]
      by_cases h1 : k % 2 = 1
      · rw [if_pos h1]
        by_cases hj : j = 0
        · subst hj; simp [get, Ne.symm h0]
        · by_cases hj1 : j % 2 = 1
          · simp only [get, if_neg hj, if_pos hj1]
            rw [get_setF x f leaf (k / 2) (by omega)]
            by_cases e : j = k
            · subst e; simp
            · rw [if_neg (by omega), if_neg e]; simp [get]
          · simp only [get, if_neg hj, if_neg hj1]
            rw [if_neg (by omega)]
      · rw [if_neg h1]
        by_cases hj : j = 0
        · subst hj; simp [get, Ne.symm h0]
        · by_cases hj1 : j % 2 = 1
          · simp only [get, if_neg hj, if_pos hj1]
            rw [if_neg (by omega)]
          · simp only [get, if_neg hj, if_neg hj1]
            rw [get_setF x f leaf (k / 2 - 1) (by omega)]
            by_cases e : j = k
            · subst e; simp
            · rw [if_neg (by omega), if_neg e]; simp [get]
  | f + 1, node v l r, k, h, j => by
    unfold setF
    by_cases h0 : k = 0
    · subst h0
      by_cases hj : j = 0
      · subst hj; simp [get]
      · simp [get, hj]
    · rw [if_neg h0]
      by_cases h1 : k % 2 = 1
      · rw [if_pos h1]
        by_cases hj : j = 0
        · subst hj; simp [get, Ne.symm h0]
        · by_cases hj1 : j % 2 = 1
          · simp only [get, if_neg hj, if_pos hj1]
            rw [get_setF x f l (k / 2) (by omega)]
            by_cases e : j = k
            · subst e; simp
            · rw [if_neg (by omega), if_neg e]
          · simp only [get, if_neg hj, if_neg hj1]
            rw [if_neg (by omega)]
      · rw [if_neg h1]
        by_cases hj : j = 0
        · subst hj; simp [get, Ne.symm h0]
        · by_cases hj1 : j % 2 = 1
          · simp only [get, if_neg hj, if_pos hj1]
            rw [if_neg (by omega)]
          · simp only [get, if_neg hj, if_neg hj1]
            rw [get_setF x f r (k / 2 - 1) (by omega)]
            by_cases e : j = k
            · subst e; simp
            · rw [if_neg (by omega), if_neg e]
theorem get_set (t : Tree) (k j : Nat) (x : Option Blk) : (t.set k x).get j = if j = k then x else t.get j := get_setF x _ _ _ (by omega) _
theorem get_set_same (t : Tree) (k : Nat) (x : Option Blk) : (t.set k x).get k = x := by rw [get_set, if_pos rfl]
theorem get_set_ne (t : Tree) {k j : Nat} (x : Option Blk) (h : j ≠ k) : (t.set k x).get j = t.get j := by rw [get_set, if_neg h]
end Tree

/-! Where a name's block lies. -/

/-- A block of the world, the place in it where the name's row begins, and how many cells from there on are the row's. -/
structure Loc where
  blk : Nat
  off : Nat
  cap : Nat

abbrev Phi := Nat → Option Loc

/-- What a value of the evaluator stands for. -/
inductive VRel (φ : Phi) : Value → Value → Prop
  | bool (b : Bool) : VRel φ (.bool b) (.bool b)
  | int (k : IntKind) (n : Int) : VRel φ (.int k n) (.int k n)
  | string (s : ByteArray) : VRel φ (.string s) (.string s)
  | ptrNil : VRel φ (.pointer none) (.pointer none)
  | ptr {N o : Nat} {L : Loc} (h : φ N = some L) : VRel φ (.pointer (some ⟨N, o, none⟩)) (.pointer (some ⟨L.blk, L.off + o, none⟩))
  | sliceNil (l c : Nat) (h : c < END) : VRel φ (.slice none l c) (.slice none l c)
  | sliceEx {N o : Nat} {L : Loc} (len cap : Nat) (h : φ N = some L) (hc : cap < END) :
      VRel φ (.slice (some ⟨N, o, none⟩) len cap) (.slice (some ⟨L.blk, L.off + o, none⟩) len cap)
  | sliceEnd {N o : Nat} {L : Loc} (len es cap' : Nat) (h : φ N = some L) (hc : o + cap' * es = L.cap) (hl : len ≤ cap') (he : es < END) :
      VRel φ (.slice (some ⟨N, o, none⟩) len (END + es)) (.slice (some ⟨L.blk, L.off + o, none⟩) len cap')
  | sliceGone {a : Addr} (a' : Addr) (cap' : Nat) : VRel φ (.slice (some a) 0 (END + END)) (.slice (some a') 0 cap')
  | mapNil : VRel φ (.map none) (.map none)
  | map {N : Nat} {L : Loc} (h : φ N = some L) : VRel φ (.map (some N)) (.map (some L.blk))
  | func (f : FuncId) (a a' c c' : Array Value) (ha : a.toList.length = a'.toList.length)
      (hav : ∀ (i : Nat) (v v' : Value), a.toList[i]? = some v → a'.toList[i]? = some v' → VRel φ v v') (hc : c.toList.length = c'.toList.length)
      (hcv : ∀ (i : Nat) (v v' : Value), c.toList[i]? = some v → c'.toList[i]? = some v' → VRel φ v v') : VRel φ (.func (.func f) a c) (.func (.func f) a' c')
  | yield {N : Nat} {L : Loc} (h : φ N = some L) : VRel φ (.func (.yield N) #[] #[]) (.func (.yield L.blk) #[] #[])
  | nilFunc : VRel φ .nilFunc .nilFunc
  | nilIface : VRel φ .nilIface .nilIface
  | iface (t : TypeId) {v v' : Value} (h : VRel φ v v') : VRel φ (.iface t v) (.iface t v')
  | agg (a a' : Array Value) (ha : a.toList.length = a'.toList.length)
      (hav : ∀ (i : Nat) (v v' : Value), a.toList[i]? = some v → a'.toList[i]? = some v' → VRel φ v v') : VRel φ (.agg a) (.agg a')
  | tuple (a a' : Array Value) (ha : a.toList.length = a'.toList.length)
      (hav : ∀ (i : Nat) (v v' : Value), a.toList[i]? = some v → a'.toList[i]? = some v' → VRel φ v v') : VRel φ (.tuple a) (.tuple a')

/-- The same of two lists. -/
def LRel (φ : Phi) (l l' : List Value) : Prop := l.length = l'.length ∧ ∀ (i : Nat) (v v' : Value), l[i]? = some v → l'[i]? = some v' → VRel φ v v'

/-- The map of names knows more. -/
def Phi.Le (φ φ' : Phi) : Prop := ∀ N L, φ N = some L → φ' N = some L
theorem Phi.Le.refl (φ : Phi) : φ.Le φ := fun _ _ h => h
theorem Phi.Le.trans {φ φ' φ'' : Phi} (h : φ.Le φ') (h' : φ'.Le φ'') : φ.Le φ'' := fun N L e => h' N L (h N L e)

theorem VRel.mono {φ φ' : Phi} (hle : φ.Le φ') {v v' : Value} (h : VRel φ v v') : VRel φ' v v' := by
  induction h with
  | bool b => exact .bool b
  | int k n => exact .int k n
  | string s => exact .string s
  | ptrNil => exact .ptrNil
  | ptr h => exact .ptr (hle _ _ h)
  | sliceNil l c h => exact .sliceNil l c h
  | sliceEx len cap h hc => exact .sliceEx len cap (hle _ _ h) hc
  | sliceEnd len es cap' h hc hl he => exact .sliceEnd len es cap' (hle _ _ h) hc hl he
  | sliceGone a' cap' => exact .sliceGone a' cap'
  | mapNil => exact .mapNil
  | map h => exact .map (hle _ _ h)
  | func f a a' c c' ha hav hc hcv iha ihc => exact .func f a a' c c' ha iha hc ihc
  | yield h => exact .yield (hle _ _ h)
  | nilFunc => exact .nilFunc
  | nilIface => exact .nilIface
  | iface t h ih => exact .iface t ih
  | agg a a' ha hav ih => exact .agg a a' ha ih
  | tuple a a' ha hav ih => exact .tuple a a' ha ih

theorem LRel.mono {φ φ' : Phi} (hle : φ.Le φ') {l l' : List Value} (h : LRel φ l l') : LRel φ' l l' := ⟨h.1, fun i v v' a b => (h.2 i v v' a b).mono hle⟩
theorem LRel.nil {φ : Phi} : LRel φ [] [] := ⟨rfl, fun i v v' h => by simp at h⟩
theorem LRel.cons {φ : Phi} {v v' : Value} {l l' : List Value} (h : VRel φ v v') (hl : LRel φ l l') : LRel φ (v :: l) (v' :: l') := by
  refine ⟨by simp [hl.1], fun i a b ha hb => ?_⟩
  cases i with
  | zero => simp at ha hb; subst ha; subst hb; exact h
  | succ i => simp at ha hb; exact hl.2 i a b ha hb
theorem LRel.one {φ : Phi} {v v' : Value} (h : VRel φ v v') : LRel φ [v] [v'] := .cons h .nil
theorem LRel.cons_inv {φ : Phi} {v : Value} {l l' : List Value} (h : LRel φ (v :: l) l') : ∃ v' r', l' = v' :: r' ∧ VRel φ v v' ∧ LRel φ l r' := by
  obtain ⟨h1, h2⟩ := h
  cases l' with
  | nil => simp at h1
  | cons v' r' => exact ⟨v', r', rfl, h2 0 v v' rfl rfl, by simpa using h1, fun i a b ha hb => h2 (i + 1) a b (by simpa using ha) (by simpa using hb)⟩
theorem LRel.nil_inv {φ : Phi} {l' : List Value} (h : LRel φ [] l') : l' = [] := by have := h.1; simp at this; exact List.eq_nil_of_length_eq_zero this.symm
theorem LRel.append {φ : Phi} {l l' m m' : List Value} (h : LRel φ l l') (hm : LRel φ m m') : LRel φ (l ++ m) (l' ++ m') := by
  induction l generalizing l' with
  | nil => rw [h.nil_inv]; exact hm
  | cons v l ih =>
    obtain ⟨v', r', rfl, hv, hr⟩ := h.cons_inv
    exact .cons hv (ih hr)
theorem LRel.get {φ : Phi} {l l' : List Value} (h : LRel φ l l') {i : Nat} {v : Value} (hi : l[i]? = some v) : ∃ v', l'[i]? = some v' ∧ VRel φ v v' := by
  have hlt : i < l.length := by
    rcases Nat.lt_or_ge i l.length with h | h
    · exact h
    · simp [List.getElem?_eq_none h] at hi
  have hlt' : i < l'.length := h.1 ▸ hlt
  exact ⟨l'[i], List.getElem?_eq_getElem hlt', h.2 i v _ hi (List.getElem?_eq_getElem hlt')⟩
theorem LRel.take {φ : Phi} {l l' : List Value} (h : LRel φ l l') (n : Nat) : LRel φ (l.take n) (l'.take n) := by
  refine ⟨by simp [h.1], fun i v v' hv hv' => ?_⟩
  rw [List.getElem?_take] at hv hv'
  by_cases hi : i < n
  · rw [if_pos hi] at hv hv'; exact h.2 i v v' hv hv'
  · rw [if_neg hi] at hv; simp at hv
theorem LRel.drop {φ : Phi} {l l' : List Value} (h : LRel φ l l') (n : Nat) : LRel φ (l.drop n) (l'.drop n) := by
  refine ⟨by simp [h.1], fun i v v' hv hv' => ?_⟩
  rw [List.getElem?_drop] at hv hv'
  exact h.2 _ v v' hv hv'
theorem LRel.set {φ : Phi} {l l' : List Value} (h : LRel φ l l') (n : Nat) {v v' : Value} (hv : VRel φ v v') : LRel φ (l.set n v) (l'.set n v') := by
  refine ⟨by simp [h.1], fun i a b ha hb => ?_⟩
  rw [List.getElem?_set] at ha hb
  by_cases hi : n = i
  · subst hi
    rw [if_pos rfl] at ha hb
    by_cases hl : n < l.length
    · have hl' : n < l'.length := h.1 ▸ hl
      rw [if_pos hl] at ha; rw [if_pos hl'] at hb
      simp at ha hb; subst ha; subst hb; exact hv
    · rw [if_neg hl] at ha; simp at ha
  · rw [if_neg hi] at ha hb; exact h.2 i a b ha hb
theorem LRel.replicate {φ : Phi} (n : Nat) {v v' : Value} (hv : VRel φ v v') : LRel φ (List.replicate n v) (List.replicate n v') := by
  refine ⟨by simp, fun i a b ha hb => ?_⟩
  rw [List.getElem?_replicate] at ha hb
  by_cases hi : i < n
  · rw [if_pos hi] at ha hb; simp at ha hb; subst ha; subst hb; exact hv
  · rw [if_neg hi] at ha; simp at ha

theorem VRel.undef {φ : Phi} : VRel φ undef undef := .tuple _ _ rfl fun i v v' h => by simp at h

/-- A value that bears no address. -/
inductive Flat : Value → Prop
  | bool (b : Bool) : Flat (.bool b)
  | int (k : IntKind) (n : Int) : Flat (.int k n)
  | string (s : ByteArray) : Flat (.string s)
  | ptrNil : Flat (.pointer none)
  | sliceNil (l c : Nat) (h : c < END) : Flat (.slice none l c)
  | mapNil : Flat (.map none)
  | nilFunc : Flat .nilFunc
  | nilIface : Flat .nilIface
  | iface (t : TypeId) {v : Value} (h : Flat v) : Flat (.iface t v)
  | agg (a : Array Value) (h : ∀ (i : Nat) (v : Value), a.toList[i]? = some v → Flat v) : Flat (.agg a)
  | tuple (a : Array Value) (h : ∀ (i : Nat) (v : Value), a.toList[i]? = some v → Flat v) : Flat (.tuple a)

theorem Flat.vrel {φ : Phi} {v : Value} (h : Flat v) : VRel φ v v := by
  induction h with
  | bool b => exact .bool b
  | int k n => exact .int k n
  | string s => exact .string s
  | ptrNil => exact .ptrNil
  | sliceNil l c h => exact .sliceNil l c h
  | mapNil => exact .mapNil
  | nilFunc => exact .nilFunc
  | nilIface => exact .nilIface
  | iface t h ih => exact .iface t ih
  | agg a h ih => exact .agg a a rfl fun i v v' hv hv' => by rw [hv] at hv'; cases hv'; exact ih i v hv
  | tuple a h ih => exact .tuple a a rfl fun i v v' hv hv' => by rw [hv] at hv'; cases hv'; exact ih i v hv

/-- The same, as a test (two levels deep: a value, its parts, theirs). -/
def flat0 : Value → Bool
  | .bool _ | .int _ _ | .string _ | .pointer none | .map none | .nilFunc | .nilIface => true
  | .slice none _ c => decide (c < END)
  | _ => false
def flatB : Nat → Value → Bool
  | 0, v => flat0 v
  | n + 1, v => match v with
    | .iface _ v => flatB n v
    | .agg a | .tuple a => a.toList.all (flatB n)
    | v => flat0 v

theorem flat0_flat {v : Value} (h : flat0 v = true) : Flat v := by
  cases v with
  | bool b => exact .bool b
  | int k n => exact .int k n
  | string s => exact .string s
  | pointer a => cases a with
    | none => exact .ptrNil
    | some a => simp [flat0] at h
  | slice a l c => cases a with
    | none => exact .sliceNil l c (by simpa [flat0] using h)
    | some a => simp [flat0] at h
  | map r => cases r with
    | none => exact .mapNil
    | some r => simp [flat0] at h
  | nilFunc => exact .nilFunc
  | nilIface => exact .nilIface
  | _ => simp [flat0] at h

theorem flatB_flat : ∀ {n : Nat} {v : Value}, flatB n v = true → Flat v
  | 0, v, h => flat0_flat h
  | n + 1, v, h => by
    unfold flatB at h
    split at h
    · exact .iface _ (flatB_flat h)
    · refine .agg _ fun i v hv => flatB_flat (n := n) ?_
      exact List.all_eq_true.1 h v (List.mem_of_getElem? hv)
    · refine .tuple _ fun i v hv => flatB_flat (n := n) ?_
      exact List.all_eq_true.1 h v (List.mem_of_getElem? hv)
    · exact flat0_flat h

theorem Flat.lrel {φ : Phi} {l : List Value} (h : ∀ v ∈ l, Flat v) : LRel φ l l :=
  ⟨rfl, fun i v v' hv hv' => by rw [hv] at hv'; cases hv'; exact (h v (List.mem_of_getElem? hv)).vrel⟩

/-! The heap. -/

/-- The blocks that stay as they are, whatever is done; the sizes of types. -/
structure Base where
  keep : Nat → Prop
  code : Code → Prop
  sz : TypeId → Nat

def ORel (C : Code → Prop) (φ : Phi) : Obj → Obj → Prop
  | .map es c, .map es' c' => c = c' ∧ es.toList.length = es'.toList.length ∧ ∀ (i : Nat) (e e' : MapEntry), es.toList[i]? = some e → es'.toList[i]? = some e' → e.born = e'.born ∧ VRel φ e.key e'.key ∧ plainKey e.key = true ∧ VRel φ e.val e'.val
  | .stringIter s p, .stringIter s' p' => s = s' ∧ p = p'
  | .loop r, .loop r' => r.state = r'.state ∧ r.pending = r'.pending ∧ r.fn = r'.fn ∧ LRel φ r.tmps.toList r'.tmps.toList ∧ r.params = r'.params ∧ r.assign = r'.assign ∧ r.body = r'.body ∧ (∃ L, φ r.defers = some L ∧ L.blk = r'.defers) ∧ C r.assign ∧ C r.body
  | .deferred none, .deferred none => True
  | .deferred (some []), .deferred (some []) => True
  | _, _ => False

/-- May a block be written? -/
def wr : Blk → Prop
  | .cells _ _ hi => hi < END
  | .obj _ => True

def BRel (φ : Phi) (B : Base) (L : Loc) (b : Blk) (w : World) : Prop :=
  match b with
  | .cells vs e hi => ∃ c fz, w.heap[L.blk]? = some (.cells c e fz) ∧ vs.length ≤ L.cap ∧ L.off + L.cap ≤ c.size ∧
      (∀ (i : Nat) (v : Value), vs[i]? = some v → ∃ v', c[L.off + i]? = some v' ∧ VRel φ v v') ∧ (hi < END → ¬ B.keep L.blk ∧ (fz.1 = fz.2 ∨ fz.2 ≤ L.off + hi) ∧ L.off % B.sz e = 0)
  | .obj o => ∃ o', w.heap[L.blk]? = some o' ∧ ORel B.code φ o o' ∧ ¬ B.keep L.blk ∧ L.off = 0

structure Rel (φ : Phi) (B : Base) (H : Nat → Option Blk) (w : World) : Prop where
  base : ∀ k, B.keep k → k < w.heap.size
  blk : ∀ N b, H N = some b → ∃ L, φ N = some L ∧ BRel φ B L b w
  apart : ∀ N N' b b' L L', N ≠ N' → H N = some b → H N' = some b' → φ N = some L → φ N' = some L' → wr b → L.blk ≠ L'.blk
  inw : ∀ N L, φ N = some L → L.blk < w.heap.size

/-- What a step leaves of the world: streams; and each block that no writable name of the heap stands for. -/
structure Keeps (φ : Phi) (H : Nat → Option Blk) (w w' : World) : Prop where
  os : w'.os = w.os
  tape : w'.tape = w.tape
  output : w'.output = w.output
  size : w.heap.size ≤ w'.heap.size
  block : ∀ k, k < w.heap.size → w'.heap[k]? = w.heap[k]? ∨ ∃ N b L, H N = some b ∧ wr b ∧ φ N = some L ∧ L.blk = k

/-- The new names of a step: they stand for no block that stays as it is. -/
def Grows (B : Base) (φ φ' : Phi) (a b : Nat) : Prop := φ.Le φ' ∧ (∀ N, φ' N ≠ none → φ N ≠ none ∨ (a ≤ N ∧ N < b)) ∧ ∀ N L, φ' N = some L → φ N = some L ∨ ¬ B.keep L.blk
def Fresh (φ : Phi) (a b : Nat) : Prop := ∀ N, a ≤ N → N < b → φ N = none

theorem Grows.refl {B : Base} (φ : Phi) (a b : Nat) : Grows B φ φ a b := ⟨.refl _, fun _ h => .inl h, fun _ _ h => .inl h⟩
theorem Grows.trans {B : Base} {φ φ' φ'' : Phi} {a b c : Nat} (h : Grows B φ φ' a b) (h' : Grows B φ' φ'' b c) (hab : a ≤ b) (hbc : b ≤ c) : Grows B φ φ'' a c :=
  ⟨h.1.trans h'.1, fun N hN => by
    rcases h'.2.1 N hN with h1 | ⟨h1, h2⟩
    · rcases h.2.1 N h1 with h3 | ⟨h3, h4⟩
      · exact .inl h3
      · exact .inr ⟨h3, by omega⟩
    · exact .inr ⟨by omega, h2⟩, fun N L hN => by
    rcases h'.2.2 N L hN with h1 | h1
    · exact h.2.2 N L h1
    · exact .inr h1⟩
theorem Fresh.sub {φ : Phi} {a b c d : Nat} (h : Fresh φ a d) (hab : a ≤ b) (hcd : c ≤ d) : Fresh φ b c := fun N h1 h2 => h N (by omega) (by omega)
theorem Fresh.grown {B : Base} {φ φ' : Phi} {a b d : Nat} (h : Fresh φ a d) (hg : Grows B φ φ' a b) (hab : a ≤ b) : Fresh φ' b d := fun N h1 h2 => by
  cases e : φ' N with
  | none => rfl
  | some L =>
    rcases hg.2.1 N (by rw [e]; simp) with h3 | ⟨_, h4⟩
    · exact absurd (h N (by omega) h2) h3
    · omega

theorem Rel.sub {φ : Phi} {B : Base} {H H' : Nat → Option Blk} {w : World} (h : Rel φ B H w) (hs : ∀ N b, H' N = some b → H N = some b) : Rel φ B H' w :=
  ⟨h.base, fun N b e => h.blk N b (hs N b e), fun N N' b b' L L' hne e e' l l' hw => h.apart N N' b b' L L' hne (hs _ _ e) (hs _ _ e') l l' hw, h.inw⟩

theorem Rel.newOk {φ : Phi} {B : Base} {H : Nat → Option Blk} {w : World} (h : Rel φ B H w) : ¬ B.keep w.heap.size := fun hk => Nat.lt_irrefl _ (h.base _ hk)

/-- What a step leaves of the world, by the base alone. -/
structure KeepsB (B : Base) (w w' : World) : Prop where
  os : w'.os = w.os
  tape : w'.tape = w.tape
  output : w'.output = w.output
  size : w.heap.size ≤ w'.heap.size
  block : ∀ k, B.keep k → w'.heap[k]? = w.heap[k]?

theorem KeepsB.refl (B : Base) (w : World) : KeepsB B w w := ⟨rfl, rfl, rfl, Nat.le_refl _, fun _ _ => rfl⟩
theorem KeepsB.trans {B : Base} {a b c : World} (h : KeepsB B a b) (k : KeepsB B b c) : KeepsB B a c :=
  ⟨k.os.trans h.os, k.tape.trans h.tape, k.output.trans h.output, Nat.le_trans h.size k.size, fun i hi => (k.block i hi).trans (h.block i hi)⟩

theorem Keeps.weak {φ : Phi} {B : Base} {H : Nat → Option Blk} {w w' : World} (hR : Rel φ B H w) (h : Keeps φ H w w') : KeepsB B w w' :=
  ⟨h.os, h.tape, h.output, h.size, fun k hk => by
    rcases h.block k (hR.base k hk) with e | ⟨N, b, L, h1, h2, h3, rfl⟩
    · exact e
    · exfalso
      obtain ⟨L', hL', r⟩ := hR.blk N b h1
      rw [h3] at hL'; cases hL'
      cases b with
      | cells vs e hi => obtain ⟨_, _, _, _, _, _, k5⟩ := r; exact (k5 h2).1 hk
      | obj o => obtain ⟨_, _, _, k3, _⟩ := r; exact k3 hk⟩

theorem Keeps.refl (φ : Phi) (H : Nat → Option Blk) (w : World) : Keeps φ H w w := ⟨rfl, rfl, rfl, Nat.le_refl _, fun _ _ => .inl rfl⟩

end Go.Ev
