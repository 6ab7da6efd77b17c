/-
  EV: the layer files: rules for texts that are ranged over, copies of lists, functions with what they have caught; what the functions compute, in plain Lean.
-/
import Derived.Test.YtelpkdjibjddlaaEvApply
import Derived.Laws.RangeAny
import Derived.Laws.RangeString
namespace Go.Ev
open Go Go.RowKit
structure Ob (t : Tree) (n N : Nat) (o : Obj) : Prop where
  get : t.get N = some (.obj o)
  lt : N < n
theorem Ob.own {s s' : St} {N : Nat} {o : Obj} (r : Ob s.t s.next N o) (h : Own s s') : Ob s'.t s'.next N o := ⟨(h.old N r.lt).trans r.get,Nat.lt_of_lt_of_le r.lt h.next⟩
section
variable {T : Tab} {fr : Fr} {s s0 : St} {ops : Array Oper} {o : Oper} {os : List Oper} {Q : Fr → St → Prop}
theorem W.callC {f : Operand} {args : Array Operand} {ts : Array TypeId} {g : FuncId} {c : Array Value} {ar : List Value} {X : Value} {fr1 : Fr} (hO : Own s0 s) (hw : Region.wanted o (yieldedL ops fr.tmps) = true) (ho : o.op = .call ⟨.value f,args,ts⟩)
    (hf : fr.eval f = .func (.func g) #[] c) (ha : args.toList.map fr.eval ++ c.toList = ar) (hR : EndsPure T g ar s fun v _ _ => v = X) (hp : fr.put o.dst X = fr1) (h : ∀ s1,Own s0 s1 → Own s s1 → EndsOps T ops os fr1 s1 Q) : EndsOps T ops (o :: os) fr s Q := by
  subst hp
  refine EndsOps.call1 hw ho hf rfl (R := fun v s' => Keep s s' ∧ v = X) ?_ fun v s1 ⟨hk,hv⟩ => by subst hv; exact h s1 (hO.trans hk.own) hk.own
  simp only [List.nil_append,ha]; exact hR
end
structure Fl where
  nm : ByteArray
  tx : ByteArray
abbrev Fl.cells (f : Fl) : List Value := [.string f.nm,.string f.tx]
theorem Fl.one : ∀ y : Fl,∀ v ∈ y.cells,oneCell v = true := by intro y v hv; simp at hv; rcases hv with rfl | rfl <;> rfl
structure Fl.Ok (f : Fl) : Prop where
  nm : (B f.nm).length ≤ 140737488351232
  tx : (B f.tx).length ≤ 140737488351232
abbrev PlainC (c : Int) : Prop := (97 ≤ c ∧ c ≤ 122) ∨ (65 ≤ c ∧ c ≤ 90) ∨ (48 ≤ c ∧ c ≤ 57) ∨ c = 46 ∨ c = 45 ∨ c = 95
abbrev PlainB (b : UInt8) : Prop := PlainC ((b.toNat : Nat) : Int)
def badS (x : ByteArray) : Int := match (B x).findIdx? (fun b => decide (¬ PlainB b)) with
  | some i => (i : Int)
  | none => -1
theorem badS_at {x : ByteArray} {i : Nat} {b : UInt8} (h : NoB (fun b => ¬ PlainB b) (B x) i) (he : (B x)[i]? = some b) (hp : ¬ PlainB b) : badS x = (i : Int) := by
  unfold badS; rw [h.idx_at he hp]
theorem badS_none {x : ByteArray} {i : Nat} (h : NoB (fun b => ¬ PlainB b) (B x) i) (hi : (B x).length ≤ i) : badS x = -1 := by
  unfold badS; rw [h.idx_none hi]
theorem dec_plain {x : ByteArray} {i : Nat} {b : UInt8} (he : (B x)[i]? = some b) (hc : PlainC (((Utf8.decode x i).1 : Nat) : Int)) : PlainB b ∧ (Utf8.decode x i).2 = 1 := by
  have hi : i < x.size := by
    have := (List.getElem?_eq_some_iff.1 he).1
    exact this
  have hb : x[i]'hi = b := by
    have := (List.getElem?_eq_some_iff.1 he).2
    exact this
  by_cases h : (x[i]'hi).toNat < 128
  · have hd := decode_ascii x i hi h
    rw [hd] at hc ⊢
    rw [hb] at hc
    exact ⟨hc,rfl⟩
  · have := (decode_high x i hi (by omega)).1
    exfalso
    unfold PlainC at hc
    omega
theorem dec_bad {x : ByteArray} {i : Nat} {b : UInt8} (he : (B x)[i]? = some b) (hc : ¬ PlainC (((Utf8.decode x i).1 : Nat) : Int)) : ¬ PlainB b := by
  have hi : i < x.size := (List.getElem?_eq_some_iff.1 he).1
  have hb : x[i]'hi = b := (List.getElem?_eq_some_iff.1 he).2
  intro hp
  have h : (x[i]'hi).toNat < 128 := by
    rw [hb]; unfold PlainB PlainC at hp; omega
  rw [decode_ascii x i hi h,hb] at hc
  exact hc hp
abbrev Titled (x : ByteArray) : Prop := ¬ B x = B ByteArray.empty ∧ (((B x).length : Nat) : Int) ≤ 40 ∧ ¬ 0 ≤ badS x
def placeS (l : List Fl) (x : ByteArray) : Int := match l.findIdx? (fun f => decide (B f.nm = B x)) with
  | some i => (i : Int)
  | none => -1
theorem place_at {l : List Fl} {x : ByteArray} {i : Nat} {f : Fl} (h : NoB (fun f => B f.nm = B x) l i) (he : l[i]? = some f) (hp : B f.nm = B x) : placeS l x = (i : Int) := by
  unfold placeS; rw [h.idx_at (p := fun f : Fl => B f.nm = B x) he hp]
theorem place_none {l : List Fl} {x : ByteArray} {i : Nat} (h : NoB (fun f => B f.nm = B x) l i) (hi : l.length ≤ i) : placeS l x = -1 := by
  unfold placeS; rw [h.idx_none (p := fun f : Fl => B f.nm = B x) hi]
def FR (l : List Fl) : Prop := ¬ l.length = 0 ∧ l.length ≤ 8 ∧ ∀ (k : Nat) (f : Fl),l[k]? = some f → Titled f.nm ∧ (((B f.tx).length : Nat) : Int) ≤ 4000 ∧ placeS l f.nm = k
noncomputable instance (l : List Fl) : Decidable (FR l) := Classical.propDecidable _
noncomputable instance (a b : List Fl) : Decidable (a = b) := Classical.propDecidable _
def sumF (l : List Fl) : Nat := (l.map fun f => (B f.nm).length + (B f.tx).length).sum
theorem sumF_step {l : List Fl} {i : Nat} {f : Fl} (he : l[i]? = some f) : sumF (l.take (i + 1)) = sumF (l.take i) + ((B f.nm).length + (B f.tx).length) := by
  unfold sumF; rw [List.take_add_one,he]; simp
theorem sumF_le (l : List Fl) (i : Nat) : sumF (l.take i) ≤ sumF l := by
  unfold sumF
  conv => rhs; rw [← List.take_append_drop i l]
  rw [List.map_append,List.sum_append]; omega
abbrev LargeF (l : List Fl) : Prop := 21 < l.length ∨ 40000 < sumF l
end Go.Ev

