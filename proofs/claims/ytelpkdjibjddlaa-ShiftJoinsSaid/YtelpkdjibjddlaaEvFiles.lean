/-
  EV: the layer files: rules for texts that are ranged over, copies of lists, functions with what they have caught; what the functions compute, in plain Lean.
-/
import Derived.Test.YtelpkdjibjddlaaEvApply
import Derived.Laws.RangeAny
import Derived.Laws.RangeString
namespace Go.Ev
open Go Go.RowKit
structure Ob (t : Tree) (n N : Nat) (o : Obj) : Prop where
  get : t.get N = some (.obj o)
  lt : N < n
theorem Ob.own {s s' : St} {N : Nat} {o : Obj} (r : Ob s.t s.next N o) (h : Own s s') : Ob s'.t s'.next N o := ⟨(h.old N r.lt).trans r.get,Nat.lt_of_lt_of_le r.lt h.next⟩
section
variable {T : Tab} {fr : Fr} {s s0 : St} {ops : Array Oper} {o : Oper} {os : List Oper} {Q : Fr → St → Prop}
end
structure Fl where
  nm : ByteArray
  tx : ByteArray
abbrev Fl.cells (f : Fl) : List Value := [.string f.nm,.string f.tx]
theorem Fl.one : ∀ y : Fl,∀ v ∈ y.cells,oneCell v = true := by intro y v hv; simp at hv; rcases hv with rfl | rfl <;> rfl
structure Fl.Ok (f : Fl) : Prop where
  nm : (B f.nm).length ≤ 140737488351232
  tx : (B f.tx).length ≤ 140737488351232
abbrev PlainC (c : Int) : Prop := (97 ≤ c ∧ c ≤ 122) ∨ (65 ≤ c ∧ c ≤ 90) ∨ (48 ≤ c ∧ c ≤ 57) ∨ c = 46 ∨ c = 45 ∨ c = 95
abbrev PlainB (b : UInt8) : Prop := PlainC ((b.toNat : Nat) : Int)
def badS (x : ByteArray) : Int := match (B x).findIdx? (fun b => decide (¬ PlainB b)) with
  | some i => (i : Int)
  | none => -1
abbrev Titled (x : ByteArray) : Prop := ¬ B x = B ByteArray.empty ∧ (((B x).length : Nat) : Int) ≤ 40 ∧ ¬ 0 ≤ badS x
def placeS (l : List Fl) (x : ByteArray) : Int := match l.findIdx? (fun f => decide (B f.nm = B x)) with
  | some i => (i : Int)
  | none => -1
def FR (l : List Fl) : Prop := ¬ l.length = 0 ∧ l.length ≤ 8 ∧ ∀ (k : Nat) (f : Fl),l[k]? = some f → Titled f.nm ∧ (((B f.tx).length : Nat) : Int) ≤ 4000 ∧ placeS l f.nm = k
noncomputable instance (l : List Fl) : Decidable (FR l) := Classical.propDecidable _
noncomputable instance (a b : List Fl) : Decidable (a = b) := Classical.propDecidable _
end Go.Ev

