/-
  EV: the rules of a printed walk, fourth part: texts, functions that write what was their caller's, Builders.
-/
import Derived.Test.YtelpkdjibjddlaaEvShift
namespace Go.Ev
open Go Go.RowKit
def sub (x : ByteArray) (l h : Nat) : ByteArray := ⟨⟨((B x).drop l).take (h - l)⟩⟩
theorem B_inj {x y : ByteArray} (h : B x = B y) : x = y := by
  obtain ⟨⟨x⟩⟩ := x
  obtain ⟨⟨y⟩⟩ := y
  have : x = y := h
  rw [this]
section
variable {T : Tab} {ρ : Operand → Value} {s : St}
end
theorem Own.trim {s0 s s1 : St} (h0 : Own s0 s) (h : Own s0 s1) (hx : s.next ≤ s1.next) : Own s0 { s1 with mods := Ev.newMods s s1 ++ s.mods } := by
  obtain ⟨q,h1,h2⟩ := h.mods
  obtain ⟨p,h3,h4⟩ := h0.mods
  refine ⟨h.next,⟨Ev.newMods s s1 ++ p,by simp only [h3,List.append_assoc],fun N hN => ?_⟩,h.old⟩
  rcases List.mem_append.1 hN with hN | hN
  · unfold Ev.newMods at hN
    obtain ⟨hN,_⟩ := List.mem_filter.1 hN
    rw [h1,h3,List.length_append,List.length_append,List.take_append_of_le_length (by omega)] at hN
    exact h2 N (List.mem_of_mem_take hN)
  · have := h4 N hN; simp only; omega
def EndsOn (T : Tab) (f : FuncId) (args : List Value) (s0 s : St) (R : Value → Tree → Nat → Prop) : Prop := EndsCall T f args s fun v s' => Own s0 s' ∧ s.next ≤ s'.next ∧ R v s'.t s'.next
def FinOn (s0 s : St) (rs : List Tmp) (R : Value → Tree → Nat → Prop) (e : Ex) (fr : Fr) (s1 : St) : Prop := isExit e = false ∧ fr.defers = [] ∧ (Own s0 s1 ∧ s.next ≤ s1.next) ∧ R (valOf (rs.map (fr.tmps.getD · undef))) s1.t s1.next
section
variable {T : Tab} {fr : Fr} {s s0 : St} {ops : Array Oper} {o : Oper} {os : List Oper} {Q : Fr → St → Prop}
theorem EndsOn.of {f : FuncId} {n : Nat} {body : Code} {rs : List Tmp} {args : List Value} {fr0 : Fr} {R : Value → Tree → Nat → Prop} (hF : T.fn f = some ⟨n,body,rs.map ResultVar.tmp⟩) (h0 : (⟨args ++ List.replicate (n - args.length) undef,[]⟩ : Fr) = fr0) (hO : Own s0 s)
    (h : Ends T ⟨f,none⟩ body fr0 s (FinOn s0 s rs R)) : EndsOn T f args s0 s R :=
  EndsCall.of1 hF h0 (h.mono fun e fr s1 ⟨h1,h2,h3,h4⟩ => ⟨h1,h2,hO.trim h3.1 h3.2,h3.2,h4⟩)
theorem EndsOn.mono {f : FuncId} {args : List Value} {R R' : Value → Tree → Nat → Prop} (h : EndsOn T f args s0 s R) (hr : ∀ v t n,R v t n → R' v t n) : EndsOn T f args s0 s R' := EndsCall.mono h fun _ _ ⟨h1,h2,h3⟩ => ⟨h1,h2,hr _ _ _ h3⟩
end
def byteCell (b : UInt8) : List Value := [.int .u8 b.toNat]
def Oth (X : TypeId → Bool) (s s' : St) : Prop := ∀ M vs e hi,Row s.t s.next M vs e hi → X e = false → Row s'.t s'.next M vs e hi
theorem Oth.refl (X : TypeId → Bool) (s : St) : Oth X s s := fun _ _ _ _ h _ => h
theorem Oth.trans {X : TypeId → Bool} {a b c : St} (h : Oth X a b) (k : Oth X b c) : Oth X a c := fun M vs e hi r hx => k M vs e hi (h M vs e hi r hx) hx
theorem Oth.own {X : TypeId → Bool} {a b c : St} (h : Oth X a b) (k : Own b c) : Oth X a c := fun M vs e hi r hx => (h M vs e hi r hx).own k
theorem Row.ne {t : Tree} {n N M e e' hi hi' : Nat} {vs vs' : List Value} (r : Row t n N vs e hi) (r' : Row t n M vs' e' hi') (h : e ≠ e') : N ≠ M := by
  intro hN; subst hN; have := r.get.symm.trans r'.get; cases this; exact h rfl
theorem Oth.upd {X : TypeId → Bool} {a b c : St} {N e hi : Nat} {vs : List Value} (h : Oth X a b) (r : Row b.t b.next N vs e hi) (hX : X e = true) (hn : c.next = b.next) (hu : ∀ M,M ≠ N → c.t.get M = b.t.get M) : Oth X a c := fun M vs' e' hi' r' hx => by
  have h1 := h M vs' e' hi' r' hx
  exact h1.upd hn hu (h1.ne r (fun he => by subst he; rw [hX] at hx; cases hx))
section
variable {T : Tab} {fr : Fr} {s s0 : St} {ops : Array Oper} {o : Oper} {os : List Oper} {Q : Fr → St → Prop}
end
def Bd (bT uT lo : Nat) (t : Tree) (n : Nat) (N : Nat) (x : List UInt8) : Prop :=
  lo ≤ N ∧ ∃ p v,Row t n N [p,v] bT 0 ∧ (p = .pointer none ∨ p = .pointer (some ⟨N,0,none⟩)) ∧ OL byteCell 1 uT lo t n v x ∧ (x = [] → v = .slice none 0 0)
theorem Oth.weak {X Y : TypeId → Bool} {s s' : St} (h : Oth X s s') (hw : ∀ e,Y e = false → X e = false) : Oth Y s s' := fun M vs e hi r hx => h M vs e hi r (hw e hx)
section
variable {T : Tab} {fr : Fr} {s : St} {ops : Array Oper} {bef : List Nat} {i : Nat} {o : Oper} {os : List Oper} {ds : List (Nat × Did)} {Q : Fr → St → Prop}
end
end Go.Ev

