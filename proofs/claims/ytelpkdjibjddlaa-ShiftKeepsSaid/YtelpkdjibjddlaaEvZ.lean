/-
  EV, PART Z: the tables of a program, and what the kernel checks of them.
-/
import Derived.Test.YtelpkdjibjddlaaEvY
import GoSem.Extern.Table
import Derived.KernelRfl
set_option linter.unusedSimpArgs false
set_option linter.unusedVariables false
namespace Go.Ev
open Go Go.RowKit

/-- Which functions, which bodiless ones, which types' zeros, which types' comparison: as bits. -/
structure Masks where
  fns : Nat
  exts : Nat
  zeros : Nat
  eqs : Nat

def sameOne : List Value → Option Value
  | [v] => some v
  | _ => none

def Tab.sub (P : Program) (m : Masks) : Tab :=
  { Tab.of P with
    zero := fun t => if m.zeros.testBit t then (P.info? t).bind (·.zero) else none
    fn := fun f => if m.fns.testBit f then (Tab.of P).fn f else none
    ext := fun f => if m.exts.testBit f then some sameOne else none
    eqOk := fun t => m.eqs.testBit t }

def fnSure (P : Program) (f : Nat) : Bool :=
  match P.funcs[f]? with
  | some fn => match fn.body with
    | some b => codeOk 0 b && !(fn.name == "runtime.NumGoroutine")
    | none => true
  | none => true

def extSure (P : Program) (f : Nat) : Bool :=
  match P.funcs[f]? with
  | some fn => fn.body.isNone && fn.name == "internal/abi.NoEscape" && (Extern.findNext fn).isNone
  | none => false

def zeroSure (P : Program) (t : Nat) : Bool :=
  match (P.info? t).bind (·.zero) with
  | some v => flatB 3 v
  | none => true

def eqSure (P : Program) (t : Nat) : Bool := !P.stoodInHeld t && !P.eqGuardType P.depth t

/-- The bits of a number, each with a test. -/
def bitsAll (p : Nat → Bool) (m : Nat) : Nat → Nat → Bool
  | 0, _ => true
  | n + 1, a => (!m.testBit a || p a) && bitsAll p m n (a + 1)

theorem bitsAll_at {p : Nat → Bool} {m : Nat} : ∀ {n a : Nat}, bitsAll p m n a = true → ∀ i, a ≤ i → i < a + n → m.testBit i = true → p i = true
  | 0, a, _, i, h1, h2, _ => by omega
  | n + 1, a, h, i, h1, h2, hi => by
    simp only [bitsAll, Bool.and_eq_true] at h
    by_cases e : i = a
    · subst e; simpa [hi] using h.1
    · exact bitsAll_at h.2 i (by omega) (by omega) hi

theorem bits_all {p : Nat → Bool} {m n : Nat} (hm : m < 2 ^ n) (h : bitsAll p m n 0 = true) : ∀ i, m.testBit i = true → p i = true := fun i hi => by
  refine bitsAll_at h i (Nat.zero_le _) ?_ hi
  rcases Nat.lt_or_ge i n with h1 | h1
  · omega
  · have : m < 2 ^ i := Nat.lt_of_lt_of_le hm (Nat.pow_le_pow_right (by omega) h1)
    rw [Nat.testBit_lt_two_pow this] at hi; cases hi

theorem lookup_noEscape : Extern.allRows.lookup "internal/abi.NoEscape" = some Extern.AbiNoEscape.same ∧ Extern.allGenericRows.lookup "internal/abi.NoEscape" = none ∧
    Extern.allTypedRows.lookup "internal/abi.NoEscape" = none ∧ Extern.allNextRows.lookup "internal/abi.NoEscape" = none := ⟨by kernel_rfl, by kernel_rfl, by kernel_rfl, by kernel_rfl⟩

/-- What is asked of a program's masks. -/
structure Masks.Sure (P : Program) (m : Masks) : Prop where
  fns : ∀ f, m.fns.testBit f = true → fnSure P f = true
  exts : ∀ f, m.exts.testBit f = true → extSure P f = true
  zeros : ∀ t, m.zeros.testBit t = true → zeroSure P t = true
  eqs : ∀ t, m.eqs.testBit t = true → eqSure P t = true

theorem Tab.sub_ok {P : Program} {m : Masks} (h : m.Sure P) : (Tab.sub P m).Ok P where
  und t d hd := hd
  size t n hn := by
    simp only [Tab.sub, Tab.of] at hn
    cases hi : P.info? t with
    | none => rw [hi] at hn; cases hn
    | some i => rw [hi] at hn; simp only [Option.map_some, Option.some.injEq] at hn; exact ⟨i, rfl, hn⟩
  bytes t n hn := by
    simp only [Tab.sub, Tab.of] at hn
    cases hi : P.info? t with
    | none => rw [hi] at hn; cases hn
    | some i => rw [hi] at hn; simp only [Option.map_some, Option.some.injEq] at hn; exact ⟨i, rfl, hn⟩
  zero t v hv := by
    simp only [Tab.sub] at hv
    split at hv
    · rename_i hb
      have hs := h.zeros t hb
      unfold zeroSure at hs
      rw [hv] at hs
      cases hi : P.info? t with
      | none => rw [hi] at hv; cases hv
      | some i => rw [hi] at hv; exact ⟨⟨i, rfl, hv⟩, flatB_flat hs⟩
    · cases hv
  cmp t ht := by
    simp only [Tab.sub, Tab.of] at ht
    cases hi : P.info? t with
    | none => rw [hi] at ht; cases ht
    | some i => rw [hi] at ht; exact ⟨i, rfl, ht⟩
  eqOk t ht := by
    have := h.eqs t ht
    simpa [eqSure] using this

theorem Tab.sub_fns {P : Program} {m : Masks} (h : m.Sure P) : (Tab.sub P m).Fns P fun c => codeOk (Tab.sub P m).globs c = true where
  fn f F hF := by
    simp only [Tab.sub] at hF
    split at hF
    · rename_i hb
      have hs := h.fns f hb
      unfold fnSure at hs
      simp only [Tab.of] at hF
      cases hfn : P.funcs[f]? with
      | none => rw [hfn] at hF; cases hF
      | some fn =>
        rw [hfn] at hF hs
        simp only at hF hs
        cases hbd : fn.body with
        | none => rw [hbd] at hF; cases hF
        | some b =>
          rw [hbd] at hF hs
          simp only [Option.some.injEq, Bool.and_eq_true, Bool.not_eq_true'] at hF hs
          subst hF
          exact ⟨fn, rfl, rfl, hbd, rfl, hs.2, hs.1⟩
    · cases hF
  ext f g hg := by
    simp only [Tab.sub] at hg
    split at hg
    · rename_i hb
      cases hg
      have hs := h.exts f hb
      unfold extSure at hs
      cases hfn : P.funcs[f]? with
      | none => rw [hfn] at hs; cases hs
      | some fn =>
        rw [hfn] at hs
        simp only [Bool.and_eq_true, Option.isNone_iff_eq_none, beq_iff_eq] at hs
        obtain ⟨k1, k2, k3, k4⟩ := lookup_noEscape
        refine ⟨fn, Extern.AbiNoEscape.same, rfl, by rw [hs.1.2]; decide, hs.1.1, hs.2, ?_, fun φ args args' v w hv ha => ?_⟩
        · unfold Extern.find
          simp only [hs.1.2, k1, k2, k3]
          rfl
        · unfold sameOne at hv
          split at hv
          · cases hv
            obtain ⟨v', r', rfl, h1, h2⟩ := ha.cons_inv
            rw [h2.nil_inv]
            exact ⟨v', rfl, h1⟩
          · cases hv
    · cases hg

end Go.Ev
