/-
  EV, PART T: a region that draws its order: whatever the order, what the evaluator has found comes out.
-/
import Derived.Test.YtelpkdjibjddlaaEvS
set_option linter.unusedSimpArgs false
set_option linter.unusedVariables false
namespace Go.Ev
open Go Go.RowKit

def dstOf (ops : Array Oper) (i : Nat) : Option Tmp := (ops[i]?).bind (·.dst)

theorem get_put {fr : Fr} {dst : Option Tmp} {v : Value} (d : Nat) : (fr.put dst v).tmps[d]? = if dst = some d then (fr.tmps[d]?).map (fun _ => v) else fr.tmps[d]? := by
  cases dst with
  | none => simp [Fr.put]
  | some e =>
    simp only [Fr.put, List.getElem?_set, Option.some.injEq]
    by_cases h : e = d
    · subst h
      rw [if_pos rfl, if_pos rfl]
      by_cases hl : e < fr.tmps.length
      · rw [if_pos hl, List.getElem?_eq_getElem hl]; rfl
      · rw [if_neg hl, List.getElem?_eq_none (Nat.le_of_not_lt hl)]; rfl
    · rw [if_neg h, if_neg h]

theorem put_defers (fr : Fr) (dst : Option Tmp) (v : Value) : (fr.put dst v).defers = fr.defers := by cases dst <;> rfl

section
variable {T : Tab} {rec : RunCode} {ops : Array Oper} {X : Nat → Tr} (hX : ∀ j, j < ops.size → ∃ o, Good T rec ops X j o)
include hX

theorem next_mono {i : Nat} : ∀ {j : Nat}, i ≤ j → j ≤ ops.size → (X i).st.next ≤ (X j).st.next
  | 0, h, _ => by have : i = 0 := by omega
                  subst this; exact Nat.le_refl _
  | j + 1, h, hj => by
    by_cases e : i = j + 1
    · subst e; exact Nat.le_refl _
    · refine Nat.le_trans (next_mono (i := i) (j := j) (by omega) (by omega)) ?_
      obtain ⟨o, g⟩ := hX j (by omega)
      cases hr : (X j).ran with
      | false => rw [(g.skip hr).2]; exact Nat.le_refl _
      | true => have := g.one hr; rw [← this.lo, ← this.hi]; exact this.shown.le

theorem touch_step {j : Nat} (hj : j < ops.size) (N : Nat) : (X (j + 1)).st.t.get N = if (X j).touch N = true then (X j).b.t.get N else (X j).st.t.get N := by
  obtain ⟨o, g⟩ := hX j hj
  cases hr : (X j).ran with
  | false => rw [(g.skip hr).2]; simp [Tr.touch, hr]
  | true => rw [(g.one hr).heap N]; simp [Tr.touch, hr]

theorem clean (h0 : ∀ N, (X 0).st.next ≤ N → N < (X ops.size).st.next → (X 0).st.t.get N = none) : ∀ {j : Nat}, j ≤ ops.size → ∀ N, (X j).st.next ≤ N → N < (X ops.size).st.next → (X j).st.t.get N = none
  | 0, _, N, h1, h2 => h0 N h1 h2
  | j + 1, hj, N, h1, h2 => by
    have ih := clean h0 (j := j) (by omega) N (Nat.le_trans (next_mono hX (Nat.le_succ j) hj) h1) h2
    rw [touch_step hX (by omega)]
    split
    · rename_i ht
      exfalso
      obtain ⟨o, g⟩ := hX j (by omega)
      simp only [Tr.touch, Bool.and_eq_true] at ht
      have one := g.one ht.1
      rcases Did.touch_iff.1 ht.2 with hm | ⟨_, k⟩
      · exact (one.shown.mods N hm).2.1 (by
          cases ha : (X j).a.t.get N with
          | none => rfl
          | some x => have := one.view N x ha; rw [ih] at this; cases this)
      · rw [one.hi] at k; omega
    · exact ih

theorem heap_lay (N : Nat) : ∀ {j : Nat}, j ≤ ops.size → (X j).st.t.get N = lay ((X 0).st.t.get N) (fun i => (X i).touch N) (fun i => (X i).b.t.get N) j
  | 0, _ => rfl
  | j + 1, hj => by
    rw [touch_step hX (by omega)]
    simp only [lay]
    rw [heap_lay N (j := j) (by omega)]

theorem tmps_lay (d : Nat) : ∀ {j : Nat}, j ≤ ops.size → (X j).fr.tmps[d]? = ((X 0).fr.tmps[d]?).map fun t0 => lay t0 (fun i => dstOf ops i == some d) (fun i => (X i).v) j
  | 0, _ => by simp [lay]
  | j + 1, hj => by
    obtain ⟨o, g⟩ := hX j (by omega)
    rw [g.fr, get_put, tmps_lay d (j := j) (by omega)]
    have e : dstOf ops j = o.dst := by simp [dstOf, g.at_]
    by_cases h : o.dst = some d
    · rw [if_pos h]
      cases (X 0).fr.tmps[d]? with
      | none => rfl
      | some t0 => simp [lay, e, h]
    · rw [if_neg h]
      cases (X 0).fr.tmps[d]? with
      | none => rfl
      | some t0 => simp [lay, e, h]

theorem defers_same : ∀ {j : Nat}, j ≤ ops.size → (X j).fr.defers = (X 0).fr.defers
  | 0, _ => rfl
  | j + 1, hj => by
    obtain ⟨o, g⟩ := hX j (by omega)
    rw [g.fr, put_defers, defers_same (j := j) (by omega)]

end

/-- Two operations that leave each other alone. -/
def Sep (x y : Tr) : Prop := ∀ N, (x.touch N = true → y.ran = true → y.a.t.get N = none) ∧ (y.touch N = true → x.ran = true → x.a.t.get N = none) ∧ (x.touch N = true → y.touch N = false)

theorem sep {T : Tab} {rec : RunCode} {ops : Array Oper} {X : Nat → Tr} {bef : List Nat} (hX : ∀ j, j < ops.size → ∃ o, Good T rec ops X j o)
    (h0 : ∀ N, (X 0).st.next ≤ N → N < (X ops.size).st.next → (X 0).st.t.get N = none)
    (hP : ∀ k j, k < j → j < ops.size → (X k).ran = true → (X j).ran = true → (bef.getD j 0).testBit k = false → PairD (X k).did (X j).did (X j).a.t.get)
    {i j : Nat} (hij : i < j) (hj : j < ops.size) (hu : (bef.getD j 0).testBit i = false) : Sep (X i) (X j) := by
  intro N
  cases hi' : (X i).ran with
  | false => simp [Tr.touch, hi']
  | true =>
    cases hj' : (X j).ran with
    | false => simp [Tr.touch, hj']
    | true =>
      obtain ⟨oi, gi⟩ := hX i (by omega)
      obtain ⟨oj, gj⟩ := hX j hj
      have a := gi.one hi'
      have b := gj.one hj'
      have m1 := next_mono hX (i := i + 1) (j := j) (by omega) (by omega)
      have m2 := next_mono hX (i := i) (j := j) (by omega) (by omega)
      have m3 := next_mono hX (i := j + 1) (j := ops.size) (by omega) (Nat.le_refl _)
      have := (hP i j hij hj hi' hj' hu).apart a.shown b.shown (by rw [a.hi, b.lo]; exact m1) (fun M h1 h2 => by
        cases ha : (X i).a.t.get M with
        | none => rfl
        | some x =>
          have h3 := a.view M x ha
          rw [clean hX h0 (j := i) (by omega) M (by rw [b.lo] at h1; omega) (by rw [b.hi] at h2; omega)] at h3
          cases h3) N
      simp only [Tr.touch, hi', hj', Bool.true_and, true_implies]
      exact this

def befFold (bef : List Nat) (l : List Edge) (s : Nat) : Nat := l.foldl (fun s e => if Region.binds .any e then s ||| 2 ^ e.on ||| bef.getD e.on 0 else s) s

theorem befFold_bit (bef : List Nat) : ∀ (l : List Edge) (s i : Nat), (befFold bef l s).testBit i = true → s.testBit i = true ∨ ∃ e ∈ l, Region.binds .any e = true ∧ (i = e.on ∨ (bef.getD e.on 0).testBit i = true)
  | [], s, i, h => .inl h
  | e :: l, s, i, h => by
    unfold befFold at h
    rw [List.foldl_cons] at h
    rcases befFold_bit bef l _ i h with h1 | ⟨e', h2, h3⟩
    · split at h1
      · rename_i hb
        rw [Nat.testBit_or, Nat.testBit_or, Nat.testBit_two_pow] at h1
        simp only [Bool.or_eq_true, decide_eq_true_eq] at h1
        rcases h1 with (h1 | h1) | h1
        · exact .inl h1
        · exact .inr ⟨e, List.mem_cons_self .., hb, .inl h1.symm⟩
        · exact .inr ⟨e, List.mem_cons_self .., hb, .inr h1⟩
      · exact .inl h1
    · exact .inr ⟨e', List.mem_cons_of_mem _ h2, h3⟩

def drawAt (ops : Array Oper) (bef : List Nat) (j : Nat) : Bool :=
  match ops[j]? with
  | none => false
  | some o => bef.getD j 0 == befFold bef o.after.toList 0 && o.after.toList.all (fun e => !Region.binds .any e || decide (e.on < j)) &&
    (List.range j).all fun i => (bef.getD j 0).testBit i || match ops[i]? with
      | some x => x.apart ops o
      | none => false

/-- The order of a region that draws is told rightly; who may come before whom doesn't use what the other gives. -/
def drawStatic (ops : Array Oper) : Bool := (List.range ops.size).all (drawAt ops (befL [] ops.toList))

structure DrawOk (ops : Array Oper) (bef : List Nat) : Prop where
  bits : ∀ j o, ops[j]? = some o → ∀ i, (bef.getD j 0).testBit i = true → ∃ e ∈ o.after, Region.binds .any e = true ∧ (i = e.on ∨ (bef.getD e.on 0).testBit i = true)
  back : ∀ j o, ops[j]? = some o → ∀ e ∈ o.after, Region.binds .any e = true → e.on < j
  slots : ∀ i j x o, i < j → ops[i]? = some x → ops[j]? = some o → (bef.getD j 0).testBit i = false → x.apart ops o = true

theorem drawStatic_ok {ops : Array Oper} (h : drawStatic ops = true) : DrawOk ops (befL [] ops.toList) := by
  have key : ∀ j o, ops[j]? = some o → drawAt ops (befL [] ops.toList) j = true := fun j o ho =>
    List.all_eq_true.1 h j (List.mem_range.2 (Array.getElem?_eq_some_iff.1 ho).1)
  refine ⟨fun j o ho i hi => ?_, fun j o ho e he hb => ?_, fun i j x o hij hx ho hu => ?_⟩
  · have k := key j o ho
    simp only [drawAt, ho, Bool.and_eq_true, beq_iff_eq] at k
    rw [k.1.1] at hi
    rcases befFold_bit _ _ _ _ hi with h1 | ⟨e, h1, h2⟩
    · simp at h1
    · exact ⟨e, by simpa using h1, h2⟩
  · have k := key j o ho
    simp only [drawAt, ho, Bool.and_eq_true] at k
    have := List.all_eq_true.1 k.1.2 e (by simpa using he)
    simpa [hb] using this
  · have k := key j o ho
    simp only [drawAt, ho, Bool.and_eq_true] at k
    have := List.all_eq_true.1 k.2 i (List.mem_range.2 hij)
    simp only [hu, hx, Bool.false_or] at this
    exact this

end Go.Ev
