/-
  EV, PART U: the steps of a region that draws its order.
-/
import Derived.Test.YtelpkdjibjddlaaEvT
set_option linter.unusedSimpArgs false
set_option linter.unusedVariables false
namespace Go.Ev
open Go Go.RowKit

section
variable {T : Tab} {P : Program} (hT : T.Ok P) {ok : Code → Prop} (hF : T.Fns P ok)
include hT hF

/-- The heap, when those of 'S' have been carried out. -/
def heapS (X : Nat → Tr) (n : Nat) (S : Nat → Bool) (N : Nat) : Option Blk := lay ((X 0).st.t.get N) (fun i => S i && (X i).touch N) (fun i => (X i).b.t.get N) n

/-- The region midway: those of 'S' have been carried out. -/
structure Mid (P : Program) (B : Base) (ops : Array Oper) (X : Nat → Tr) (cx : Ctx) (φ0 : Phi) (w0 : World) (S : Nat → Bool) (φ : Phi) (w : World) (fc : Frame) (tm : List Value) : Prop where
  rel : Rel φ B (heapS X ops.size S) w
  grows : Grows B φ0 φ (X 0).st.next (X ops.size).st.next
  keeps : KeepsB B w0 w
  fresh : ∀ j, j < ops.size → S j = false → (X j).ran = true → Fresh φ (X j).did.lo (X j).did.hi
  fr : FRel φ ⟨tm, (X 0).fr.defers⟩ cx fc
  tmps : ∀ d, tm[d]? = ((X 0).fr.tmps[d]?).map fun t0 => lay t0 (fun i => S i && dstOf ops i == some d) (fun i => (X i).v) ops.size

omit hT hF in
theorem getD_eq {l m : List Value} {t : Nat} (h : l[t]? = m[t]?) : l.getD t undef = m.getD t undef := by simp [List.getD, h]

omit hT hF in
theorem wanted_same {ops : Array Oper} {o : Oper} {l m : List Value} (h : ∀ t ∈ o.looksAt ops, l[t]? = m[t]?) : Region.wanted o (yieldedL ops l) = Region.wanted o (yieldedL ops m) := by
  unfold Region.wanted
  cases hg : o.guard with
  | none => rfl
  | some p =>
    obtain ⟨g, b⟩ := p
    simp only
    have : yieldedL ops l g = yieldedL ops m g := by
      unfold yieldedL
      cases hd : (ops[g]?).bind (·.dst) with
      | none => rfl
      | some d =>
        simp only [Option.bind_some]
        rw [h d (List.mem_append_right _ (by simp [hg, hd]))]
    rw [this]

theorem draw_step {rec : RunCode} (hC : CodeSim T P ok rec) (hLg : ∀ cx c fr, Logs (rec cx c fr)) {B : Base} (hBz : B.sz = P.cellsOf) (hBc : B.code = ok) {ops : Array Oper} (hops : opsOk T.globs ops = true) {bef : List Nat} (hD : DrawOk ops bef) (cs : List Frame) {cx : Ctx} {K : List Item}
    {X : Nat → Tr} (hX : ∀ j, j < ops.size → ∃ o, Good T rec ops X j o)
    (hP : ∀ k j, k < j → j < ops.size → (X k).ran = true → (X j).ran = true → (bef.getD j 0).testBit k = false → PairD (X k).did (X j).did (X j).a.t.get)
    {φ0 : Phi} {w0 : World} (hR0 : Rel φ0 B (X 0).st.t.get w0) (hf0 : Fresh φ0 (X 0).st.next (X ops.size).st.next) (hG0 : GRel φ0 T.globs)
    {S : Nat → Bool} {φ : Phi} {w : World} {fc : Frame} {tm : List Value} (M : Mid P B ops X cx φ0 w0 S φ w fc tm) {j : Nat} (hj : j < ops.size) (hS : S j = false)
    (hr : ∀ i, (bef.getD j 0).testBit i = true → S i = true) (hc : ∀ k, k < ops.size → S k = true → ∀ i, (bef.getD k 0).testBit i = true → S i = true)
    {rest : List Nat} (ht : fc.todo = .inRegion ops (j :: rest) :: K) :
    ∃ φ' w' fc' tm', Mid P B ops X cx φ0 w0 (fun i => S i || i == j) φ' w' fc' tm' ∧ Steps P (lone fc cs w) (lone fc' cs w') ∧ fc'.todo = .inRegion ops rest :: K := by
  have h0 : ∀ N, (X 0).st.next ≤ N → N < (X ops.size).st.next → (X 0).st.t.get N = none := fun N h1 h2 => by
    cases h : (X 0).st.t.get N with
    | none => rfl
    | some b =>
      obtain ⟨L, hL, _⟩ := hR0.blk N b h
      rw [hf0 N h1 h2] at hL; cases hL
  obtain ⟨o, g⟩ := hX j hj
  -- those that aren't ordered with this one
  have before : ∀ i, i < j → S i = false → (bef.getD j 0).testBit i = false := fun i _ h => by
    cases hb : (bef.getD j 0).testBit i with
    | false => rfl
    | true => rw [hr i hb] at h; cases h
  have after : ∀ i, i < ops.size → S i = true → (bef.getD i 0).testBit j = false := fun i hi h => by
    cases hb : (bef.getD i 0).testBit j with
    | false => rfl
    | true => rw [hc i hi h j hb] at hS; cases hS
  have slot : ∀ t, (t ∈ o.looksAt ops) → (X j).fr.tmps[t]? = tm[t]? := fun t htl => by
    rw [tmps_lay hX t (Nat.le_of_lt hj), M.tmps t]
    congr 1
    funext t0
    refine (lay_view (Nat.le_of_lt hj) fun i hi hτ => ?_).symm
    have hτ' : dstOf ops i = some t := by simpa using hτ
    obtain ⟨oi, gi⟩ := hX i hi
    have hd : oi.dst = some t := by simpa [dstOf, gi.at_] using hτ'
    constructor
    · intro hs
      rcases Nat.lt_trichotomy i j with h | h | h
      · exact h
      · subst h; rw [hS] at hs; cases hs
      · exact absurd htl ((Oper.apart_spec (hD.slots j i o oi h g.at_ gi.at_ (after i hi hs))).2.2 t hd)
    · intro h
      cases hs : S i with
      | true => rfl
      | false => exact absurd htl ((Oper.apart_spec (hD.slots i j oi o h gi.at_ g.at_ (before i h hs))).1 t hd)
  have hwant : Region.wanted o (yielded ops fc.tmps) = (X j).ran := by
    rw [g.ran, wanted_same slot, ← yielded_rel (tmps := tm) M.fr.tmps ops]
  obtain ⟨hopk, hnd⟩ := opsOk_at hops g.at_
  -- the places, after it
  have tmps' : ∀ d, ((Fr.mk tm (X 0).fr.defers).put o.dst (X j).v).tmps[d]? = ((X 0).fr.tmps[d]?).map fun t0 => lay t0 (fun i => (S i || i == j) && dstOf ops i == some d) (fun i => (X i).v) ops.size := fun d => by
    rw [get_put]
    simp only
    rw [M.tmps d]
    by_cases h : o.dst = some d
    · rw [if_pos h]
      have : dstOf ops j = some d := by simp [dstOf, g.at_, h]
      cases (X 0).fr.tmps[d]? with
      | none => rfl
      | some t0 =>
        simp only [Option.map_some]
        congr 1
        refine (lay_put (b0 := t0) (S := S) (val := fun i => (X i).v) (τ := fun i => dstOf ops i == some d) hj (by simp [this]) fun i h1 h2 h3 => ?_).symm
        obtain ⟨oi, gi⟩ := hX i h2
        have := (Oper.apart_spec (hD.slots j i o oi h1 g.at_ gi.at_ (after i h2 h3))).2.1 d h
        simpa [dstOf, gi.at_] using this
    · rw [if_neg h]
      have : (dstOf ops j == some d) = false := by simpa [dstOf, g.at_] using h
      cases (X 0).fr.tmps[d]? with
      | none => rfl
      | some t0 =>
        simp only [Option.map_some]
        congr 1
        exact (lay_other (τ := fun i => dstOf ops i == some d) this).symm
  have sepB : ∀ i, i < j → S i = false → Sep (X i) (X j) := fun i h1 h2 => sep hX h0 hP h1 hj (before i h1 h2)
  have sepA : ∀ i, j < i → i < ops.size → S i = true → Sep (X j) (X i) := fun i h1 h2 h3 => sep hX h0 hP h1 h2 (after i h2 h3)
  cases hran : (X j).ran with
  | false =>
    obtain ⟨hv, hst⟩ := g.skip hran
    obtain ⟨r1, r2⟩ := M.fr.finish ht g.at_ (φ := φ) (v := (X j).v) (v' := undef) (by rw [hv]; exact .undef)
    have hno : ∀ N, (X j).touch N = false := fun N => by simp [Tr.touch, hran]
    refine ⟨φ, w, fc.finish undef, _, ⟨?_, M.grows, M.keeps, fun i hi hs hri => M.fresh i hi (by simp at hs; exact hs.1) hri, ?_, tmps'⟩, Steps.one (st_opSkip M.fr.mode ht (by rw [g.at_]; simp [hwant, hran])), r2⟩
    · have : heapS X ops.size (fun i => S i || i == j) = heapS X ops.size S := by
        funext N
        exact lay_other (τ := fun i => (X i).touch N) (hno N)
      rw [this]; exact M.rel
    · have := r1
      rw [show (Fr.mk tm (X 0).fr.defers).put o.dst (X j).v = ⟨((Fr.mk tm (X 0).fr.defers).put o.dst (X j).v).tmps, (X 0).fr.defers⟩ by cases o.dst <;> rfl] at this
      exact this
  | true =>
    have one := g.one hran
    have hV : ∀ N b, (X j).a.t.get N = some b → heapS X ops.size S N = some b := fun N b hb => by
      have h1 := one.view N b hb
      rw [heap_lay hX N (Nat.le_of_lt hj)] at h1
      rw [← h1]
      refine lay_view (Nat.le_of_lt hj) fun i hi hτ => ?_
      constructor
      · intro hs
        rcases Nat.lt_trichotomy i j with h | h | h
        · exact h
        · subst h; rw [hS] at hs; cases hs
        · have := (sepA i h hi hs N).2.1 hτ hran
          rw [hb] at this; cases this
      · intro h
        cases hs : S i with
        | true => rfl
        | false => have := (sepB i h hs N).1 hτ hran
                   rw [hb] at this; cases this
    have hR2 := M.rel.narrow hV
    have hfj := M.fresh j hj hS hran
    have hfa : Fresh φ (X j).a.next (X j).b.next := by rw [one.anext, one.bnext, ← one.lo, ← one.hi]; exact hfj
    obtain ⟨φ', w', v', q1, q2, q3⟩ := sim_op hT hF hC hLg (B := B.more (Aside φ (heapS X ops.size S) (X j).a.t.get)) hBz hBc hR2 hfa (hG0.mono M.grows.1) one.run cs M.fr.mode ht g.at_ (by rw [hwant, hran]) (fun x hx => by
      have e1 := eval_rel (ds := (X 0).fr.defers) M.fr.tmps (hG0.mono M.grows.1) (List.all_eq_true.1 hopk x hx)
      have e2 : (X j).fr.eval x = (Fr.mk tm (X 0).fr.defers).eval x := by
        cases x with
        | tmp t => exact getD_eq (slot t (List.mem_append_left _ (List.mem_filterMap.2 ⟨.tmp t, hx, rfl⟩)))
        | const v => rfl
        | global k => rfl
        | func k => rfl
      rw [e2]; exact e1) hnd
    have hgr : Grows (B.more (Aside φ (heapS X ops.size S) (X j).a.t.get)) φ φ' (X j).did.lo (X j).did.hi := by
      have := q1.grows
      rw [one.anext, one.bnext, ← one.lo, ← one.hi] at this
      exact this
    obtain ⟨u1, u2, u3⟩ := M.rel.widen hV q1.rel hgr q1.keeps hfj (τ := fun N => (X j).touch N)
      (fun N hN => one.off N (by simpa [Tr.touch, hran] using hN))
      (fun N hN _ => by
        have hN' : (X j).did.touch N = true := by simpa [Tr.touch, hran] using hN
        rcases Did.touch_iff.1 hN' with hm | hm
        · exact .inl (one.shown.mods N hm).2.1
        · exact .inr hm)
    obtain ⟨r1, r2⟩ := (M.fr.mono u2.1).finish ht g.at_ q2
    have m1 := next_mono hX (i := 0) (j := j) (by omega) (by omega)
    have m2 := next_mono hX (i := j + 1) (j := ops.size) (by omega) (Nat.le_refl _)
    refine ⟨φ', w', fc.finish v', _, ⟨?_, ?_, M.keeps.trans u3, fun i hi hs hri => ?_, ?_, tmps'⟩, q3, r2⟩
    · have : heapS X ops.size (fun i => S i || i == j) = fun N => if (X j).touch N = true then (X j).b.t.get N else heapS X ops.size S N := by
        funext N
        by_cases htN : (X j).touch N = true
        · rw [if_pos htN]
          exact lay_put (τ := fun i => (X i).touch N) hj htN fun i h1 h2 h3 => (sepA i h1 h2 h3 N).2.2 htN
        · rw [if_neg htN]
          exact lay_other (τ := fun i => (X i).touch N) (by simpa using htN)
      rw [this]; exact u1
    · refine ⟨M.grows.1.trans u2.1, fun N hN => ?_, fun N L hL => ?_⟩
      · rcases u2.2.1 N hN with h | ⟨h1, h2⟩
        · exact M.grows.2.1 N h
        · rw [one.lo] at h1; rw [one.hi] at h2; exact .inr ⟨by omega, by omega⟩
      · rcases u2.2.2 N L hL with h | h
        · exact M.grows.2.2 N L h
        · exact .inr h
    · simp only [Bool.or_eq_false_iff] at hs
      have hne : i ≠ j := by have := hs.2; simpa using this
      intro N h1 h2
      cases hn : φ' N with
      | none => rfl
      | some L =>
        exfalso
        rcases u2.2.1 N (by rw [hn]; simp) with h3 | ⟨h3, h4⟩
        · exact h3 (M.fresh i hi hs.1 hri N h1 h2)
        · obtain ⟨oi, gi⟩ := hX i hi
          have onei := gi.one hri
          rw [onei.lo] at h1; rw [onei.hi] at h2; rw [one.lo] at h3; rw [one.hi] at h4
          rcases Nat.lt_or_gt_of_ne hne with h | h
          · have := next_mono hX (i := i + 1) (j := j) (by omega) (by omega); omega
          · have := next_mono hX (i := j + 1) (j := i) (by omega) (by omega); omega
    · have := r1
      rw [show (Fr.mk tm (X 0).fr.defers).put o.dst (X j).v = ⟨((Fr.mk tm (X 0).fr.defers).put o.dst (X j).v).tmps, (X 0).fr.defers⟩ by cases o.dst <;> rfl] at this
      exact this

end
end Go.Ev
