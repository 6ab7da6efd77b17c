/-
  EV, PART V: a region that draws its order, carried out.
-/
import Derived.Test.YtelpkdjibjddlaaEvU
set_option linter.unusedSimpArgs false
set_option linter.unusedVariables false
namespace Go.Ev
open Go Go.RowKit

def left (S : Nat → Bool) : Nat → Nat
  | 0 => 0
  | n + 1 => left S n + if S n = true then 0 else 1

theorem left_same {S S' : Nat → Bool} : ∀ {n : Nat}, (∀ i, i < n → S i = S' i) → left S n = left S' n
  | 0, _ => rfl
  | n + 1, h => by simp only [left]; rw [left_same fun i hi => h i (by omega), h n (by omega)]

theorem left_put {S : Nat → Bool} {j : Nat} (hS : S j = false) : ∀ {n : Nat}, j < n → left S n = left (fun i => S i || i == j) n + 1
  | 0, h => by omega
  | n + 1, h => by
    by_cases e : j = n
    · subst e
      have h1 : left S j = left (fun i => S i || i == j) j := left_same fun i hi => by
        have e : (i == j) = false := by simp; omega
        rw [e, Bool.or_false]
      simp only [left, hS, h1]
      simp
    · have e' : (n == j) = false := by simp; omega
      simp only [left, e', Bool.or_false]
      rw [left_put hS (n := n) (by omega)]
      omega

theorem left_zero {S : Nat → Bool} : ∀ {n : Nat}, left S n = 0 → ∀ j, j < n → S j = true
  | 0, _, j, hj => by omega
  | n + 1, h, j, hj => by
    simp only [left] at h
    by_cases e : j = n
    · subst e
      cases hs : S j with
      | true => rfl
      | false => rw [hs] at h; simp at h
    · exact left_zero (n := n) (by omega) j (by omega)

theorem left_some {S : Nat → Bool} : ∀ {n : Nat}, left S n ≠ 0 → ∃ j, j < n ∧ S j = false ∧ ∀ i, i < j → S i = true
  | 0, h => absurd rfl h
  | n + 1, h => by
    by_cases h0 : left S n = 0
    · refine ⟨n, Nat.lt_succ_self _, ?_, left_zero h0⟩
      cases hs : S n with
      | false => rfl
      | true => simp only [left, hs, h0] at h; simp at h
    · obtain ⟨j, h1, h2, h3⟩ := left_some h0
      exact ⟨j, by omega, h2, h3⟩

theorem getD_set_all {l : Array Bool} {j : Nat} (i : Nat) : (l.setIfInBounds j true).getD i true = (l.getD i true || i == j) := by
  simp only [Array.getD_eq_getD_getElem?, Array.getElem?_setIfInBounds]
  by_cases e : j = i
  · subst e
    simp only [if_true, beq_self_eq_true, Bool.or_true]
    split <;> rfl
  · have : (i == j) = false := by simp; omega
    rw [if_neg e, this, Bool.or_false]

section
variable {T : Tab} {P : Program} (hT : T.Ok P) {ok : Code → Prop} (hF : T.Fns P ok)
include hT hF

theorem draw_go {rec : RunCode} (hC : CodeSim T P ok rec) (hLg : ∀ cx c fr, Logs (rec cx c fr)) {B : Base} (hBz : B.sz = P.cellsOf) (hBc : B.code = ok) {ops : Array Oper} (hops : opsOk T.globs ops = true) {bef : List Nat} (hD : DrawOk ops bef) (cs : List Frame) {cx : Ctx} {K : List Item}
    {X : Nat → Tr} (hX : ∀ j, j < ops.size → ∃ o, Good T rec ops X j o)
    (hP : ∀ k j, k < j → j < ops.size → (X k).ran = true → (X j).ran = true → (bef.getD j 0).testBit k = false → PairD (X k).did (X j).did (X j).a.t.get)
    {φ0 : Phi} {w0 : World} (hR0 : Rel φ0 B (X 0).st.t.get w0) (hf0 : Fresh φ0 (X 0).st.next (X ops.size).st.next) (hG0 : GRel φ0 T.globs) :
    ∀ (fuel t : Nat) (listed : Array Bool) (S : Nat → Bool) (φ : Phi) (w : World) (fc : Frame) (tm : List Value), (∀ i, listed.getD i true = S i) → left S ops.size = fuel → Mid P B ops X cx φ0 w0 S φ w fc tm →
      (∀ k, k < ops.size → S k = true → ∀ i, (bef.getD k 0).testBit i = true → S i = true) → fc.todo = .inRegion ops (Region.linearise.go .any ops fuel t listed []) :: K →
      ∃ S' φ' w' fc' tm', (∀ j, j < ops.size → S' j = true) ∧ Mid P B ops X cx φ0 w0 S' φ' w' fc' tm' ∧ Steps P (lone fc cs w) (lone fc' cs w') ∧ fc'.todo = .inRegion ops [] :: K
  | 0, t, listed, S, φ, w, fc, tm, hl, hn, M, hc, ht => ⟨S, φ, w, fc, tm, left_zero hn, M, Steps.refl _ _, ht⟩
  | fuel + 1, t, listed, S, φ, w, fc, tm, hl, hn, M, hc, ht => by
    obtain ⟨j0, h1, h2, h3⟩ := left_some (S := S) (n := ops.size) (by omega)
    have inb : ∀ i, i < ops.size → S i = false → ∃ o, ops[i]? = some o := fun i hi _ => ⟨ops[i], by simp [hi]⟩
    have lt_listed : ∀ i, S i = false → i < listed.size := fun i h => by
      rcases Nat.lt_or_ge i listed.size with h4 | h4
      · exact h4
      · rw [← hl i, Array.getD_eq_getD_getElem?, Array.getElem?_eq_none h4] at h; cases h
    have hready : j0 ∈ Region.ready .any ops listed := by
      obtain ⟨o, ho⟩ := inb j0 h1 h2
      refine mem_ready.2 ⟨(hl j0).trans h2, o, ho, fun e he hb => ?_⟩
      have hlt := hD.back j0 o ho e he hb
      have h5 := h3 e.on hlt
      have h6 := lt_listed j0 h2
      rw [← hl e.on] at h5
      rw [Array.getD_eq_getD_getElem?, Array.getElem?_eq_getElem (by omega)] at h5 ⊢
      exact h5
    simp only [Region.linearise.go] at ht
    change fc.todo = .inRegion ops (match (Region.ready .any ops listed)[t % (Region.ready .any ops listed).length]? with
      | some i => Region.linearise.go .any ops fuel (t / (Region.ready .any ops listed).length) (listed.setIfInBounds i true) [i]
      | none => [].reverse) :: K at ht
    have hpos : 0 < (Region.ready .any ops listed).length := List.length_pos_of_mem hready
    obtain ⟨i, hi⟩ : ∃ i, (Region.ready .any ops listed)[t % (Region.ready .any ops listed).length]? = some i := ⟨_, List.getElem?_eq_getElem (Nat.mod_lt _ hpos)⟩
    rw [hi] at ht
    simp only at ht
    rw [linearise_go_acc, List.reverse_singleton, List.singleton_append] at ht
    obtain ⟨hun, o, ho, hall⟩ := mem_ready.1 (List.mem_of_getElem? hi)
    have hin : i < ops.size := (Array.getElem?_eq_some_iff.1 ho).1
    have hSi : S i = false := (hl i).symm.trans hun
    have hr : ∀ k, (bef.getD i 0).testBit k = true → S k = true := fun k hk => by
      obtain ⟨e, he, hb, h5⟩ := hD.bits i o ho k hk
      have h6 : S e.on = true := by
        have := hall e he hb
        rw [← hl e.on]
        rw [Array.getD_eq_getD_getElem?] at this ⊢
        cases hx : listed[e.on]? with
        | none => rfl
        | some b => rw [hx] at this; exact this
      rcases h5 with rfl | h5
      · exact h6
      · exact hc e.on (by have := hD.back i o ho e he hb; omega) h6 k h5
    obtain ⟨φ1, w1, fc1, tm1, q1, q2, q3⟩ := draw_step hT hF hC hLg hBz hBc hops hD cs hX hP hR0 hf0 hG0 M hin hSi hr hc ht
    obtain ⟨S', φ', w', fc', tm', r1, r2, r3, r4⟩ := draw_go hC hLg hBz hBc hops hD cs hX hP hR0 hf0 hG0 fuel _ (listed.setIfInBounds i true) (fun k => S k || k == i) φ1 w1 fc1 tm1 (fun k => by rw [getD_set_all, hl k]) (by
      have := left_put hSi hin; omega) q1 (fun k hk hs m hm => by
        simp only [Bool.or_eq_true, beq_iff_eq] at hs ⊢
        rcases hs with hs | rfl
        · exact .inl (hc k hk hs m hm)
        · exact .inl (hr m hm)) q3
    exact ⟨S', φ', w', fc', tm', r1, r2, q2.trans r3, r4⟩

theorem sim_draw {rec : RunCode} (hC : CodeSim T P ok rec) (hLg : ∀ cx c fr, Logs (rec cx c fr)) {B : Base} (hBz : B.sz = P.cellsOf) (hBc : B.code = ok) {ops : Array Oper} (hops : opsOk T.globs ops = true) (hst : drawStatic ops = true) (cs : List Frame) {cx : Ctx} {K : List Item}
    {fr fr' : Fr} {s s' : St} (h : evDraw T rec ops (befL [] ops.toList) 0 ops.toList [] fr s = some (fr', s')) {φ : Phi} {w : World} (hR : Rel φ B s.t.get w) (hf : Fresh φ s.next s'.next) (hG : GRel φ T.globs) {fc : Frame} (hfr : FRel φ fr cx fc) {t : Nat}
    (ht : fc.todo = .inRegion ops (Region.linearise .any ops t) :: K) :
    ∃ φ' w' fc', Aft P B φ s w φ' s' w' ∧ FRel φ' fr' cx fc' ∧ Steps P (lone fc cs w) (lone fc' cs w') ∧ fc'.todo = K := by
  obtain ⟨X, x1, x2, x3, x4, hX', _, hP'⟩ := evDraw_trace hLg ops.toList 0 [] fr fr' s s' (by simp) (Nat.zero_le _) h
  have hX : ∀ j, j < ops.size → ∃ o, Good T rec ops X j o := fun j hj => hX' j (Nat.zero_le _) hj
  have hP : ∀ k j, k < j → j < ops.size → (X k).ran = true → (X j).ran = true → ((befL [] ops.toList).getD j 0).testBit k = false → PairD (X k).did (X j).did (X j).a.t.get := fun k j => hP' k j (Nat.zero_le _)
  subst x1 x2 x3 x4
  have lay0 : ∀ {β : Type} (b0 : β) (τ : Nat → Bool) (val : Nat → β) (n : Nat), lay b0 (fun i => (fun _ => false) i && τ i) val n = b0 := fun b0 τ val n => by
    rw [lay_skip (j := 0) (Nat.zero_le _) fun i _ _ => by simp]; rfl
  let S0 : Nat → Bool := fun i => (Array.replicate ops.size false).getD i true
  have hS0 : ∀ i, i < ops.size → S0 i = false := fun i hi => by
    show (Array.replicate ops.size false).getD i true = false
    rw [Array.getD_eq_getD_getElem?, Array.getElem?_replicate, if_pos hi]; rfl
  have layS : ∀ {β : Type} (b0 : β) (τ : Nat → Bool) (val : Nat → β), lay b0 (fun i => S0 i && τ i) val ops.size = b0 := fun b0 τ val => by
    rw [lay_skip (j := 0) (Nat.zero_le _) fun i _ hi => by rw [hS0 i hi]; rfl]; rfl
  have hcnt : ∀ n, n ≤ ops.size → left S0 n = n := fun n => by
    induction n with
    | zero => intro _; rfl
    | succ n ih => intro hn; simp only [left]; rw [ih (by omega), hS0 n (by omega)]; simp
  have M0 : Mid P B ops X cx φ w S0 φ w fc (X 0).fr.tmps := by
    refine ⟨?_, .refl _ _ _, .refl _ _, fun j hj _ hran N h1 h2 => ?_, hfr, fun d => ?_⟩
    · have : heapS X ops.size S0 = (X 0).st.t.get := by funext N; exact layS _ _ _
      rw [this]; exact hR
    · obtain ⟨o, g⟩ := hX j hj
      have one := g.one hran
      have m1 := next_mono hX (i := 0) (j := j) (by omega) (by omega)
      have m2 := next_mono hX (i := j + 1) (j := ops.size) (by omega) (Nat.le_refl _)
      rw [one.lo] at h1; rw [one.hi] at h2
      exact hf N (by omega) (by omega)
    · cases (X 0).fr.tmps[d]? with
      | none => rfl
      | some t0 => simp only [Option.map_some]; rw [layS]
  obtain ⟨S', φ', w', fc', tm', r1, r2, r3, r4⟩ := draw_go hT hF hC hLg hBz hBc hops (drawStatic_ok hst) cs hX hP hR hf hG ops.size t (Array.replicate ops.size false) S0 φ w fc (X 0).fr.tmps (fun i => rfl) (hcnt _ (Nat.le_refl _)) M0 (fun k hk hs => by
    rw [hS0 k hk] at hs; cases hs) ht
  have full : ∀ {β : Type} (b0 : β) (τ : Nat → Bool) (val : Nat → β), lay b0 (fun i => S' i && τ i) val ops.size = lay b0 τ val ops.size := fun b0 τ val => lay_congr fun i hi => by rw [r1 i hi]; rfl
  refine ⟨φ', w', { fc' with todo := K }, ⟨next_mono hX (Nat.zero_le _) (Nat.le_refl _), r2.grows, ?_, r2.keeps⟩, ?_, r3.trans (Steps.one (st_regionEnd r2.fr.mode r4)), rfl⟩
  · have : heapS X ops.size S' = (X ops.size).st.t.get := by
      funext N
      rw [heap_lay hX N (Nat.le_refl _)]
      exact full _ _ _
    rw [← this]; exact r2.rel
  · have e : tm' = (X ops.size).fr.tmps := by
      apply List.ext_getElem?
      intro d
      rw [r2.tmps d, tmps_lay hX d (Nat.le_refl _)]
      congr 1
      funext t0
      exact full _ _ _
    have := r2.fr.todo K
    rw [e, ← defers_same hX (Nat.le_refl _)] at this
    exact this

end
end Go.Ev
