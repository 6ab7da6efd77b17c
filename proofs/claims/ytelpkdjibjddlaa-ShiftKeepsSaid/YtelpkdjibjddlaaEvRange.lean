/-
  EV: the rules of a printed walk, sixth part: loops over functions, their rounds; results that lie in cells.
-/
import Derived.Test.YtelpkdjibjddlaaEvFiles
set_option linter.unusedSimpArgs false
set_option linter.unusedVariables false
namespace Go.Ev
open Go Go.RowKit

/-- A round of a loop over a function. -/
def EndsYield (T : Tab) (L : Nat) (args : List Value) (s : St) (Q : Value → St → Prop) : Prop := ∃ k v s', round (evCode T k) L args s = some (v, s') ∧ Q v s'
theorem EndsYield.mono {T : Tab} {L : Nat} {args : List Value} {s : St} {Q Q' : Value → St → Prop} (h : EndsYield T L args s Q) (hq : ∀ v s, Q v s → Q' v s) : EndsYield T L args s Q' := let ⟨k, v, s', h1, h2⟩ := h; ⟨k, v, s', h1, hq _ _ h2⟩

section
variable {T : Tab} {fr : Fr} {s s0 : St} {ops : Array Oper} {o : Oper} {os : List Oper} {Q : Fr → St → Prop}
theorem W.yield {f : Operand} {args : Array Operand} {ts : Array TypeId} {L : Nat} {ar : List Value} {R : Value → St → Prop} {fF : Value → Fr} (hw : Region.wanted o (yieldedL ops fr.tmps) = true) (ho : o.op = .call ⟨.value f, args, ts⟩)
    (hf : fr.eval f = .func (.yield L) #[] #[]) (ha : args.toList.map fr.eval = ar) (hR : EndsYield T L ar s R) (hp : ∀ v, fr.put o.dst v = fF v) (h : ∀ v s1, R v s1 → EndsOps T ops os (fF v) s1 Q) : EndsOps T ops (o :: os) fr s Q := by
  obtain ⟨k, v, s1, h1, h2⟩ := hR
  obtain ⟨k2, fr', s', h3, h4⟩ := h v s1 h2
  refine ⟨max k k2, fr', s', ?_, h4⟩
  unfold evOps
  rw [if_pos hw]
  have e1 : evOp T (evCode T (max k k2)) fr o s = some (v, s1) := by
    have : evOp T (evCode T k) fr o s = some (v, s1) := by
      unfold evOp; rw [ho]; simp only [callValue, hf, ha, List.nil_append]; exact h1
    exact Mle.evOp (evCode_le (Nat.le_max_left k k2)) fr o _ _ this
  simp only [bnd, e1]
  rw [hp]
  exact Mle.evOps (evCode_le (Nat.le_max_right k k2)) ops os _ _ _ h3
end

/-- How a loop stands behind a round that was left so. -/
def afterRound (r : Loop) (e : Ex) : Loop := { r with state := if (jumpOf e).isNone then .ready else .done, pending := jumpOf e }
def setL (s : St) (L : Nat) (r : Loop) : St := { s with t := s.t.set L (some (.obj (.loop r))), mods := L :: s.mods }

theorem EndsYield.of {T : Tab} {L : Nat} {args : List Value} {s : St} {r : Loop} {Q : Value → St → Prop} (hL : s.t.get L = some (.obj (.loop r))) (hr : r.state = .ready) (ha : args.length = r.params.toList.length)
    (h : Ends T ⟨r.fn, some L⟩ r.assign ⟨setMany r.tmps.toList r.params.toList args, []⟩ s fun e fr s1 => e = .normal ∧ s1.t.get L = some (.obj (.loop r)) ∧
      Ends T ⟨r.fn, some L⟩ r.body fr (setL s1 L { r with state := .busy }) fun e fr s2 => fr.defers = [] ∧ s2.t.get L = some (.obj (.loop { r with state := .busy })) ∧ Q (.bool (jumpOf e).isNone) (setL s2 L (afterRound r e))) : EndsYield T L args s Q := by
  obtain ⟨k, e, fr, s1, h1, rfl, h2, k2, e2, fr2, s2, h3, h4, h5, h6⟩ := h
  refine ⟨max k k2, _, _, ?_, h6⟩
  have g : getLoop L s = some (r, s) := by unfold getLoop; rw [hL]
  have g1 : getLoop L s1 = some (r, s1) := by unfold getLoop; rw [h2]
  have g2 : getLoop L s2 = some ({ r with state := .busy }, s2) := by unfold getLoop; rw [h5]
  have b1 : setB L (.obj (.loop { r with state := .busy })) s1 = some ((), setL s1 L { r with state := .busy }) := by unfold setB; rw [h2]; rfl
  have b2 : setB L (.obj (.loop (afterRound r e2))) s2 = some ((), setL s2 L (afterRound r e2)) := by unfold setB; rw [h5]; rfl
  unfold round
  simp only [bnd, g, if_pos ha, evCode_le (Nat.le_max_left k k2) _ _ _ _ _ h1]
  unfold roundBody
  simp only [bnd, g1, if_pos hr, b1, evCode_le (Nat.le_max_right k k2) _ _ _ _ _ h3]
  unfold endRound
  simp only [if_pos h4, bnd, g2]
  have e0 : ({ r with state := if (jumpOf e2).isNone then .ready else .done, pending := jumpOf e2 } : Loop) = afterRound r e2 := rfl
  simp only [e0, b2, ret]

/-- A loop over a function, outside of any other. -/
theorem Ends.rangeFn {T : Tab} {f0 : FuncId} {f : Operand} {ps : Array Tmp} {as bd : Code} {fr : Fr} {s : St} {Q : Ex → Fr → St → Prop} {g : FuncId} {a c : Array Value} (hf : fr.eval f = .func (.func g) a c)
    (h : ∀ d L : Nat, d = s.next → L = s.next + 1 → ∀ s1 : St, s1.next = s.next + 2 → s1.mods = s.mods → (∀ M, M < s.next → s1.t.get M = s.t.get M) → s1.t.get d = some (.obj (.deferred (some []))) → s1.t.get L = some (.obj (.loop ⟨.ready, none, f0, ⟨fr.tmps⟩, ps, as, bd, d⟩)) →
      EndsCall T g (a.toList ++ [.func (.yield L) #[] #[]] ++ c.toList) s1 fun _ s2 => ∃ r : Loop, s2.t.get L = some (.obj (.loop r)) ∧ r.state ≠ .busy ∧
        match r.pending with
        | none => Q .normal ⟨fr.tmps, d :: fr.defers⟩ (setL s2 L { r with state := .exhausted })
        | some .ret => Q .ret ⟨fr.tmps, d :: fr.defers⟩ (setL s2 L { r with state := .exhausted })
        | some (.exit id) => Q (.exit id) ⟨fr.tmps, d :: fr.defers⟩ (setL s2 L { r with state := .exhausted })
        | some _ => False) : Ends T ⟨f0, none⟩ (.rangeFunc f ps as bd) fr s Q := by
  have hs1 := h s.next (s.next + 1) rfl rfl ⟨(s.t.set s.next (some (.obj (.deferred (some []))))).set (s.next + 1) (some (.obj (.loop ⟨.ready, none, f0, ⟨fr.tmps⟩, ps, as, bd, s.next⟩))), s.next + 2, s.mods⟩ rfl rfl
    (fun M hM => by show (Tree.set (Tree.set _ _ _) _ _).get M = _; rw [Tree.get_set_ne _ _ (by omega), Tree.get_set_ne _ _ (by omega)])
    (by show (Tree.set (Tree.set _ _ _) _ _).get _ = _; rw [Tree.get_set_ne _ _ (by omega), Tree.get_set_same]) (Tree.get_set_same _ _ _)
  obtain ⟨k, v, s2, h1, ⟨rst, pd, rfn, rtm, rps, ras, rbd, rdf⟩, h2, h3, h4⟩ := hs1
  generalize hr : (⟨rst, pd, rfn, rtm, rps, ras, rbd, rdf⟩ : Loop) = r at h2 h3 h4
  have hg : getLoop (s.next + 1) s2 = some (r, s2) := by unfold getLoop; rw [h2]
  have hb : setB (s.next + 1) (.obj (.loop { r with state := .exhausted })) s2 = some ((), setL s2 (s.next + 1) { r with state := .exhausted }) := by unfold setB; rw [h2]; rfl
  have run : evCode T (k + 1) ⟨f0, none⟩ (.rangeFunc f ps as bd) fr s = endLoop (s.next + 1) ⟨fr.tmps, s.next :: fr.defers⟩ s2 := by
    show (bnd (deferBlock ⟨f0, none⟩ fr) fun q => bnd (newB _) fun l => bnd (callValue T (evCode T k) (fr.eval f) [.func (.yield l) #[] #[]]) fun _ => endLoop l { fr with defers := q.2 }) s = _
    have h1' : enter T (evCode T k) g (a.toList ++ [.func (.yield (s.next + 1)) #[] #[]] ++ c.toList) ⟨(s.t.set s.next (some (.obj (.deferred (some []))))).set (s.next + 1) (some (.obj (.loop ⟨.ready, none, f0, ⟨fr.tmps⟩, ps, as, bd, s.next⟩))), s.next + 2, s.mods⟩ = some (v, s2) := h1
    unfold deferBlock
    simp only [bnd, newB, hf, callValue]
    dsimp only [Ev.ret]
    simp only [h1']
  have fin : ∀ (e : Ex), endLoop (s.next + 1) ⟨fr.tmps, s.next :: fr.defers⟩ s2 = some ((e, ⟨fr.tmps, s.next :: fr.defers⟩), setL s2 (s.next + 1) { r with state := .exhausted }) → Q e ⟨fr.tmps, s.next :: fr.defers⟩ (setL s2 (s.next + 1) { r with state := .exhausted }) → Ends T ⟨f0, none⟩ (.rangeFunc f ps as bd) fr s Q := fun e h5 h6 => ⟨k + 1, e, _, _, run.trans h5, h6⟩
  have hE : endLoop (s.next + 1) ⟨fr.tmps, s.next :: fr.defers⟩ s2 = (match r.pending with
      | none => Ev.ret ((Ex.normal, ⟨fr.tmps, s.next :: fr.defers⟩) : Ex × Fr)
      | some .ret => Ev.ret (Ex.ret, ⟨fr.tmps, s.next :: fr.defers⟩)
      | some (.exit id) => Ev.ret (Ex.exit id, ⟨fr.tmps, s.next :: fr.defers⟩)
      | some _ => fail : M (Ex × Fr)) (setL s2 (s.next + 1) { r with state := .exhausted }) := by
    unfold endLoop
    simp only [bnd, hg]
    rw [if_neg h3]
    simp only [bnd, hb]
    rfl
  subst hr
  cases pd with
  | none => exact fin .normal (hE.trans rfl) h4
  | some c =>
    cases c with
    | ret => exact fin .ret (hE.trans rfl) h4
    | exit id => exact fin (.exit id) (hE.trans rfl) h4
    | _ => exact h4.elim
/-- A function whose result lies in a cell, that has gone through one loop over a function. -/
theorem EndsCall.cell1 {T : Tab} {f : FuncId} {n : Nat} {body : Code} {a : Tmp} {t : TypeId} {args : List Value} {fr0 : Fr} {s : St} {Q : Value → St → Prop} {d : TypeDesc} (hF : T.fn f = some ⟨n, body, [ResultVar.cell a t]⟩) (hd : T.und t = some d) (hda : isAggD d = false) (h0 : (⟨args ++ List.replicate (n - args.length) undef, []⟩ : Fr) = fr0)
    (h : Ends T ⟨f, none⟩ body fr0 s fun e fr s1 => isExit e = false ∧ (fr.defers = [] ∨ ∃ D, fr.defers = [D] ∧ s1.t.get D = some (.obj (.deferred (some [])))) ∧ ∃ N vs el hi v, fr.tmps.getD a undef = .pointer (some ⟨N, 0, none⟩) ∧ s1.t.get N = some (.cells vs el hi) ∧ vs[0]? = some v ∧
      ∀ s2 : St, Q v s2) : EndsCall T f args s Q := by
  subst h0
  refine EndsCall.of hF (h.mono fun e fr s1 ⟨h1, h2, N, vs, el, hi, v, h3, h4, h5, h6⟩ => ?_)
  have res : ∀ s3 : St, s3.t.get N = some (.cells vs el hi) → (bnd (results T fr.tmps [ResultVar.cell a t]) fun vs => ret (valOf vs)) s3 = some (v, s3) := fun s3 h7 => by
    simp only [results, h3, bnd, loadVar, rowOf, h7, hd, hda, h5, ret, Bool.false_eq_true, if_false, valOf]
  have hne : e = .normal ∨ e = .ret := by
    cases e with
    | exit id => cases h1
    | normal => exact .inl rfl
    | ret => exact .inr rfl
  rcases h2 with h2 | ⟨D, h2, hD⟩
  · refine ⟨v, s1, ?_, h6 { s1 with mods := newMods s s1 ++ s.mods }⟩
    rcases hne with rfl | rfl <;> (unfold finishCall; simp only [h2, takeDefers, bnd, ret]; exact res s1 h4)
  · have hND : N ≠ D := fun h => by rw [h, hD] at h4; cases h4
    have hset : setB D (.obj (.deferred none)) s1 = some ((), { s1 with t := s1.t.set D (some (.obj (.deferred none))), mods := D :: s1.mods }) := by unfold setB; rw [hD]
    have ht : takeDefers [D] s1 = some ((), { s1 with t := s1.t.set D (some (.obj (.deferred none))), mods := D :: s1.mods }) := by
      unfold takeDefers; simp only [hD, bnd, hset]; rfl
    refine ⟨v, { s1 with t := s1.t.set D (some (.obj (.deferred none))), mods := D :: s1.mods }, ?_, h6 _⟩
    rcases hne with rfl | rfl <;> (unfold finishCall; simp only [h2, bnd, ht]; exact res _ ((Tree.get_set_ne _ _ hND).trans h4))
end Go.Ev
