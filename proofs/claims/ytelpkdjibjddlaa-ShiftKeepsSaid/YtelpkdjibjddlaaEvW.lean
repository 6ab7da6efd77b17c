/-
  EV, PART W: code: what the evaluator finds, the machine does.
-/
import Derived.Test.YtelpkdjibjddlaaEvV
set_option linter.unusedSimpArgs false
set_option linter.unusedVariables false
namespace Go.Ev
open Go Go.RowKit

def codeOk (G : Nat) : Code → Bool
  | .skip | .exit _ | .ret => true
  | .region _ ops draw => opsOk G ops && (!draw || drawStatic ops)
  | .seq a b => codeOk G a && codeOk G b
  | .cond c a b => operandOk G c && (codeOk G a && codeOk G b)
  | .block _ b | .loop b => codeOk G b
  | .rangeFunc f _ a b => operandOk G f && (codeOk G a && codeOk G b)
  | _ => true

section
variable {P : Program} {fc : Frame} {cs : List Frame} {w w' : World} {k : List Item}

theorem st_enterLoop {f : Operand} {params : Array Tmp} {assign body : Code} {l : Nat} {mark : List Deferred} (hm : fc.mode = .run) (ht : fc.todo = .code (.rangeFunc f params assign body) :: k)
    (he : (Instr.enterLoop fc.fn fc.tmps params assign body fc.roundOf).run P w = .ok (l, mark) w') :
    (stepG P true { frame := fc, callers := cs, status := .running, dying := none } w).bare =
      (stepG.apply P true { fc with todo := .inRangeFunc l :: k, defers := mark ++ fc.defers } cs none (do let d ← Deferred.ofValue (fc.eval f) ⟨[.func (.yield l) #[] #[]]⟩; invoke d.target d.args) w').bare := by
  cases fc with
  | mk fn tmps todo defers mode kind roundOf =>
    simp only at hm ht he
    subst hm ht
    simp only [stepG, stepG.exec, Sem.runT_eq, he, GStep.bare_after]
    have e : (Frame.mk fn tmps (.inRangeFunc l :: k) (mark ++ defers) .run kind roundOf).eval f = (Frame.mk fn tmps (.code (.rangeFunc f params assign body) :: k) defers .run kind roundOf).eval f := by cases f <;> rfl
    have e2 : (#[Operand.const (Value.func (Fn.yield l) #[] #[])] : Array Operand).map (Frame.mk fn tmps (.inRangeFunc l :: k) (mark ++ defers) .run kind roundOf).eval = ⟨[.func (.yield l) #[] #[]]⟩ := by
      apply Array.ext'
      simp [Frame.eval]
    simp only [resolve, e, e2]
end

theorem Logs.deferBlock (cx : Ctx) (fr : Fr) : Logs (Ev.deferBlock cx fr) := by
  unfold Ev.deferBlock
  split
  · exact .bnd (.getLoop _) fun _ => .ret _
  · exact .bnd (.newB _) fun _ => .ret _
theorem Logs.endLoop (l : Nat) (fr : Fr) : Logs (Ev.endLoop l fr) := by
  unfold Ev.endLoop
  refine .bnd (.getLoop _) fun r => .ite .fail (.bnd (.setB _ _) fun _ => ?_)
  split
  · exact .ret _
  · exact .ret _
  · exact .ret _
  · exact .fail

theorem Logs.drawOne {T : Tab} {rec : RunCode} (hLg : ∀ cx c fr, Logs (rec cx c fr)) (bits : Nat) (ds : List (Nat × Did)) (fr : Fr) (o : Oper) : Logs (Ev.drawOne T rec bits ds fr o) := fun s p s' h => by
  obtain ⟨v, d⟩ := p
  obtain ⟨a, b, g⟩ := drawOne_some hLg h
  have hm : s'.mods = d.mods ++ s.mods := by
    unfold Ev.drawOne at h
    split at h
    · cases h
    · split at h
      · simp only [Option.some.injEq, Prod.mk.injEq] at h
        obtain ⟨⟨rfl, rfl⟩, rfl⟩ := h
        rfl
      · cases h
  refine ⟨by rw [← g.lo, ← g.hi]; exact g.shown.le, d.mods, hm, fun N hN => ?_⟩
  rw [g.heap N] at hN
  by_cases ht : d.touch N = true
  · rcases Did.touch_iff.1 ht with h1 | h1
    · exact .inl h1
    · rw [g.lo, g.hi] at h1; exact .inr h1
  · rw [if_neg ht] at hN; exact absurd rfl hN

theorem Logs.evDraw {T : Tab} {rec : RunCode} (hLg : ∀ cx c fr, Logs (rec cx c fr)) (ops : Array Oper) (bef : List Nat) : ∀ (os : List Oper) (i : Nat) (ds : List (Nat × Did)) (fr : Fr), Logs (Ev.evDraw T rec ops bef i os ds fr)
  | [], i, ds, fr => .ret _
  | o :: os, i, ds, fr => by
    unfold Ev.evDraw
    split
    · exact .bnd (.drawOne hLg _ _ _ _) fun _ => Logs.evDraw hLg ops bef os _ _ _
    · exact Logs.evDraw hLg ops bef os _ _ _

theorem Logs.evCode {T : Tab} : ∀ (k : Nat) (cx : Ctx) (c : Code) (fr : Fr), Logs (Ev.evCode T k cx c fr)
  | 0, cx, c, fr => .fail
  | k + 1, cx, c, fr => by
    have ih := fun cx c fr => Logs.evCode (T := T) k cx c fr
    unfold Ev.evCode
    split
    · exact .ret _
    · refine .bnd ?_ fun _ => .ret _
      unfold Ev.evRegion
      split
      · exact .evDraw ih _ _ _ _ _ _
      · exact .evOps ih _ _ _
    · refine .bnd (ih _ _ _) fun p => ?_
      split
      · exact ih _ _ _
      · exact .ret _
    · split
      · exact ih _ _ _
      · exact .fail
    · exact .bnd (ih _ _ _) fun _ => .ret _
    · refine .bnd (ih _ _ _) fun p => ?_
      split
      · exact ih _ _ _
      · exact .ret _
    · exact .ret _
    · exact .ret _
    · exact .bnd (.deferBlock _ _) fun _ => .bnd (.newB _) fun _ => .bnd (.callValue ih _ _) fun _ => .endLoop _ _
    · exact .fail

section
variable {T : Tab} {P : Program} (hT : T.Ok P) (hF : T.Fns P fun c => codeOk T.globs c = true) (hmix : P.follows .mixedOrders = true)
include hT hF hmix

/-- A loop, its body next. -/
def LoopSim (T : Tab) (P : Program) (ok : Code → Prop) (rec : RunCode) : Prop :=
  ∀ cx b fr s e fr' s', rec cx (.loop b) fr s = some ((e, fr'), s') → ok (.loop b) → ∀ (φ : Phi) (B : Base) (w : World) (fc : Frame) (cs : List Frame) (K : List Item), B.sz = P.cellsOf → B.code = ok → Rel φ B s.t.get w → Fresh φ s.next s'.next → GRel φ T.globs →
    FRel φ fr cx fc → fc.todo = .code b :: .inLoop b :: K →
    ∃ φ' w' fc', Aft P B φ s w φ' s' w' ∧ FRel φ' fr' cx fc' ∧ Steps P (lone fc cs w) (lone fc' cs w') ∧ Left e K fc'.todo

omit hT hF hmix in
theorem Left.skip {e : Ex} {it : Item} {K todo : List Item} (h : Left e (it :: K) todo) (he : e ≠ .normal) (hit : ∀ id, it ≠ .inBlock id) : Left e K todo := by
  cases e with
  | normal => exact absurd rfl he
  | ret => exact h
  | exit id =>
    obtain ⟨K', h1, h2⟩ := h
    refine ⟨K', h1, h2.trans ?_⟩
    cases it <;> first
      | rfl
      | exact absurd rfl (hit _)

theorem sim_rangeFunc {rec : RunCode} (hC : CodeSim T P (fun c => codeOk T.globs c = true) rec) (hLg : ∀ cx c fr, Logs (rec cx c fr)) {cx : Ctx} {f : Operand} {params : Array Tmp} {assign body : Code} {fr : Fr} {s : St} {e : Ex} {fr' : Fr} {s' : St}
    (h : (bnd (deferBlock cx fr) fun q => bnd (newB (.obj (.loop { state := .ready, pending := none, fn := cx.fn, tmps := ⟨fr.tmps⟩, params, assign, body, defers := q.1 }))) fun l =>
      bnd (callValue T rec (fr.eval f) [.func (.yield l) #[] #[]]) fun _ => endLoop l { fr with defers := q.2 }) s = some ((e, fr'), s'))
    (hok : codeOk T.globs (.rangeFunc f params assign body) = true) {φ : Phi} {B : Base} {w : World} {fc : Frame} (cs : List Frame) {K : List Item} (hBz : B.sz = P.cellsOf) (hBc : B.code = fun c => codeOk T.globs c = true) (hR : Rel φ B s.t.get w) (hf : Fresh φ s.next s'.next) (hG : GRel φ T.globs)
    (hfr : FRel φ fr cx fc) (ht : fc.todo = .code (.rangeFunc f params assign body) :: K) :
    ∃ φ' w' fc', Aft P B φ s w φ' s' w' ∧ FRel φ' fr' cx fc' ∧ Steps P (lone fc cs w) (lone fc' cs w') ∧ Left e K fc'.todo := by
  have _ := hmix
  simp only [codeOk, Bool.and_eq_true] at hok
  obtain ⟨hof, hoa, hob⟩ := hok
  obtain ⟨q, s1, h1, h2⟩ := bnd_some h
  obtain ⟨l, s2, h3, h4⟩ := bnd_some h2
  obtain ⟨u, s3, h5, h6⟩ := bnd_some h4
  have n1 := (Logs.deferBlock cx fr _ _ _ h1).1
  have n2 := (Logs.newB _ _ _ _ h3).1
  have n3 := (Logs.callValue hLg _ _ _ _ _ h5).1
  have n4 := (Logs.endLoop _ _ _ _ _ h6).1
  -- the block for deferred calls
  have A : ∃ φ1 w1 d' mark, Aft P B φ s w φ1 s1 w1 ∧ (∃ L, φ1 q.1 = some L ∧ L.blk = d') ∧ DRel φ1 q.2 (mark ++ fc.defers) ∧
      ∀ r : Nat → Loop, (Instr.enterLoop fc.fn fc.tmps params assign body fc.roundOf).run P w = (do pure (← newObj (.loop { state := .ready, pending := none, fn := fc.fn, tmps := fc.tmps, params, assign, body, defers := d' }), mark) : Sem (Nat × List Deferred)).run P w1 := by
    unfold deferBlock at h1
    have hro := hfr.round
    cases hcr : cx.round with
    | some l0 =>
      rw [hcr] at h1 hro
      obtain ⟨r, s9, k1, k2⟩ := bnd_some h1
      obtain ⟨hl, rfl⟩ := getLoop_some k1
      obtain ⟨rfl, rfl⟩ := ret_some k2
      cases hfo : fc.roundOf with
      | none => rw [hfo] at hro; exact hro.elim
      | some l0' =>
        rw [hfo] at hro
        obtain ⟨L0, m1, m2⟩ := hro
        obtain ⟨L, r', hL, hw, _, _, hO⟩ := loop_of hR hl
        rw [m1] at hL; cases hL
        obtain ⟨_, _, _, _, _, _, _, o8, _, _⟩ := hO
        refine ⟨φ, w, r'.defers, [], .refl hR, o8, hfr.defers, fun _ => ?_⟩
        rw [← m2]
        simp [Instr.enterLoop, run_getLoop hw]
    | none =>
      rw [hcr] at h1 hro
      obtain ⟨d, s9, k1, k2⟩ := bnd_some h1
      obtain ⟨rfl, rfl⟩ := newB_some k1
      obtain ⟨rfl, rfl⟩ := ret_some k2
      cases hfo : fc.roundOf with
      | some l0' => rw [hfo] at hro; exact hro.elim
      | none =>
        have hn : φ s.next = none := hf _ (Nat.le_refl _) (by simp only at n2 n3 n4; omega)
        have hRn := hR.new hn (.obj (.deferred (some []))) (.deferred (some [])) ⟨w.heap.size, 0, 0⟩ rfl ⟨_, heap_alloc_new _ _, trivial, hR.newOk, rfl⟩
        refine ⟨φ.add s.next ⟨w.heap.size, 0, 0⟩, w.alloc (.deferred (some [])), w.heap.size, [{ target := .collected w.heap.size, args := #[] }], ⟨Nat.le_succ _, .add _ hn hR.newOk, by simp only; rw [get_upd]; exact hRn, (Keeps.alloc φ _ w _).weak hR⟩, ⟨_, Phi.add_same _ _ _, rfl⟩, ?_, fun _ => ?_⟩
        · exact .cons (L := ⟨w.heap.size, 0, 0⟩) (Phi.add_same _ _ _) (hfr.defers.mono (Phi.le_add _ hn))
        · simp [Instr.enterLoop]
  obtain ⟨φ1, w1, d', mark, a1, a2, a3, a4⟩ := A
  obtain ⟨rfl, rfl⟩ := newB_some h3
  have hf1 := a1.fresh hf
  have hn1 : φ1 s1.next = none := hf1 _ (Nat.le_refl _) (by simp only at n3 n4; omega)
  have hle := Phi.le_add (φ := φ1) (n := s1.next) ⟨w1.heap.size, 0, 0⟩ hn1
  have hO : ORel B.code (φ1.add s1.next ⟨w1.heap.size, 0, 0⟩) (.loop { state := .ready, pending := none, fn := cx.fn, tmps := ⟨fr.tmps⟩, params, assign, body, defers := q.1 }) (.loop { state := .ready, pending := none, fn := fc.fn, tmps := fc.tmps, params, assign, body, defers := d' }) := by
    obtain ⟨L, m1, m2⟩ := a2
    refine ⟨rfl, rfl, hfr.fn.symm, (hfr.tmps.mono a1.grows.1).mono hle, rfl, rfl, rfl, ⟨L, hle _ _ m1, m2⟩, ?_, ?_⟩
    · rw [hBc]; exact hoa
    · rw [hBc]; exact hob
  have hRn := a1.rel.new hn1 (.obj (.loop { state := .ready, pending := none, fn := cx.fn, tmps := ⟨fr.tmps⟩, params, assign, body, defers := q.1 })) (.loop { state := .ready, pending := none, fn := fc.fn, tmps := fc.tmps, params, assign, body, defers := d' }) ⟨w1.heap.size, 0, 0⟩ rfl ⟨_, heap_alloc_new _ _, hO, a1.rel.newOk, rfl⟩
  have a5 : Aft P B φ1 s1 w1 (φ1.add s1.next ⟨w1.heap.size, 0, 0⟩) { s1 with t := s1.t.set s1.next (some (.obj (.loop { state := .ready, pending := none, fn := cx.fn, tmps := ⟨fr.tmps⟩, params, assign, body, defers := q.1 }))), next := s1.next + 1 }
      (w1.alloc (.loop { state := .ready, pending := none, fn := fc.fn, tmps := fc.tmps, params, assign, body, defers := d' })) :=
    ⟨Nat.le_succ _, .add _ hn1 a1.rel.newOk, by simp only; rw [get_upd]; exact hRn, (Keeps.alloc φ1 _ w1 _).weak a1.rel⟩
  have a6 := a1.trans a5
  have hrun : (Instr.enterLoop fc.fn fc.tmps params assign body fc.roundOf).run P w = .ok (w1.heap.size, mark) (w1.alloc (.loop { state := .ready, pending := none, fn := fc.fn, tmps := fc.tmps, params, assign, body, defers := d' })) := by
    rw [a4 fun _ => { state := .ready, pending := none, fn := fc.fn, tmps := fc.tmps, params, assign, body, defers := d' }]
    simp
  have hfr2 : FRel (φ1.add s1.next ⟨w1.heap.size, 0, 0⟩) ⟨fr.tmps, q.2⟩ cx { fc with todo := .inRangeFunc w1.heap.size :: K, defers := mark ++ fc.defers } :=
    ⟨hfr.fn, hfr.mode, hfr.kind, hfr.round.mono a6.grows.1, hfr.tmps.mono a6.grows.1, a3.mono hle⟩
  have hstep := st_enterLoop (P := P) (cs := cs) hfr.mode ht hrun
  have hfv : VRel (φ1.add s1.next ⟨w1.heap.size, 0, 0⟩) (fr.eval f) (fc.eval f) := eval_rel (ds := fr.defers) (hfr.tmps.mono a6.grows.1) (hG.mono a6.grows.1) hof
  have hay : LRel (φ1.add s1.next ⟨w1.heap.size, 0, 0⟩) [.func (.yield s1.next) #[] #[]] [.func (.yield w1.heap.size) #[] #[]] := .one (.yield (L := ⟨w1.heap.size, 0, 0⟩) (Phi.add_same _ _ _))
  obtain ⟨φ3, w3, v', b1, b2, f1, cs1, w2, b3, b4⟩ := sim_callValue hT hF hC hLg hBz hBc a6.rel ((a6.fresh hf).sub (Nat.le_refl _) n4) (hG.mono a6.grows.1) hfv hay h5 { fc with todo := .inRangeFunc w1.heap.size :: K, defers := mark ++ fc.defers } cs rfl
  have hgo := step_lone_go (hstep.trans b3)
  -- the loop ends
  unfold endLoop at h6
  obtain ⟨r, s9, k1, k2⟩ := bnd_some h6
  obtain ⟨hl, rfl⟩ := getLoop_some k1
  split at k2
  · cases k2
  · rename_i hnb
    obtain ⟨_, s10, k3, k4⟩ := bnd_some k2
    obtain ⟨_, rfl⟩ := setB_some k3
    obtain ⟨L, r', hL, hw3, hoff, hnk, hO3⟩ := loop_of b1.rel hl
    have hL' := b1.grows.1 _ _ (Phi.add_same φ1 s1.next ⟨w1.heap.size, 0, 0⟩)
    rw [hL'] at hL; cases hL
    obtain ⟨p1, p2, p3, p4, p5, p6, p7, p8, p9, p10⟩ := hO3
    obtain ⟨d1, d2⟩ := putLoop_rel (r2 := { r with state := .exhausted }) (r2' := { r' with state := .exhausted }) b1.rel hl hL' hnk hoff ⟨rfl, p2, p3, p4, p5, p6, p7, p8, p9, p10⟩
    have hfr3 : FRel φ3 ⟨fr.tmps, q.2⟩ cx ({ fc with todo := .inRangeFunc w1.heap.size :: K, defers := mark ++ fc.defers } : Frame) := hfr2.mono b1.grows.1
    have hfin : ({ fc with todo := .inRangeFunc w1.heap.size :: K, defers := mark ++ fc.defers } : Frame).finish v' = { fc with todo := .endRangeFunc w1.heap.size :: K, defers := mark ++ fc.defers } := rfl
    rw [hfin] at b4
    have hend := st_endRange (P := P) (fc := { fc with todo := .endRangeFunc w1.heap.size :: K, defers := mark ++ fc.defers }) (cs := cs) (k := K) hfr.mode rfl hw3 (by rw [← p1]; exact hnb)
    have hA : Aft P B φ s w φ3 { s9 with t := s9.t.set s1.next (some (.obj (.loop { r with state := .exhausted }))), mods := s1.next :: s9.mods } (putLoop w3 w1.heap.size { r' with state := .exhausted }) :=
      a6.trans (b1.trans ⟨Nat.le_refl _, .refl _ _ _, by simp only; rw [get_upd]; exact d1, d2⟩)
    have fin : ∀ todo, FRel φ3 ⟨fr.tmps, q.2⟩ cx { fc with todo := todo, defers := mark ++ fc.defers } := fun todo => ⟨hfr3.fn, hfr3.mode, hfr3.kind, hfr3.round, hfr3.tmps, hfr3.defers⟩
    have hsteps := Steps.head hgo (b4.trans (Steps.one hend))
    have key : s' = { s9 with t := s9.t.set s1.next (some (.obj (.loop { r with state := .exhausted }))), mods := s1.next :: s9.mods } ∧ fr' = ⟨fr.tmps, q.2⟩ ∧
        ((r.pending = none ∧ e = .normal) ∨ (r.pending = some .ret ∧ e = .ret) ∨ ∃ id, r.pending = some (.exit id) ∧ e = .exit id) := by
      generalize r.pending = pd at k4
      cases pd with
      | none => obtain ⟨hx, rfl⟩ := ret_some k4; cases hx; exact ⟨rfl, rfl, .inl ⟨rfl, rfl⟩⟩
      | some c =>
        cases c <;> first
          | (cases k4; done)
          | (obtain ⟨hx, rfl⟩ := ret_some k4; cases hx; exact ⟨rfl, rfl, .inr (.inl ⟨rfl, rfl⟩)⟩)
          | (obtain ⟨hx, rfl⟩ := ret_some k4; cases hx; exact ⟨rfl, rfl, .inr (.inr ⟨_, rfl, rfl⟩)⟩)
    obtain ⟨rfl, rfl, hk⟩ := key
    refine ⟨φ3, _, _, hA, fin _, hsteps, ?_⟩
    rw [p2] at hk
    rcases hk with ⟨hp, rfl⟩ | ⟨hp, rfl⟩ | ⟨id, hp, rfl⟩
    · simp only [hp]; rfl
    · simp only [hp]; exact ⟨K, rfl⟩
    · simp only [hp]; exact ⟨K, rfl, rfl⟩

end
end Go.Ev
