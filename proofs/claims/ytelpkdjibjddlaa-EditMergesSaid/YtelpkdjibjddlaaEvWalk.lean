/-
  EV, PART W: code: what the evaluator finds, the machine does.
-/
import Derived.Test.YtelpkdjibjddlaaEvV
import Derived.Below
import GoSem.Extern.Table
import Derived.KernelRfl
namespace Go.Ev
open Go Go.RowKit

def codeOk (G : Nat) : Code → Bool
  | .skip | .exit _ | .ret => true
  | .region _ ops draw => opsOk G ops && (!draw || drawStatic ops)
  | .seq a b => codeOk G a && codeOk G b
  | .cond c a b => operandOk G c && (codeOk G a && codeOk G b)
  | .block _ b | .loop b => codeOk G b
  | .rangeFunc f _ a b => operandOk G f && (codeOk G a && codeOk G b)
  | _ => true

section
variable {P : Program} {fc : Frame} {cs : List Frame} {w w' : World} {k : List Item}

theorem st_enterLoop {f : Operand} {params : Array Tmp} {assign body : Code} {l : Nat} {mark : List Deferred} (hm : fc.mode = .run) (ht : fc.todo = .code (.rangeFunc f params assign body) :: k)
    (he : (Instr.enterLoop fc.fn fc.tmps params assign body fc.roundOf).run P w = .ok (l, mark) w') :
    (stepG P true { frame := fc, callers := cs, status := .running, dying := none } w).bare =
      (stepG.apply P true { fc with todo := .inRangeFunc l :: k, defers := mark ++ fc.defers } cs none (do let d ← Deferred.ofValue (fc.eval f) ⟨[.func (.yield l) #[] #[]]⟩; invoke d.target d.args) w').bare := by
  cases fc with
  | mk fn tmps todo defers mode kind roundOf =>
    simp only at hm ht he
    subst hm ht
    simp only [stepG, stepG.exec, Sem.runT_eq, he, GStep.bare_after]
    have e : (Frame.mk fn tmps (.inRangeFunc l :: k) (mark ++ defers) .run kind roundOf).eval f = (Frame.mk fn tmps (.code (.rangeFunc f params assign body) :: k) defers .run kind roundOf).eval f := by cases f <;> rfl
    have e2 : (#[Operand.const (Value.func (Fn.yield l) #[] #[])] : Array Operand).map (Frame.mk fn tmps (.inRangeFunc l :: k) (mark ++ defers) .run kind roundOf).eval = ⟨[.func (.yield l) #[] #[]]⟩ := by
      apply Array.ext'
      simp [Frame.eval]
    simp only [resolve, e, e2]
end

theorem Logs.deferBlock (cx : Ctx) (fr : Fr) : Logs (Ev.deferBlock cx fr) := by
  unfold Ev.deferBlock
  split
  · exact .bnd (.getLoop _) fun _ => .ret _
  · exact .bnd (.newB _) fun _ => .ret _
theorem Logs.endLoop (l : Nat) (fr : Fr) : Logs (Ev.endLoop l fr) := by
  unfold Ev.endLoop
  refine .bnd (.getLoop _) fun r => .ite .fail (.bnd (.setB _ _) fun _ => ?_)
  split
  · exact .ret _
  · exact .ret _
  · exact .ret _
  · exact .fail

theorem Logs.drawOne {T : Tab} {rec : RunCode} (hLg : ∀ cx c fr, Logs (rec cx c fr)) (bits : Nat) (ds : List (Nat × Did)) (fr : Fr) (o : Oper) : Logs (Ev.drawOne T rec bits ds fr o) := fun s p s' h => by
  obtain ⟨v, d⟩ := p
  obtain ⟨a, b, g⟩ := drawOne_some hLg h
  have hm : s'.mods = d.mods ++ s.mods := by
    unfold Ev.drawOne at h
    split at h
    · cases h
    · split at h
      · simp only [Option.some.injEq, Prod.mk.injEq] at h
        obtain ⟨⟨rfl, rfl⟩, rfl⟩ := h
        rfl
      · cases h
  refine ⟨by rw [← g.lo, ← g.hi]; exact g.shown.le, d.mods, hm, fun N hN => ?_⟩
  rw [g.heap N] at hN
  by_cases ht : d.touch N = true
  · rcases Did.touch_iff.1 ht with h1 | h1
    · exact .inl h1
    · rw [g.lo, g.hi] at h1; exact .inr h1
  · rw [if_neg ht] at hN; exact absurd rfl hN

theorem Logs.evDraw {T : Tab} {rec : RunCode} (hLg : ∀ cx c fr, Logs (rec cx c fr)) (ops : Array Oper) (bef : List Nat) : ∀ (os : List Oper) (i : Nat) (ds : List (Nat × Did)) (fr : Fr), Logs (Ev.evDraw T rec ops bef i os ds fr)
  | [], i, ds, fr => .ret _
  | o :: os, i, ds, fr => by
    unfold Ev.evDraw
    split
    · exact .bnd (.drawOne hLg _ _ _ _) fun _ => Logs.evDraw hLg ops bef os _ _ _
    · exact Logs.evDraw hLg ops bef os _ _ _

theorem Logs.evCode {T : Tab} : ∀ (k : Nat) (cx : Ctx) (c : Code) (fr : Fr), Logs (Ev.evCode T k cx c fr)
  | 0, cx, c, fr => .fail
  | k + 1, cx, c, fr => by
    have ih := fun cx c fr => Logs.evCode (T := T) k cx c fr
    unfold Ev.evCode
    split
    · exact .ret _
    · refine .bnd ?_ fun _ => .ret _
      unfold Ev.evRegion
      split
      · exact .evDraw ih _ _ _ _ _ _
      · exact .evOps ih _ _ _
    · refine .bnd (ih _ _ _) fun p => ?_
      split
      · exact ih _ _ _
      · exact .ret _
    · split
      · exact ih _ _ _
      · exact .fail
    · exact .bnd (ih _ _ _) fun _ => .ret _
    · refine .bnd (ih _ _ _) fun p => ?_
      split
      · exact ih _ _ _
      · exact .ret _
    · exact .ret _
    · exact .ret _
    · exact .bnd (.deferBlock _ _) fun _ => .bnd (.newB _) fun _ => .bnd (.callValue ih _ _) fun _ => .endLoop _ _
    · exact .fail

section
variable {T : Tab} {P : Program} (hT : T.Ok P) (hF : T.Fns P fun c => codeOk T.globs c = true) (hmix : P.follows .mixedOrders = true)
include hT hF hmix

/-- A loop, its body next. -/
def LoopSim (T : Tab) (P : Program) (ok : Code → Prop) (rec : RunCode) : Prop :=
  ∀ cx b fr s e fr' s', rec cx (.loop b) fr s = some ((e, fr'), s') → ok (.loop b) → ∀ (φ : Phi) (B : Base) (w : World) (fc : Frame) (cs : List Frame) (K : List Item), B.sz = P.cellsOf → B.code = ok → Rel φ B s.t.get w → Fresh φ s.next s'.next → GRel φ T.globs →
    FRel φ fr cx fc → fc.todo = .code b :: .inLoop b :: K →
    ∃ φ' w' fc', Aft P B φ s w φ' s' w' ∧ FRel φ' fr' cx fc' ∧ Steps P (lone fc cs w) (lone fc' cs w') ∧ Left e K fc'.todo

omit hT hF hmix in
theorem Left.skip {e : Ex} {it : Item} {K todo : List Item} (h : Left e (it :: K) todo) (he : e ≠ .normal) (hit : ∀ id, it ≠ .inBlock id) : Left e K todo := by
  cases e with
  | normal => exact absurd rfl he
  | ret => exact h
  | exit id =>
    obtain ⟨K', h1, h2⟩ := h
    refine ⟨K', h1, h2.trans ?_⟩
    cases it <;> first
      | rfl
      | exact absurd rfl (hit _)

theorem sim_rangeFunc {rec : RunCode} (hC : CodeSim T P (fun c => codeOk T.globs c = true) rec) (hLg : ∀ cx c fr, Logs (rec cx c fr)) {cx : Ctx} {f : Operand} {params : Array Tmp} {assign body : Code} {fr : Fr} {s : St} {e : Ex} {fr' : Fr} {s' : St}
    (h : (bnd (deferBlock cx fr) fun q => bnd (newB (.obj (.loop { state := .ready, pending := none, fn := cx.fn, tmps := ⟨fr.tmps⟩, params, assign, body, defers := q.1 }))) fun l =>
      bnd (callValue T rec (fr.eval f) [.func (.yield l) #[] #[]]) fun _ => endLoop l { fr with defers := q.2 }) s = some ((e, fr'), s'))
    (hok : codeOk T.globs (.rangeFunc f params assign body) = true) {φ : Phi} {B : Base} {w : World} {fc : Frame} (cs : List Frame) {K : List Item} (hBz : B.sz = P.cellsOf) (hBc : B.code = fun c => codeOk T.globs c = true) (hR : Rel φ B s.t.get w) (hf : Fresh φ s.next s'.next) (hG : GRel φ T.globs)
    (hfr : FRel φ fr cx fc) (ht : fc.todo = .code (.rangeFunc f params assign body) :: K) :
    ∃ φ' w' fc', Aft P B φ s w φ' s' w' ∧ FRel φ' fr' cx fc' ∧ Steps P (lone fc cs w) (lone fc' cs w') ∧ Left e K fc'.todo := by
  have _ := hmix
  simp only [codeOk, Bool.and_eq_true] at hok
  obtain ⟨hof, hoa, hob⟩ := hok
  obtain ⟨q, s1, h1, h2⟩ := bnd_some h
  obtain ⟨l, s2, h3, h4⟩ := bnd_some h2
  obtain ⟨u, s3, h5, h6⟩ := bnd_some h4
  have n1 := (Logs.deferBlock cx fr _ _ _ h1).1
  have n2 := (Logs.newB _ _ _ _ h3).1
  have n3 := (Logs.callValue hLg _ _ _ _ _ h5).1
  have n4 := (Logs.endLoop _ _ _ _ _ h6).1
  -- the block for deferred calls
  have A : ∃ φ1 w1 d' mark, Aft P B φ s w φ1 s1 w1 ∧ (∃ L, φ1 q.1 = some L ∧ L.blk = d') ∧ DRel φ1 q.2 (mark ++ fc.defers) ∧
      ∀ r : Nat → Loop, (Instr.enterLoop fc.fn fc.tmps params assign body fc.roundOf).run P w = (do pure (← newObj (.loop { state := .ready, pending := none, fn := fc.fn, tmps := fc.tmps, params, assign, body, defers := d' }), mark) : Sem (Nat × List Deferred)).run P w1 := by
    unfold deferBlock at h1
    have hro := hfr.round
    cases hcr : cx.round with
    | some l0 =>
      rw [hcr] at h1 hro
      obtain ⟨r, s9, k1, k2⟩ := bnd_some h1
      obtain ⟨hl, rfl⟩ := getLoop_some k1
      obtain ⟨rfl, rfl⟩ := ret_some k2
      cases hfo : fc.roundOf with
      | none => rw [hfo] at hro; exact hro.elim
      | some l0' =>
        rw [hfo] at hro
        obtain ⟨L0, m1, m2⟩ := hro
        obtain ⟨L, r', hL, hw, _, _, hO⟩ := loop_of hR hl
        rw [m1] at hL; cases hL
        obtain ⟨_, _, _, _, _, _, _, o8, _, _⟩ := hO
        refine ⟨φ, w, r'.defers, [], .refl hR, o8, hfr.defers, fun _ => ?_⟩
        rw [← m2]
        simp [Instr.enterLoop, run_getLoop hw]
    | none =>
      rw [hcr] at h1 hro
      obtain ⟨d, s9, k1, k2⟩ := bnd_some h1
      obtain ⟨rfl, rfl⟩ := newB_some k1
      obtain ⟨rfl, rfl⟩ := ret_some k2
      cases hfo : fc.roundOf with
      | some l0' => rw [hfo] at hro; exact hro.elim
      | none =>
        have hn : φ s.next = none := hf _ (Nat.le_refl _) (by simp only at n2 n3 n4; omega)
        have hRn := hR.new hn (.obj (.deferred (some []))) (.deferred (some [])) ⟨w.heap.size, 0, 0⟩ rfl ⟨_, heap_alloc_new _ _, trivial, hR.newOk, rfl⟩
        refine ⟨φ.add s.next ⟨w.heap.size, 0, 0⟩, w.alloc (.deferred (some [])), w.heap.size, [{ target := .collected w.heap.size, args := #[] }], ⟨Nat.le_succ _, .add _ hn hR.newOk, by simp only; rw [get_upd]; exact hRn, (Keeps.alloc φ _ w _).weak hR⟩, ⟨_, Phi.add_same _ _ _, rfl⟩, ?_, fun _ => ?_⟩
        · exact .cons (L := ⟨w.heap.size, 0, 0⟩) (Phi.add_same _ _ _) (hfr.defers.mono (Phi.le_add _ hn))
        · simp [Instr.enterLoop]
  obtain ⟨φ1, w1, d', mark, a1, a2, a3, a4⟩ := A
  obtain ⟨rfl, rfl⟩ := newB_some h3
  have hf1 := a1.fresh hf
  have hn1 : φ1 s1.next = none := hf1 _ (Nat.le_refl _) (by simp only at n3 n4; omega)
  have hle := Phi.le_add (φ := φ1) (n := s1.next) ⟨w1.heap.size, 0, 0⟩ hn1
  have hO : ORel B.code (φ1.add s1.next ⟨w1.heap.size, 0, 0⟩) (.loop { state := .ready, pending := none, fn := cx.fn, tmps := ⟨fr.tmps⟩, params, assign, body, defers := q.1 }) (.loop { state := .ready, pending := none, fn := fc.fn, tmps := fc.tmps, params, assign, body, defers := d' }) := by
    obtain ⟨L, m1, m2⟩ := a2
    refine ⟨rfl, rfl, hfr.fn.symm, (hfr.tmps.mono a1.grows.1).mono hle, rfl, rfl, rfl, ⟨L, hle _ _ m1, m2⟩, ?_, ?_⟩
    · rw [hBc]; exact hoa
    · rw [hBc]; exact hob
  have hRn := a1.rel.new hn1 (.obj (.loop { state := .ready, pending := none, fn := cx.fn, tmps := ⟨fr.tmps⟩, params, assign, body, defers := q.1 })) (.loop { state := .ready, pending := none, fn := fc.fn, tmps := fc.tmps, params, assign, body, defers := d' }) ⟨w1.heap.size, 0, 0⟩ rfl ⟨_, heap_alloc_new _ _, hO, a1.rel.newOk, rfl⟩
  have a5 : Aft P B φ1 s1 w1 (φ1.add s1.next ⟨w1.heap.size, 0, 0⟩) { s1 with t := s1.t.set s1.next (some (.obj (.loop { state := .ready, pending := none, fn := cx.fn, tmps := ⟨fr.tmps⟩, params, assign, body, defers := q.1 }))), next := s1.next + 1 }
      (w1.alloc (.loop { state := .ready, pending := none, fn := fc.fn, tmps := fc.tmps, params, assign, body, defers := d' })) :=
    ⟨Nat.le_succ _, .add _ hn1 a1.rel.newOk, by simp only; rw [get_upd]; exact hRn, (Keeps.alloc φ1 _ w1 _).weak a1.rel⟩
  have a6 := a1.trans a5
  have hrun : (Instr.enterLoop fc.fn fc.tmps params assign body fc.roundOf).run P w = .ok (w1.heap.size, mark) (w1.alloc (.loop { state := .ready, pending := none, fn := fc.fn, tmps := fc.tmps, params, assign, body, defers := d' })) := by
    rw [a4 fun _ => { state := .ready, pending := none, fn := fc.fn, tmps := fc.tmps, params, assign, body, defers := d' }]
    simp
  have hfr2 : FRel (φ1.add s1.next ⟨w1.heap.size, 0, 0⟩) ⟨fr.tmps, q.2⟩ cx { fc with todo := .inRangeFunc w1.heap.size :: K, defers := mark ++ fc.defers } :=
    ⟨hfr.fn, hfr.mode, hfr.kind, hfr.round.mono a6.grows.1, hfr.tmps.mono a6.grows.1, a3.mono hle⟩
  have hstep := st_enterLoop (P := P) (cs := cs) hfr.mode ht hrun
  have hfv : VRel (φ1.add s1.next ⟨w1.heap.size, 0, 0⟩) (fr.eval f) (fc.eval f) := eval_rel (ds := fr.defers) (hfr.tmps.mono a6.grows.1) (hG.mono a6.grows.1) hof
  have hay : LRel (φ1.add s1.next ⟨w1.heap.size, 0, 0⟩) [.func (.yield s1.next) #[] #[]] [.func (.yield w1.heap.size) #[] #[]] := .one (.yield (L := ⟨w1.heap.size, 0, 0⟩) (Phi.add_same _ _ _))
  obtain ⟨φ3, w3, v', b1, b2, f1, cs1, w2, b3, b4⟩ := sim_callValue hT hF hC hLg hBz hBc a6.rel ((a6.fresh hf).sub (Nat.le_refl _) n4) (hG.mono a6.grows.1) hfv hay h5 { fc with todo := .inRangeFunc w1.heap.size :: K, defers := mark ++ fc.defers } cs rfl
  have hgo := step_lone_go (hstep.trans b3)
  -- the loop ends
  unfold endLoop at h6
  obtain ⟨r, s9, k1, k2⟩ := bnd_some h6
  obtain ⟨hl, rfl⟩ := getLoop_some k1
  split at k2
  · cases k2
  · rename_i hnb
    obtain ⟨_, s10, k3, k4⟩ := bnd_some k2
    obtain ⟨_, rfl⟩ := setB_some k3
    obtain ⟨L, r', hL, hw3, hoff, hnk, hO3⟩ := loop_of b1.rel hl
    have hL' := b1.grows.1 _ _ (Phi.add_same φ1 s1.next ⟨w1.heap.size, 0, 0⟩)
    rw [hL'] at hL; cases hL
    obtain ⟨p1, p2, p3, p4, p5, p6, p7, p8, p9, p10⟩ := hO3
    obtain ⟨d1, d2⟩ := putLoop_rel (r2 := { r with state := .exhausted }) (r2' := { r' with state := .exhausted }) b1.rel hl hL' hnk hoff ⟨rfl, p2, p3, p4, p5, p6, p7, p8, p9, p10⟩
    have hfr3 : FRel φ3 ⟨fr.tmps, q.2⟩ cx ({ fc with todo := .inRangeFunc w1.heap.size :: K, defers := mark ++ fc.defers } : Frame) := hfr2.mono b1.grows.1
    have hfin : ({ fc with todo := .inRangeFunc w1.heap.size :: K, defers := mark ++ fc.defers } : Frame).finish v' = { fc with todo := .endRangeFunc w1.heap.size :: K, defers := mark ++ fc.defers } := rfl
    rw [hfin] at b4
    have hend := st_endRange (P := P) (fc := { fc with todo := .endRangeFunc w1.heap.size :: K, defers := mark ++ fc.defers }) (cs := cs) (k := K) hfr.mode rfl hw3 (by rw [← p1]; exact hnb)
    have hA : Aft P B φ s w φ3 { s9 with t := s9.t.set s1.next (some (.obj (.loop { r with state := .exhausted }))), mods := s1.next :: s9.mods } (putLoop w3 w1.heap.size { r' with state := .exhausted }) :=
      a6.trans (b1.trans ⟨Nat.le_refl _, .refl _ _ _, by simp only; rw [get_upd]; exact d1, d2⟩)
    have fin : ∀ todo, FRel φ3 ⟨fr.tmps, q.2⟩ cx { fc with todo := todo, defers := mark ++ fc.defers } := fun todo => ⟨hfr3.fn, hfr3.mode, hfr3.kind, hfr3.round, hfr3.tmps, hfr3.defers⟩
    have hsteps := Steps.head hgo (b4.trans (Steps.one hend))
    have key : s' = { s9 with t := s9.t.set s1.next (some (.obj (.loop { r with state := .exhausted }))), mods := s1.next :: s9.mods } ∧ fr' = ⟨fr.tmps, q.2⟩ ∧
        ((r.pending = none ∧ e = .normal) ∨ (r.pending = some .ret ∧ e = .ret) ∨ ∃ id, r.pending = some (.exit id) ∧ e = .exit id) := by
      generalize r.pending = pd at k4
      cases pd with
      | none => obtain ⟨hx, rfl⟩ := ret_some k4; cases hx; exact ⟨rfl, rfl, .inl ⟨rfl, rfl⟩⟩
      | some c =>
        cases c <;> first
          | (cases k4; done)
          | (obtain ⟨hx, rfl⟩ := ret_some k4; cases hx; exact ⟨rfl, rfl, .inr (.inl ⟨rfl, rfl⟩)⟩)
          | (obtain ⟨hx, rfl⟩ := ret_some k4; cases hx; exact ⟨rfl, rfl, .inr (.inr ⟨_, rfl, rfl⟩)⟩)
    obtain ⟨rfl, rfl, hk⟩ := key
    refine ⟨φ3, _, _, hA, fin _, hsteps, ?_⟩
    rw [p2] at hk
    rcases hk with ⟨hp, rfl⟩ | ⟨hp, rfl⟩ | ⟨id, hp, rfl⟩
    · simp only [hp]; rfl
    · simp only [hp]; exact ⟨K, rfl⟩
    · simp only [hp]; exact ⟨K, rfl, rfl⟩

end
end Go.Ev

/-
  EV, PART X: code of every form; a whole call.
-/
namespace Go.Ev
open Go Go.RowKit

section
variable {T : Tab} {P : Program} (hT : T.Ok P) (hF : T.Fns P fun c => codeOk T.globs c = true) (hmix : P.follows .mixedOrders = true)
include hT hF hmix

theorem code_sim : ∀ k, CodeSim T P (fun c => codeOk T.globs c = true) (evCode T k) ∧ LoopSim T P (fun c => codeOk T.globs c = true) (evCode T k)
  | 0 => ⟨fun cx c fr s e fr' s' h => (by cases h), fun cx b fr s e fr' s' h => (by cases h)⟩
  | k + 1 => by
    obtain ⟨ihC, ihL⟩ := code_sim k
    have hLg := fun cx c fr => Logs.evCode (T := T) k cx c fr
    have loop : LoopSim T P (fun c => codeOk T.globs c = true) (evCode T (k + 1)) := by
      intro cx b fr s e fr' s' h hok φ B w fc cs K hBz hBc hR hf hG hfr ht
      have hb : codeOk T.globs b = true := hok
      change (bnd (evCode T k cx b fr) fun p => match p.1 with
        | .normal => evCode T k cx (.loop b) p.2
        | e => ret (e, p.2)) s = some ((e, fr'), s') at h
      obtain ⟨⟨e1, fr1⟩, s1, h1, h2⟩ := bnd_some h
      cases e1 with
      | normal =>
        simp only at h2
        have g2 := (hLg _ _ _ _ _ _ h2).1
        obtain ⟨φ1, w1, f1, a1, a2, a3, a4⟩ := ihC cx b fr s .normal fr1 s1 h1 hb φ B w fc cs (.inLoop b :: K) hBz hBc hR (hf.sub (Nat.le_refl _) g2) hG hfr ht
        have hst := st_inLoop (P := P) (cs := cs) (w := w1) a2.mode a4
        obtain ⟨φ2, w2, f2, b1, b2, b3, b4⟩ := ihL cx b fr1 s1 e fr' s' h2 hok φ1 B w1 _ cs K hBz hBc a1.rel (a1.fresh hf) (hG.mono a1.grows.1) (a2.todo _) rfl
        exact ⟨φ2, w2, f2, a1.trans b1, b2, a3.trans (Steps.head hst b3), b4⟩
      | ret =>
        obtain ⟨hx, rfl⟩ := ret_some h2
        cases hx
        obtain ⟨φ1, w1, f1, a1, a2, a3, a4⟩ := ihC cx b fr s .ret fr1 _ h1 hb φ B w fc cs (.inLoop b :: K) hBz hBc hR hf hG hfr ht
        exact ⟨φ1, w1, f1, a1, a2, a3, a4.skip (by simp) (fun id h => by cases h)⟩
      | exit id =>
        obtain ⟨hx, rfl⟩ := ret_some h2
        cases hx
        obtain ⟨φ1, w1, f1, a1, a2, a3, a4⟩ := ihC cx b fr s (.exit id) fr1 _ h1 hb φ B w fc cs (.inLoop b :: K) hBz hBc hR hf hG hfr ht
        exact ⟨φ1, w1, f1, a1, a2, a3, a4.skip (by simp) (fun id h => by cases h)⟩
    refine ⟨?_, loop⟩
    intro cx c fr s e fr' s' h hok φ B w fc cs K hBz hBc hR hf hG hfr ht
    cases c with
    | skip =>
      obtain ⟨hx, rfl⟩ := ret_some h
      cases hx
      exact ⟨φ, w, _, .refl hR, hfr.todo K, Steps.one (st_skip hfr.mode ht), rfl⟩
    | exit id =>
      obtain ⟨hx, rfl⟩ := ret_some h
      cases hx
      exact ⟨φ, w, fc, .refl hR, hfr, Steps.refl _ _, K, ht, rfl⟩
    | ret =>
      obtain ⟨hx, rfl⟩ := ret_some h
      cases hx
      exact ⟨φ, w, fc, .refl hR, hfr, Steps.refl _ _, K, ht⟩
    | region id ops draw =>
      simp only [codeOk, Bool.and_eq_true] at hok
      change (bnd (evRegion T (evCode T k) ops draw fr) fun fr => ret (.normal, fr)) s = some ((e, fr'), s') at h
      obtain ⟨fr1, s1, h1, h2⟩ := bnd_some h
      obtain ⟨hx, rfl⟩ := ret_some h2
      cases hx
      unfold evRegion at h1
      cases draw with
      | false =>
        simp only [Bool.false_eq_true, if_false] at h1
        have hst := st_region (P := P) (cs := cs) (w := w) hfr.mode ht
        obtain ⟨φ1, w1, f1, a1, a2, a3, a4⟩ := sim_evOps hT hF ihC hLg hBz hBc hok.1 cs cx K ops.size 0 fr _ s _ φ w { fc with todo := .inRegion ops (List.range ops.size) :: K } (by simp) (by simpa using h1) hR hf hG (hfr.todo _) (by simp only; rw [List.range_eq_range'])
        exact ⟨φ1, w1, f1, a1, a2, Steps.head hst a3, a4⟩
      | true =>
        simp only [if_true] at h1
        obtain ⟨t, hst⟩ := st_regionDraw (P := P) (cs := cs) (w := w) hfr.mode ht
        have hR' : Rel φ B s.t.get w.drew := hR.heap rfl
        have hsch : Region.schedule (P.follows .mixedOrders) ops t = Region.linearise .any ops t := by simp [Region.schedule, hmix]
        rw [hsch] at hst
        obtain ⟨φ1, w1, f1, a1, a2, a3, a4⟩ := sim_draw hT hF ihC hLg hBz hBc hok.1 (by simpa using hok.2) cs h1 hR' hf hG (fc := { fc with todo := .inRegion ops (Region.linearise .any ops t) :: K }) (hfr.todo _) rfl
        exact ⟨φ1, w1, f1, ⟨a1.next, a1.grows, a1.rel, KeepsB.trans ((Keeps.heap (φ := φ) (H := s.t.get) (w := w) (w' := w.drew) rfl rfl rfl rfl).weak hR) a1.keeps⟩, a2, Steps.head hst a3, a4⟩
    | seq a b =>
      simp only [codeOk, Bool.and_eq_true] at hok
      change (bnd (evCode T k cx a fr) fun p => match p.1 with
        | .normal => evCode T k cx b p.2
        | e => ret (e, p.2)) s = some ((e, fr'), s') at h
      obtain ⟨⟨e1, fr1⟩, s1, h1, h2⟩ := bnd_some h
      have hst := st_seq (P := P) (cs := cs) (w := w) hfr.mode ht
      cases e1 with
      | normal =>
        simp only at h2
        have g2 := (hLg _ _ _ _ _ _ h2).1
        obtain ⟨φ1, w1, f1, a1, a2, a3, a4⟩ := ihC cx a fr s .normal fr1 s1 h1 hok.1 φ B w _ cs (.code b :: K) hBz hBc hR (hf.sub (Nat.le_refl _) g2) hG (hfr.todo _) rfl
        obtain ⟨φ2, w2, f2, b1, b2, b3, b4⟩ := ihC cx b fr1 s1 e fr' s' h2 hok.2 φ1 B w1 f1 cs K hBz hBc a1.rel (a1.fresh hf) (hG.mono a1.grows.1) a2 a4
        exact ⟨φ2, w2, f2, a1.trans b1, b2, Steps.head hst (a3.trans b3), b4⟩
      | ret =>
        obtain ⟨hx, rfl⟩ := ret_some h2
        cases hx
        obtain ⟨φ1, w1, f1, a1, a2, a3, a4⟩ := ihC cx a fr s .ret fr1 _ h1 hok.1 φ B w _ cs (.code b :: K) hBz hBc hR hf hG (hfr.todo _) rfl
        exact ⟨φ1, w1, f1, a1, a2, Steps.head hst a3, a4.skip (by simp) (fun id h => by cases h)⟩
      | exit id =>
        obtain ⟨hx, rfl⟩ := ret_some h2
        cases hx
        obtain ⟨φ1, w1, f1, a1, a2, a3, a4⟩ := ihC cx a fr s (.exit id) fr1 _ h1 hok.1 φ B w _ cs (.code b :: K) hBz hBc hR hf hG (hfr.todo _) rfl
        exact ⟨φ1, w1, f1, a1, a2, Steps.head hst a3, a4.skip (by simp) (fun id h => by cases h)⟩
    | cond x a b =>
      simp only [codeOk, Bool.and_eq_true] at hok
      change (match fr.eval x with
        | .bool t => evCode T k cx (if t then a else b) fr
        | _ => fail) s = some ((e, fr'), s') at h
      have hv : VRel φ (fr.eval x) (fc.eval x) := eval_rel (ds := fr.defers) hfr.tmps hG hok.1
      generalize hx : fr.eval x = v at h hv
      cases v <;> try (cases h; done)
      rename_i t
      simp only at h
      generalize hx' : fc.eval x = v' at hv
      cases hv
      have hst := st_cond (P := P) (cs := cs) (w := w) hfr.mode ht hx'
      obtain ⟨φ1, w1, f1, a1, a2, a3, a4⟩ := ihC cx (if t then a else b) fr s e fr' s' h (by cases t; exact hok.2.2; exact hok.2.1) φ B w _ cs K hBz hBc hR hf hG (hfr.todo _) rfl
      exact ⟨φ1, w1, f1, a1, a2, Steps.head hst a3, a4⟩
    | block id b =>
      have hb : codeOk T.globs b = true := hok
      change (bnd (evCode T k cx b fr) fun p => ret (outOf id p.1, p.2)) s = some ((e, fr'), s') at h
      obtain ⟨⟨e1, fr1⟩, s1, h1, h2⟩ := bnd_some h
      obtain ⟨hx, rfl⟩ := ret_some h2
      cases hx
      have hst := st_block (P := P) (cs := cs) (w := w) hfr.mode ht
      obtain ⟨φ1, w1, f1, a1, a2, a3, a4⟩ := ihC cx b fr s e1 fr1 _ h1 hb φ B w _ cs (.inBlock id :: K) hBz hBc hR hf hG (hfr.todo _) rfl
      cases e1 with
      | normal => exact ⟨φ1, w1, _, a1, a2.todo K, Steps.head hst (a3.trans (Steps.one (st_inBlock a2.mode a4))), rfl⟩
      | ret => exact ⟨φ1, w1, f1, a1, a2, Steps.head hst a3, a4⟩
      | exit id' =>
        obtain ⟨K', k1, k2⟩ := a4
        by_cases e : id' = id
        · subst e
          have k3 : exitTo id' K' = some K := by rw [k2]; simp [exitTo]
          refine ⟨φ1, w1, _, a1, a2.todo K, Steps.head hst (a3.trans (Steps.one (st_exit a2.mode k1 k3))), ?_⟩
          simp [outOf, Left]
        · refine ⟨φ1, w1, f1, a1, a2, Steps.head hst a3, ?_⟩
          simp only [outOf, if_neg e]
          exact ⟨K', k1, k2.trans (by simp [exitTo, Ne.symm e])⟩
    | loop b =>
      have hst := st_loop (P := P) (cs := cs) (w := w) hfr.mode ht
      obtain ⟨φ1, w1, f1, a1, a2, a3, a4⟩ := loop cx b fr s e fr' s' h hok φ B w _ cs K hBz hBc hR hf hG (hfr.todo _) rfl
      exact ⟨φ1, w1, f1, a1, a2, Steps.head hst a3, a4⟩
    | rangeFunc f params assign body => exact sim_rangeFunc hT hF hmix ihC hLg h hok cs hBz hBc hR hf hG hfr ht
    | _ => cases h

end
end Go.Ev

/-
  EV, PART Y: a whole call: what the evaluator returns, the program returns.
-/
namespace Go.Ev
open Go Go.RowKit

section
variable {T : Tab} {P : Program} (hT : T.Ok P) (hF : T.Fns P fun c => codeOk T.globs c = true) (hmix : P.follows .mixedOrders = true)
include hT hF hmix

/-- A call of a function of the program: it comes to its end, whoever called it. -/
theorem calls_of_ev {k : Nat} {f : FuncId} {F : Fn} (hfn : T.fn f = some F) {args args' : List Value} {s s' : St} {v : Value} (h : evCall T k f args s = some (v, s')) {φ : Phi} {B : Base} {w : World} (hBz : B.sz = P.cellsOf) (hBc : B.code = fun c => codeOk T.globs c = true)
    (hR : Rel φ B s.t.get w) (hf : Fresh φ s.next s'.next) (hG : GRel φ T.globs) (ha : LRel φ args args') :
    Calls P f ⟨args'⟩ w fun e w' => ∃ φ' v', e = .returned v' ∧ VRel φ' v v' ∧ KeepsB B w w' := by
  intro cs
  unfold evCall enter at h
  simp only [hfn] at h
  unfold trimMods at h
  split at h
  · rename_i v1 s1 hrun
    cases h
    obtain ⟨⟨e, fr⟩, s2, h1, h2⟩ := bnd_some hrun
    obtain ⟨fn, f1, f2, f3, f4, f5, f6⟩ := hF.fn f F hfn
    have hfr0 : FRel φ ⟨args ++ List.replicate (F.ntmps - args.length) undef, []⟩ ⟨f, none⟩ (Frame.enter P f ⟨args'⟩ .normal) := by
      refine ⟨rfl, rfl, rfl, trivial, ?_, .nil⟩
      simp only [Frame.enter, f1, Option.map_some, Option.getD_some, f2, Array.toList_append, Array.toList_replicate, List.size_toArray]
      rw [← ha.1]
      exact ha.append (.replicate _ .undef)
    have htodo : (Frame.enter P f ⟨args'⟩ .normal).todo = .code F.body :: [] := by
      simp [Frame.enter, f1, f3]
    have hlog := Logs.finishCall (T := T) F e fr s2 _ s1 h2
    obtain ⟨φ', w1, fe, a1, a2, a3, a4⟩ := (code_sim hT hF hmix k).1 ⟨f, none⟩ F.body _ s e fr s2 h1 f6 φ B w (Frame.enter P f ⟨args'⟩ .normal) cs [] hBz hBc hR (hf.sub (Nat.le_refl _) hlog.1) hG hfr0 htodo
    have hro : fe.roundOf = none := by
      have := a2.round
      simp only at this
      cases hx : fe.roundOf with
      | none => rfl
      | some y => rw [hx] at this; exact this.elim
    have hret : ∃ todo, Steps P (lone fe cs w1) (lone { { fe with todo := todo } with mode := .returning } cs w1) ∧ (bnd (takeDefers fr.defers) fun _ => bnd (results T fr.tmps F.results) fun vs => ret (valOf vs)) s2 = some (v, s1) := by
      cases e with
      | normal => exact ⟨fe.todo, Steps.one (st_end a2.mode hro a4), h2⟩
      | ret =>
        obtain ⟨K', hk⟩ := a4
        exact ⟨fe.todo, Steps.one (st_ret a2.mode hro hk), h2⟩
      | exit id => cases h2
    obtain ⟨todo, hst, h3⟩ := hret
    obtain ⟨_, s3, h4, h5⟩ := bnd_some h3
    obtain ⟨i1, w2, i2, i3, i4⟩ := sim_takeDefers (cs := cs) hT hF fr.defers s2 s3 _ w1 { { fe with todo := todo } with mode := .returning } h4 a1.rel a2.defers rfl
    obtain ⟨vs, s4, h6, h7⟩ := bnd_some h5
    obtain ⟨rfl, vs', h8, h9⟩ := sim_results hT hF i2 a2.tmps F.results vs s4 h6
    obtain ⟨rfl, rfl⟩ := ret_some h7
    refine ⟨.returned (valOf vs'), w2, { { { fe with todo := todo } with mode := .returning } with defers := [] }, ⟨φ', valOf vs', rfl, valOf_rel h8, a1.keeps.trans i3⟩, a3.trans (hst.trans i4), a2.fn, rfl, rfl, a2.kind, fn, by rw [a2.fn]; exact f1, ?_⟩
    have hm : (fn.results.mapM (fun | .tmp t => pure (fe.tmps.getD t undef) | .cell a t => do Go.loadVar t (← asAddr (fe.tmps.getD a undef)) : ResultVar → Sem Value)).run P w2 = .ok ⟨vs'⟩ w2 := by
      rw [Array.mapM_eq_mapM_toList, Sem.run_map, f4]
      exact congrArg (fun r => Result.andThen r (fun (a : List Value) w' => Result.ok a.toArray w')) h9
    show (Go.results fn fe.tmps).run P w2 = .ok (valOf vs') w2
    unfold Go.results
    rw [Sem.run_bind]
    refine (congrArg (fun r => Result.andThen r _) hm).trans ?_
    rw [valOf_eq]
    rfl
  · cases h

/-- A law: it returns true, and leaves alone what was there. -/
theorem law_of_ev {k : Nat} {f : FuncId} {F : Fn} (hfn : T.fn f = some F) (hg : T.globs = 0) {args args' : List Value} {s s' : St} (h : evCall T k f args s = some (.bool true, s')) {φ : Phi} {w : World}
    (hR : Rel φ ⟨fun k => k < w.heap.size, fun c => codeOk T.globs c = true, P.cellsOf⟩ s.t.get w) (hf : ∀ N, s.next ≤ N → φ N = none) (ha : LRel φ args args') :
    Calls P f ⟨args'⟩ w fun e w' => e = .returned (.bool true) ∧ Below w.heap.size w w' :=
  (calls_of_ev hT hF hmix hfn h rfl rfl hR (fun N h1 _ => hf N h1) (fun g hlt => by rw [hg] at hlt; omega) ha).mono fun e w' ⟨φ', v', h1, h2, h3⟩ => by
    cases h2
    exact ⟨h1, h3.os, h3.tape, h3.output, h3.size, h3.block⟩

end
end Go.Ev

/-
  EV, PART Z: the tables of a program, and what the kernel checks of them.
-/
namespace Go.Ev
open Go Go.RowKit

/-- Which functions, which bodiless ones, which types' zeros, which types' comparison: as bits. -/
structure Masks where
  fns : Nat
  exts : Nat
  zeros : Nat
  eqs : Nat

def sameOne : List Value → Option Value
  | [v] => some v
  | _ => none

def Tab.sub (P : Program) (m : Masks) : Tab :=
  { Tab.of P with
    zero := fun t => if m.zeros.testBit t then (P.info? t).bind (·.zero) else none
    fn := fun f => if m.fns.testBit f then (Tab.of P).fn f else none
    ext := fun f => if m.exts.testBit f then some sameOne else none
    eqOk := fun t => m.eqs.testBit t }

def fnSure (P : Program) (f : Nat) : Bool :=
  match P.funcs[f]? with
  | some fn => match fn.body with
    | some b => codeOk 0 b && !(fn.name == "runtime.NumGoroutine")
    | none => true
  | none => true

def extSure (P : Program) (f : Nat) : Bool :=
  match P.funcs[f]? with
  | some fn => fn.body.isNone && fn.name == "internal/abi.NoEscape" && (Extern.findNext fn).isNone
  | none => false

def zeroSure (P : Program) (t : Nat) : Bool :=
  match (P.info? t).bind (·.zero) with
  | some v => flatB 3 v
  | none => true

def eqSure (P : Program) (t : Nat) : Bool := !P.stoodInHeld t && !P.eqGuardType P.depth t

/-- The bits of a number, each with a test. -/
def bitsAll (p : Nat → Bool) (m : Nat) : Nat → Nat → Bool
  | 0, _ => true
  | n + 1, a => (!m.testBit a || p a) && bitsAll p m n (a + 1)

theorem bitsAll_at {p : Nat → Bool} {m : Nat} : ∀ {n a : Nat}, bitsAll p m n a = true → ∀ i, a ≤ i → i < a + n → m.testBit i = true → p i = true
  | 0, a, _, i, h1, h2, _ => by omega
  | n + 1, a, h, i, h1, h2, hi => by
    simp only [bitsAll, Bool.and_eq_true] at h
    by_cases e : i = a
    · subst e; simpa [hi] using h.1
    · exact bitsAll_at h.2 i (by omega) (by omega) hi

theorem bits_all {p : Nat → Bool} {m n : Nat} (hm : m < 2 ^ n) (h : bitsAll p m n 0 = true) : ∀ i, m.testBit i = true → p i = true := fun i hi => by
  refine bitsAll_at h i (Nat.zero_le _) ?_ hi
  rcases Nat.lt_or_ge i n with h1 | h1
  · omega
  · have : m < 2 ^ i := Nat.lt_of_lt_of_le hm (Nat.pow_le_pow_right (by omega) h1)
    rw [Nat.testBit_lt_two_pow this] at hi; cases hi

theorem lookup_noEscape : Extern.allRows.lookup "internal/abi.NoEscape" = some Extern.AbiNoEscape.same ∧ Extern.allGenericRows.lookup "internal/abi.NoEscape" = none ∧
    Extern.allTypedRows.lookup "internal/abi.NoEscape" = none ∧ Extern.allNextRows.lookup "internal/abi.NoEscape" = none := ⟨by kernel_rfl, by kernel_rfl, by kernel_rfl, by kernel_rfl⟩

/-- What is asked of a program's masks. -/
structure Masks.Sure (P : Program) (m : Masks) : Prop where
  fns : ∀ f, m.fns.testBit f = true → fnSure P f = true
  exts : ∀ f, m.exts.testBit f = true → extSure P f = true
  zeros : ∀ t, m.zeros.testBit t = true → zeroSure P t = true
  eqs : ∀ t, m.eqs.testBit t = true → eqSure P t = true

theorem Tab.sub_ok {P : Program} {m : Masks} (h : m.Sure P) : (Tab.sub P m).Ok P where
  und t d hd := hd
  size t n hn := by
    simp only [Tab.sub, Tab.of] at hn
    cases hi : P.info? t with
    | none => rw [hi] at hn; cases hn
    | some i => rw [hi] at hn; simp only [Option.map_some, Option.some.injEq] at hn; exact ⟨i, rfl, hn⟩
  bytes t n hn := by
    simp only [Tab.sub, Tab.of] at hn
    cases hi : P.info? t with
    | none => rw [hi] at hn; cases hn
    | some i => rw [hi] at hn; simp only [Option.map_some, Option.some.injEq] at hn; exact ⟨i, rfl, hn⟩
  zero t v hv := by
    simp only [Tab.sub] at hv
    split at hv
    · rename_i hb
      have hs := h.zeros t hb
      unfold zeroSure at hs
      rw [hv] at hs
      cases hi : P.info? t with
      | none => rw [hi] at hv; cases hv
      | some i => rw [hi] at hv; exact ⟨⟨i, rfl, hv⟩, flatB_flat hs⟩
    · cases hv
  cmp t ht := by
    simp only [Tab.sub, Tab.of] at ht
    cases hi : P.info? t with
    | none => rw [hi] at ht; cases ht
    | some i => rw [hi] at ht; exact ⟨i, rfl, ht⟩
  eqOk t ht := by
    have := h.eqs t ht
    simpa [eqSure] using this

theorem Tab.sub_fns {P : Program} {m : Masks} (h : m.Sure P) : (Tab.sub P m).Fns P fun c => codeOk (Tab.sub P m).globs c = true where
  fn f F hF := by
    simp only [Tab.sub] at hF
    split at hF
    · rename_i hb
      have hs := h.fns f hb
      unfold fnSure at hs
      simp only [Tab.of] at hF
      cases hfn : P.funcs[f]? with
      | none => rw [hfn] at hF; cases hF
      | some fn =>
        rw [hfn] at hF hs
        simp only at hF hs
        cases hbd : fn.body with
        | none => rw [hbd] at hF; cases hF
        | some b =>
          rw [hbd] at hF hs
          simp only [Option.some.injEq, Bool.and_eq_true, Bool.not_eq_true'] at hF hs
          subst hF
          exact ⟨fn, rfl, rfl, hbd, rfl, hs.2, hs.1⟩
    · cases hF
  ext f g hg := by
    simp only [Tab.sub] at hg
    split at hg
    · rename_i hb
      cases hg
      have hs := h.exts f hb
      unfold extSure at hs
      cases hfn : P.funcs[f]? with
      | none => rw [hfn] at hs; cases hs
      | some fn =>
        rw [hfn] at hs
        simp only [Bool.and_eq_true, Option.isNone_iff_eq_none, beq_iff_eq] at hs
        obtain ⟨k1, k2, k3, k4⟩ := lookup_noEscape
        refine ⟨fn, Extern.AbiNoEscape.same, rfl, by rw [hs.1.2]; decide, hs.1.1, hs.2, ?_, fun φ args args' v w hv ha => ?_⟩
        · unfold Extern.find
          simp only [hs.1.2, k1, k2, k3]
          rfl
        · unfold sameOne at hv
          split at hv
          · cases hv
            obtain ⟨v', r', rfl, h1, h2⟩ := ha.cons_inv
            rw [h2.nil_inv]
            exact ⟨v', rfl, h1⟩
          · cases hv
    · cases hg

end Go.Ev

/-
  EV: more fuel, the same answer; calls and code by what they come to.
-/
namespace Go.Ev
open Go Go.RowKit

def Mle {α : Type} (m m' : M α) : Prop := ∀ s r, m s = some r → m' s = some r
theorem Mle.refl {α : Type} (m : M α) : Mle m m := fun _ _ h => h
theorem Mle.bnd {α β : Type} {m m' : M α} {f f' : α → M β} (h : Mle m m') (hf : ∀ a, Mle (f a) (f' a)) : Mle (Ev.bnd m f) (Ev.bnd m' f') := fun s r e => by
  obtain ⟨b, s'⟩ := r
  obtain ⟨a, s1, h1, h2⟩ := bnd_some e
  have h3 := h _ _ h1
  have h4 := hf a _ _ h2
  simp only [Ev.bnd, h3, h4]
theorem Mle.ite {α : Type} {c : Prop} [Decidable c] {a b a' b' : M α} (ha : Mle a a') (hb : Mle b b') : Mle (if c then a else b) (if c then a' else b') := by split <;> assumption
theorem Mle.trim {α : Type} {m m' : M α} (h : Mle m m') : Mle (trimMods m) (trimMods m') := fun s r e => by
  unfold trimMods at e ⊢
  cases hm : m s with
  | none => rw [hm] at e; cases e
  | some p => rw [h s p hm]; rw [hm] at e; exact e

def RecLe (r r' : RunCode) : Prop := ∀ cx c fr, Mle (r cx c fr) (r' cx c fr)

section
variable {T : Tab} {r r' : RunCode} (h : RecLe r r')
include h

theorem Mle.enter (f : FuncId) (args : List Value) : Mle (Ev.enter T r f args) (Ev.enter T r' f args) := by
  unfold Ev.enter
  cases T.fn f with
  | none => exact .refl _
  | some F => exact .trim (.bnd (h _ _ _) fun _ => .refl _)
theorem Mle.endRoundBody (l : Nat) (lp : Loop) (e : Ex) (fr : Fr) : Mle (Ev.roundBody r l lp e fr) (Ev.roundBody r' l lp e fr) := by
  cases e with
  | normal => exact .bnd (.refl _) fun _ => .ite (.bnd (.refl _) fun _ => .bnd (h _ _ _) fun _ => .refl _) (.refl _)
  | ret => exact .refl _
  | exit id => exact .refl _
theorem Mle.round (l : Nat) (args : List Value) : Mle (Ev.round r l args) (Ev.round r' l args) :=
  .bnd (.refl _) fun _ => .ite (.bnd (h _ _ _) fun _ => Mle.endRoundBody h _ _ _ _) (.refl _)
theorem Mle.callValue (f : Value) (args : List Value) : Mle (Ev.callValue T r f args) (Ev.callValue T r' f args) := by
  unfold Ev.callValue
  split
  · exact Mle.enter h _ _
  · exact Mle.round h _ _
  · exact .refl _
theorem Mle.evOp (fr : Fr) (o : Oper) : Mle (Ev.evOp T r fr o) (Ev.evOp T r' fr o) := by
  unfold Ev.evOp
  split
  · exact Mle.callValue h _ _
  · exact .refl _
theorem Mle.evOps (ops : Array Oper) : ∀ (l : List Oper) (fr : Fr), Mle (Ev.evOps T r ops l fr) (Ev.evOps T r' ops l fr)
  | [], fr => .refl _
  | o :: os, fr => by
    unfold Ev.evOps
    exact .ite (.bnd (Mle.evOp h _ _) fun _ => Mle.evOps ops os _) (Mle.evOps ops os _)
theorem Mle.drawOne (bits : Nat) (ds : List (Nat × Did)) (fr : Fr) (o : Oper) : Mle (Ev.drawOne T r bits ds fr o) (Ev.drawOne T r' bits ds fr o) := fun s p e => by
  unfold Ev.drawOne at e ⊢
  split at e
  · cases e
  · rename_i v s1 hr
    rw [Mle.evOp h fr o _ _ hr]
    exact e
theorem Mle.evDraw (ops : Array Oper) (bef : List Nat) : ∀ (l : List Oper) (i : Nat) (ds : List (Nat × Did)) (fr : Fr), Mle (Ev.evDraw T r ops bef i l ds fr) (Ev.evDraw T r' ops bef i l ds fr)
  | [], i, ds, fr => .refl _
  | o :: os, i, ds, fr => by
    unfold Ev.evDraw
    exact .ite (.bnd (Mle.drawOne h _ _ _ _) fun _ => Mle.evDraw ops bef os _ _ _) (Mle.evDraw ops bef os _ _ _)
theorem Mle.evRegion (ops : Array Oper) (d : Bool) (fr : Fr) : Mle (Ev.evRegion T r ops d fr) (Ev.evRegion T r' ops d fr) := by
  unfold Ev.evRegion
  exact .ite (Mle.evDraw h _ _ _ _ _ _) (Mle.evOps h _ _ _)
end

theorem evCode_succ {T : Tab} : ∀ k, RecLe (evCode T k) (evCode T (k + 1))
  | 0 => fun cx c fr s r e => by cases e
  | k + 1 => by
    have ih := evCode_succ (T := T) k
    intro cx c fr
    cases c with
    | region id ops d => exact .bnd (Mle.evRegion ih _ _ _) fun _ => .refl _
    | seq a b =>
      refine .bnd (ih _ _ _) fun p => ?_
      obtain ⟨e, fr'⟩ := p
      cases e with
      | normal => exact ih _ _ _
      | ret => exact .refl _
      | exit id => exact .refl _
    | cond x a b =>
      show Mle (match fr.eval x with | .bool t => evCode T k cx (if t then a else b) fr | _ => fail) (match fr.eval x with | .bool t => evCode T (k + 1) cx (if t then a else b) fr | _ => fail)
      cases fr.eval x with
      | bool t => exact ih _ _ _
      | _ => exact .refl _
    | block id b => exact .bnd (ih _ _ _) fun _ => .refl _
    | loop b =>
      refine .bnd (ih _ _ _) fun p => ?_
      obtain ⟨e, fr'⟩ := p
      cases e with
      | normal => exact ih _ _ _
      | ret => exact .refl _
      | exit id => exact .refl _
    | rangeFunc f ps a b => exact .bnd (.refl _) fun _ => .bnd (.refl _) fun _ => .bnd (Mle.callValue ih _ _) fun _ => .refl _
    | _ => exact .refl _

theorem evCode_le {T : Tab} {k k' : Nat} (h : k ≤ k') : RecLe (evCode T k) (evCode T k') := by
  induction h with
  | refl => exact fun _ _ _ => .refl _
  | step _ ih => exact fun cx c fr s r e => evCode_succ _ cx c fr s r (ih cx c fr s r e)

/-- Code comes to an end that is as told. -/
def Ends (T : Tab) (cx : Ctx) (c : Code) (fr : Fr) (s : St) (Q : Ex → Fr → St → Prop) : Prop := ∃ k e fr' s', evCode T k cx c fr s = some ((e, fr'), s') ∧ Q e fr' s'
/-- Operations in the text's order. -/
def EndsOps (T : Tab) (ops : Array Oper) (l : List Oper) (fr : Fr) (s : St) (Q : Fr → St → Prop) : Prop := ∃ k fr' s', evOps T (evCode T k) ops l fr s = some (fr', s') ∧ Q fr' s'
/-- Operations of a region that draws. -/
def EndsDraw (T : Tab) (ops : Array Oper) (bef : List Nat) (i : Nat) (l : List Oper) (ds : List (Nat × Did)) (fr : Fr) (s : St) (Q : Fr → St → Prop) : Prop := ∃ k fr' s', evDraw T (evCode T k) ops bef i l ds fr s = some (fr', s') ∧ Q fr' s'
/-- A call of a function. -/
def EndsCall (T : Tab) (f : FuncId) (args : List Value) (s : St) (Q : Value → St → Prop) : Prop := ∃ k v s', evCall T k f args s = some (v, s') ∧ Q v s'

section
variable {T : Tab} {cx : Ctx} {fr : Fr} {s : St}

theorem Ends.mono {c : Code} {Q Q' : Ex → Fr → St → Prop} (h : Ends T cx c fr s Q) (hq : ∀ e fr s, Q e fr s → Q' e fr s) : Ends T cx c fr s Q' :=
  let ⟨k, e, fr', s', h1, h2⟩ := h; ⟨k, e, fr', s', h1, hq _ _ _ h2⟩
theorem EndsCall.mono {f : FuncId} {args : List Value} {Q Q' : Value → St → Prop} (h : EndsCall T f args s Q) (hq : ∀ v s, Q v s → Q' v s) : EndsCall T f args s Q' :=
  let ⟨k, v, s', h1, h2⟩ := h; ⟨k, v, s', h1, hq _ _ h2⟩

theorem Ends.skip {Q : Ex → Fr → St → Prop} (h : Q .normal fr s) : Ends T cx .skip fr s Q := ⟨1, _, _, _, rfl, h⟩
theorem Ends.ret {Q : Ex → Fr → St → Prop} (h : Q .ret fr s) : Ends T cx .ret fr s Q := ⟨1, _, _, _, rfl, h⟩
theorem Ends.exit {id : Nat} {Q : Ex → Fr → St → Prop} (h : Q (.exit id) fr s) : Ends T cx (.exit id) fr s Q := ⟨1, _, _, _, rfl, h⟩
theorem Ends.seq {a b : Code} {Q : Ex → Fr → St → Prop} (h : Ends T cx a fr s fun e fr s => match e with
    | .normal => Ends T cx b fr s Q
    | e => Q e fr s) : Ends T cx (.seq a b) fr s Q := by
  obtain ⟨k, e, fr', s', h1, h2⟩ := h
  cases e with
  | normal =>
    obtain ⟨k2, e2, fr2, s2, h3, h4⟩ := h2
    refine ⟨max k k2 + 1, e2, fr2, s2, ?_, h4⟩
    show bnd _ _ s = _
    simp only [bnd, evCode_le (Nat.le_max_left k k2) _ _ _ _ _ h1, evCode_le (Nat.le_max_right k k2) _ _ _ _ _ h3]
  | ret => exact ⟨k + 1, .ret, fr', s', by show bnd _ _ s = _; simp only [bnd, h1]; rfl, h2⟩
  | exit id => exact ⟨k + 1, .exit id, fr', s', by show bnd _ _ s = _; simp only [bnd, h1]; rfl, h2⟩
theorem Ends.cond {x : Operand} {a b : Code} {t : Bool} {Q : Ex → Fr → St → Prop} (hx : fr.eval x = .bool t) (h : Ends T cx (if t then a else b) fr s Q) : Ends T cx (.cond x a b) fr s Q := by
  obtain ⟨k, e, fr', s', h1, h2⟩ := h
  refine ⟨k + 1, e, fr', s', ?_, h2⟩
  show (match fr.eval x with | .bool t => evCode T k cx (if t then a else b) fr | _ => fail) s = _
  rw [hx]; exact h1
theorem Ends.block {id : Nat} {b : Code} {Q : Ex → Fr → St → Prop} (h : Ends T cx b fr s fun e fr s => Q (outOf id e) fr s) : Ends T cx (.block id b) fr s Q := by
  obtain ⟨k, e, fr', s', h1, h2⟩ := h
  exact ⟨k + 1, _, fr', s', by show bnd _ _ s = _; simp only [bnd, h1]; rfl, h2⟩
theorem Ends.loop {b : Code} {Q : Ex → Fr → St → Prop} (h : Ends T cx b fr s fun e fr s => match e with
    | .normal => Ends T cx (.loop b) fr s Q
    | e => Q e fr s) : Ends T cx (.loop b) fr s Q := by
  obtain ⟨k, e, fr', s', h1, h2⟩ := h
  cases e with
  | normal =>
    obtain ⟨k2, e2, fr2, s2, h3, h4⟩ := h2
    refine ⟨max k k2 + 1, e2, fr2, s2, ?_, h4⟩
    show bnd _ _ s = _
    simp only [bnd, evCode_le (Nat.le_max_left k k2) _ _ _ _ _ h1, evCode_le (Nat.le_max_right k k2) _ _ _ _ _ h3]
  | ret => exact ⟨k + 1, .ret, fr', s', by show bnd _ _ s = _; simp only [bnd, h1]; rfl, h2⟩
  | exit id => exact ⟨k + 1, .exit id, fr', s', by show bnd _ _ s = _; simp only [bnd, h1]; rfl, h2⟩

theorem Ends.region {id : Nat} {ops : Array Oper} {Q : Ex → Fr → St → Prop} (h : EndsOps T ops ops.toList fr s fun fr s => Q .normal fr s) : Ends T cx (.region id ops false) fr s Q := by
  obtain ⟨k, fr', s', h1, h2⟩ := h
  refine ⟨k + 1, .normal, fr', s', ?_, h2⟩
  show bnd (evRegion T (evCode T k) ops false fr) _ s = _
  simp only [bnd, evRegion, Bool.false_eq_true, if_false, h1]
  rfl
theorem Ends.draw {id : Nat} {ops : Array Oper} {Q : Ex → Fr → St → Prop} (h : EndsDraw T ops (befL [] ops.toList) 0 ops.toList [] fr s fun fr s => Q .normal fr s) : Ends T cx (.region id ops true) fr s Q := by
  obtain ⟨k, fr', s', h1, h2⟩ := h
  refine ⟨k + 1, .normal, fr', s', ?_, h2⟩
  show bnd (evRegion T (evCode T k) ops true fr) _ s = _
  simp only [bnd, evRegion, if_true, h1]
  rfl

theorem EndsOps.nil {ops : Array Oper} {Q : Fr → St → Prop} (h : Q fr s) : EndsOps T ops [] fr s Q := ⟨0, fr, s, rfl, h⟩
theorem EndsOps.skip {ops : Array Oper} {o : Oper} {os : List Oper} {Q : Fr → St → Prop} (hw : Region.wanted o (yieldedL ops fr.tmps) = false) (h : EndsOps T ops os (fr.put o.dst undef) s Q) : EndsOps T ops (o :: os) fr s Q := by
  obtain ⟨k, fr', s', h1, h2⟩ := h
  refine ⟨k, fr', s', ?_, h2⟩
  unfold evOps
  rw [if_neg (by rw [hw]; simp)]; exact h1
theorem EndsOps.plain {ops : Array Oper} {o : Oper} {os : List Oper} {v : Value} {s1 : St} {Q : Fr → St → Prop} (hw : Region.wanted o (yieldedL ops fr.tmps) = true) (hp : evPlain T fr.eval o.op s = some (v, s1)) (hc : ∀ f args ts, o.op ≠ .call ⟨.value f, args, ts⟩)
    (h : EndsOps T ops os (fr.put o.dst v) s1 Q) : EndsOps T ops (o :: os) fr s Q := by
  obtain ⟨k, fr', s', h1, h2⟩ := h
  refine ⟨k, fr', s', ?_, h2⟩
  unfold evOps
  rw [if_pos hw]
  have : evOp T (evCode T k) fr o = evPlain T fr.eval o.op := by
    unfold evOp
    split
    · rename_i f args ts hop; exact absurd hop (hc _ _ _)
    · rfl
  simp only [bnd, this, hp]; exact h1
theorem EndsOps.call {ops : Array Oper} {o : Oper} {os : List Oper} {f : Operand} {args : Array Operand} {ts : Array TypeId} {g : FuncId} {a c : Array Value} {Q : Fr → St → Prop} (hw : Region.wanted o (yieldedL ops fr.tmps) = true) (ho : o.op = .call ⟨.value f, args, ts⟩)
    (hf : fr.eval f = .func (.func g) a c) (h : EndsCall T g (a.toList ++ args.toList.map fr.eval ++ c.toList) s fun v s => EndsOps T ops os (fr.put o.dst v) s Q) : EndsOps T ops (o :: os) fr s Q := by
  obtain ⟨k, v, s1, h1, k2, fr', s', h3, h4⟩ := h
  refine ⟨max k k2, fr', s', ?_, h4⟩
  unfold evOps
  rw [if_pos hw]
  have e1 : evOp T (evCode T (max k k2)) fr o s = some (v, s1) := by
    have : evOp T (evCode T k) fr o s = some (v, s1) := by
      unfold evOp; rw [ho]; simp only [callValue, hf]; exact h1
    exact Mle.evOp (evCode_le (Nat.le_max_left k k2)) fr o _ _ this
  simp only [bnd, e1]
  exact Mle.evOps (evCode_le (Nat.le_max_right k k2)) ops os _ _ _ h3

/-- A call of a function with a body. -/
theorem EndsCall.of {f : FuncId} {F : Fn} {args : List Value} {Q : Value → St → Prop} (hF : T.fn f = some F)
    (h : Ends T ⟨f, none⟩ F.body ⟨args ++ List.replicate (F.ntmps - args.length) undef, []⟩ s fun e fr s1 => ∃ v s2, finishCall T F e fr s1 = some (v, s2) ∧ Q v { s2 with mods := newMods s s2 ++ s.mods }) : EndsCall T f args s Q := by
  obtain ⟨k, e, fr', s1, h1, v, s2, h3, h4⟩ := h
  refine ⟨k, v, _, ?_, h4⟩
  unfold evCall enter
  simp only [hF, trimMods, bnd, h1, h3]

end
end Go.Ev

/-
  EV: the rules of a printed walk: explicit values, explicit frames; states behind memory by what is known of them.
-/
namespace Go.Ev
open Go Go.RowKit

/-- What a function that writes nothing of its caller's leaves. -/
structure Keep (s s' : St) : Prop where
  next : s.next ≤ s'.next
  mods : s'.mods = s.mods
  old : ∀ N, N < s.next → s'.t.get N = s.t.get N

theorem Keep.refl (s : St) : Keep s s := ⟨Nat.le_refl _, rfl, fun _ _ => rfl⟩
theorem Keep.trans {a b c : St} (h : Keep a b) (k : Keep b c) : Keep a c :=
  ⟨Nat.le_trans h.next k.next, k.mods.trans h.mods, fun N hN => (k.old N (Nat.lt_of_lt_of_le hN h.next)).trans (h.old N hN)⟩

section
variable {T : Tab} {fr : Fr} {s : St} {ops : Array Oper} {o : Oper} {os : List Oper} {Q : Fr → St → Prop}

theorem EndsOps.plain1 {v : Value} {s1 : St} {fr1 : Fr} (hw : Region.wanted o (yieldedL ops fr.tmps) = true) (hp : evPlain T fr.eval o.op s = some (v, s1)) (hc : ∀ f args ts, o.op ≠ .call ⟨.value f, args, ts⟩)
    (hf : fr.put o.dst v = fr1) (h : EndsOps T ops os fr1 s1 Q) : EndsOps T ops (o :: os) fr s Q := EndsOps.plain hw hp hc (hf ▸ h)
theorem EndsOps.skip1 {fr1 : Fr} (hw : Region.wanted o (yieldedL ops fr.tmps) = false) (hf : fr.put o.dst undef = fr1) (h : EndsOps T ops os fr1 s Q) : EndsOps T ops (o :: os) fr s Q := EndsOps.skip hw (hf ▸ h)

/-- A new block. -/
theorem EndsOps.new1 {e : TypeId} {vs : List Value} {fr1 : Fr} (hw : Region.wanted o (yieldedL ops fr.tmps) = true)
    (hp : evPlain T fr.eval o.op s = some (.pointer (some ⟨s.next, 0, none⟩), { s with t := s.t.set s.next (some (.cells vs e 0)), next := s.next + 1 })) (hc : ∀ f args ts, o.op ≠ .call ⟨.value f, args, ts⟩)
    (hf : fr.put o.dst (.pointer (some ⟨s.next, 0, none⟩)) = fr1)
    (h : ∀ s1 : St, s1.next = s.next + 1 → s1.mods = s.mods → s1.t.get s.next = some (.cells vs e 0) → (∀ N, N ≠ s.next → s1.t.get N = s.t.get N) → EndsOps T ops os fr1 s1 Q) : EndsOps T ops (o :: os) fr s Q :=
  EndsOps.plain1 hw hp hc hf (h _ rfl rfl (Tree.get_set_same _ _ _) fun N hN => Tree.get_set_ne _ _ hN)

/-- A call by contract. -/
theorem EndsOps.call1 {f : Operand} {args : Array Operand} {ts : Array TypeId} {g : FuncId} {a c : Array Value} {as : List Value} {R : Value → St → Prop} (hw : Region.wanted o (yieldedL ops fr.tmps) = true) (ho : o.op = .call ⟨.value f, args, ts⟩)
    (hf : fr.eval f = .func (.func g) a c) (ha : a.toList ++ args.toList.map fr.eval ++ c.toList = as) (hR : EndsCall T g as s R) (h : ∀ v s1, R v s1 → EndsOps T ops os (fr.put o.dst v) s1 Q) : EndsOps T ops (o :: os) fr s Q :=
  EndsOps.call hw ho hf (by rw [ha]; exact hR.mono h)
end

section
variable {T : Tab} {fr : Fr} {s : St} {ops : Array Oper} {bef : List Nat} {i : Nat} {o : Oper} {os : List Oper} {ds : List (Nat × Did)} {Q : Fr → St → Prop}

theorem EndsDraw.nil (h : Q fr s) : EndsDraw T ops bef i [] ds fr s Q := ⟨0, fr, s, rfl, h⟩
theorem EndsDraw.skip1 {fr1 : Fr} (hw : Region.wanted o (yieldedL ops fr.tmps) = false) (hf : fr.put o.dst undef = fr1) (h : EndsDraw T ops bef (i + 1) os ds fr1 s Q) : EndsDraw T ops bef i (o :: os) ds fr s Q := by
  obtain ⟨k, fr', s', h1, h2⟩ := h
  refine ⟨k, fr', s', ?_, h2⟩
  unfold evDraw
  rw [if_neg (by rw [hw]; simp), hf]; exact h1

/-- Those before have written nothing. -/
def Calm (ds : List (Nat × Did)) : Prop := ∀ p ∈ ds, p.2.mods = []
theorem Calm.nil : Calm [] := fun _ h => by cases h
theorem Calm.cons {j : Nat} {d : Did} {ds : List (Nat × Did)} (hd : d.mods = []) (h : Calm ds) : Calm ((j, d) :: ds) := fun p hp => by
  rcases List.mem_cons.1 hp with rfl | hp
  · exact hd
  · exact h p hp

theorem Calm.ok {ds : List (Nat × Did)} (h : Calm ds) (bits : Nat) (view : Tree) {d : Did} (hd : d.mods = []) (hk : d.kind ≠ 2) : drawOk bits ds view d = true := by
  unfold drawOk
  have h1 : (ds.all fun p => bits.testBit p.1 || okPair p.2 d) = true := List.all_eq_true.2 fun p hp => by simp [okPair, okOne, h p hp, hd]
  have h2 : (d.kind != 2) = true := by simpa using hk
  simp [h1, h2, hd]

/-- An operation without memory. -/
theorem EndsDraw.still {v : Value} {fr1 : Fr} (hcalm : Calm ds) (hw : Region.wanted o (yieldedL ops fr.tmps) = true) (hk : kindOf o = 0) (hc : ∀ f args ts, o.op ≠ .call ⟨.value f, args, ts⟩)
    (hp : evPlain T fr.eval o.op ⟨.leaf, s.next, []⟩ = some (v, ⟨.leaf, s.next, []⟩)) (hf : fr.put o.dst v = fr1) (h : EndsDraw T ops bef (i + 1) os ((i, ⟨0, blkOf fr o, s.next, s.next, []⟩) :: ds) fr1 s Q) : EndsDraw T ops bef i (o :: os) ds fr s Q := by
  obtain ⟨k, fr', s', h1, h2⟩ := h
  refine ⟨k, fr', s', ?_, h2⟩
  unfold evDraw
  rw [if_pos hw]
  have e : evOp T (evCode T k) fr o = evPlain T fr.eval o.op := by
    unfold evOp
    split
    · rename_i f args ts hop; exact absurd hop (hc _ _ _)
    · rfl
  have e1 : drawOne T (evCode T k) (bef.getD i 0) ds fr o s = some ((v, ⟨0, blkOf fr o, s.next, s.next, []⟩), s) := by
    unfold drawOne
    have hv : viewOf 0 (blkOf fr o) (hiddenOf (bef.getD i 0) ds) s.t = .leaf := rfl
    have hok := hcalm.ok (bef.getD i 0) .leaf (d := ⟨0, blkOf fr o, s.next, s.next, []⟩) rfl (by simp)
    simp only [hv, e, hp, hk, outer, List.filter_nil, hok, if_true, Nat.sub_self, giveRange, giveBack, List.nil_append]
  simp only [bnd, e1, hf]; exact h1
/-- A read of a block that none before has laid. -/
theorem EndsDraw.load {v : Value} {fr1 : Fr} {N : Nat} (hcalm : Calm ds) (hw : Region.wanted o (yieldedL ops fr.tmps) = true) (hk : kindOf o = 2) (hc : ∀ f args ts, o.op ≠ .call ⟨.value f, args, ts⟩) (hb : blkOf fr o = N)
    (hh : ((hiddenOf (bef.getD i 0) ds).all fun p => decide (N < p.1) || decide (p.2 ≤ N)) = true)
    (hp : ∀ s0 : St, s0.t.get N = s.t.get N → evPlain T fr.eval o.op s0 = some (v, s0)) (hf : fr.put o.dst v = fr1) (h : EndsDraw T ops bef (i + 1) os ((i, ⟨2, N, s.next, s.next, []⟩) :: ds) fr1 s Q) : EndsDraw T ops bef i (o :: os) ds fr s Q := by
  obtain ⟨k, fr', s', h1, h2⟩ := h
  refine ⟨k, fr', s', ?_, h2⟩
  unfold evDraw
  rw [if_pos hw]
  have e : evOp T (evCode T k) fr o = evPlain T fr.eval o.op := by
    unfold evOp
    split
    · rename_i f args ts hop; exact absurd hop (hc _ _ _)
    · rfl
  have hv : viewOf 2 N (hiddenOf (bef.getD i 0) ds) s.t = Tree.leaf.set N (s.t.get N) := rfl
  have hp' := hp ⟨Tree.leaf.set N (s.t.get N), s.next, []⟩ (Tree.get_set_same _ _ _)
  have hok : drawOk (bef.getD i 0) ds (Tree.leaf.set N (s.t.get N)) ⟨2, N, s.next, s.next, []⟩ = true := by
    unfold drawOk
    have h3 : (ds.all fun p => (bef.getD i 0).testBit p.1 || okPair p.2 ⟨2, N, s.next, s.next, []⟩) = true := List.all_eq_true.2 fun p hp => by simp [okPair, okOne, hcalm p hp]
    simp only [h3, hh]
    simp
  have e1 : drawOne T (evCode T k) (bef.getD i 0) ds fr o s = some ((v, ⟨2, N, s.next, s.next, []⟩), s) := by
    unfold drawOne
    simp only [hk, hb, hv, e, hp', outer, List.filter_nil, hok, if_true, Nat.sub_self, giveRange, giveBack, List.nil_append]
  simp only [bnd, e1, hf]; exact h1

/-- A call by contract: those before are ordered with it, or have laid nothing. -/
theorem EndsDraw.call1 {f : Operand} {args : Array Operand} {ts : Array TypeId} {g : FuncId} {a c : Array Value} {as : List Value} {R : Value → St → Prop} (hcalm : Calm ds) (hw : Region.wanted o (yieldedL ops fr.tmps) = true) (ho : o.op = .call ⟨.value f, args, ts⟩)
    (hf : fr.eval f = .func (.func g) a c) (ha : a.toList ++ args.toList.map fr.eval ++ c.toList = as) (hh : hiddenOf (bef.getD i 0) ds = [])
    (hR : EndsCall T g as ⟨s.t, s.next, []⟩ fun v b => R v b ∧ Keep ⟨s.t, s.next, []⟩ b)
    (h : ∀ (v : Value) (b s1 : St), R v b → Keep s s1 → s1.next = b.next → (∀ N, N < b.next → s1.t.get N = b.t.get N) → EndsDraw T ops bef (i + 1) os ((i, ⟨3, blkOf fr o, s.next, b.next, []⟩) :: ds) (fr.put o.dst v) s1 Q) : EndsDraw T ops bef i (o :: os) ds fr s Q := by
  obtain ⟨k, v, b, h1, h2, hK⟩ := hR
  have kn := hK.next
  simp only at kn
  have hm : b.mods = [] := hK.mods
  have hget : ∀ N, N < b.next → (giveRange (b.next - s.next) s.next b.t s.t).get N = b.t.get N := fun N hN => by
    rw [giveRange_get]
    by_cases hx : s.next ≤ N ∧ N < s.next + (b.next - s.next)
    · rw [if_pos hx]
    · rw [if_neg hx]; exact (hK.old N (by simp only; omega)).symm
  obtain ⟨k2, fr', s', h3, h4⟩ := h v b ⟨giveRange (b.next - s.next) s.next b.t s.t, b.next, s.mods⟩ h2 ⟨kn, rfl, fun N hN => (hget N (by omega)).trans (hK.old N hN)⟩ rfl hget
  refine ⟨max k k2, fr', s', ?_, h4⟩
  unfold evDraw
  rw [if_pos hw]
  have hkind : kindOf o = 3 := by unfold kindOf; rw [ho]
  have e0 : evOp T (evCode T (max k k2)) fr o ⟨s.t, s.next, []⟩ = some (v, b) := by
    have : evOp T (evCode T k) fr o ⟨s.t, s.next, []⟩ = some (v, b) := by
      unfold evOp; rw [ho]; simp only [callValue, hf, ha]; exact h1
    exact Mle.evOp (evCode_le (Nat.le_max_left k k2)) fr o _ _ this
  have hv : viewOf 3 (blkOf fr o) [] s.t = s.t := rfl
  have hok := hcalm.ok (bef.getD i 0) s.t (d := ⟨3, blkOf fr o, s.next, b.next, []⟩) rfl (by simp)
  have e1 : drawOne T (evCode T (max k k2)) (bef.getD i 0) ds fr o s = some ((v, ⟨3, blkOf fr o, s.next, b.next, []⟩), ⟨giveRange (b.next - s.next) s.next b.t s.t, b.next, s.mods⟩) := by
    unfold drawOne
    simp only [hkind, hh, hv, e0, outer, hm, List.filter_nil, hok, if_true, giveBack, List.nil_append]
  simp only [bnd, e1]
  exact Mle.evDraw (evCode_le (Nat.le_max_right k k2)) ops bef os _ _ _ _ _ h3
end
section
variable {T : Tab} {cx : Ctx} {fr : Fr} {s : St}
theorem Ends.condT {x : Operand} {a b : Code} {Q : Ex → Fr → St → Prop} (hx : fr.eval x = .bool true) (h : Ends T cx a fr s Q) : Ends T cx (.cond x a b) fr s Q := Ends.cond hx (by simpa using h)
theorem Ends.condF {x : Operand} {a b : Code} {Q : Ex → Fr → St → Prop} (hx : fr.eval x = .bool false) (h : Ends T cx b fr s Q) : Ends T cx (.cond x a b) fr s Q := Ends.cond hx (by simpa using h)

def isExit : Ex → Bool
  | .exit _ => true
  | _ => false

theorem results_tmps {tmps : List Value} {s : St} : ∀ rs : List Tmp, results T tmps (rs.map ResultVar.tmp) s = some (rs.map (tmps.getD · undef), s)
  | [] => rfl
  | r :: rs => by
    simp only [List.map_cons, results, bnd, results_tmps rs]
    rfl

/-- A call of a function whose results are temporaries and that defers nothing. -/
theorem EndsCall.of1 {f : FuncId} {n : Nat} {body : Code} {rs : List Tmp} {args : List Value} {fr0 : Fr} {Q : Value → St → Prop} (hF : T.fn f = some ⟨n, body, rs.map ResultVar.tmp⟩) (h0 : (⟨args ++ List.replicate (n - args.length) undef, []⟩ : Fr) = fr0)
    (h : Ends T ⟨f, none⟩ body fr0 s fun e fr s1 => isExit e = false ∧ fr.defers = [] ∧ Q (valOf (rs.map (fr.tmps.getD · undef))) { s1 with mods := newMods s s1 ++ s.mods }) : EndsCall T f args s Q := by
  subst h0
  refine EndsCall.of hF (h.mono fun e fr s1 ⟨h1, h2, h3⟩ => ⟨_, s1, ?_, h3⟩)
  unfold finishCall
  cases e with
  | exit id => cases h1
  | normal => simp only [h2, takeDefers, bnd, results_tmps]; rfl
  | ret => simp only [h2, takeDefers, bnd, results_tmps]; rfl
end
end Go.Ev

/-
  EV: the rules of a printed walk, second part: rows of memory, what a function writes of its own, drawn regions by what they have laid.
-/
namespace Go.Ev
open Go Go.RowKit

/-- A row of the heap, under a name that is taken. -/
structure Row (t : Tree) (n : Nat) (N : Nat) (vs : List Value) (e : TypeId) (hi : Nat) : Prop where
  get : t.get N = some (.cells vs e hi)
  lt : N < n

/-- What a function has done in the midst: it wrote what it had laid itself, no more. -/
structure Own (s s' : St) : Prop where
  next : s.next ≤ s'.next
  mods : ∃ l, s'.mods = l ++ s.mods ∧ ∀ N ∈ l, s.next ≤ N ∧ N < s'.next
  old : ∀ N, N < s.next → s'.t.get N = s.t.get N

theorem Own.refl (s : St) : Own s s := ⟨Nat.le_refl _, ⟨[], rfl, fun _ h => by cases h⟩, fun _ _ => rfl⟩
theorem Own.trans {a b c : St} (h : Own a b) (k : Own b c) : Own a c := by
  obtain ⟨l, h1, h2⟩ := h.mods
  obtain ⟨m, k1, k2⟩ := k.mods
  refine ⟨Nat.le_trans h.next k.next, ⟨m ++ l, by rw [k1, h1, List.append_assoc], fun N hN => ?_⟩, fun N hN => (k.old N (Nat.lt_of_lt_of_le hN h.next)).trans (h.old N hN)⟩
  rcases List.mem_append.1 hN with hN | hN
  · exact ⟨Nat.le_trans h.next (k2 N hN).1, (k2 N hN).2⟩
  · exact ⟨(h2 N hN).1, Nat.lt_of_lt_of_le (h2 N hN).2 k.next⟩
theorem Keep.own {s s' : St} (h : Keep s s') : Own s s' := ⟨h.next, ⟨[], h.mods, fun _ h => by cases h⟩, h.old⟩
theorem Row.own {s s' : St} {N e hi : Nat} {vs : List Value} (r : Row s.t s.next N vs e hi) (h : Own s s') : Row s'.t s'.next N vs e hi := ⟨(h.old N r.lt).trans r.get, Nat.lt_of_lt_of_le r.lt h.next⟩
theorem Own.newMods {s s' : St} (h : Own s s') : newMods s s' ++ s.mods = s.mods := by
  obtain ⟨l, h1, h2⟩ := h.mods
  have : Ev.newMods s s' = [] := by
    unfold Ev.newMods
    rw [h1, List.length_append, Nat.add_sub_cancel, List.take_left]
    refine List.filter_eq_nil_iff.2 fun N hN => ?_
    have := h2 N hN
    simp; omega
  rw [this]; rfl

/-- A call of a function that writes nothing of its caller's: what it gives. -/
def EndsPure (T : Tab) (f : FuncId) (args : List Value) (s : St) (R : Value → Tree → Nat → Prop) : Prop := EndsCall T f args s fun v s' => Keep s s' ∧ R v s'.t s'.next
theorem EndsPure.mono {T : Tab} {f : FuncId} {args : List Value} {s : St} {R R' : Value → Tree → Nat → Prop} (h : EndsPure T f args s R) (hr : ∀ v t n, R v t n → R' v t n) : EndsPure T f args s R' := EndsCall.mono h fun _ _ ⟨h1, h2⟩ => ⟨h1, hr _ _ _ h2⟩

def Fin (s : St) (rs : List Tmp) (R : Value → Tree → Nat → Prop) (e : Ex) (fr : Fr) (s1 : St) : Prop := isExit e = false ∧ fr.defers = [] ∧ Own s s1 ∧ R (valOf (rs.map (fr.tmps.getD · undef))) s1.t s1.next

section
variable {T : Tab} {cx : Ctx} {fr : Fr} {s : St}

theorem EndsPure.of {f : FuncId} {n : Nat} {body : Code} {rs : List Tmp} {args : List Value} {fr0 : Fr} {R : Value → Tree → Nat → Prop} (hF : T.fn f = some ⟨n, body, rs.map ResultVar.tmp⟩) (h0 : (⟨args ++ List.replicate (n - args.length) undef, []⟩ : Fr) = fr0)
    (h : Ends T ⟨f, none⟩ body fr0 s (Fin s rs R)) : EndsPure T f args s R :=
  EndsCall.of1 hF h0 (h.mono fun e fr s1 ⟨h1, h2, h3, h4⟩ => ⟨h1, h2, ⟨h3.next, h3.newMods, h3.old⟩, h4⟩)

/-- A loop by what is kept, and what grows less. -/
theorem Ends.loopInv {b : Code} {Q : Ex → Fr → St → Prop} (I : Nat → Fr → St → Prop) (h : ∀ n fr s, I n fr s → Ends T cx b fr s fun e fr' s' => match e with
    | .normal => ∃ m, m < n ∧ I m fr' s'
    | e => Q e fr' s') : ∀ n fr s, I n fr s → Ends T cx (.loop b) fr s Q := by
  intro n
  induction n using Nat.strongRecOn with
  | _ n ih =>
    intro fr s hI
    refine Ends.loop ((h n fr s hI).mono fun e fr' s' hQ => ?_)
    cases e with
    | normal => obtain ⟨m, hm, hI'⟩ := hQ; exact ih m hm fr' s' hI'
    | ret => exact hQ
    | exit id => exact hQ
end

theorem W.block {T : Tab} {cx : Ctx} {fr : Fr} {s : St} {id : Nat} {b : Code} {Q : Ex → Fr → St → Prop} (h : Ends T cx b fr s fun e fr s => match e with
    | .exit j => if j = id then Q .normal fr s else Q (.exit j) fr s
    | e => Q e fr s) : Ends T cx (.block id b) fr s Q := Ends.block (h.mono fun e fr s h => by
  cases e with
  | normal => exact h
  | ret => exact h
  | exit j =>
    simp only at h
    unfold outOf
    split at h
    · rename_i e; simp only [e, if_true]; exact h
    · rename_i e; simp only [e, if_false]; exact h)
theorem W.outT {j id : Nat} {A C : Prop} (e : j = id) (h : A) : if j = id then A else C := by rw [if_pos e]; exact h
theorem W.outF {j id : Nat} {A C : Prop} (e : j ≠ id) (h : C) : if j = id then A else C := by rw [if_neg e]; exact h

def noCall : Op → Bool
  | .call ⟨.value _, _, _⟩ => false
  | _ => true
theorem noCall_ne {o : Op} (h : noCall o = true) : ∀ f args ts, o ≠ .call ⟨.value f, args, ts⟩ := by
  intro f args ts e; rw [e] at h; cases h

/-! Single operations. -/
section
variable {T : Tab} {ρ : Operand → Value} {s : St}
theorem p_bin {op : BinOp} {t p : TypeId} {x y : Operand} {v : Value} (h : binop T op t (isConst x || isConst y) (ρ x) (ρ y) = some v) : evPlain T ρ (.binOp op t x y p) s = some (v, s) := by
  unfold evPlain; simp only [lift, h]
theorem p_box {e : TypeId} {x : Operand} {vs : List Value} (h : cellsOf (ρ x) = vs) : evPlain T ρ (.box e x) s = some (.pointer (some ⟨s.next, 0, none⟩), { s with t := s.t.set s.next (some (.cells vs e 0)), next := s.next + 1 }) := by
  unfold evPlain; simp only [newRow, newB, bnd, ret, h]
theorem p_alloc {e : TypeId} {z : Value} {vs : List Value} (h : T.zero e = some z) (h2 : cellsOf z = vs) : evPlain T ρ (.alloc e) s = some (.pointer (some ⟨s.next, 0, none⟩), { s with t := s.t.set s.next (some (.cells vs e 0)), next := s.next + 1 }) := by
  unfold evPlain; simp only [newRow, newB, bnd, ret, lift, h, h2]
theorem p_load1 {t : TypeId} {a : Operand} {N o e hi n : Nat} {vs : List Value} {v : Value} {d : TypeDesc} (r : Row s.t n N vs e hi) (hx : ρ a = .pointer (some ⟨N, o, none⟩)) (hd : T.und t = some d) (ha : isAggD d = false) (hv : vs[o]? = some v) : evPlain T ρ (.load t a) s = some (v, s) := by
  unfold evPlain
  simp only [hx, addr, bnd, ret, loadVar, rowOf, r.get, hd, ha, hv, Bool.false_eq_true, if_false]
theorem p_loadA {t : TypeId} {a : Operand} {N o e hi n k : Nat} {vs cs : List Value} {d : TypeDesc} (r : Row s.t n N vs e hi) (hx : ρ a = .pointer (some ⟨N, o, none⟩)) (hd : T.und t = some d) (ha : isAggD d = true) (hk : T.size t = some k) (hv : Ev.slice vs o k = some cs) : evPlain T ρ (.load t a) s = some (.agg ⟨cs⟩, s) := by
  unfold evPlain
  simp only [hx, addr, bnd, ret, loadVar, rowOf, r.get, hd, ha, hv, hk, if_true]
theorem p_ix {t : TypeId} {x i : Operand} {v : Value} (h : indexAddr T t (ρ x) (ρ i) = some v) : evPlain T ρ (.indexAddr t x i) s = some (v, s) := by
  unfold evPlain; simp only [lift, h]

variable {t : TypeId} {c : Bool} {k : IntKind} {a b : Int}
theorem geT (h : b ≤ a) : binop T .geq t c (.int k a) (.int k b) = some (.bool true) := by simp [binop, intOp, h]
theorem geF (h : ¬ b ≤ a) : binop T .geq t c (.int k a) (.int k b) = some (.bool false) := by simp [binop, intOp, h]
theorem leT (h : a ≤ b) : binop T .leq t c (.int k a) (.int k b) = some (.bool true) := by simp [binop, intOp, h]
theorem leF (h : ¬ a ≤ b) : binop T .leq t c (.int k a) (.int k b) = some (.bool false) := by simp [binop, intOp, h]
theorem ltT (h : a < b) : binop T .lss t c (.int k a) (.int k b) = some (.bool true) := by simp [binop, intOp, h]
theorem ltF (h : ¬ a < b) : binop T .lss t c (.int k a) (.int k b) = some (.bool false) := by simp [binop, intOp, h]
theorem gtT (h : b < a) : binop T .gtr t c (.int k a) (.int k b) = some (.bool true) := by simp [binop, intOp, h]
theorem gtF (h : ¬ b < a) : binop T .gtr t c (.int k a) (.int k b) = some (.bool false) := by simp [binop, intOp, h]
theorem eqT (h : a = b) : binop T .eql t c (.int k a) (.int k b) = some (.bool true) := by simp [binop, intOp, h]
theorem eqF (h : ¬ a = b) : binop T .eql t c (.int k a) (.int k b) = some (.bool false) := by simp [binop, intOp, h]
theorem neT (h : ¬ a = b) : binop T .neq t c (.int k a) (.int k b) = some (.bool true) := by simp [binop, intOp, h]
theorem neF (h : a = b) : binop T .neq t c (.int k a) (.int k b) = some (.bool false) := by simp [binop, intOp, h]
/-- A string's bytes. -/
def B (s : ByteArray) : List UInt8 := s.data.toList
theorem seqT {x y : ByteArray} (h : B x = B y) : binop T .eql t c (.string x) (.string y) = some (.bool true) := by simp [binop, stringOp, B] at h ⊢; exact h
theorem seqF {x y : ByteArray} (h : ¬ B x = B y) : binop T .eql t c (.string x) (.string y) = some (.bool false) := by simp [binop, stringOp, B] at h ⊢; exact h
theorem sneT {x y : ByteArray} (h : ¬ B x = B y) : binop T .neq t c (.string x) (.string y) = some (.bool true) := by simp [binop, stringOp, B] at h ⊢; exact h
theorem sneF {x y : ByteArray} (h : B x = B y) : binop T .neq t c (.string x) (.string y) = some (.bool false) := by simp [binop, stringOp, B] at h ⊢; exact h
/-- 64 bits. -/
abbrev W (x : Int) : Int := IntKind.i64.wrap x
theorem addW : binop T .add t c (.int .i64 a) (.int .i64 b) = some (.int .i64 (W (a + b))) := rfl
theorem subW : binop T .sub t c (.int .i64 a) (.int .i64 b) = some (.int .i64 (W (a - b))) := rfl
theorem W_id {x : Int} (h : -9223372036854775808 ≤ x) (h2 : x < 9223372036854775808) : W x = x := by
  unfold W IntKind.wrap
  simp [IntKind.signed, IntKind.bits]
  omega
theorem addI {d : Int} (e : a + b = d) (h : -9223372036854775808 ≤ d) (h2 : d < 9223372036854775808) : binop T .add t c (.int .i64 a) (.int .i64 b) = some (.int .i64 d) := by rw [addW, e, W_id h h2]
theorem subI {d : Int} (e : a - b = d) (h : -9223372036854775808 ≤ d) (h2 : d < 9223372036854775808) : binop T .sub t c (.int .i64 a) (.int .i64 b) = some (.int .i64 d) := by rw [subW, e, W_id h h2]
end

/-! Lists in memory. -/
/-- A slice whose elements are cells alone: 'c' says which, 'k' how many. -/
structure Sl {α : Type} (c : α → List Value) (k : Nat) (t : Tree) (n : Nat) (a : Option Addr) (l : List α) (N o : Nat) (vs : List Value) (e hi : Nat) : Prop where
  addr : l ≠ [] → a = some ⟨N, o, none⟩
  row : l ≠ [] → Row t n N vs e hi
  get : ∀ i x, l[i]? = some x → Ev.slice vs (o + i * k) k = some (c x)
  small : l.length < 4611686018427387904

theorem slice_at {vs cs : List Value} {o n j : Nat} {v : Value} (h : Ev.slice vs o n = some cs) (hj : cs[j]? = some v) : vs[o + j]? = some v := by
  unfold Ev.slice at h
  simp only at h
  split at h
  · cases h
    rw [List.getElem?_take] at hj
    split at hj
    · rwa [List.getElem?_drop] at hj
    · cases hj
  · cases h
section
variable {α : Type} {c : α → List Value} {k : Nat} {a : Option Addr} {l : List α} {N o e hi : Nat} {vs : List Value}
theorem Sl.own {s s' : St} (h : Sl c k s.t s.next a l N o vs e hi) (w : Own s s') : Sl c k s'.t s'.next a l N o vs e hi := ⟨h.addr, fun hl => (h.row hl).own w, h.get, h.small⟩
theorem Sl.ne {t : Tree} {n : Nat} (_ : Sl c k t n a l N o vs e hi) {i : Nat} {x : α} (hx : l[i]? = some x) : l ≠ [] := by
  intro h; rw [h] at hx; cases hx
theorem Sl.ix {t : Tree} {n : Nat} (h : Sl c k t n a l N o vs e hi) {T : Tab} {ty el : TypeId} (hu : T.und ty = some (.slice el)) (hs : T.size el = some k) {i : Nat} {x : α} (hx : l[i]? = some x) (cap : Nat) : indexAddr T ty (.slice a l.length cap) (.int .i64 i) = some (.pointer (some ⟨N, o + i * k, none⟩)) := by
  have hi' : i < l.length := by
    obtain ⟨h1, _⟩ := List.getElem?_eq_some_iff.1 hx; exact h1
  rw [h.addr (h.ne hx)]
  unfold indexAddr
  simp only [hu, hs]
  rw [if_pos ⟨by omega, by omega⟩]
  simp
theorem Sl.row' {t : Tree} {n : Nat} (h : Sl c k t n a l N o vs e hi) {i : Nat} {x : α} (hx : l[i]? = some x) : Row t n N vs e hi := h.row (h.ne hx)
theorem Sl.at {t : Tree} {n : Nat} (h : Sl c k t n a l N o vs e hi) {i j : Nat} {x : α} {v : Value} (hx : l[i]? = some x) (hj : (c x)[j]? = some v) : vs[o + i * k + j]? = some v := slice_at (h.get i x hx) hj
end
theorem ex_at {α : Type} {l : List α} {i : Nat} (h : i < l.length) : ∃ x, l[i]? = some x := ⟨l[i], List.getElem?_eq_getElem h⟩
/-- An edit. -/
structure Ed where
  lo : Int
  hi : Int
  tx : ByteArray
abbrev Ed.cells (e : Ed) : List Value := [.int .i64 e.lo, .int .i64 e.hi, .string e.tx]

/-! In the text's order. -/
section
variable {T : Tab} {fr : Fr} {s s0 : St} {ops : Array Oper} {o : Oper} {os : List Oper} {Q : Fr → St → Prop}

theorem W.op {v : Value} {fr1 : Fr} (hw : Region.wanted o (yieldedL ops fr.tmps) = true) (hp : evPlain T fr.eval o.op s = some (v, s)) (hc : noCall o.op = true) (hf : fr.put o.dst v = fr1) (h : EndsOps T ops os fr1 s Q) : EndsOps T ops (o :: os) fr s Q := EndsOps.plain1 hw hp (noCall_ne hc) hf h
theorem W.skip {fr1 : Fr} (hw : Region.wanted o (yieldedL ops fr.tmps) = false) (hf : fr.put o.dst undef = fr1) (h : EndsOps T ops os fr1 s Q) : EndsOps T ops (o :: os) fr s Q := EndsOps.skip1 hw hf h
theorem W.new {N : Nat} {e : TypeId} {vs : List Value} {fr1 : Fr} (hO : Own s0 s) (hN : N = s.next) (hw : Region.wanted o (yieldedL ops fr.tmps) = true)
    (hp : evPlain T fr.eval o.op s = some (.pointer (some ⟨s.next, 0, none⟩), { s with t := s.t.set s.next (some (.cells vs e 0)), next := s.next + 1 })) (hc : noCall o.op = true) (hf : fr.put o.dst (.pointer (some ⟨N, 0, none⟩)) = fr1)
    (h : ∀ s1 : St, Own s0 s1 → Own s s1 → Row s1.t s1.next N vs e 0 → s0.next ≤ N → EndsOps T ops os fr1 s1 Q) : EndsOps T ops (o :: os) fr s Q := by
  subst hN
  have hS : Own s { s with t := s.t.set s.next (some (.cells vs e 0)), next := s.next + 1 } := ⟨Nat.le_succ _, ⟨[], rfl, fun _ h => by cases h⟩, fun N hN => Tree.get_set_ne _ _ (Nat.ne_of_lt hN)⟩
  exact EndsOps.plain1 hw hp (noCall_ne hc) hf (h _ (hO.trans hS) hS ⟨Tree.get_set_same _ _ _, Nat.lt_succ_self _⟩ hO.next)
theorem W.call {f : Operand} {args : Array Operand} {ts : Array TypeId} {g : FuncId} {ar : List Value} {X : Value} {fr1 : Fr} (hO : Own s0 s) (hw : Region.wanted o (yieldedL ops fr.tmps) = true) (ho : o.op = .call ⟨.value f, args, ts⟩)
    (hf : fr.eval f = .func (.func g) #[] #[]) (ha : args.toList.map fr.eval = ar) (hR : EndsPure T g ar s fun v _ _ => v = X) (hp : fr.put o.dst X = fr1) (h : ∀ s1, Own s0 s1 → Own s s1 → EndsOps T ops os fr1 s1 Q) : EndsOps T ops (o :: os) fr s Q := by
  subst hp
  refine EndsOps.call1 hw ho hf rfl (R := fun v s' => Keep s s' ∧ v = X) ?_ fun v s1 ⟨hk, hv⟩ => by subst hv; exact h s1 (hO.trans hk.own) hk.own
  simp only [List.nil_append, List.append_nil, ha]; exact hR
/-- A store into a block of one's own. -/
theorem W.store {t : TypeId} {a x : Operand} {N p e hi : Nat} {vs vs' cs : List Value} {fr1 : Fr} (hO : Own s0 s) (r : Row s.t s.next N vs e hi) (hN : s0.next ≤ N) (hw : Region.wanted o (yieldedL ops fr.tmps) = true) (ho : o.op = .store t a x) (hx : fr.eval a = .pointer (some ⟨N, p, none⟩)) (hv : cellsOf (fr.eval x) = cs)
    (hz : T.size t = some cs.length) (h0 : cs ≠ []) (hh : hi < END ∧ hi ≤ p ∧ p + cs.length ≤ vs.length ∧ cs.all oneCell = true) (hp : putAt vs p cs = vs') (hf : fr.put o.dst undef = fr1)
    (h : ∀ s1 : St, Own s0 s1 → s1.next = s.next → (∀ M, M ≠ N → s1.t.get M = s.t.get M) → Row s1.t s1.next N vs' e hi → EndsOps T ops os fr1 s1 Q) : EndsOps T ops (o :: os) fr s Q := by
  subst hp
  have hc : noCall o.op = true := by rw [ho]; rfl
  refine EndsOps.plain1 hw (v := undef) (s1 := { s with t := s.t.set N (some (.cells (putAt vs p cs) e hi)), mods := N :: s.mods }) ?_ (noCall_ne hc) hf (h _ ?_ rfl (fun M hM => Tree.get_set_ne _ _ hM) ⟨Tree.get_set_same _ _ _, r.lt⟩)
  · rw [ho]
    unfold evPlain
    cases hcs : cs with
    | nil => exact absurd hcs h0
    | cons c0 cr =>
      simp only [hx, addr, bnd, ret, storeVar, hz, hv, if_true]
      rw [← hcs]
      unfold storeCells
      rw [hcs]
      simp only [bnd, rowOf, r.get]
      rw [← hcs, if_pos hh]
      simp only [setB, r.get]
  · obtain ⟨l, h1, h2⟩ := hO.mods
    refine ⟨hO.next, ⟨N :: l, by simp [h1], fun M hM => ?_⟩, fun M hM => (Tree.get_set_ne _ _ (by omega)).trans (hO.old M hM)⟩
    rcases List.mem_cons.1 hM with rfl | hM
    · exact ⟨hN, r.lt⟩
    · exact h2 M hM
theorem Row.upd {s s1 : St} {N M e hi : Nat} {vs : List Value} (r : Row s.t s.next M vs e hi) (hn : s1.next = s.next) (hu : ∀ M, M ≠ N → s1.t.get M = s.t.get M) (h : M ≠ N) : Row s1.t s1.next M vs e hi := ⟨(hu M h).trans r.get, hn ▸ r.lt⟩
theorem Sl.upd {α : Type} {c : α → List Value} {k : Nat} {a : Option Addr} {l : List α} {M o e hi N : Nat} {vs : List Value} {s s1 : St} (h : Sl c k s.t s.next a l M o vs e hi) (hn : s1.next = s.next) (hu : ∀ M, M ≠ N → s1.t.get M = s.t.get M) (hM : l ≠ [] → M ≠ N) : Sl c k s1.t s1.next a l M o vs e hi :=
  ⟨h.addr, fun hl => (h.row hl).upd hn hu (hM hl), h.get, h.small⟩
end

/-! In drawn order. -/
/-- What those so far have laid: place, from, to. -/
def hidL (bits : Nat) : List (Nat × Nat × Nat) → List (Nat × Nat)
  | [] => []
  | (j, lo, hi) :: r => if bits.testBit j then hidL bits r else (lo, hi) :: hidL bits r
def EndsD (T : Tab) (ops : Array Oper) (bef : List Nat) (i : Nat) (os : List Oper) (L : List (Nat × Nat × Nat)) (fr : Fr) (s : St) (Q : Fr → St → Prop) : Prop :=
  ∀ ds, Calm ds → (∀ bits p, p ∈ hiddenOf bits ds → p ∈ hidL bits L) → EndsDraw T ops bef i os ds fr s Q
section
variable {T : Tab} {cx : Ctx} {fr : Fr} {s s0 : St} {ops : Array Oper} {bef : List Nat} {i : Nat} {o : Oper} {os : List Oper} {L : List (Nat × Nat × Nat)} {Q : Fr → St → Prop}

theorem Ends.drawW {id : Nat} {Q : Ex → Fr → St → Prop} (hb : befL [] ops.toList = bef) (h : EndsD T ops bef 0 ops.toList [] fr s fun fr s => Q .normal fr s) : Ends T cx (.region id ops true) fr s Q := by
  subst hb
  exact Ends.draw (h [] Calm.nil fun _ _ h => h)
theorem D.nil (h : Q fr s) : EndsD T ops bef i [] L fr s Q := fun _ _ _ => EndsDraw.nil h
theorem D.skip {fr1 : Fr} (hw : Region.wanted o (yieldedL ops fr.tmps) = false) (hf : fr.put o.dst undef = fr1) (h : EndsD T ops bef (i + 1) os L fr1 s Q) : EndsD T ops bef i (o :: os) L fr s Q := fun ds h1 h2 => EndsDraw.skip1 hw hf (h ds h1 h2)
theorem hid_same {k b x : Nat} {ms : List Nat} {ds : List (Nat × Did)} (h : ∀ bits p, p ∈ hiddenOf bits ds → p ∈ hidL bits L) : ∀ bits p, p ∈ hiddenOf bits ((i, ⟨k, b, x, x, ms⟩) :: ds) → p ∈ hidL bits L := fun bits p hp => by
  unfold hiddenOf at hp
  simp at hp
  exact h bits p hp
theorem hid_more {k b x y : Nat} {ms : List Nat} {ds : List (Nat × Did)} (h : ∀ bits p, p ∈ hiddenOf bits ds → p ∈ hidL bits L) : ∀ bits p, p ∈ hiddenOf bits ((i, ⟨k, b, x, y, ms⟩) :: ds) → p ∈ hidL bits ((i, x, y) :: L) := fun bits p hp => by
  unfold hiddenOf at hp
  unfold hidL
  by_cases hb : bits.testBit i = true
  · simp [hb] at hp ⊢
    exact h bits p hp
  · simp [hb] at hp ⊢
    split at hp
    · exact .inr (h bits p hp)
    · rcases List.mem_cons.1 hp with rfl | hp
      · exact .inl rfl
      · exact .inr (h bits p hp)
theorem D.op {v : Value} {fr1 : Fr} (hw : Region.wanted o (yieldedL ops fr.tmps) = true) (hp : evPlain T fr.eval o.op ⟨.leaf, s.next, []⟩ = some (v, ⟨.leaf, s.next, []⟩)) (hc : noCall o.op = true) (hk : kindOf o = 0) (hf : fr.put o.dst v = fr1)
    (h : EndsD T ops bef (i + 1) os L fr1 s Q) : EndsD T ops bef i (o :: os) L fr s Q := fun ds h1 h2 => EndsDraw.still h1 hw hk (noCall_ne hc) hp hf (h _ (h1.cons rfl) (hid_same h2))
theorem D.load {t : TypeId} {a : Operand} {N p : Nat} {v : Value} {fr1 : Fr} (hw : Region.wanted o (yieldedL ops fr.tmps) = true) (ho : o.op = .load t a) (hx : fr.eval a = .pointer (some ⟨N, p, none⟩)) (hh : ∀ q ∈ hidL (bef.getD i 0) L, N < q.1 ∨ q.2 ≤ N)
    (hp : ∀ s1 : St, s1.t.get N = s.t.get N → evPlain T fr.eval o.op s1 = some (v, s1)) (hf : fr.put o.dst v = fr1) (h : EndsD T ops bef (i + 1) os L fr1 s Q) : EndsD T ops bef i (o :: os) L fr s Q := fun ds h1 h2 => by
  have hc : noCall o.op = true := by rw [ho]; rfl
  have hb : blkOf fr o = N := by unfold blkOf; rw [ho]; simp only [hx]
  have hk : kindOf o = 2 := by unfold kindOf; rw [ho]
  refine EndsDraw.load h1 hw hk (noCall_ne hc) hb (List.all_eq_true.2 fun q hq => ?_) hp hf (h _ (h1.cons rfl) (hid_same h2))
  have := hh q (h2 _ q hq)
  simpa using this
theorem D.call {f : Operand} {args : Array Operand} {ts : Array TypeId} {g : FuncId} {ar : List Value} {X : Value} {fr1 : Fr} (hO : Own s0 s) (hw : Region.wanted o (yieldedL ops fr.tmps) = true) (ho : o.op = .call ⟨.value f, args, ts⟩)
    (hf : fr.eval f = .func (.func g) #[] #[]) (ha : args.toList.map fr.eval = ar) (hh : hidL (bef.getD i 0) L = []) (hR : EndsPure T g ar ⟨s.t, s.next, []⟩ fun v _ _ => v = X) (hp : fr.put o.dst X = fr1)
    (h : ∀ s1, Own s0 s1 → Own s s1 → EndsD T ops bef (i + 1) os ((i, s.next, s1.next) :: L) fr1 s1 Q) : EndsD T ops bef i (o :: os) L fr s Q := fun ds h1 h2 => by
  subst hp
  have hn : hiddenOf (bef.getD i 0) ds = [] := List.eq_nil_iff_forall_not_mem.2 fun p hp => by
    have := h2 _ p hp
    rw [hh] at this; cases this
  refine EndsDraw.call1 h1 hw ho hf rfl hn (R := fun v _ => v = X) ?_ fun v b s1 hv hk hnx _ => ?_
  · refine EndsCall.mono (Q := fun v s' => Keep ⟨s.t, s.next, []⟩ s' ∧ v = X) (by simp only [List.nil_append, List.append_nil, ha]; exact hR) fun _ _ h => ⟨h.2, h.1⟩
  · subst hv
    rw [← hnx]
    exact h s1 (hO.trans hk.own) hk.own _ (h1.cons rfl) (hid_more h2)
end
end Go.Ev
