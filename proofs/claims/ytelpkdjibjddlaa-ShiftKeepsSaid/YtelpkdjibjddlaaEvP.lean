/-
  EV, PART P: the rounds of a loop over a function.
-/
import Derived.Test.YtelpkdjibjddlaaEvN
set_option linter.unusedSimpArgs false
set_option linter.unusedVariables false
namespace Go.Ev
open Go Go.RowKit

def putLoop (w : World) (l : Nat) (r : Loop) : World := { w with heap := w.heap.setIfInBounds l (.loop r) }

section
variable {P : Program} {fc : Frame} {cs : List Frame} {w : World} {k : List Item}

theorem run_getLoop {l : Nat} {r : Loop} (h : w.heap[l]? = some (.loop r)) : (Instr.getLoop l).run P w = .ok r w := by
  simp [Instr.getLoop, getObj, Sem.run, h]
theorem run_setLoop {l : Nat} {r r' : Loop} (h : w.heap[l]? = some (.loop r)) : (setObj l (.loop r')).run P w = .ok () (putLoop w l r') := by
  simp [setObj, Sem.run, h, putLoop]

theorem st_beginRound {l : Nat} {r : Loop} (hm : fc.mode = .run) (hr : fc.roundOf = some l) (ht : fc.todo = .beginRound :: k) (hh : w.heap[l]? = some (.loop r)) (hs : r.state = .ready) :
    step P (lone fc cs w) = .next (lone { fc with todo := k } cs (putLoop w l { r with state := .busy })) :=
  step_lone_go (by
    have hb : (Instr.beginRound l).run P w = .ok () (putLoop w l { r with state := .busy }) := by
      simp only [Instr.beginRound, Sem.run_bind, run_getLoop hh, Result.andThen_ok, run_setLoop hh, hs, Sem.run_pure]
    cases fc; simp only at hm ht hr; subst hm ht hr
    simp [stepG, stepG.exec, stepG.apply, hb, Frame.finish])

theorem st_leave {c : Frame} {l : Nat} {r : Loop} {jump : Option Code} (hm : fc.mode = .run) (hr : fc.roundOf = some l) (hk : fc.kind = .normal) (hh : w.heap[l]? = some (.loop r))
    (ht : (jump = none ∧ fc.todo = []) ∨ (jump = some .ret ∧ ∃ K, fc.todo = .code .ret :: K) ∨ (∃ id K, jump = some (.exit id) ∧ fc.todo = .code (.exit id) :: K ∧ exitTo id K = none)) :
    step P (lone fc (c :: cs) w) = .next (lone (c.finish (.bool jump.isNone)) cs (putLoop w l { r with state := if jump.isNone then .ready else .done, pending := jump })) :=
  step_lone_go (by
    have he : (Instr.endRound l jump).run P w = .ok (.bool jump.isNone) (putLoop w l { r with state := if jump.isNone then .ready else .done, pending := jump }) := by
      simp only [Instr.endRound, Sem.run_bind, run_getLoop hh, Result.andThen_ok, run_setLoop hh, Sem.run_pure]
    cases fc; simp only at hm ht hr hk; subst hm hr hk
    rcases ht with ⟨rfl, rfl⟩ | ⟨rfl, K, rfl⟩ | ⟨id, K, rfl, rfl, hx⟩
    · simp only [stepG, stepG.exec, Sem.runT_eq, he, GStep.bare_after]
      simp [doReturn]
    · simp only [stepG, stepG.exec, Sem.runT_eq, he, GStep.bare_after]
      simp [doReturn]
    · simp only [stepG, stepG.exec, Sem.runT_eq, hx, Option.elim, he, GStep.bare_after]
      simp [doReturn])

theorem st_endRange {l : Nat} {r : Loop} (hm : fc.mode = .run) (ht : fc.todo = .endRangeFunc l :: k) (hh : w.heap[l]? = some (.loop r)) (hs : r.state ≠ .busy) :
    step P (lone fc cs w) = .next (lone { fc with todo := (r.pending.map Item.code).toList ++ k } cs (putLoop w l { r with state := .exhausted })) :=
  step_lone_go (by
    have he : (Instr.endLoop l).run P w = .ok r.pending (putLoop w l { r with state := .exhausted }) := by
      have : (r.state == .busy) = false := by simpa using hs
      simp only [Instr.endLoop, Sem.run_bind, run_getLoop hh, Result.andThen_ok, this, Bool.false_eq_true, if_false, Sem.run_pure, run_setLoop hh]
    cases fc; simp only at hm ht; subst hm ht
    simp [stepG, stepG.exec, Sem.runT_eq, he, GStep.bare_after])
end

theorem setMany_rel {φ : Phi} : ∀ (ts : List Tmp) (tmps tmps' vs vs' : List Value), LRel φ tmps tmps' → LRel φ vs vs' → LRel φ (setMany tmps ts vs) (setMany tmps' ts vs')
  | [], tmps, tmps', vs, vs', h, _ => by cases vs <;> cases vs' <;> exact h
  | t :: ts, tmps, tmps', [], vs', h, hv => by obtain rfl := hv.nil_inv; exact h
  | t :: ts, tmps, tmps', v :: vs, vs', h, hv => by
    obtain ⟨v', r', rfl, h1, h2⟩ := hv.cons_inv
    exact setMany_rel ts _ _ vs r' (h.set t h1) h2

theorem setMany_fold : ∀ (ts : List Tmp) (vs : List Value) (a : Array Value), ((ts.zip vs).foldl (fun (tmps : Array Value) (x : Tmp × Value) => tmps.setIfInBounds x.1 x.2) a).toList = setMany a.toList ts vs
  | [], vs, a => by cases vs <;> rfl
  | t :: ts, [], a => rfl
  | t :: ts, v :: vs, a => by
    simp only [List.zip_cons_cons, List.foldl_cons, setMany]
    rw [setMany_fold ts vs]
    simp

theorem loop_of {φ : Phi} {B : Base} {H : Nat → Option Blk} {w : World} (hR : Rel φ B H w) {l : Nat} {r : Loop} (hl : H l = some (.obj (.loop r))) :
    ∃ L r', φ l = some L ∧ w.heap[L.blk]? = some (.loop r') ∧ L.off = 0 ∧ ¬ B.keep L.blk ∧ ORel B.code φ (.loop r) (.loop r') := by
  obtain ⟨L, hL, o', k1, k2, k3, k4⟩ := hR.blk l _ hl
  cases o' <;> simp only [ORel] at k2 <;> try (exact k2.elim)
  rename_i r'
  exact ⟨L, r', hL, k1, k4, k3, k2⟩

theorem getLoop_some {l : Nat} {s s' : St} {r : Loop} (h : getLoop l s = some (r, s')) : s.t.get l = some (.obj (.loop r)) ∧ s' = s := by
  unfold getLoop at h
  split at h
  · rename_i r' hl; cases h; exact ⟨hl, rfl⟩
  · cases h

/-- The loop's record, turned on both sides. -/
theorem putLoop_rel {φ : Phi} {B : Base} {H : Nat → Option Blk} {w : World} (hR : Rel φ B H w) {l : Nat} {r r2 r2' : Loop} {L : Loc} (hl : H l = some (.obj (.loop r))) (hL : φ l = some L) (hk : ¬ B.keep L.blk) (ho : L.off = 0)
    (h2 : ORel B.code φ (.loop r2) (.loop r2')) : Rel φ B (upd H l (some (.obj (.loop r2)))) (putLoop w L.blk r2') ∧ KeepsB B w (putLoop w L.blk r2') := by
  have hb : L.blk < w.heap.size := hR.inw _ _ hL
  refine ⟨hR.set hl hL trivial _ (by simp [putLoop]) (fun k hk => by simp [putLoop, Ne.symm hk]) ⟨.loop r2', by simp [putLoop, hb], h2, hk, ho⟩, ?_⟩
  exact (Keeps.set (φ := φ) (w := w) (w' := putLoop w L.blk r2') hl hL trivial rfl rfl rfl (by simp [putLoop]) (fun k hk => by simp [putLoop, Ne.symm hk])).weak hR

section
variable {T : Tab} {P : Program} (hT : T.Ok P) {ok : Code → Prop} (hF : T.Fns P ok)
include hT hF

theorem sim_round {rec : RunCode} (hC : CodeSim T P ok rec) (hLg : ∀ cx c fr, Logs (rec cx c fr)) {B : Base} (hBz : B.sz = P.cellsOf) (hBc : B.code = ok) {φ : Phi} {s s' : St} {w : World} (hR : Rel φ B s.t.get w) (hf : Fresh φ s.next s'.next) (hG : GRel φ T.globs) {l : Nat} {L : Loc} (hL : φ l = some L)
    {args args' : List Value} (ha : LRel φ args args') {v : Value}
    (h : round rec l args s = some (v, s')) (fc : Frame) (cs : List Frame) (hni : isCallItem fc.todo = false) : ∃ φ' w' v', Aft P B φ s w φ' s' w' ∧ VRel φ' v v' ∧ CallsTo P (Instr.yield L.blk ⟨args'⟩) fc cs w v' w' := by
  have _ := hT
  have _ := hF
  unfold round at h
  obtain ⟨r, s1, h1, h2⟩ := bnd_some h
  obtain ⟨hl, rfl⟩ := getLoop_some h1
  obtain ⟨L2, r', hL2, hw, hoff, hnk, hO⟩ := loop_of hR hl
  rw [hL] at hL2; cases hL2
  obtain ⟨o1, o2, o3, o4, o5, o6, o7, o8, o9, o10⟩ := hO
  split at h2
  · rename_i hlen
    obtain ⟨⟨e, fr⟩, s2, h3, h4⟩ := bnd_some h2
    simp only at h4
    cases e <;> simp only [roundBody] at h4 <;> try (cases h4; done)
    obtain ⟨ra, s3, h5, h6⟩ := bnd_some h4
    obtain ⟨hl2, rfl⟩ := getLoop_some h5
    split at h6
    · rename_i hst
      obtain ⟨_, s4, h7, h8⟩ := bnd_some h6
      obtain ⟨_, rfl⟩ := setB_some h7
      obtain ⟨⟨e2, fr2⟩, s5, h9, h10⟩ := bnd_some h8
      simp only [endRound] at h10
      split at h10
      · rename_i hdf
        obtain ⟨rb, s6, h11, h12⟩ := bnd_some h10
        obtain ⟨hl3, rfl⟩ := getLoop_some h11
        obtain ⟨_, s7, h13, h14⟩ := bnd_some h12
        obtain ⟨_, rfl⟩ := setB_some h13
        obtain ⟨rfl, rfl⟩ := ret_some h14
        -- how names grow
        have g1 := (hLg _ _ _ _ _ _ h3).1
        have g2 := (hLg _ _ _ _ _ _ h9).1
        simp only at g1 g2 hf
        -- the assignment
        let tm : Array Value := (r'.params.zip ⟨args'⟩).foldl (fun tmps (x : Tmp × Value) => tmps.setIfInBounds x.1 x.2) r'.tmps
        have htm : tm.toList = setMany r'.tmps.toList r'.params.toList args' := by
          show ((r'.params.zip ⟨args'⟩).foldl (fun (tmps : Array Value) (x : Tmp × Value) => tmps.setIfInBounds x.1 x.2) r'.tmps).toList = _
          rw [← Array.foldl_toList, Array.toList_zip, setMany_fold]
        have hfr0 : FRel φ ⟨setMany r.tmps.toList r.params.toList args, []⟩ ⟨r.fn, some l⟩ (Frame.round L.blk r'.fn tm r'.assign r'.body .normal) :=
          ⟨by simp [Frame.round, o3], rfl, rfl, ⟨L, hL, rfl⟩, by
            simp only [Frame.round]
            rw [htm, o5]
            exact setMany_rel _ _ _ _ _ o4 ha, .nil⟩
        obtain ⟨φ1, w1, f1, a1, a2, a3, a4⟩ := hC _ r.assign _ _ _ fr _ h3 (by rw [← hBc]; exact o9) φ B w _ (fc :: cs) [.beginRound, .code r.body] hBz hBc hR (hf.sub (Nat.le_refl _) g2) hG hfr0 (by simp [Frame.round, o6, o7])
        -- the round begins
        obtain ⟨L1, ra', hL1, hw1, hoff1, hnk1, hO1⟩ := loop_of a1.rel hl2
        have hL1' := a1.grows.1 _ _ hL
        rw [hL1'] at hL1; cases hL1
        have hro1 : f1.roundOf = some L.blk := by
          have := a2.round
          simp only at this
          cases hx : f1.roundOf with
          | none => rw [hx] at this; exact this.elim
          | some y =>
            rw [hx] at this
            obtain ⟨L3, q1, q2⟩ := this
            rw [hL1'] at q1; cases q1; rw [q2]
        have hO1' := hO1
        obtain ⟨p1, p2, p3, p4, p5, p6, p7, p8, p9, p10⟩ := hO1
        have hstep1 := st_beginRound (P := P) (cs := fc :: cs) a2.mode hro1 a4 hw1 (by rw [← p1]; exact hst)
        obtain ⟨b1, b2⟩ := putLoop_rel (r2 := { ra with state := .busy }) (r2' := { ra' with state := .busy }) a1.rel hl2 hL1' hnk1 hoff1 ⟨rfl, p2, p3, p4, p5, p6, p7, p8, p9, p10⟩
        -- the body
        have hfr2 : FRel φ1 fr ⟨r.fn, some l⟩ { f1 with todo := [.code r.body] } := a2.todo _
        obtain ⟨φ2, w2, f2, c1, c2, c3, c4⟩ := hC _ r.body fr _ e2 fr2 _ h9 (by rw [← hBc]; exact o10) φ1 B (putLoop w1 L.blk { ra' with state := .busy }) _ (fc :: cs) [] hBz hBc (by simp only; rw [get_upd]; exact b1)
          (by simp only; exact (a1.fresh (n := s6.next) hf).sub (Nat.le_refl _) (Nat.le_refl _)) (hG.mono a1.grows.1) hfr2 rfl
        -- the round ends
        obtain ⟨L3, rb', hL3, hw3, hoff3, hnk3, hO3⟩ := loop_of c1.rel hl3
        have hL3' := c1.grows.1 _ _ hL1'
        rw [hL3'] at hL3; cases hL3
        have hro2 : f2.roundOf = some L.blk := by
          have := c2.round
          simp only at this
          cases hx : f2.roundOf with
          | none => rw [hx] at this; exact this.elim
          | some y =>
            rw [hx] at this
            obtain ⟨L3, q1, q2⟩ := this
            rw [hL3'] at q1; cases q1; rw [q2]
        obtain ⟨q1, q2, q3, q4, q5, q6, q7, q8, q9, q10⟩ := hO3
        have hstep2 := st_leave (P := P) (c := fc) (cs := cs) (jump := jumpOf e2) c2.mode hro2 c2.kind hw3 (by
          cases e2 with
          | normal => exact .inl ⟨rfl, c4⟩
          | ret => obtain ⟨K', hk⟩ := c4; exact .inr (.inl ⟨rfl, K', hk⟩)
          | exit id => obtain ⟨K', hk, hx⟩ := c4; exact .inr (.inr ⟨id, K', rfl, hk, by rw [hx]; rfl⟩))
        obtain ⟨d1, d2⟩ := putLoop_rel (r2 := { rb with state := if (jumpOf e2).isNone then .ready else .done, pending := jumpOf e2 }) (r2' := { rb' with state := if (jumpOf e2).isNone then .ready else .done, pending := jumpOf e2 }) c1.rel hl3 hL3' hnk3 hoff3 ⟨rfl, rfl, q3, q4, q5, q6, q7, q8, q9, q10⟩
        have n1 := a1.next
        have n2 := c1.next
        simp only at n1 n2
        refine ⟨φ2, _, .bool (jumpOf e2).isNone, ⟨by simp only; omega, ?_, by simp only; rw [get_upd]; exact d1, a1.keeps.trans (b2.trans (c1.keeps.trans d2))⟩, .bool _, Frame.round L.blk r'.fn tm r'.assign r'.body .normal, fc :: cs, w, ?_, a3.trans (Steps.head hstep1 (c3.trans (Steps.one hstep2)))⟩
        · simp only
          exact a1.grows.trans c1.grows n1 n2
        · have hargs : ¬ ((⟨args'⟩ : Array Value).size ≠ r'.params.size) := by
            simp only [List.size_toArray, ← ha.1, hlen, o5, Array.length_toList, ne_eq, not_true_eq_false, not_false_eq_true]
          have hrun : (Instr.yield L.blk ⟨args'⟩).run P w = .ok (.round L.blk r'.fn tm r'.assign r'.body) w := by
            simp only [Instr.yield, Sem.run_bind, run_getLoop hw, Result.andThen_ok, hargs, if_false, Sem.run_pure]
            rfl
          rcases hx : fc.todo with _ | ⟨it, rr⟩
          · simp [stepG.apply, hrun, hx]
          · cases it <;> first
              | (rw [hx] at hni; simp [isCallItem] at hni; done)
              | simp [stepG.apply, hrun, hx]
      · cases h10
    · cases h6
  · cases h2

end
end Go.Ev
