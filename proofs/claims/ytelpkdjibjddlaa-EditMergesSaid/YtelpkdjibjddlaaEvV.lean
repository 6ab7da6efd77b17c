/-
  EV, PART P: the rounds of a loop over a function.
-/
import Derived.Test.YtelpkdjibjddlaaEvN
import Derived.Orders
namespace Go.Ev
open Go Go.RowKit

def putLoop (w : World) (l : Nat) (r : Loop) : World := { w with heap := w.heap.setIfInBounds l (.loop r) }

section
variable {P : Program} {fc : Frame} {cs : List Frame} {w : World} {k : List Item}

theorem run_getLoop {l : Nat} {r : Loop} (h : w.heap[l]? = some (.loop r)) : (Instr.getLoop l).run P w = .ok r w := by
  simp [Instr.getLoop, getObj, Sem.run, h]
theorem run_setLoop {l : Nat} {r r' : Loop} (h : w.heap[l]? = some (.loop r)) : (setObj l (.loop r')).run P w = .ok () (putLoop w l r') := by
  simp [setObj, Sem.run, h, putLoop]

theorem st_beginRound {l : Nat} {r : Loop} (hm : fc.mode = .run) (hr : fc.roundOf = some l) (ht : fc.todo = .beginRound :: k) (hh : w.heap[l]? = some (.loop r)) (hs : r.state = .ready) :
    step P (lone fc cs w) = .next (lone { fc with todo := k } cs (putLoop w l { r with state := .busy })) :=
  step_lone_go (by
    have hb : (Instr.beginRound l).run P w = .ok () (putLoop w l { r with state := .busy }) := by
      simp only [Instr.beginRound, Sem.run_bind, run_getLoop hh, Result.andThen_ok, run_setLoop hh, hs, Sem.run_pure]
    cases fc; simp only at hm ht hr; subst hm ht hr
    simp [stepG, stepG.exec, stepG.apply, hb, Frame.finish])

theorem st_leave {c : Frame} {l : Nat} {r : Loop} {jump : Option Code} (hm : fc.mode = .run) (hr : fc.roundOf = some l) (hk : fc.kind = .normal) (hh : w.heap[l]? = some (.loop r))
    (ht : (jump = none ∧ fc.todo = []) ∨ (jump = some .ret ∧ ∃ K, fc.todo = .code .ret :: K) ∨ (∃ id K, jump = some (.exit id) ∧ fc.todo = .code (.exit id) :: K ∧ exitTo id K = none)) :
    step P (lone fc (c :: cs) w) = .next (lone (c.finish (.bool jump.isNone)) cs (putLoop w l { r with state := if jump.isNone then .ready else .done, pending := jump })) :=
  step_lone_go (by
    have he : (Instr.endRound l jump).run P w = .ok (.bool jump.isNone) (putLoop w l { r with state := if jump.isNone then .ready else .done, pending := jump }) := by
      simp only [Instr.endRound, Sem.run_bind, run_getLoop hh, Result.andThen_ok, run_setLoop hh, Sem.run_pure]
    cases fc; simp only at hm ht hr hk; subst hm hr hk
    rcases ht with ⟨rfl, rfl⟩ | ⟨rfl, K, rfl⟩ | ⟨id, K, rfl, rfl, hx⟩
    · simp only [stepG, stepG.exec, Sem.runT_eq, he, GStep.bare_after]
      simp [doReturn]
    · simp only [stepG, stepG.exec, Sem.runT_eq, he, GStep.bare_after]
      simp [doReturn]
    · simp only [stepG, stepG.exec, Sem.runT_eq, hx, Option.elim, he, GStep.bare_after]
      simp [doReturn])

theorem st_endRange {l : Nat} {r : Loop} (hm : fc.mode = .run) (ht : fc.todo = .endRangeFunc l :: k) (hh : w.heap[l]? = some (.loop r)) (hs : r.state ≠ .busy) :
    step P (lone fc cs w) = .next (lone { fc with todo := (r.pending.map Item.code).toList ++ k } cs (putLoop w l { r with state := .exhausted })) :=
  step_lone_go (by
    have he : (Instr.endLoop l).run P w = .ok r.pending (putLoop w l { r with state := .exhausted }) := by
      have : (r.state == .busy) = false := by simpa using hs
      simp only [Instr.endLoop, Sem.run_bind, run_getLoop hh, Result.andThen_ok, this, Bool.false_eq_true, if_false, Sem.run_pure, run_setLoop hh]
    cases fc; simp only at hm ht; subst hm ht
    simp [stepG, stepG.exec, Sem.runT_eq, he, GStep.bare_after])
end

theorem setMany_rel {φ : Phi} : ∀ (ts : List Tmp) (tmps tmps' vs vs' : List Value), LRel φ tmps tmps' → LRel φ vs vs' → LRel φ (setMany tmps ts vs) (setMany tmps' ts vs')
  | [], tmps, tmps', vs, vs', h, _ => by cases vs <;> cases vs' <;> exact h
  | t :: ts, tmps, tmps', [], vs', h, hv => by obtain rfl := hv.nil_inv; exact h
  | t :: ts, tmps, tmps', v :: vs, vs', h, hv => by
    obtain ⟨v', r', rfl, h1, h2⟩ := hv.cons_inv
    exact setMany_rel ts _ _ vs r' (h.set t h1) h2

theorem setMany_fold : ∀ (ts : List Tmp) (vs : List Value) (a : Array Value), ((ts.zip vs).foldl (fun (tmps : Array Value) (x : Tmp × Value) => tmps.setIfInBounds x.1 x.2) a).toList = setMany a.toList ts vs
  | [], vs, a => by cases vs <;> rfl
  | t :: ts, [], a => rfl
  | t :: ts, v :: vs, a => by
    simp only [List.zip_cons_cons, List.foldl_cons, setMany]
    rw [setMany_fold ts vs]
    simp

theorem loop_of {φ : Phi} {B : Base} {H : Nat → Option Blk} {w : World} (hR : Rel φ B H w) {l : Nat} {r : Loop} (hl : H l = some (.obj (.loop r))) :
    ∃ L r', φ l = some L ∧ w.heap[L.blk]? = some (.loop r') ∧ L.off = 0 ∧ ¬ B.keep L.blk ∧ ORel B.code φ (.loop r) (.loop r') := by
  obtain ⟨L, hL, o', k1, k2, k3, k4⟩ := hR.blk l _ hl
  cases o' <;> simp only [ORel] at k2 <;> try (exact k2.elim)
  rename_i r'
  exact ⟨L, r', hL, k1, k4, k3, k2⟩

theorem getLoop_some {l : Nat} {s s' : St} {r : Loop} (h : getLoop l s = some (r, s')) : s.t.get l = some (.obj (.loop r)) ∧ s' = s := by
  unfold getLoop at h
  split at h
  · rename_i r' hl; cases h; exact ⟨hl, rfl⟩
  · cases h

/-- The loop's record, turned on both sides. -/
theorem putLoop_rel {φ : Phi} {B : Base} {H : Nat → Option Blk} {w : World} (hR : Rel φ B H w) {l : Nat} {r r2 r2' : Loop} {L : Loc} (hl : H l = some (.obj (.loop r))) (hL : φ l = some L) (hk : ¬ B.keep L.blk) (ho : L.off = 0)
    (h2 : ORel B.code φ (.loop r2) (.loop r2')) : Rel φ B (upd H l (some (.obj (.loop r2)))) (putLoop w L.blk r2') ∧ KeepsB B w (putLoop w L.blk r2') := by
  have hb : L.blk < w.heap.size := hR.inw _ _ hL
  refine ⟨hR.set hl hL trivial _ (by simp [putLoop]) (fun k hk => by simp [putLoop, Ne.symm hk]) ⟨.loop r2', by simp [putLoop, hb], h2, hk, ho⟩, ?_⟩
  exact (Keeps.set (φ := φ) (w := w) (w' := putLoop w L.blk r2') hl hL trivial rfl rfl rfl (by simp [putLoop]) (fun k hk => by simp [putLoop, Ne.symm hk])).weak hR

section
variable {T : Tab} {P : Program} (hT : T.Ok P) {ok : Code → Prop} (hF : T.Fns P ok)
include hT hF

theorem sim_round {rec : RunCode} (hC : CodeSim T P ok rec) (hLg : ∀ cx c fr, Logs (rec cx c fr)) {B : Base} (hBz : B.sz = P.cellsOf) (hBc : B.code = ok) {φ : Phi} {s s' : St} {w : World} (hR : Rel φ B s.t.get w) (hf : Fresh φ s.next s'.next) (hG : GRel φ T.globs) {l : Nat} {L : Loc} (hL : φ l = some L)
    {args args' : List Value} (ha : LRel φ args args') {v : Value}
    (h : round rec l args s = some (v, s')) (fc : Frame) (cs : List Frame) (hni : isCallItem fc.todo = false) : ∃ φ' w' v', Aft P B φ s w φ' s' w' ∧ VRel φ' v v' ∧ CallsTo P (Instr.yield L.blk ⟨args'⟩) fc cs w v' w' := by
  have _ := hT
  have _ := hF
  unfold round at h
  obtain ⟨r, s1, h1, h2⟩ := bnd_some h
  obtain ⟨hl, rfl⟩ := getLoop_some h1
  obtain ⟨L2, r', hL2, hw, hoff, hnk, hO⟩ := loop_of hR hl
  rw [hL] at hL2; cases hL2
  obtain ⟨o1, o2, o3, o4, o5, o6, o7, o8, o9, o10⟩ := hO
  split at h2
  · rename_i hlen
    obtain ⟨⟨e, fr⟩, s2, h3, h4⟩ := bnd_some h2
    simp only at h4
    cases e <;> simp only [roundBody] at h4 <;> try (cases h4; done)
    obtain ⟨ra, s3, h5, h6⟩ := bnd_some h4
    obtain ⟨hl2, rfl⟩ := getLoop_some h5
    split at h6
    · rename_i hst
      obtain ⟨_, s4, h7, h8⟩ := bnd_some h6
      obtain ⟨_, rfl⟩ := setB_some h7
      obtain ⟨⟨e2, fr2⟩, s5, h9, h10⟩ := bnd_some h8
      simp only [endRound] at h10
      split at h10
      · rename_i hdf
        obtain ⟨rb, s6, h11, h12⟩ := bnd_some h10
        obtain ⟨hl3, rfl⟩ := getLoop_some h11
        obtain ⟨_, s7, h13, h14⟩ := bnd_some h12
        obtain ⟨_, rfl⟩ := setB_some h13
        obtain ⟨rfl, rfl⟩ := ret_some h14
        -- how names grow
        have g1 := (hLg _ _ _ _ _ _ h3).1
        have g2 := (hLg _ _ _ _ _ _ h9).1
        simp only at g1 g2 hf
        -- the assignment
        let tm : Array Value := (r'.params.zip ⟨args'⟩).foldl (fun tmps (x : Tmp × Value) => tmps.setIfInBounds x.1 x.2) r'.tmps
        have htm : tm.toList = setMany r'.tmps.toList r'.params.toList args' := by
          show ((r'.params.zip ⟨args'⟩).foldl (fun (tmps : Array Value) (x : Tmp × Value) => tmps.setIfInBounds x.1 x.2) r'.tmps).toList = _
          rw [← Array.foldl_toList, Array.toList_zip, setMany_fold]
        have hfr0 : FRel φ ⟨setMany r.tmps.toList r.params.toList args, []⟩ ⟨r.fn, some l⟩ (Frame.round L.blk r'.fn tm r'.assign r'.body .normal) :=
          ⟨by simp [Frame.round, o3], rfl, rfl, ⟨L, hL, rfl⟩, by
            simp only [Frame.round]
            rw [htm, o5]
            exact setMany_rel _ _ _ _ _ o4 ha, .nil⟩
        obtain ⟨φ1, w1, f1, a1, a2, a3, a4⟩ := hC _ r.assign _ _ _ fr _ h3 (by rw [← hBc]; exact o9) φ B w _ (fc :: cs) [.beginRound, .code r.body] hBz hBc hR (hf.sub (Nat.le_refl _) g2) hG hfr0 (by simp [Frame.round, o6, o7])
        -- the round begins
        obtain ⟨L1, ra', hL1, hw1, hoff1, hnk1, hO1⟩ := loop_of a1.rel hl2
        have hL1' := a1.grows.1 _ _ hL
        rw [hL1'] at hL1; cases hL1
        have hro1 : f1.roundOf = some L.blk := by
          have := a2.round
          simp only at this
          cases hx : f1.roundOf with
          | none => rw [hx] at this; exact this.elim
          | some y =>
            rw [hx] at this
            obtain ⟨L3, q1, q2⟩ := this
            rw [hL1'] at q1; cases q1; rw [q2]
        have hO1' := hO1
        obtain ⟨p1, p2, p3, p4, p5, p6, p7, p8, p9, p10⟩ := hO1
        have hstep1 := st_beginRound (P := P) (cs := fc :: cs) a2.mode hro1 a4 hw1 (by rw [← p1]; exact hst)
        obtain ⟨b1, b2⟩ := putLoop_rel (r2 := { ra with state := .busy }) (r2' := { ra' with state := .busy }) a1.rel hl2 hL1' hnk1 hoff1 ⟨rfl, p2, p3, p4, p5, p6, p7, p8, p9, p10⟩
        -- the body
        have hfr2 : FRel φ1 fr ⟨r.fn, some l⟩ { f1 with todo := [.code r.body] } := a2.todo _
        obtain ⟨φ2, w2, f2, c1, c2, c3, c4⟩ := hC _ r.body fr _ e2 fr2 _ h9 (by rw [← hBc]; exact o10) φ1 B (putLoop w1 L.blk { ra' with state := .busy }) _ (fc :: cs) [] hBz hBc (by simp only; rw [get_upd]; exact b1)
          (by simp only; exact (a1.fresh (n := s6.next) hf).sub (Nat.le_refl _) (Nat.le_refl _)) (hG.mono a1.grows.1) hfr2 rfl
        -- the round ends
        obtain ⟨L3, rb', hL3, hw3, hoff3, hnk3, hO3⟩ := loop_of c1.rel hl3
        have hL3' := c1.grows.1 _ _ hL1'
        rw [hL3'] at hL3; cases hL3
        have hro2 : f2.roundOf = some L.blk := by
          have := c2.round
          simp only at this
          cases hx : f2.roundOf with
          | none => rw [hx] at this; exact this.elim
          | some y =>
            rw [hx] at this
            obtain ⟨L3, q1, q2⟩ := this
            rw [hL3'] at q1; cases q1; rw [q2]
        obtain ⟨q1, q2, q3, q4, q5, q6, q7, q8, q9, q10⟩ := hO3
        have hstep2 := st_leave (P := P) (c := fc) (cs := cs) (jump := jumpOf e2) c2.mode hro2 c2.kind hw3 (by
          cases e2 with
          | normal => exact .inl ⟨rfl, c4⟩
          | ret => obtain ⟨K', hk⟩ := c4; exact .inr (.inl ⟨rfl, K', hk⟩)
          | exit id => obtain ⟨K', hk, hx⟩ := c4; exact .inr (.inr ⟨id, K', rfl, hk, by rw [hx]; rfl⟩))
        obtain ⟨d1, d2⟩ := putLoop_rel (r2 := { rb with state := if (jumpOf e2).isNone then .ready else .done, pending := jumpOf e2 }) (r2' := { rb' with state := if (jumpOf e2).isNone then .ready else .done, pending := jumpOf e2 }) c1.rel hl3 hL3' hnk3 hoff3 ⟨rfl, rfl, q3, q4, q5, q6, q7, q8, q9, q10⟩
        have n1 := a1.next
        have n2 := c1.next
        simp only at n1 n2
        refine ⟨φ2, _, .bool (jumpOf e2).isNone, ⟨by simp only; omega, ?_, by simp only; rw [get_upd]; exact d1, a1.keeps.trans (b2.trans (c1.keeps.trans d2))⟩, .bool _, Frame.round L.blk r'.fn tm r'.assign r'.body .normal, fc :: cs, w, ?_, a3.trans (Steps.head hstep1 (c3.trans (Steps.one hstep2)))⟩
        · simp only
          exact a1.grows.trans c1.grows n1 n2
        · have hargs : ¬ ((⟨args'⟩ : Array Value).size ≠ r'.params.size) := by
            simp only [List.size_toArray, ← ha.1, hlen, o5, Array.length_toList, ne_eq, not_true_eq_false, not_false_eq_true]
          have hrun : (Instr.yield L.blk ⟨args'⟩).run P w = .ok (.round L.blk r'.fn tm r'.assign r'.body) w := by
            simp only [Instr.yield, Sem.run_bind, run_getLoop hw, Result.andThen_ok, hargs, if_false, Sem.run_pure]
            rfl
          rcases hx : fc.todo with _ | ⟨it, rr⟩
          · simp [stepG.apply, hrun, hx]
          · cases it <;> first
              | (rw [hx] at hni; simp [isCallItem] at hni; done)
              | simp [stepG.apply, hrun, hx]
      · cases h10
    · cases h6
  · cases h2

end
end Go.Ev

/-
  EV, PART Q: operations in a region; code. What is left open: a region that draws its order ('RegionSim').
-/
namespace Go.Ev
open Go Go.RowKit

theorem CallsTo.congr {P : Program} {m m' : Sem Next} {fc : Frame} {cs : List Frame} {w w' : World} {v : Value} (h : CallsTo P m fc cs w v w') (e : m' = m) : CallsTo P m' fc cs w v w' := e ▸ h

section
variable {T : Tab} {P : Program} (hT : T.Ok P) {ok : Code → Prop} (hF : T.Fns P ok)
include hT hF

theorem sim_callValue {rec : RunCode} (hC : CodeSim T P ok rec) (hLg : ∀ cx c fr, Logs (rec cx c fr)) {B : Base} (hBz : B.sz = P.cellsOf) (hBc : B.code = ok) {φ : Phi} {s s' : St} {w : World} (hR : Rel φ B s.t.get w) (hf : Fresh φ s.next s'.next) (hG : GRel φ T.globs)
    {f f' : Value} (hv : VRel φ f f') {args args' : List Value} (ha : LRel φ args args') {v : Value} (h : callValue T rec f args s = some (v, s')) (fc : Frame) (cs : List Frame) (hni : isCallItem fc.todo = false) :
    ∃ φ' w' v', Aft P B φ s w φ' s' w' ∧ VRel φ' v v' ∧ CallsTo P (do let d ← Deferred.ofValue f' ⟨args'⟩; invoke d.target d.args) fc cs w v' w' := by
  unfold callValue at h
  cases hv <;> (try simp only at h) <;> try (cases h; done)
  · rename_i g a a' c c' h1 h2 h3 h4
    obtain ⟨φ', w', v', q1, q2, q3⟩ := sim_enter hT hF hC hBz hBc hR hf hG (args' := a'.toList ++ args' ++ c'.toList) ((LRel.append ⟨h1, h2⟩ ha).append ⟨h3, h4⟩) h fc cs hni
    refine ⟨φ', w', v', q1, q2, q3.congr ?_⟩
    have e : (⟨a'.toList ++ args' ++ c'.toList⟩ : Array Value) = a' ++ ⟨args'⟩ ++ c' := by apply Array.ext'; simp
    rw [e]
    rfl
  · rename_i N L hL
    obtain ⟨φ', w', v', q1, q2, q3⟩ := sim_round hT hF hC hLg hBz hBc hR hf hG hL (args' := args') (by simpa using ha) h fc cs hni
    refine ⟨φ', w', v', q1, q2, q3.congr ?_⟩
    show (do let d ← Deferred.ofValue (.func (.yield L.blk) #[] #[]) ⟨args'⟩; invoke d.target d.args) = _
    have e : (#[] ++ ⟨args'⟩ : Array Value) = ⟨args'⟩ := by simp
    show invoke (.fn (.yield L.blk) #[]) (#[] ++ ⟨args'⟩) = _
    rw [e]
    rfl

theorem OpCame.aft {φ : Phi} {B : Base} {s s' : St} {w : World} {v : Value} {r : Result Next} (hR : Rel φ B s.t.get w) (h : OpCame φ B s w v s' r) : ∃ φ' w' nx, r = .ok nx w' ∧ Aft P B φ s w φ' s' w' ∧ NRel φ' v nx := by
  have _ := hT
  have _ := hF
  obtain ⟨φ', w', nx, h1, h2, h3, h4, h5, h6⟩ := h
  exact ⟨φ', w', nx, h1, ⟨h2, h3, h4, h6.weak hR⟩, h5⟩

/-- An operation that stands next in a region, carried out. -/
theorem sim_op {rec : RunCode} (hC : CodeSim T P ok rec) (hLg : ∀ cx c fr, Logs (rec cx c fr)) {B : Base} (hBz : B.sz = P.cellsOf) (hBc : B.code = ok) {φ : Phi} {s s' : St} {w : World} (hR : Rel φ B s.t.get w) (hf : Fresh φ s.next s'.next) (hG : GRel φ T.globs)
    {fr : Fr} {o : Oper} {v : Value} (h : evOp T rec fr o s = some (v, s')) {fc : Frame} (cs : List Frame) (hm : fc.mode = .run) {ops : Array Oper} {i : Nat} {rest : List Nat} {K : List Item} (ht : fc.todo = .inRegion ops (i :: rest) :: K) (ho : ops[i]? = some o)
    (hw : Region.wanted o (yielded ops fc.tmps) = true) (hv : ∀ x ∈ o.op.operands.toList, VRel φ (fr.eval x) (fc.eval x)) (hnd : ∀ c, o.op ≠ .defer c) :
    ∃ φ' w' v', Aft P B φ s w φ' s' w' ∧ VRel φ' v v' ∧ Steps P (lone fc cs w) (lone (fc.finish v') cs w') := by
  have hni : isCallItem fc.todo = false := by rw [ht]; rfl
  have plain : evPlain T fr.eval o.op s = some (v, s') → ∃ φ' w' v', Aft P B φ s w φ' s' w' ∧ VRel φ' v v' ∧ Steps P (lone fc cs w) (lone (fc.finish v') cs w') := fun hp => by
    obtain ⟨φ', w', nx, h1, h2, h3⟩ := OpCame.aft hT hF hR (sim_plain hT hBz hR hf hv hp)
    rcases h3 with ⟨v', rfl, h4⟩ | ⟨rfl, rfl⟩
    · exact ⟨φ', w', v', h2, h4, Steps.one (st_value hm ht ho hw hnd h1)⟩
    · exact ⟨φ', w', undef, h2, .undef, Steps.one (st_skipped hm ht ho hw hnd h1)⟩
  by_cases hcall : ∃ f args ts, o.op = .call ⟨.value f, args, ts⟩
  · obtain ⟨f, args, ts, hop⟩ := hcall
    have h : callValue T rec (fr.eval f) (args.toList.map fr.eval) s = some (v, s') := by
      unfold evOp at h; rw [hop] at h; exact h
    have hfv : VRel φ (fr.eval f) (fc.eval f) := hv f (by rw [hop]; simp [Op.operands, Call.operands])
    have hav : LRel φ (args.toList.map fr.eval) (args.toList.map fc.eval) := LRel.map _ fun y hy => hv y (by rw [hop]; simp [Op.operands, Call.operands]; exact .inr (by simpa using hy))
    obtain ⟨φ', w', v', q1, q2, fr1, cs1, w1, q3, q4⟩ := sim_callValue hT hF hC hLg hBz hBc hR hf hG hfv hav h fc cs hni
    refine ⟨φ', w', v', q1, q2, Steps.head (step_lone_go ?_) q4⟩
    rw [st_op hm ht ho hw hnd]
    have e : execOp fc.eval o = (do let d ← Deferred.ofValue (fc.eval f) ⟨args.toList.map fc.eval⟩; invoke d.target d.args) := by
      have ea : args.map fc.eval = ⟨args.toList.map fc.eval⟩ := by apply Array.ext'; simp
      unfold execOp
      rw [hop]
      show (do let d ← resolve fc.eval ⟨.value f, args, ts⟩ o.type; invoke d.target d.args) = _
      simp only [resolve, ea]
    rw [e]; exact q3
  · refine plain ?_
    have : evOp T rec fr o = evPlain T fr.eval o.op := by
      unfold evOp
      split
      · rename_i f args ts hop
        exact absurd ⟨f, args, ts, hop⟩ hcall
      · rfl
    rw [this] at h; exact h

omit hT hF in
theorem yielded_rel {φ : Phi} {tmps : List Value} {tmps' : Array Value} (h : LRel φ tmps tmps'.toList) (ops : Array Oper) : yieldedL ops tmps = yielded ops tmps' := by
  funext j
  unfold yieldedL yielded
  cases (ops[j]?).bind (·.dst) with
  | none => rfl
  | some d =>
    simp only [Option.bind_some]
    cases hv : tmps[d]? with
    | none =>
      have : tmps'[d]? = none := by
        rw [← Array.getElem?_toList]
        have : tmps.length ≤ d := by simpa using hv
        exact List.getElem?_eq_none (h.1 ▸ this)
      rw [this]
    | some v =>
      obtain ⟨v', h1, h2⟩ := h.get hv
      rw [Array.getElem?_toList] at h1
      rw [h1]
      cases h2 <;> rfl

omit hT hF in
theorem FRel.finish {φ : Phi} {fr : Fr} {cx : Ctx} {fc : Frame} (h : FRel φ fr cx fc) {ops : Array Oper} {i : Nat} {rest : List Nat} {K : List Item} {o : Oper} (ht : fc.todo = .inRegion ops (i :: rest) :: K) (ho : ops[i]? = some o) {v v' : Value} (hv : VRel φ v v') :
    FRel φ (fr.put o.dst v) cx (fc.finish v') ∧ (fc.finish v').todo = .inRegion ops rest :: K := by
  have e : fc.finish v' = { fc with tmps := match o.dst with | some d => fc.tmps.setIfInBounds d v' | none => fc.tmps, todo := .inRegion ops rest :: K } := by
    cases fc; simp only at ht; subst ht
    simp only [Frame.finish, ho, Option.bind_some]
    cases o.dst <;> rfl
  rw [e]
  refine ⟨⟨h.fn, h.mode, h.kind, h.round, ?_, ?_⟩, rfl⟩
  · cases hd : o.dst with
    | none => simp only [Fr.put]; exact h.tmps
    | some d =>
      simp only [Fr.put, Array.toList_setIfInBounds]
      exact h.tmps.set d hv
  · cases hd : o.dst <;> exact h.defers

def notDefer : Op → Bool
  | .defer _ => false
  | _ => true

def opsOk (G : Nat) (ops : Array Oper) : Bool := ops.toList.all fun o => opOk G o.op && notDefer o.op

omit hT hF in
theorem opsOk_at {G : Nat} {ops : Array Oper} (h : opsOk G ops = true) {i : Nat} {o : Oper} (ho : ops[i]? = some o) : opOk G o.op = true ∧ ∀ c, o.op ≠ .defer c := by
  have hm : o ∈ ops.toList := by rw [← Array.getElem?_toList] at ho; exact List.mem_of_getElem? ho
  have := List.all_eq_true.1 h o hm
  simp only [Bool.and_eq_true] at this
  exact ⟨this.1, fun c hc => by rw [hc] at this; simp [notDefer] at this⟩

omit hT hF in
theorem Logs.enter {rec : RunCode} (hLg : ∀ cx c fr, Logs (rec cx c fr)) (g : FuncId) (args : List Value) : Logs (Ev.enter T rec g args) := by
  unfold Ev.enter
  split
  · split
    · exact .lift _
    · exact .fail
  · exact .trim (.bnd (hLg _ _ _) fun _ => .finishCall _ _ _)
omit hT hF in
theorem Logs.endRound (l : Nat) (e : Ex) (fr : Fr) : Logs (Ev.endRound l e fr) := by
  unfold Ev.endRound
  exact .ite (.bnd (.getLoop _) fun _ => .bnd (.setB _ _) fun _ => .ret _) .fail
omit hT hF in
theorem Logs.round {rec : RunCode} (hLg : ∀ cx c fr, Logs (rec cx c fr)) (l : Nat) (args : List Value) : Logs (Ev.round rec l args) := by
  unfold Ev.round
  refine .bnd (.getLoop _) fun r => .ite (.bnd (hLg _ _ _) fun p => ?_) .fail
  unfold Ev.roundBody
  split
  · exact .bnd (.getLoop _) fun _ => .ite (.bnd (.setB _ _) fun _ => .bnd (hLg _ _ _) fun _ => .endRound _ _ _) .fail
  · exact .fail
omit hT hF in
theorem Logs.callValue {rec : RunCode} (hLg : ∀ cx c fr, Logs (rec cx c fr)) (f : Value) (args : List Value) : Logs (Ev.callValue T rec f args) := by
  unfold Ev.callValue
  split
  · exact .enter hLg _ _
  · exact .round hLg _ _
  · exact .fail
omit hT hF in
theorem Logs.evOp {rec : RunCode} (hLg : ∀ cx c fr, Logs (rec cx c fr)) (fr : Fr) (o : Oper) : Logs (Ev.evOp T rec fr o) := by
  unfold Ev.evOp
  split
  · exact .callValue hLg _ _
  · exact .plain _ _
omit hT hF in
theorem Logs.evOps {rec : RunCode} (hLg : ∀ cx c fr, Logs (rec cx c fr)) (ops : Array Oper) : ∀ (l : List Oper) (fr : Fr), Logs (Ev.evOps T rec ops l fr)
  | [], fr => .ret _
  | o :: os, fr => by
    unfold Ev.evOps
    split
    · exact .bnd (.evOp hLg _ _) fun _ => Logs.evOps hLg ops os _
    · exact Logs.evOps hLg ops os _

/-- Operations in the order of the text. -/
theorem sim_evOps {rec : RunCode} (hC : CodeSim T P ok rec) (hLg : ∀ cx c fr, Logs (rec cx c fr)) {B : Base} (hBz : B.sz = P.cellsOf) (hBc : B.code = ok) {ops : Array Oper} (hops : opsOk T.globs ops = true) (cs : List Frame) (cx : Ctx) (K : List Item) :
    ∀ (m i : Nat) (fr fr' : Fr) (s s' : St) (φ : Phi) (w : World) (fc : Frame), i + m = ops.size → evOps T rec ops (ops.toList.drop i) fr s = some (fr', s') → Rel φ B s.t.get w → Fresh φ s.next s'.next → GRel φ T.globs → FRel φ fr cx fc →
      fc.todo = .inRegion ops (List.range' i m) :: K → ∃ φ' w' fc', Aft P B φ s w φ' s' w' ∧ FRel φ' fr' cx fc' ∧ Steps P (lone fc cs w) (lone fc' cs w') ∧ fc'.todo = K
  | 0, i, fr, fr', s, s', φ, w, fc, hi, h, hR, hf, hG, hfr, ht => by
    have : ops.toList.drop i = [] := List.drop_eq_nil_of_le (by simp; omega)
    rw [this] at h
    obtain ⟨rfl, rfl⟩ := ret_some h
    exact ⟨φ, w, { fc with todo := K }, .refl hR, hfr.todo K, Steps.one (st_regionEnd hfr.mode ht), rfl⟩
  | m + 1, i, fr, fr', s, s', φ, w, fc, hi, h, hR, hf, hG, hfr, ht => by
    have hlt : i < ops.toList.length := by simp; omega
    have ho : ops[i]? = some (ops.toList[i]) := by rw [← Array.getElem?_toList]; exact List.getElem?_eq_getElem hlt
    rw [List.drop_eq_getElem_cons hlt] at h
    generalize ops.toList[i] = o at h ho
    rw [List.range'_succ] at ht
    unfold evOps at h
    have hy := yielded_rel hfr.tmps ops
    obtain ⟨hopk, hnd⟩ := opsOk_at hops ho
    split at h
    · rename_i hw
      obtain ⟨v, s1, h1, h2⟩ := bnd_some h
      have g2 := (Logs.evOps hLg ops _ _ _ _ _ h2).1
      rw [hy] at hw
      obtain ⟨φ1, w1, v', q1, q2, q3⟩ := sim_op hT hF hC hLg hBz hBc hR (hf.sub (Nat.le_refl _) g2) hG h1 cs hfr.mode ht ho hw (fun x hx => eval_rel (ds := fr.defers) hfr.tmps hG (List.all_eq_true.1 hopk x hx)) hnd
      obtain ⟨r1, r2⟩ := (hfr.mono q1.grows.1).finish ht ho q2
      obtain ⟨φ2, w2, fc2, t1, t2, t3, t4⟩ := sim_evOps hC hLg hBz hBc hops cs cx K m (i + 1) _ fr' s1 s' φ1 w1 (fc.finish v') (by omega) h2 q1.rel (q1.fresh hf) (hG.mono q1.grows.1) r1 r2
      exact ⟨φ2, w2, fc2, q1.trans t1, t2, q3.trans t3, t4⟩
    · rename_i hw
      rw [hy] at hw
      obtain ⟨r1, r2⟩ := hfr.finish ht ho (φ := φ) .undef
      obtain ⟨φ2, w2, fc2, t1, t2, t3, t4⟩ := sim_evOps hC hLg hBz hBc hops cs cx K m (i + 1) _ fr' s s' φ w (fc.finish undef) (by omega) h hR hf hG r1 r2
      exact ⟨φ2, w2, fc2, t1, t2, Steps.head (st_opSkip hfr.mode ht (by rw [ho]; simpa using hw)) t3, t4⟩

end
end Go.Ev

/-
  EV, PART R: what a part of the heap has become, put back into the whole; places that some of many write.
-/
namespace Go.Ev
open Go Go.RowKit

/-! A place that some of many write. -/

/-- What the last of the first 'n' that write a place has written there. -/
def lay {β : Type} (b0 : β) (τ : Nat → Bool) (val : Nat → β) : Nat → β
  | 0 => b0
  | n + 1 => if τ n = true then val n else lay b0 τ val n

theorem lay_congr {β : Type} {b0 : β} {τ τ' : Nat → Bool} {val : Nat → β} : ∀ {n : Nat}, (∀ i, i < n → τ i = τ' i) → lay b0 τ val n = lay b0 τ' val n
  | 0, _ => rfl
  | n + 1, h => by
    simp only [lay]
    rw [h n (Nat.lt_succ_self _), lay_congr fun i hi => h i (Nat.lt_succ_of_lt hi)]

theorem lay_skip {β : Type} {b0 : β} {τ : Nat → Bool} {val : Nat → β} {j : Nat} : ∀ {n : Nat}, j ≤ n → (∀ i, j ≤ i → i < n → τ i = false) → lay b0 τ val n = lay b0 τ val j
  | 0, hj, _ => by have : j = 0 := by omega
                   subst this; rfl
  | n + 1, hj, h => by
    by_cases e : j = n + 1
    · subst e; rfl
    · have := h n (by omega) (Nat.lt_succ_self _)
      simp only [lay, this, Bool.false_eq_true, if_false]
      exact lay_skip (by omega) fun i h1 h2 => h i h1 (by omega)

/-- What one that reads the place is shown: the same, whoever else has written. -/
theorem lay_view {β : Type} {b0 : β} {τ S : Nat → Bool} {val : Nat → β} {n j : Nat} (hj : j ≤ n) (h : ∀ i, i < n → τ i = true → (S i = true ↔ i < j)) : lay b0 (fun i => S i && τ i) val n = lay b0 τ val j := by
  rw [lay_skip hj fun i h1 h2 => ?_]
  · refine lay_congr fun i hi => ?_
    cases ht : τ i with
    | false => simp
    | true => rw [(h i (by omega) ht).2 hi]; rfl
  · cases ht : τ i with
    | false => simp
    | true =>
      cases hs : S i with
      | false => rfl
      | true => have := (h i h2 ht).1 hs; omega

theorem lay_put {β : Type} {b0 : β} {τ S : Nat → Bool} {val : Nat → β} {n j : Nat} (hj : j < n) (hτ : τ j = true) (h : ∀ i, j < i → i < n → S i = true → τ i = false) : lay b0 (fun i => (S i || i == j) && τ i) val n = val j := by
  rw [lay_skip (j := j + 1) (by omega) fun i h1 h2 => ?_]
  · simp [lay, hτ]
  · have : (i == j) = false := by simp; omega
    show ((S i || i == j) && τ i) = false
    rw [this, Bool.or_false]
    cases hs : S i with
    | false => rfl
    | true => simp [h i (by omega) h2 hs]

theorem lay_other {β : Type} {b0 : β} {τ S : Nat → Bool} {val : Nat → β} {n j : Nat} (hτ : τ j = false) : lay b0 (fun i => (S i || i == j) && τ i) val n = lay b0 (fun i => S i && τ i) val n := by
  refine lay_congr fun i _ => ?_
  by_cases e : i = j
  · subst e; simp [hτ]
  · have e' : (i == j) = false := by simpa using e
    show ((S i || i == j) && τ i) = (S i && τ i)
    rw [e', Bool.or_false]

/-! A part of the heap. -/

def Base.more (B : Base) (K : Nat → Prop) : Base := { B with keep := fun k => B.keep k ∨ K k }

/-- The blocks of names that aren't shown. -/
def Aside (φ : Phi) (H V : Nat → Option Blk) (k : Nat) : Prop := ∃ N L, H N ≠ none ∧ V N = none ∧ φ N = some L ∧ L.blk = k

theorem Rel.narrow {φ : Phi} {B : Base} {H V : Nat → Option Blk} {w : World} (h : Rel φ B H w) (hV : ∀ N b, V N = some b → H N = some b) : Rel φ (B.more (Aside φ H V)) V w := by
  have key : ∀ M b L, V M = some b → φ M = some L → wr b → ¬ Aside φ H V L.blk := by
    rintro M b L hM hL hw ⟨N, L', h1, h2, h3, h4⟩
    cases hN : H N with
    | none => exact h1 hN
    | some b' =>
      refine h.apart M N b b' L L' (fun e => ?_) (hV _ _ hM) hN hL h3 hw h4.symm
      subst e; rw [h2] at hM; cases hM
  refine ⟨fun k hk => ?_, fun N b hN => ?_, (h.sub hV).apart, h.inw⟩
  · rcases hk with hk | ⟨N, L, _, _, h3, rfl⟩
    · exact h.base k hk
    · exact h.inw N L h3
  · obtain ⟨L, hL, r⟩ := h.blk N b (hV _ _ hN)
    refine ⟨L, hL, ?_⟩
    have hk := key N b L hN hL
    cases b with
    | cells vs e hi =>
      obtain ⟨c, fz, k1, k2, k3, k4, k5⟩ := r
      exact ⟨c, fz, k1, k2, k3, k4, fun hh => ⟨fun x => x.elim (k5 hh).1 (hk hh), (k5 hh).2⟩⟩
    | obj o =>
      obtain ⟨o', k1, k2, k3, k4⟩ := r
      exact ⟨o', k1, k2, fun x => x.elim k3 (hk trivial), k4⟩

theorem Rel.widen {φ φ' : Phi} {B : Base} {H V V' : Nat → Option Blk} {w w' : World} {lo hi : Nat} {τ : Nat → Bool} (h : Rel φ B H w) (hV : ∀ N b, V N = some b → H N = some b)
    (hR : Rel φ' (B.more (Aside φ H V)) V' w') (hG : Grows (B.more (Aside φ H V)) φ φ' lo hi) (hK : KeepsB (B.more (Aside φ H V)) w w') (hf : Fresh φ lo hi)
    (hoff : ∀ N, τ N = false → V' N = V N) (hon : ∀ N, τ N = true → V' N ≠ none → V N ≠ none ∨ (lo ≤ N ∧ N < hi)) :
    Rel φ' B (fun N => if τ N = true then V' N else H N) w' ∧ Grows B φ φ' lo hi ∧ KeepsB B w w' := by
  -- each name is of the part, or it is aside
  have src : ∀ N b, (if τ N = true then V' N else H N) = some b → V' N = some b ∨ (H N = some b ∧ V N = none) := fun N b hN => by
    cases ht : τ N with
    | true => rw [ht] at hN; exact .inl (by simpa using hN)
    | false =>
      rw [ht] at hN
      simp only [Bool.false_eq_true, if_false] at hN
      cases hv : V N with
      | none => exact .inr ⟨hN, rfl⟩
      | some b' => have := hV _ _ hv; rw [hN] at this; cases this; exact .inl (by rw [hoff N ht, hv])
  have aside : ∀ N b L, H N = some b → V N = none → φ' N = some L → φ N = some L ∧ Aside φ H V L.blk := fun N b L h1 h2 h3 => by
    obtain ⟨L', hL', _⟩ := h.blk N b h1
    have := hG.1 N L' hL'
    rw [h3] at this; cases this
    exact ⟨hL', N, L, by rw [h1]; simp, h2, hL', rfl⟩
  -- a name of the part: it was there, or it stands for no block that is kept
  have part : ∀ N b L, V' N = some b → φ' N = some L → (∃ b', H N = some b' ∧ φ N = some L) ∨ ¬ Aside φ H V L.blk := fun N b L h1 h3 => by
    by_cases hv : V N = none
    · refine .inr fun ha => ?_
      have ht : τ N = true := by
        cases ht : τ N with
        | true => rfl
        | false => rw [hoff N ht, hv] at h1; cases h1
      rcases hon N ht (by rw [h1]; simp) with h4 | ⟨h4, h5⟩
      · exact h4 hv
      · rcases hG.2.2 N L h3 with h6 | h6
        · rw [hf N h4 h5] at h6; cases h6
        · exact h6 (.inr ha)
    · cases hv' : V N with
      | none => exact absurd hv' hv
      | some b' =>
        obtain ⟨L', hL', _⟩ := h.blk N b' (hV _ _ hv')
        have := hG.1 N L' hL'
        rw [h3] at this; cases this
        exact .inl ⟨b', hV _ _ hv', hL'⟩
  -- a writable name of the part stands for no block that is kept
  have apart : ∀ N b L, V' N = some b → φ' N = some L → wr b → ¬ Aside φ H V L.blk := fun N b L h1 h3 hw ha => by
    obtain ⟨L', hL', r⟩ := hR.blk N b h1
    rw [h3] at hL'; cases hL'
    cases b with
    | cells vs e hi => obtain ⟨_, _, _, _, _, _, k5⟩ := r; exact (k5 hw).1 (.inr ha)
    | obj o => obtain ⟨_, _, _, k3, _⟩ := r; exact k3 (.inr ha)
  refine ⟨⟨fun k hk => hR.base k (.inl hk), fun N b hN => ?_, fun N N' b b' L L' hne hN hN' hL hL' hw => ?_, hR.inw⟩, ⟨hG.1, hG.2.1, fun N L hL => (hG.2.2 N L hL).imp id fun x y => x (.inl y)⟩, ⟨hK.os, hK.tape, hK.output, hK.size, fun k hk => hK.block k (.inl hk)⟩⟩
  · rcases src N b hN with h1 | ⟨h1, h2⟩
    · obtain ⟨L, hL, r⟩ := hR.blk N b h1
      refine ⟨L, hL, ?_⟩
      cases b with
      | cells vs e hi =>
        obtain ⟨c, fz, k1, k2, k3, k4, k5⟩ := r
        exact ⟨c, fz, k1, k2, k3, k4, fun hh => ⟨fun x => (k5 hh).1 (.inl x), (k5 hh).2⟩⟩
      | obj o =>
        obtain ⟨o', k1, k2, k3, k4⟩ := r
        exact ⟨o', k1, k2, fun x => k3 (.inl x), k4⟩
    · obtain ⟨L, hL, r⟩ := h.blk N b h1
      have hL' := hG.1 N L hL
      have hk := hK.block L.blk (.inr (aside N b L h1 h2 hL').2)
      exact ⟨L, hL', (r.mono hG.1).congr hk⟩
  · rcases src N b hN with h1 | ⟨h1, h2⟩ <;> rcases src N' b' hN' with h1' | ⟨h1', h2'⟩
    · exact hR.apart N N' b b' L L' hne h1 h1' hL hL' hw
    · intro e
      exact apart N b L h1 hL hw (e ▸ (aside N' b' L' h1' h2' hL').2)
    · rcases part N' b' L' h1' hL' with ⟨b2, h5, h6⟩ | h5
      · exact h.apart N N' b b2 L L' hne h1 h5 (aside N b L h1 h2 hL).1 h6 hw
      · intro e
        exact h5 (e ▸ (aside N b L h1 h2 hL).2)
    · exact h.apart N N' b b' L L' hne h1 h1' (aside N b L h1 h2 hL).1 (aside N' b' L' h1' h2' hL').1 hw

end Go.Ev

/-
  EV, PART S: what a region that draws its order has done, operation by operation, in the order of the text.
-/
namespace Go.Ev
open Go Go.RowKit

theorem takeOut_get : ∀ (n a : Nat) (t : Tree) (N : Nat), (takeOut n a t).get N = if a ≤ N ∧ N < a + n then none else t.get N
  | 0, a, t, N => by simp only [takeOut]; rw [if_neg (by omega)]
  | n + 1, a, t, N => by
    simp only [takeOut]
    rw [Tree.get_set]
    by_cases e : N = a
    · subst e; rw [if_pos rfl, if_pos (by omega)]
    · rw [if_neg e, takeOut_get n (a + 1) t N]
      by_cases h : a + 1 ≤ N ∧ N < a + 1 + n
      · rw [if_pos h, if_pos (by omega)]
      · rw [if_neg h, if_neg (by omega)]

theorem takeOutAll_get : ∀ (l : List (Nat × Nat)) (t : Tree) (N : Nat), ((takeOutAll l t).get N = none ∨ (takeOutAll l t).get N = t.get N) ∧ (∀ p ∈ l, p.1 ≤ N → N < p.2 → (takeOutAll l t).get N = none)
  | [], t, N => ⟨.inr rfl, fun p hp => by cases hp⟩
  | (a, b) :: r, t, N => by
    obtain ⟨h1, h2⟩ := takeOutAll_get r (takeOut (b - a) a t) N
    simp only [takeOutAll]
    have e := takeOut_get (b - a) a t N
    constructor
    · rcases h1 with h1 | h1
      · exact .inl h1
      · by_cases h : a ≤ N ∧ N < a + (b - a)
        · rw [if_pos h] at e; rw [h1, e]; exact .inl rfl
        · rw [if_neg h] at e; rw [h1, e]; exact .inr rfl
    · intro p hp h3 h4
      rcases List.mem_cons.1 hp with rfl | hp
      · rcases h1 with h1 | h1
        · exact h1
        · rw [h1, e, if_pos (by simp only at h3 h4; omega)]
      · exact h2 p hp h3 h4

theorem giveRange_get : ∀ (n a : Nat) (t' t : Tree) (N : Nat), (giveRange n a t' t).get N = if a ≤ N ∧ N < a + n then t'.get N else t.get N
  | 0, a, t', t, N => by simp only [giveRange]; rw [if_neg (by omega)]
  | n + 1, a, t', t, N => by
    simp only [giveRange]
    rw [giveRange_get n (a + 1)]
    by_cases h : a + 1 ≤ N ∧ N < a + 1 + n
    · rw [if_pos h, if_pos (by omega)]
    · rw [if_neg h, Tree.get_set]
      by_cases e : N = a
      · subst e; rw [if_pos rfl, if_pos (by omega)]
      · rw [if_neg e, if_neg (by omega)]

theorem giveBack_get : ∀ (l : List Nat) (t' t : Tree) (N : Nat), (giveBack l t' t).get N = if N ∈ l then t'.get N else t.get N
  | [], t', t, N => by simp [giveBack]
  | M :: r, t', t, N => by
    simp only [giveBack]
    rw [giveBack_get r t']
    by_cases h : N ∈ r
    · rw [if_pos h, if_pos (List.mem_cons_of_mem _ h)]
    · rw [if_neg h, Tree.get_set]
      by_cases e : N = M
      · subst e; rw [if_pos rfl, if_pos (by simp)]
      · rw [if_neg e, if_neg (by simp [e, h])]

theorem hiddenOf_mem : ∀ (bits : Nat) (ds : List (Nat × Did)) (p : Nat × Did), p ∈ ds → bits.testBit p.1 = false → p.2.lo ≠ p.2.hi → (p.2.lo, p.2.hi) ∈ hiddenOf bits ds
  | bits, [], p, hp, _, _ => by cases hp
  | bits, (j, d) :: ds, p, hp, hb, hl => by
    unfold hiddenOf
    rcases List.mem_cons.1 hp with rfl | hp
    · rw [if_neg (by simp [hb, hl])]
      exact List.mem_cons_self ..
    · split
      · exact hiddenOf_mem bits ds p hp hb hl
      · exact List.mem_cons_of_mem _ (hiddenOf_mem bits ds p hp hb hl)

/-- What an operation has written or laid. -/
def Did.touch (d : Did) (N : Nat) : Bool := d.mods.contains N || (decide (d.lo ≤ N) && decide (N < d.hi))

theorem Did.touch_iff {d : Did} {N : Nat} : d.touch N = true ↔ N ∈ d.mods ∨ (d.lo ≤ N ∧ N < d.hi) := by simp [Did.touch]

/-- What an operation is shown, by its kind; what it wrote was there. -/
structure Shown (d : Did) (V : Nat → Option Blk) : Prop where
  none : d.kind ≤ 1 → ∀ N, V N = none
  one : d.kind = 2 → ∀ N, V N ≠ Option.none → N = d.blk
  kind : d.kind ≤ 1 ∨ d.kind = 2 ∨ d.kind = 3
  mods : ∀ N ∈ d.mods, N < d.lo ∧ V N ≠ Option.none ∧ d.kind = 3
  le : d.lo ≤ d.hi

/-- Of an earlier operation and one that isn't ordered after it. -/
def PairD (e d : Did) (V : Nat → Option Blk) : Prop := okPair e d = true ∧ ∀ N, e.lo ≤ N → N < e.hi → V N = none

theorem okOne_spec {a b : Did} (h : okOne a b = true) {N : Nat} (hN : N ∈ a.mods) : b.kind ≤ 1 ∨ (b.kind = 2 ∧ b.blk ∉ a.mods) := by
  unfold okOne at h
  have hne : a.mods.isEmpty = false := by cases hm : a.mods with
    | nil => rw [hm] at hN; cases hN
    | cons x y => rfl
  simp [hne] at h
  exact h

theorem PairD.apart {e d : Did} {U V : Nat → Option Blk} (h : PairD e d V) (he : Shown e U) (hd : Shown d V) (hle : e.hi ≤ d.lo) (hU : ∀ N, d.lo ≤ N → N < d.hi → U N = none) (N : Nat) :
    (e.touch N = true → V N = none) ∧ (d.touch N = true → U N = none) ∧ (e.touch N = true → d.touch N = false) := by
  obtain ⟨h1, h2⟩ := h
  unfold okPair at h1
  rw [Bool.and_eq_true] at h1
  refine ⟨fun ht => ?_, fun ht => ?_, fun ht => ?_⟩
  · rcases Did.touch_iff.1 ht with hm | ⟨k1, k2⟩
    · rcases okOne_spec h1.1 hm with k | ⟨k, k'⟩
      · exact hd.none k N
      · cases hv : V N with
        | none => rfl
        | some x => exact absurd (hd.one k N (by rw [hv]; simp) ▸ hm) k'
    · exact h2 N k1 k2
  · rcases Did.touch_iff.1 ht with hm | ⟨k1, k2⟩
    · rcases okOne_spec h1.2 hm with k | ⟨k, k'⟩
      · exact he.none k N
      · cases hv : U N with
        | none => rfl
        | some x => exact absurd (he.one k N (by rw [hv]; simp) ▸ hm) k'
    · exact hU N k1 k2
  · cases hx : d.touch N with
    | false => rfl
    | true =>
      exfalso
      rcases Did.touch_iff.1 ht with hm | ⟨k1, k2⟩ <;> rcases Did.touch_iff.1 hx with hm' | ⟨k1', k2'⟩
      · have a3 := (hd.mods N hm').2.2
        rcases okOne_spec h1.1 hm with k | ⟨k, _⟩ <;> omega
      · have := (he.mods N hm).1; have := he.le; omega
      · exact (hd.mods N hm').2.1 (h2 N k1 k2)
      · omega

section
variable {T : Tab}

/-- One operation: what it is shown, what it leaves. -/
structure One (T : Tab) (rec : RunCode) (bits : Nat) (ds : List (Nat × Did)) (fr : Fr) (o : Oper) (s : St) (v : Value) (d : Did) (s' a b : St) : Prop where
  run : evOp T rec fr o a = some (v, b)
  anext : a.next = s.next
  bnext : b.next = s'.next
  lo : d.lo = s.next
  hi : d.hi = s'.next
  heap : ∀ N, s'.t.get N = if d.touch N = true then b.t.get N else s.t.get N
  view : ∀ N x, a.t.get N = some x → s.t.get N = some x
  off : ∀ N, d.touch N = false → b.t.get N = a.t.get N
  shown : Shown d a.t.get
  pairs : ∀ p ∈ ds, bits.testBit p.1 = false → PairD p.2 d a.t.get

theorem Tree.get_leaf (N : Nat) : Tree.leaf.get N = none := by simp [Tree.get]; try rfl

theorem drawOne_some {rec : RunCode} (hLg : ∀ cx c fr, Logs (rec cx c fr)) {bits : Nat} {ds : List (Nat × Did)} {fr : Fr} {o : Oper} {s s' : St} {v : Value} {d : Did} (h : drawOne T rec bits ds fr o s = some ((v, d), s')) :
    ∃ a b, One T rec bits ds fr o s v d s' a b := by
  unfold drawOne at h
  split at h
  · cases h
  · rename_i v1 s1 hrun
    split at h
    · rename_i hok
      simp only [Option.some.injEq, Prod.mk.injEq] at h
      obtain ⟨⟨rfl, rfl⟩, rfl⟩ := h
      generalize ha : viewOf (kindOf o) (blkOf fr o) (hiddenOf bits ds) s.t = av at hrun hok
      obtain ⟨g1, l, g2, g3⟩ := Logs.evOp hLg fr o _ _ _ hrun
      simp only [List.append_nil] at g1 g2 g3
      unfold drawOk at hok
      simp only [Bool.and_eq_true] at hok
      obtain ⟨⟨⟨k1, k2⟩, k3⟩, k4⟩ := hok
      have hle : s.next ≤ s1.next := g1
      have hkind : kindOf o ≤ 1 ∨ kindOf o = 2 ∨ kindOf o = 3 := by unfold kindOf; split <;> simp
      have hview : ∀ N x, av.get N = some x → s.t.get N = some x := fun N x hx => by
        rw [← ha] at hx
        unfold viewOf at hx
        split at hx
        · rcases (takeOutAll_get (hiddenOf bits ds) s.t N).1 with e | e
          · rw [e] at hx; cases hx
          · rw [← e]; exact hx
        · split at hx
          · rw [Tree.get_set] at hx
            by_cases e : N = blkOf fr o
            · rw [if_pos e] at hx; rw [e]; exact hx
            · rw [if_neg e, Tree.get_leaf] at hx; cases hx
          · rw [Tree.get_leaf] at hx; cases hx
      refine ⟨⟨av, s.next, []⟩, s1, ⟨hrun, rfl, rfl, rfl, rfl, fun N => ?_, hview, fun N hN => ?_, ⟨fun hk N => ?_, fun hk N hN => ?_, hkind, fun N hN => ?_, hle⟩, fun p hp hb => ⟨?_, fun N h1 h2 => ?_⟩⟩⟩
      · simp only
        rw [giveBack_get, giveRange_get]
        by_cases ht : N ∈ outer s.next s1
        · rw [if_pos ht, if_pos (Did.touch_iff.2 (.inl ht))]
        · rw [if_neg ht]
          by_cases hr : s.next ≤ N ∧ N < s.next + (s1.next - s.next)
          · rw [if_pos hr, if_pos (Did.touch_iff.2 (.inr ⟨hr.1, by simp only; omega⟩))]
          · rw [if_neg hr, if_neg fun hx => (Did.touch_iff.1 hx).elim ht fun hy => hr ⟨hy.1, by have := hy.2; simp only at this; omega⟩]
      · by_cases e : s1.t.get N = av.get N
        · exact e
        · exfalso
          have hx : ∀ {p : Prop}, p → (⟨kindOf o, blkOf fr o, s.next, s1.next, outer s.next s1⟩ : Did).touch N = true → False := fun _ ht => by rw [ht] at hN; cases hN
          by_cases hr : s.next ≤ N ∧ N < s1.next
          · exact hx trivial (Did.touch_iff.2 (.inr hr))
          · rcases g3 N e with hm | hm
            · refine hx trivial (Did.touch_iff.2 (.inl ?_))
              simp only [outer, List.mem_filter, Bool.or_eq_true, decide_eq_true_eq]
              exact ⟨by rw [g2]; exact hm, by omega⟩
            · exact hr hm
      · simp only at hk
        simp only [← ha]
        unfold viewOf
        rw [if_neg (by simp; omega), if_neg (by simp; omega), Tree.get_leaf]
      · simp only at hk hN ⊢
        rw [← ha] at hN
        unfold viewOf at hN
        rw [if_neg (by simp; omega), if_pos (by simp; omega), Tree.get_set] at hN
        by_cases e : N = blkOf fr o
        · exact e
        · rw [if_neg e, Tree.get_leaf] at hN; exact absurd rfl hN
      · simp only at hN k1 k2 ⊢
        have := List.all_eq_true.1 k2 N hN
        simp only [Bool.and_eq_true, decide_eq_true_eq] at this
        refine ⟨this.1, fun e => by rw [e] at this; simp at this, ?_⟩
        rw [Bool.or_eq_true] at k1
        rcases k1 with k | k
        · simpa using k
        · cases hm : outer s.next s1 with
          | nil => rw [hm] at hN; cases hN
          | cons x y => rw [hm] at k; cases k
      · have := List.all_eq_true.1 k4 p hp
        rw [hb, Bool.false_or] at this
        exact this
      · simp only
        by_cases e : p.2.lo = p.2.hi
        · omega
        · have hm := hiddenOf_mem bits ds p hp hb e
          rw [← ha]
          unfold viewOf
          split
          · exact (takeOutAll_get (hiddenOf bits ds) s.t N).2 _ hm h1 h2
          · rename_i hk3
            split
            · rename_i hk2
              rw [Tree.get_set, if_neg, Tree.get_leaf]
              intro e2
              simp only [bne, hk2, Bool.not_true, Bool.false_or] at k3
              have := List.all_eq_true.1 k3 _ hm
              simp only [Bool.or_eq_true, decide_eq_true_eq] at this
              omega
            · exact Tree.get_leaf N
    · cases h

/-- What one operation of the region has done. -/
structure Tr where
  ran : Bool
  fr : Fr
  v : Value
  st : St
  a : St
  b : St
  did : Did

def Tr.touch (x : Tr) (N : Nat) : Bool := x.ran && x.did.touch N

/-- The record of the operation at 'j', and where the next one begins. -/
structure Good (T : Tab) (rec : RunCode) (ops : Array Oper) (X : Nat → Tr) (j : Nat) (o : Oper) : Prop where
  at_ : ops[j]? = some o
  ran : (X j).ran = Region.wanted o (yieldedL ops (X j).fr.tmps)
  fr : (X (j + 1)).fr = (X j).fr.put o.dst (X j).v
  skip : (X j).ran = false → (X j).v = undef ∧ (X (j + 1)).st = (X j).st
  one : (X j).ran = true → One T rec 0 [] (X j).fr o (X j).st (X j).v (X j).did (X (j + 1)).st (X j).a (X j).b

theorem One.weak {rec : RunCode} {bits : Nat} {ds : List (Nat × Did)} {fr : Fr} {o : Oper} {s s' a b : St} {v : Value} {d : Did} (h : One T rec bits ds fr o s v d s' a b) : One T rec 0 [] fr o s v d s' a b :=
  ⟨h.run, h.anext, h.bnext, h.lo, h.hi, h.heap, h.view, h.off, h.shown, fun p hp => by cases hp⟩

theorem evDraw_trace {rec : RunCode} (hLg : ∀ cx c fr, Logs (rec cx c fr)) {ops : Array Oper} {bef : List Nat} : ∀ (os : List Oper) (i : Nat) (ds : List (Nat × Did)) (fr fr' : Fr) (s s' : St), os = ops.toList.drop i → i ≤ ops.size →
    evDraw T rec ops bef i os ds fr s = some (fr', s') →
    ∃ X : Nat → Tr, (X i).fr = fr ∧ (X i).st = s ∧ (X ops.size).fr = fr' ∧ (X ops.size).st = s' ∧ (∀ j, i ≤ j → j < ops.size → ∃ o, Good T rec ops X j o) ∧
      (∀ j, i ≤ j → j < ops.size → (X j).ran = true → ∀ p ∈ ds, (bef.getD j 0).testBit p.1 = false → PairD p.2 (X j).did (X j).a.t.get) ∧
      (∀ k j, i ≤ k → k < j → j < ops.size → (X k).ran = true → (X j).ran = true → (bef.getD j 0).testBit k = false → PairD (X k).did (X j).did (X j).a.t.get)
  | [], i, ds, fr, fr', s, s', hos, hi, h => by
    obtain ⟨rfl, rfl⟩ := ret_some h
    have : ops.size ≤ i := by have := congrArg List.length hos; simp at this; omega
    have e : ops.size = i := by omega
    exact ⟨fun _ => ⟨false, fr', undef, s', s', s', ⟨0, 0, 0, 0, []⟩⟩, rfl, rfl, rfl, rfl, fun j h1 h2 => by omega, fun j h1 h2 => by omega, fun k j h1 h2 h3 => by omega⟩
  | o :: os, i, ds, fr, fr', s, s', hos, hi, h => by
    have hlt : i < ops.toList.length := by
      rcases Nat.lt_or_ge i ops.toList.length with h1 | h1
      · exact h1
      · rw [List.drop_eq_nil_of_le h1] at hos; cases hos
    have hlt' : i < ops.size := by simpa using hlt
    rw [List.drop_eq_getElem_cons hlt, List.cons.injEq] at hos
    have ho : ops[i]? = some o := by rw [← Array.getElem?_toList, hos.1]; exact List.getElem?_eq_getElem hlt
    unfold evDraw at h
    split at h
    · rename_i hw
      obtain ⟨⟨v, d⟩, s1, h1, h2⟩ := bnd_some h
      obtain ⟨a, b, hone⟩ := drawOne_some hLg h1
      obtain ⟨X, x1, x2, x3, x4, x5, x6, x7⟩ := evDraw_trace hLg os (i + 1) ((i, d) :: ds) (fr.put o.dst v) fr' s1 s' hos.2 (by omega) h2
      refine ⟨fun n => if n = i then ⟨true, fr, v, s, a, b, d⟩ else X n, by simp, by simp, by simpa [show ¬ ops.size = i by omega] using x3, by simpa [show ¬ ops.size = i by omega] using x4, fun j k1 k2 => ?_, fun j k1 k2 hr p hp hb => ?_, fun k j k1 k2 k3 hr hr' hb => ?_⟩
      · by_cases e : j = i
        · subst e
          refine ⟨o, ho, by simp [hw], by simp [x1], by simp, fun _ => ?_⟩
          simp only [if_true, if_neg (show ¬ j + 1 = j by omega), x2]
          exact hone.weak
        · obtain ⟨o', g⟩ := x5 j (by omega) k2
          refine ⟨o', g.at_, ?_, ?_, ?_, ?_⟩ <;> simp only [if_neg e, if_neg (show ¬ j + 1 = i by omega)]
          · exact g.ran
          · exact g.fr
          · exact g.skip
          · exact g.one
      · by_cases e : j = i
        · subst e; simp only [if_true]; exact hone.pairs p hp hb
        · simp only [if_neg e] at hr ⊢; exact x6 j (by omega) k2 hr p (List.mem_cons_of_mem _ hp) hb
      · simp only [if_neg (show ¬ j = i by omega)] at hr' ⊢
        by_cases e : k = i
        · subst e; simp only [if_true]; exact x6 j (by omega) k3 hr' (k, d) (List.mem_cons_self ..) hb
        · simp only [if_neg e] at hr ⊢; exact x7 k j (by omega) k2 k3 hr hr' hb
    · rename_i hw
      obtain ⟨X, x1, x2, x3, x4, x5, x6, x7⟩ := evDraw_trace hLg os (i + 1) ds (fr.put o.dst undef) fr' s s' hos.2 (by omega) h
      refine ⟨fun n => if n = i then ⟨false, fr, undef, s, s, s, ⟨0, 0, 0, 0, []⟩⟩ else X n, by simp, by simp, by simpa [show ¬ ops.size = i by omega] using x3, by simpa [show ¬ ops.size = i by omega] using x4, fun j k1 k2 => ?_, fun j k1 k2 hr p hp hb => ?_, fun k j k1 k2 k3 hr hr' hb => ?_⟩
      · by_cases e : j = i
        · subst e
          refine ⟨o, ho, by simp; simpa using hw, by simp [x1], fun _ => ⟨by simp, by simp [x2]⟩, fun hh => by simp at hh⟩
        · obtain ⟨o', g⟩ := x5 j (by omega) k2
          refine ⟨o', g.at_, ?_, ?_, ?_, ?_⟩ <;> simp only [if_neg e, if_neg (show ¬ j + 1 = i by omega)]
          · exact g.ran
          · exact g.fr
          · exact g.skip
          · exact g.one
      · by_cases e : j = i
        · subst e; simp at hr
        · simp only [if_neg e] at hr ⊢; exact x6 j (by omega) k2 hr p hp hb
      · simp only [if_neg (show ¬ j = i by omega)] at hr' ⊢
        by_cases e : k = i
        · subst e; simp at hr
        · simp only [if_neg e] at hr ⊢; exact x7 k j (by omega) k2 k3 hr hr' hb

end
end Go.Ev

/-
  EV, PART T: a region that draws its order: whatever the order, what the evaluator has found comes out.
-/
namespace Go.Ev
open Go Go.RowKit

def dstOf (ops : Array Oper) (i : Nat) : Option Tmp := (ops[i]?).bind (·.dst)

theorem get_put {fr : Fr} {dst : Option Tmp} {v : Value} (d : Nat) : (fr.put dst v).tmps[d]? = if dst = some d then (fr.tmps[d]?).map (fun _ => v) else fr.tmps[d]? := by
  cases dst with
  | none => simp [Fr.put]
  | some e =>
    simp only [Fr.put, List.getElem?_set, Option.some.injEq]
    by_cases h : e = d
    · subst h
      rw [if_pos rfl, if_pos rfl]
      by_cases hl : e < fr.tmps.length
      · rw [if_pos hl, List.getElem?_eq_getElem hl]; rfl
      · rw [if_neg hl, List.getElem?_eq_none (Nat.le_of_not_lt hl)]; rfl
    · rw [if_neg h, if_neg h]

theorem put_defers (fr : Fr) (dst : Option Tmp) (v : Value) : (fr.put dst v).defers = fr.defers := by cases dst <;> rfl

section
variable {T : Tab} {rec : RunCode} {ops : Array Oper} {X : Nat → Tr} (hX : ∀ j, j < ops.size → ∃ o, Good T rec ops X j o)
include hX

theorem next_mono {i : Nat} : ∀ {j : Nat}, i ≤ j → j ≤ ops.size → (X i).st.next ≤ (X j).st.next
  | 0, h, _ => by have : i = 0 := by omega
                  subst this; exact Nat.le_refl _
  | j + 1, h, hj => by
    by_cases e : i = j + 1
    · subst e; exact Nat.le_refl _
    · refine Nat.le_trans (next_mono (i := i) (j := j) (by omega) (by omega)) ?_
      obtain ⟨o, g⟩ := hX j (by omega)
      cases hr : (X j).ran with
      | false => rw [(g.skip hr).2]; exact Nat.le_refl _
      | true => have := g.one hr; rw [← this.lo, ← this.hi]; exact this.shown.le

theorem touch_step {j : Nat} (hj : j < ops.size) (N : Nat) : (X (j + 1)).st.t.get N = if (X j).touch N = true then (X j).b.t.get N else (X j).st.t.get N := by
  obtain ⟨o, g⟩ := hX j hj
  cases hr : (X j).ran with
  | false => rw [(g.skip hr).2]; simp [Tr.touch, hr]
  | true => rw [(g.one hr).heap N]; simp [Tr.touch, hr]

theorem clean (h0 : ∀ N, (X 0).st.next ≤ N → N < (X ops.size).st.next → (X 0).st.t.get N = none) : ∀ {j : Nat}, j ≤ ops.size → ∀ N, (X j).st.next ≤ N → N < (X ops.size).st.next → (X j).st.t.get N = none
  | 0, _, N, h1, h2 => h0 N h1 h2
  | j + 1, hj, N, h1, h2 => by
    have ih := clean h0 (j := j) (by omega) N (Nat.le_trans (next_mono hX (Nat.le_succ j) hj) h1) h2
    rw [touch_step hX (by omega)]
    split
    · rename_i ht
      exfalso
      obtain ⟨o, g⟩ := hX j (by omega)
      simp only [Tr.touch, Bool.and_eq_true] at ht
      have one := g.one ht.1
      rcases Did.touch_iff.1 ht.2 with hm | ⟨_, k⟩
      · exact (one.shown.mods N hm).2.1 (by
          cases ha : (X j).a.t.get N with
          | none => rfl
          | some x => have := one.view N x ha; rw [ih] at this; cases this)
      · rw [one.hi] at k; omega
    · exact ih

theorem heap_lay (N : Nat) : ∀ {j : Nat}, j ≤ ops.size → (X j).st.t.get N = lay ((X 0).st.t.get N) (fun i => (X i).touch N) (fun i => (X i).b.t.get N) j
  | 0, _ => rfl
  | j + 1, hj => by
    rw [touch_step hX (by omega)]
    simp only [lay]
    rw [heap_lay N (j := j) (by omega)]

theorem tmps_lay (d : Nat) : ∀ {j : Nat}, j ≤ ops.size → (X j).fr.tmps[d]? = ((X 0).fr.tmps[d]?).map fun t0 => lay t0 (fun i => dstOf ops i == some d) (fun i => (X i).v) j
  | 0, _ => by simp [lay]
  | j + 1, hj => by
    obtain ⟨o, g⟩ := hX j (by omega)
    rw [g.fr, get_put, tmps_lay d (j := j) (by omega)]
    have e : dstOf ops j = o.dst := by simp [dstOf, g.at_]
    by_cases h : o.dst = some d
    · rw [if_pos h]
      cases (X 0).fr.tmps[d]? with
      | none => rfl
      | some t0 => simp [lay, e, h]
    · rw [if_neg h]
      cases (X 0).fr.tmps[d]? with
      | none => rfl
      | some t0 => simp [lay, e, h]

theorem defers_same : ∀ {j : Nat}, j ≤ ops.size → (X j).fr.defers = (X 0).fr.defers
  | 0, _ => rfl
  | j + 1, hj => by
    obtain ⟨o, g⟩ := hX j (by omega)
    rw [g.fr, put_defers, defers_same (j := j) (by omega)]

end

/-- Two operations that leave each other alone. -/
def Sep (x y : Tr) : Prop := ∀ N, (x.touch N = true → y.ran = true → y.a.t.get N = none) ∧ (y.touch N = true → x.ran = true → x.a.t.get N = none) ∧ (x.touch N = true → y.touch N = false)

theorem sep {T : Tab} {rec : RunCode} {ops : Array Oper} {X : Nat → Tr} {bef : List Nat} (hX : ∀ j, j < ops.size → ∃ o, Good T rec ops X j o)
    (h0 : ∀ N, (X 0).st.next ≤ N → N < (X ops.size).st.next → (X 0).st.t.get N = none)
    (hP : ∀ k j, k < j → j < ops.size → (X k).ran = true → (X j).ran = true → (bef.getD j 0).testBit k = false → PairD (X k).did (X j).did (X j).a.t.get)
    {i j : Nat} (hij : i < j) (hj : j < ops.size) (hu : (bef.getD j 0).testBit i = false) : Sep (X i) (X j) := by
  intro N
  cases hi' : (X i).ran with
  | false => simp [Tr.touch, hi']
  | true =>
    cases hj' : (X j).ran with
    | false => simp [Tr.touch, hj']
    | true =>
      obtain ⟨oi, gi⟩ := hX i (by omega)
      obtain ⟨oj, gj⟩ := hX j hj
      have a := gi.one hi'
      have b := gj.one hj'
      have m1 := next_mono hX (i := i + 1) (j := j) (by omega) (by omega)
      have m2 := next_mono hX (i := i) (j := j) (by omega) (by omega)
      have m3 := next_mono hX (i := j + 1) (j := ops.size) (by omega) (Nat.le_refl _)
      have := (hP i j hij hj hi' hj' hu).apart a.shown b.shown (by rw [a.hi, b.lo]; exact m1) (fun M h1 h2 => by
        cases ha : (X i).a.t.get M with
        | none => rfl
        | some x =>
          have h3 := a.view M x ha
          rw [clean hX h0 (j := i) (by omega) M (by rw [b.lo] at h1; omega) (by rw [b.hi] at h2; omega)] at h3
          cases h3) N
      simp only [Tr.touch, hi', hj', Bool.true_and, true_implies]
      exact this

def befFold (bef : List Nat) (l : List Edge) (s : Nat) : Nat := l.foldl (fun s e => if Region.binds .any e then s ||| 2 ^ e.on ||| bef.getD e.on 0 else s) s

theorem befFold_bit (bef : List Nat) : ∀ (l : List Edge) (s i : Nat), (befFold bef l s).testBit i = true → s.testBit i = true ∨ ∃ e ∈ l, Region.binds .any e = true ∧ (i = e.on ∨ (bef.getD e.on 0).testBit i = true)
  | [], s, i, h => .inl h
  | e :: l, s, i, h => by
    unfold befFold at h
    rw [List.foldl_cons] at h
    rcases befFold_bit bef l _ i h with h1 | ⟨e', h2, h3⟩
    · split at h1
      · rename_i hb
        rw [Nat.testBit_or, Nat.testBit_or, Nat.testBit_two_pow] at h1
        simp only [Bool.or_eq_true, decide_eq_true_eq] at h1
        rcases h1 with (h1 | h1) | h1
        · exact .inl h1
        · exact .inr ⟨e, List.mem_cons_self .., hb, .inl h1.symm⟩
        · exact .inr ⟨e, List.mem_cons_self .., hb, .inr h1⟩
      · exact .inl h1
    · exact .inr ⟨e', List.mem_cons_of_mem _ h2, h3⟩

def drawAt (ops : Array Oper) (bef : List Nat) (j : Nat) : Bool :=
  match ops[j]? with
  | none => false
  | some o => bef.getD j 0 == befFold bef o.after.toList 0 && o.after.toList.all (fun e => !Region.binds .any e || decide (e.on < j)) &&
    (List.range j).all fun i => (bef.getD j 0).testBit i || match ops[i]? with
      | some x => x.apart ops o
      | none => false

/-- The order of a region that draws is told rightly; who may come before whom doesn't use what the other gives. -/
def drawStatic (ops : Array Oper) : Bool := (List.range ops.size).all (drawAt ops (befL [] ops.toList))

structure DrawOk (ops : Array Oper) (bef : List Nat) : Prop where
  bits : ∀ j o, ops[j]? = some o → ∀ i, (bef.getD j 0).testBit i = true → ∃ e ∈ o.after, Region.binds .any e = true ∧ (i = e.on ∨ (bef.getD e.on 0).testBit i = true)
  back : ∀ j o, ops[j]? = some o → ∀ e ∈ o.after, Region.binds .any e = true → e.on < j
  slots : ∀ i j x o, i < j → ops[i]? = some x → ops[j]? = some o → (bef.getD j 0).testBit i = false → x.apart ops o = true

theorem drawStatic_ok {ops : Array Oper} (h : drawStatic ops = true) : DrawOk ops (befL [] ops.toList) := by
  have key : ∀ j o, ops[j]? = some o → drawAt ops (befL [] ops.toList) j = true := fun j o ho =>
    List.all_eq_true.1 h j (List.mem_range.2 (Array.getElem?_eq_some_iff.1 ho).1)
  refine ⟨fun j o ho i hi => ?_, fun j o ho e he hb => ?_, fun i j x o hij hx ho hu => ?_⟩
  · have k := key j o ho
    simp only [drawAt, ho, Bool.and_eq_true, beq_iff_eq] at k
    rw [k.1.1] at hi
    rcases befFold_bit _ _ _ _ hi with h1 | ⟨e, h1, h2⟩
    · simp at h1
    · exact ⟨e, by simpa using h1, h2⟩
  · have k := key j o ho
    simp only [drawAt, ho, Bool.and_eq_true] at k
    have := List.all_eq_true.1 k.1.2 e (by simpa using he)
    simpa [hb] using this
  · have k := key j o ho
    simp only [drawAt, ho, Bool.and_eq_true] at k
    have := List.all_eq_true.1 k.2 i (List.mem_range.2 hij)
    simp only [hu, hx, Bool.false_or] at this
    exact this

end Go.Ev

/-
  EV, PART U: the steps of a region that draws its order.
-/
namespace Go.Ev
open Go Go.RowKit

section
variable {T : Tab} {P : Program} (hT : T.Ok P) {ok : Code → Prop} (hF : T.Fns P ok)
include hT hF

/-- The heap, when those of 'S' have been carried out. -/
def heapS (X : Nat → Tr) (n : Nat) (S : Nat → Bool) (N : Nat) : Option Blk := lay ((X 0).st.t.get N) (fun i => S i && (X i).touch N) (fun i => (X i).b.t.get N) n

/-- The region midway: those of 'S' have been carried out. -/
structure Mid (P : Program) (B : Base) (ops : Array Oper) (X : Nat → Tr) (cx : Ctx) (φ0 : Phi) (w0 : World) (S : Nat → Bool) (φ : Phi) (w : World) (fc : Frame) (tm : List Value) : Prop where
  rel : Rel φ B (heapS X ops.size S) w
  grows : Grows B φ0 φ (X 0).st.next (X ops.size).st.next
  keeps : KeepsB B w0 w
  fresh : ∀ j, j < ops.size → S j = false → (X j).ran = true → Fresh φ (X j).did.lo (X j).did.hi
  fr : FRel φ ⟨tm, (X 0).fr.defers⟩ cx fc
  tmps : ∀ d, tm[d]? = ((X 0).fr.tmps[d]?).map fun t0 => lay t0 (fun i => S i && dstOf ops i == some d) (fun i => (X i).v) ops.size

omit hT hF in
theorem getD_eq {l m : List Value} {t : Nat} (h : l[t]? = m[t]?) : l.getD t undef = m.getD t undef := by simp [List.getD, h]

omit hT hF in
theorem wanted_same {ops : Array Oper} {o : Oper} {l m : List Value} (h : ∀ t ∈ o.looksAt ops, l[t]? = m[t]?) : Region.wanted o (yieldedL ops l) = Region.wanted o (yieldedL ops m) := by
  unfold Region.wanted
  cases hg : o.guard with
  | none => rfl
  | some p =>
    obtain ⟨g, b⟩ := p
    simp only
    have : yieldedL ops l g = yieldedL ops m g := by
      unfold yieldedL
      cases hd : (ops[g]?).bind (·.dst) with
      | none => rfl
      | some d =>
        simp only [Option.bind_some]
        rw [h d (List.mem_append_right _ (by simp [hg, hd]))]
    rw [this]

theorem draw_step {rec : RunCode} (hC : CodeSim T P ok rec) (hLg : ∀ cx c fr, Logs (rec cx c fr)) {B : Base} (hBz : B.sz = P.cellsOf) (hBc : B.code = ok) {ops : Array Oper} (hops : opsOk T.globs ops = true) {bef : List Nat} (hD : DrawOk ops bef) (cs : List Frame) {cx : Ctx} {K : List Item}
    {X : Nat → Tr} (hX : ∀ j, j < ops.size → ∃ o, Good T rec ops X j o)
    (hP : ∀ k j, k < j → j < ops.size → (X k).ran = true → (X j).ran = true → (bef.getD j 0).testBit k = false → PairD (X k).did (X j).did (X j).a.t.get)
    {φ0 : Phi} {w0 : World} (hR0 : Rel φ0 B (X 0).st.t.get w0) (hf0 : Fresh φ0 (X 0).st.next (X ops.size).st.next) (hG0 : GRel φ0 T.globs)
    {S : Nat → Bool} {φ : Phi} {w : World} {fc : Frame} {tm : List Value} (M : Mid P B ops X cx φ0 w0 S φ w fc tm) {j : Nat} (hj : j < ops.size) (hS : S j = false)
    (hr : ∀ i, (bef.getD j 0).testBit i = true → S i = true) (hc : ∀ k, k < ops.size → S k = true → ∀ i, (bef.getD k 0).testBit i = true → S i = true)
    {rest : List Nat} (ht : fc.todo = .inRegion ops (j :: rest) :: K) :
    ∃ φ' w' fc' tm', Mid P B ops X cx φ0 w0 (fun i => S i || i == j) φ' w' fc' tm' ∧ Steps P (lone fc cs w) (lone fc' cs w') ∧ fc'.todo = .inRegion ops rest :: K := by
  have h0 : ∀ N, (X 0).st.next ≤ N → N < (X ops.size).st.next → (X 0).st.t.get N = none := fun N h1 h2 => by
    cases h : (X 0).st.t.get N with
    | none => rfl
    | some b =>
      obtain ⟨L, hL, _⟩ := hR0.blk N b h
      rw [hf0 N h1 h2] at hL; cases hL
  obtain ⟨o, g⟩ := hX j hj
  -- those that aren't ordered with this one
  have before : ∀ i, i < j → S i = false → (bef.getD j 0).testBit i = false := fun i _ h => by
    cases hb : (bef.getD j 0).testBit i with
    | false => rfl
    | true => rw [hr i hb] at h; cases h
  have after : ∀ i, i < ops.size → S i = true → (bef.getD i 0).testBit j = false := fun i hi h => by
    cases hb : (bef.getD i 0).testBit j with
    | false => rfl
    | true => rw [hc i hi h j hb] at hS; cases hS
  have slot : ∀ t, (t ∈ o.looksAt ops) → (X j).fr.tmps[t]? = tm[t]? := fun t htl => by
    rw [tmps_lay hX t (Nat.le_of_lt hj), M.tmps t]
    congr 1
    funext t0
    refine (lay_view (Nat.le_of_lt hj) fun i hi hτ => ?_).symm
    have hτ' : dstOf ops i = some t := by simpa using hτ
    obtain ⟨oi, gi⟩ := hX i hi
    have hd : oi.dst = some t := by simpa [dstOf, gi.at_] using hτ'
    constructor
    · intro hs
      rcases Nat.lt_trichotomy i j with h | h | h
      · exact h
      · subst h; rw [hS] at hs; cases hs
      · exact absurd htl ((Oper.apart_spec (hD.slots j i o oi h g.at_ gi.at_ (after i hi hs))).2.2 t hd)
    · intro h
      cases hs : S i with
      | true => rfl
      | false => exact absurd htl ((Oper.apart_spec (hD.slots i j oi o h gi.at_ g.at_ (before i h hs))).1 t hd)
  have hwant : Region.wanted o (yielded ops fc.tmps) = (X j).ran := by
    rw [g.ran, wanted_same slot, ← yielded_rel (tmps := tm) M.fr.tmps ops]
  obtain ⟨hopk, hnd⟩ := opsOk_at hops g.at_
  -- the places, after it
  have tmps' : ∀ d, ((Fr.mk tm (X 0).fr.defers).put o.dst (X j).v).tmps[d]? = ((X 0).fr.tmps[d]?).map fun t0 => lay t0 (fun i => (S i || i == j) && dstOf ops i == some d) (fun i => (X i).v) ops.size := fun d => by
    rw [get_put]
    simp only
    rw [M.tmps d]
    by_cases h : o.dst = some d
    · rw [if_pos h]
      have : dstOf ops j = some d := by simp [dstOf, g.at_, h]
      cases (X 0).fr.tmps[d]? with
      | none => rfl
      | some t0 =>
        simp only [Option.map_some]
        congr 1
        refine (lay_put (b0 := t0) (S := S) (val := fun i => (X i).v) (τ := fun i => dstOf ops i == some d) hj (by simp [this]) fun i h1 h2 h3 => ?_).symm
        obtain ⟨oi, gi⟩ := hX i h2
        have := (Oper.apart_spec (hD.slots j i o oi h1 g.at_ gi.at_ (after i h2 h3))).2.1 d h
        simpa [dstOf, gi.at_] using this
    · rw [if_neg h]
      have : (dstOf ops j == some d) = false := by simpa [dstOf, g.at_] using h
      cases (X 0).fr.tmps[d]? with
      | none => rfl
      | some t0 =>
        simp only [Option.map_some]
        congr 1
        exact (lay_other (τ := fun i => dstOf ops i == some d) this).symm
  have sepB : ∀ i, i < j → S i = false → Sep (X i) (X j) := fun i h1 h2 => sep hX h0 hP h1 hj (before i h1 h2)
  have sepA : ∀ i, j < i → i < ops.size → S i = true → Sep (X j) (X i) := fun i h1 h2 h3 => sep hX h0 hP h1 h2 (after i h2 h3)
  cases hran : (X j).ran with
  | false =>
    obtain ⟨hv, hst⟩ := g.skip hran
    obtain ⟨r1, r2⟩ := M.fr.finish ht g.at_ (φ := φ) (v := (X j).v) (v' := undef) (by rw [hv]; exact .undef)
    have hno : ∀ N, (X j).touch N = false := fun N => by simp [Tr.touch, hran]
    refine ⟨φ, w, fc.finish undef, _, ⟨?_, M.grows, M.keeps, fun i hi hs hri => M.fresh i hi (by simp at hs; exact hs.1) hri, ?_, tmps'⟩, Steps.one (st_opSkip M.fr.mode ht (by rw [g.at_]; simp [hwant, hran])), r2⟩
    · have : heapS X ops.size (fun i => S i || i == j) = heapS X ops.size S := by
        funext N
        exact lay_other (τ := fun i => (X i).touch N) (hno N)
      rw [this]; exact M.rel
    · have := r1
      rw [show (Fr.mk tm (X 0).fr.defers).put o.dst (X j).v = ⟨((Fr.mk tm (X 0).fr.defers).put o.dst (X j).v).tmps, (X 0).fr.defers⟩ by cases o.dst <;> rfl] at this
      exact this
  | true =>
    have one := g.one hran
    have hV : ∀ N b, (X j).a.t.get N = some b → heapS X ops.size S N = some b := fun N b hb => by
      have h1 := one.view N b hb
      rw [heap_lay hX N (Nat.le_of_lt hj)] at h1
      rw [← h1]
      refine lay_view (Nat.le_of_lt hj) fun i hi hτ => ?_
      constructor
      · intro hs
        rcases Nat.lt_trichotomy i j with h | h | h
        · exact h
        · subst h; rw [hS] at hs; cases hs
        · have := (sepA i h hi hs N).2.1 hτ hran
          rw [hb] at this; cases this
      · intro h
        cases hs : S i with
        | true => rfl
        | false => have := (sepB i h hs N).1 hτ hran
                   rw [hb] at this; cases this
    have hR2 := M.rel.narrow hV
    have hfj := M.fresh j hj hS hran
    have hfa : Fresh φ (X j).a.next (X j).b.next := by rw [one.anext, one.bnext, ← one.lo, ← one.hi]; exact hfj
    obtain ⟨φ', w', v', q1, q2, q3⟩ := sim_op hT hF hC hLg (B := B.more (Aside φ (heapS X ops.size S) (X j).a.t.get)) hBz hBc hR2 hfa (hG0.mono M.grows.1) one.run cs M.fr.mode ht g.at_ (by rw [hwant, hran]) (fun x hx => by
      have e1 := eval_rel (ds := (X 0).fr.defers) M.fr.tmps (hG0.mono M.grows.1) (List.all_eq_true.1 hopk x hx)
      have e2 : (X j).fr.eval x = (Fr.mk tm (X 0).fr.defers).eval x := by
        cases x with
        | tmp t => exact getD_eq (slot t (List.mem_append_left _ (List.mem_filterMap.2 ⟨.tmp t, hx, rfl⟩)))
        | const v => rfl
        | global k => rfl
        | func k => rfl
      rw [e2]; exact e1) hnd
    have hgr : Grows (B.more (Aside φ (heapS X ops.size S) (X j).a.t.get)) φ φ' (X j).did.lo (X j).did.hi := by
      have := q1.grows
      rw [one.anext, one.bnext, ← one.lo, ← one.hi] at this
      exact this
    obtain ⟨u1, u2, u3⟩ := M.rel.widen hV q1.rel hgr q1.keeps hfj (τ := fun N => (X j).touch N)
      (fun N hN => one.off N (by simpa [Tr.touch, hran] using hN))
      (fun N hN _ => by
        have hN' : (X j).did.touch N = true := by simpa [Tr.touch, hran] using hN
        rcases Did.touch_iff.1 hN' with hm | hm
        · exact .inl (one.shown.mods N hm).2.1
        · exact .inr hm)
    obtain ⟨r1, r2⟩ := (M.fr.mono u2.1).finish ht g.at_ q2
    have m1 := next_mono hX (i := 0) (j := j) (by omega) (by omega)
    have m2 := next_mono hX (i := j + 1) (j := ops.size) (by omega) (Nat.le_refl _)
    refine ⟨φ', w', fc.finish v', _, ⟨?_, ?_, M.keeps.trans u3, fun i hi hs hri => ?_, ?_, tmps'⟩, q3, r2⟩
    · have : heapS X ops.size (fun i => S i || i == j) = fun N => if (X j).touch N = true then (X j).b.t.get N else heapS X ops.size S N := by
        funext N
        by_cases htN : (X j).touch N = true
        · rw [if_pos htN]
          exact lay_put (τ := fun i => (X i).touch N) hj htN fun i h1 h2 h3 => (sepA i h1 h2 h3 N).2.2 htN
        · rw [if_neg htN]
          exact lay_other (τ := fun i => (X i).touch N) (by simpa using htN)
      rw [this]; exact u1
    · refine ⟨M.grows.1.trans u2.1, fun N hN => ?_, fun N L hL => ?_⟩
      · rcases u2.2.1 N hN with h | ⟨h1, h2⟩
        · exact M.grows.2.1 N h
        · rw [one.lo] at h1; rw [one.hi] at h2; exact .inr ⟨by omega, by omega⟩
      · rcases u2.2.2 N L hL with h | h
        · exact M.grows.2.2 N L h
        · exact .inr h
    · simp only [Bool.or_eq_false_iff] at hs
      have hne : i ≠ j := by have := hs.2; simpa using this
      intro N h1 h2
      cases hn : φ' N with
      | none => rfl
      | some L =>
        exfalso
        rcases u2.2.1 N (by rw [hn]; simp) with h3 | ⟨h3, h4⟩
        · exact h3 (M.fresh i hi hs.1 hri N h1 h2)
        · obtain ⟨oi, gi⟩ := hX i hi
          have onei := gi.one hri
          rw [onei.lo] at h1; rw [onei.hi] at h2; rw [one.lo] at h3; rw [one.hi] at h4
          rcases Nat.lt_or_gt_of_ne hne with h | h
          · have := next_mono hX (i := i + 1) (j := j) (by omega) (by omega); omega
          · have := next_mono hX (i := j + 1) (j := i) (by omega) (by omega); omega
    · have := r1
      rw [show (Fr.mk tm (X 0).fr.defers).put o.dst (X j).v = ⟨((Fr.mk tm (X 0).fr.defers).put o.dst (X j).v).tmps, (X 0).fr.defers⟩ by cases o.dst <;> rfl] at this
      exact this

end
end Go.Ev

/-
  EV, PART V: a region that draws its order, carried out.
-/
namespace Go.Ev
open Go Go.RowKit

def left (S : Nat → Bool) : Nat → Nat
  | 0 => 0
  | n + 1 => left S n + if S n = true then 0 else 1

theorem left_same {S S' : Nat → Bool} : ∀ {n : Nat}, (∀ i, i < n → S i = S' i) → left S n = left S' n
  | 0, _ => rfl
  | n + 1, h => by simp only [left]; rw [left_same fun i hi => h i (by omega), h n (by omega)]

theorem left_put {S : Nat → Bool} {j : Nat} (hS : S j = false) : ∀ {n : Nat}, j < n → left S n = left (fun i => S i || i == j) n + 1
  | 0, h => by omega
  | n + 1, h => by
    by_cases e : j = n
    · subst e
      have h1 : left S j = left (fun i => S i || i == j) j := left_same fun i hi => by
        have e : (i == j) = false := by simp; omega
        rw [e, Bool.or_false]
      simp only [left, hS, h1]
      simp
    · have e' : (n == j) = false := by simp; omega
      simp only [left, e', Bool.or_false]
      rw [left_put hS (n := n) (by omega)]
      omega

theorem left_zero {S : Nat → Bool} : ∀ {n : Nat}, left S n = 0 → ∀ j, j < n → S j = true
  | 0, _, j, hj => by omega
  | n + 1, h, j, hj => by
    simp only [left] at h
    by_cases e : j = n
    · subst e
      cases hs : S j with
      | true => rfl
      | false => rw [hs] at h; simp at h
    · exact left_zero (n := n) (by omega) j (by omega)

theorem left_some {S : Nat → Bool} : ∀ {n : Nat}, left S n ≠ 0 → ∃ j, j < n ∧ S j = false ∧ ∀ i, i < j → S i = true
  | 0, h => absurd rfl h
  | n + 1, h => by
    by_cases h0 : left S n = 0
    · refine ⟨n, Nat.lt_succ_self _, ?_, left_zero h0⟩
      cases hs : S n with
      | false => rfl
      | true => simp only [left, hs, h0] at h; simp at h
    · obtain ⟨j, h1, h2, h3⟩ := left_some h0
      exact ⟨j, by omega, h2, h3⟩

theorem getD_set_all {l : Array Bool} {j : Nat} (i : Nat) : (l.setIfInBounds j true).getD i true = (l.getD i true || i == j) := by
  simp only [Array.getD_eq_getD_getElem?, Array.getElem?_setIfInBounds]
  by_cases e : j = i
  · subst e
    simp only [if_true, beq_self_eq_true, Bool.or_true]
    split <;> rfl
  · have : (i == j) = false := by simp; omega
    rw [if_neg e, this, Bool.or_false]

section
variable {T : Tab} {P : Program} (hT : T.Ok P) {ok : Code → Prop} (hF : T.Fns P ok)
include hT hF

theorem draw_go {rec : RunCode} (hC : CodeSim T P ok rec) (hLg : ∀ cx c fr, Logs (rec cx c fr)) {B : Base} (hBz : B.sz = P.cellsOf) (hBc : B.code = ok) {ops : Array Oper} (hops : opsOk T.globs ops = true) {bef : List Nat} (hD : DrawOk ops bef) (cs : List Frame) {cx : Ctx} {K : List Item}
    {X : Nat → Tr} (hX : ∀ j, j < ops.size → ∃ o, Good T rec ops X j o)
    (hP : ∀ k j, k < j → j < ops.size → (X k).ran = true → (X j).ran = true → (bef.getD j 0).testBit k = false → PairD (X k).did (X j).did (X j).a.t.get)
    {φ0 : Phi} {w0 : World} (hR0 : Rel φ0 B (X 0).st.t.get w0) (hf0 : Fresh φ0 (X 0).st.next (X ops.size).st.next) (hG0 : GRel φ0 T.globs) :
    ∀ (fuel t : Nat) (listed : Array Bool) (S : Nat → Bool) (φ : Phi) (w : World) (fc : Frame) (tm : List Value), (∀ i, listed.getD i true = S i) → left S ops.size = fuel → Mid P B ops X cx φ0 w0 S φ w fc tm →
      (∀ k, k < ops.size → S k = true → ∀ i, (bef.getD k 0).testBit i = true → S i = true) → fc.todo = .inRegion ops (Region.linearise.go .any ops fuel t listed []) :: K →
      ∃ S' φ' w' fc' tm', (∀ j, j < ops.size → S' j = true) ∧ Mid P B ops X cx φ0 w0 S' φ' w' fc' tm' ∧ Steps P (lone fc cs w) (lone fc' cs w') ∧ fc'.todo = .inRegion ops [] :: K
  | 0, t, listed, S, φ, w, fc, tm, hl, hn, M, hc, ht => ⟨S, φ, w, fc, tm, left_zero hn, M, Steps.refl _ _, ht⟩
  | fuel + 1, t, listed, S, φ, w, fc, tm, hl, hn, M, hc, ht => by
    obtain ⟨j0, h1, h2, h3⟩ := left_some (S := S) (n := ops.size) (by omega)
    have inb : ∀ i, i < ops.size → S i = false → ∃ o, ops[i]? = some o := fun i hi _ => ⟨ops[i], by simp [hi]⟩
    have lt_listed : ∀ i, S i = false → i < listed.size := fun i h => by
      rcases Nat.lt_or_ge i listed.size with h4 | h4
      · exact h4
      · rw [← hl i, Array.getD_eq_getD_getElem?, Array.getElem?_eq_none h4] at h; cases h
    have hready : j0 ∈ Region.ready .any ops listed := by
      obtain ⟨o, ho⟩ := inb j0 h1 h2
      refine mem_ready.2 ⟨(hl j0).trans h2, o, ho, fun e he hb => ?_⟩
      have hlt := hD.back j0 o ho e he hb
      have h5 := h3 e.on hlt
      have h6 := lt_listed j0 h2
      rw [← hl e.on] at h5
      rw [Array.getD_eq_getD_getElem?, Array.getElem?_eq_getElem (by omega)] at h5 ⊢
      exact h5
    simp only [Region.linearise.go] at ht
    change fc.todo = .inRegion ops (match (Region.ready .any ops listed)[t % (Region.ready .any ops listed).length]? with
      | some i => Region.linearise.go .any ops fuel (t / (Region.ready .any ops listed).length) (listed.setIfInBounds i true) [i]
      | none => [].reverse) :: K at ht
    have hpos : 0 < (Region.ready .any ops listed).length := List.length_pos_of_mem hready
    obtain ⟨i, hi⟩ : ∃ i, (Region.ready .any ops listed)[t % (Region.ready .any ops listed).length]? = some i := ⟨_, List.getElem?_eq_getElem (Nat.mod_lt _ hpos)⟩
    rw [hi] at ht
    simp only at ht
    rw [linearise_go_acc, List.reverse_singleton, List.singleton_append] at ht
    obtain ⟨hun, o, ho, hall⟩ := mem_ready.1 (List.mem_of_getElem? hi)
    have hin : i < ops.size := (Array.getElem?_eq_some_iff.1 ho).1
    have hSi : S i = false := (hl i).symm.trans hun
    have hr : ∀ k, (bef.getD i 0).testBit k = true → S k = true := fun k hk => by
      obtain ⟨e, he, hb, h5⟩ := hD.bits i o ho k hk
      have h6 : S e.on = true := by
        have := hall e he hb
        rw [← hl e.on]
        rw [Array.getD_eq_getD_getElem?] at this ⊢
        cases hx : listed[e.on]? with
        | none => rfl
        | some b => rw [hx] at this; exact this
      rcases h5 with rfl | h5
      · exact h6
      · exact hc e.on (by have := hD.back i o ho e he hb; omega) h6 k h5
    obtain ⟨φ1, w1, fc1, tm1, q1, q2, q3⟩ := draw_step hT hF hC hLg hBz hBc hops hD cs hX hP hR0 hf0 hG0 M hin hSi hr hc ht
    obtain ⟨S', φ', w', fc', tm', r1, r2, r3, r4⟩ := draw_go hC hLg hBz hBc hops hD cs hX hP hR0 hf0 hG0 fuel _ (listed.setIfInBounds i true) (fun k => S k || k == i) φ1 w1 fc1 tm1 (fun k => by rw [getD_set_all, hl k]) (by
      have := left_put hSi hin; omega) q1 (fun k hk hs m hm => by
        simp only [Bool.or_eq_true, beq_iff_eq] at hs ⊢
        rcases hs with hs | rfl
        · exact .inl (hc k hk hs m hm)
        · exact .inl (hr m hm)) q3
    exact ⟨S', φ', w', fc', tm', r1, r2, q2.trans r3, r4⟩

theorem sim_draw {rec : RunCode} (hC : CodeSim T P ok rec) (hLg : ∀ cx c fr, Logs (rec cx c fr)) {B : Base} (hBz : B.sz = P.cellsOf) (hBc : B.code = ok) {ops : Array Oper} (hops : opsOk T.globs ops = true) (hst : drawStatic ops = true) (cs : List Frame) {cx : Ctx} {K : List Item}
    {fr fr' : Fr} {s s' : St} (h : evDraw T rec ops (befL [] ops.toList) 0 ops.toList [] fr s = some (fr', s')) {φ : Phi} {w : World} (hR : Rel φ B s.t.get w) (hf : Fresh φ s.next s'.next) (hG : GRel φ T.globs) {fc : Frame} (hfr : FRel φ fr cx fc) {t : Nat}
    (ht : fc.todo = .inRegion ops (Region.linearise .any ops t) :: K) :
    ∃ φ' w' fc', Aft P B φ s w φ' s' w' ∧ FRel φ' fr' cx fc' ∧ Steps P (lone fc cs w) (lone fc' cs w') ∧ fc'.todo = K := by
  obtain ⟨X, x1, x2, x3, x4, hX', _, hP'⟩ := evDraw_trace hLg ops.toList 0 [] fr fr' s s' (by simp) (Nat.zero_le _) h
  have hX : ∀ j, j < ops.size → ∃ o, Good T rec ops X j o := fun j hj => hX' j (Nat.zero_le _) hj
  have hP : ∀ k j, k < j → j < ops.size → (X k).ran = true → (X j).ran = true → ((befL [] ops.toList).getD j 0).testBit k = false → PairD (X k).did (X j).did (X j).a.t.get := fun k j => hP' k j (Nat.zero_le _)
  subst x1 x2 x3 x4
  have lay0 : ∀ {β : Type} (b0 : β) (τ : Nat → Bool) (val : Nat → β) (n : Nat), lay b0 (fun i => (fun _ => false) i && τ i) val n = b0 := fun b0 τ val n => by
    rw [lay_skip (j := 0) (Nat.zero_le _) fun i _ _ => by simp]; rfl
  let S0 : Nat → Bool := fun i => (Array.replicate ops.size false).getD i true
  have hS0 : ∀ i, i < ops.size → S0 i = false := fun i hi => by
    show (Array.replicate ops.size false).getD i true = false
    rw [Array.getD_eq_getD_getElem?, Array.getElem?_replicate, if_pos hi]; rfl
  have layS : ∀ {β : Type} (b0 : β) (τ : Nat → Bool) (val : Nat → β), lay b0 (fun i => S0 i && τ i) val ops.size = b0 := fun b0 τ val => by
    rw [lay_skip (j := 0) (Nat.zero_le _) fun i _ hi => by rw [hS0 i hi]; rfl]; rfl
  have hcnt : ∀ n, n ≤ ops.size → left S0 n = n := fun n => by
    induction n with
    | zero => intro _; rfl
    | succ n ih => intro hn; simp only [left]; rw [ih (by omega), hS0 n (by omega)]; simp
  have M0 : Mid P B ops X cx φ w S0 φ w fc (X 0).fr.tmps := by
    refine ⟨?_, .refl _ _ _, .refl _ _, fun j hj _ hran N h1 h2 => ?_, hfr, fun d => ?_⟩
    · have : heapS X ops.size S0 = (X 0).st.t.get := by funext N; exact layS _ _ _
      rw [this]; exact hR
    · obtain ⟨o, g⟩ := hX j hj
      have one := g.one hran
      have m1 := next_mono hX (i := 0) (j := j) (by omega) (by omega)
      have m2 := next_mono hX (i := j + 1) (j := ops.size) (by omega) (Nat.le_refl _)
      rw [one.lo] at h1; rw [one.hi] at h2
      exact hf N (by omega) (by omega)
    · cases (X 0).fr.tmps[d]? with
      | none => rfl
      | some t0 => simp only [Option.map_some]; rw [layS]
  obtain ⟨S', φ', w', fc', tm', r1, r2, r3, r4⟩ := draw_go hT hF hC hLg hBz hBc hops (drawStatic_ok hst) cs hX hP hR hf hG ops.size t (Array.replicate ops.size false) S0 φ w fc (X 0).fr.tmps (fun i => rfl) (hcnt _ (Nat.le_refl _)) M0 (fun k hk hs => by
    rw [hS0 k hk] at hs; cases hs) ht
  have full : ∀ {β : Type} (b0 : β) (τ : Nat → Bool) (val : Nat → β), lay b0 (fun i => S' i && τ i) val ops.size = lay b0 τ val ops.size := fun b0 τ val => lay_congr fun i hi => by rw [r1 i hi]; rfl
  refine ⟨φ', w', { fc' with todo := K }, ⟨next_mono hX (Nat.zero_le _) (Nat.le_refl _), r2.grows, ?_, r2.keeps⟩, ?_, r3.trans (Steps.one (st_regionEnd r2.fr.mode r4)), rfl⟩
  · have : heapS X ops.size S' = (X ops.size).st.t.get := by
      funext N
      rw [heap_lay hX N (Nat.le_refl _)]
      exact full _ _ _
    rw [← this]; exact r2.rel
  · have e : tm' = (X ops.size).fr.tmps := by
      apply List.ext_getElem?
      intro d
      rw [r2.tmps d, tmps_lay hX d (Nat.le_refl _)]
      congr 1
      funext t0
      exact full _ _ _
    have := r2.fr.todo K
    rw [e, ← defers_same hX (Nat.le_refl _)] at this
    exact this

end
end Go.Ev
