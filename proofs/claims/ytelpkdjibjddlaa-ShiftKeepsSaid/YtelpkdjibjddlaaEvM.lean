/-
  EV, PART M: the machine's steps, one by one, for whatever frame (a round of a loop over a function, too).
-/
import Derived.Test.YtelpkdjibjddlaaEvL
set_option linter.unusedSimpArgs false
set_option linter.unusedVariables false
namespace Go.Ev
open Go Go.RowKit

section
variable {P : Program} {fc : Frame} {cs : List Frame} {w : World} {k : List Item}

theorem st_seq {a b : Code} (hm : fc.mode = .run) (ht : fc.todo = .code (.seq a b) :: k) : step P (lone fc cs w) = .next (lone { fc with todo := .code a :: .code b :: k } cs w) :=
  step_lone_go (by cases fc; simp only at hm ht; subst hm ht; simp [stepG, stepG.exec])
theorem st_skip (hm : fc.mode = .run) (ht : fc.todo = .code .skip :: k) : step P (lone fc cs w) = .next (lone { fc with todo := k } cs w) :=
  step_lone_go (by cases fc; simp only at hm ht; subst hm ht; simp [stepG, stepG.exec])
theorem st_inBlock {id : Nat} (hm : fc.mode = .run) (ht : fc.todo = .inBlock id :: k) : step P (lone fc cs w) = .next (lone { fc with todo := k } cs w) :=
  step_lone_go (by cases fc; simp only at hm ht; subst hm ht; simp [stepG, stepG.exec])
theorem st_block {id : Nat} {b : Code} (hm : fc.mode = .run) (ht : fc.todo = .code (.block id b) :: k) : step P (lone fc cs w) = .next (lone { fc with todo := .code b :: .inBlock id :: k } cs w) :=
  step_lone_go (by cases fc; simp only at hm ht; subst hm ht; simp [stepG, stepG.exec])
theorem st_loop {b : Code} (hm : fc.mode = .run) (ht : fc.todo = .code (.loop b) :: k) : step P (lone fc cs w) = .next (lone { fc with todo := .code b :: .inLoop b :: k } cs w) :=
  step_lone_go (by cases fc; simp only at hm ht; subst hm ht; simp [stepG, stepG.exec])
theorem st_inLoop {b : Code} (hm : fc.mode = .run) (ht : fc.todo = .inLoop b :: k) : step P (lone fc cs w) = .next (lone { fc with todo := .code b :: .inLoop b :: k } cs w) :=
  step_lone_go (by cases fc; simp only at hm ht; subst hm ht; simp [stepG, stepG.exec])
theorem st_cond {c : Operand} {a b : Code} {t : Bool} (hm : fc.mode = .run) (ht : fc.todo = .code (.cond c a b) :: k) (hc : fc.eval c = .bool t) :
    step P (lone fc cs w) = .next (lone { fc with todo := .code (if t then a else b) :: k } cs w) :=
  step_lone_go (by cases fc; simp only at hm ht; subst hm ht; simp [stepG, stepG.exec, hc])
theorem st_exit {id : Nat} {k' : List Item} (hm : fc.mode = .run) (ht : fc.todo = .code (.exit id) :: k) (he : exitTo id k = some k') :
    step P (lone fc cs w) = .next (lone { fc with todo := k' } cs w) :=
  step_lone_go (by cases fc; simp only at hm ht; subst hm ht; simp [stepG, stepG.exec, he])
theorem st_ret (hm : fc.mode = .run) (hr : fc.roundOf = none) (ht : fc.todo = .code .ret :: k) : step P (lone fc cs w) = .next (lone { fc with mode := .returning } cs w) :=
  step_lone_go (by cases fc; simp only at hm ht hr; subst hm ht hr; simp [stepG, stepG.exec])
theorem st_end (hm : fc.mode = .run) (hr : fc.roundOf = none) (ht : fc.todo = []) : step P (lone fc cs w) = .next (lone { fc with mode := .returning } cs w) :=
  step_lone_go (by cases fc; simp only at hm ht hr; subst hm ht hr; simp [stepG, stepG.exec])
theorem st_region {id : Nat} {ops : Array Oper} (hm : fc.mode = .run) (ht : fc.todo = .code (.region id ops false) :: k) :
    step P (lone fc cs w) = .next (lone { fc with todo := .inRegion ops (List.range ops.size) :: k } cs w) :=
  step_lone_go (by cases fc; simp only at hm ht; subst hm ht; simp [stepG, stepG.exec])
theorem st_regionDraw {id : Nat} {ops : Array Oper} (hm : fc.mode = .run) (ht : fc.todo = .code (.region id ops true) :: k) :
    ∃ t, step P (lone fc cs w) = .next (lone { fc with todo := .inRegion ops (Region.schedule (P.follows .mixedOrders) ops t) :: k } cs w.drew) :=
  ⟨w.tape w.drawn (.order fc.fn id), step_lone_go (by cases fc; simp only at hm ht; subst hm ht; simp [stepG, stepG.exec, choose, Sem.run, Question.forced, Question.cut])⟩
theorem st_regionEnd {ops : Array Oper} (hm : fc.mode = .run) (ht : fc.todo = .inRegion ops [] :: k) : step P (lone fc cs w) = .next (lone { fc with todo := k } cs w) :=
  step_lone_go (by cases fc; simp only at hm ht; subst hm ht; simp [stepG, stepG.exec])
theorem st_opSkip {ops : Array Oper} {i : Nat} {rest : List Nat} (hm : fc.mode = .run) (ht : fc.todo = .inRegion ops (i :: rest) :: k)
    (hw : ((ops[i]?).map (Region.wanted · (yielded ops fc.tmps))).getD false = false) : step P (lone fc cs w) = .next (lone (fc.finish undef) cs w) :=
  step_lone_go (by
    cases fc; simp only at hm ht hw; subst hm ht
    have hw' := hw
    simp [stepG, stepG.exec, hw'])

/-- An operation that is carried out. -/
theorem st_op {ops : Array Oper} {i : Nat} {rest : List Nat} {o : Oper} (hm : fc.mode = .run) (ht : fc.todo = .inRegion ops (i :: rest) :: k) (ho : ops[i]? = some o)
    (hw : Region.wanted o (yielded ops fc.tmps) = true) (hd : ∀ c, o.op ≠ .defer c) :
    stepG P true { frame := fc, callers := cs, status := .running, dying := none } w = stepG.apply P true fc cs none (execOp fc.eval o) w := by
  cases fc with
  | mk fn tmps todo defers mode kind roundOf =>
    simp only at hm ht hw
    subst hm ht
    have h1 : (Frame.mk fn tmps (.inRegion ops (i :: rest) :: k) defers .run kind roundOf).oper? = some o := by simp [Frame.oper?, ho]
    simp only [stepG, stepG.exec, ho, Option.map_some, hw, Option.getD_some, if_true, stepG.oper, h1]
    split
    · rename_i hc
      exact absurd hc (hd _)
    · rfl

theorem st_value {ops : Array Oper} {i : Nat} {rest : List Nat} {o : Oper} {v : Value} {w' : World} (hm : fc.mode = .run) (ht : fc.todo = .inRegion ops (i :: rest) :: k) (ho : ops[i]? = some o)
    (hw : Region.wanted o (yielded ops fc.tmps) = true) (hd : ∀ c, o.op ≠ .defer c) (hr : (execOp fc.eval o).run P w = .ok (.value v) w') :
    step P (lone fc cs w) = .next (lone (fc.finish v) cs w') :=
  step_lone_go (by rw [st_op hm ht ho hw hd]; simp [stepG.apply, hr])
theorem st_skipped {ops : Array Oper} {i : Nat} {rest : List Nat} {o : Oper} {w' : World} (hm : fc.mode = .run) (ht : fc.todo = .inRegion ops (i :: rest) :: k) (ho : ops[i]? = some o)
    (hw : Region.wanted o (yielded ops fc.tmps) = true) (hd : ∀ c, o.op ≠ .defer c) (hr : (execOp fc.eval o).run P w = .ok .skip w') :
    step P (lone fc cs w) = .next (lone (fc.finish undef) cs w') :=
  step_lone_go (by rw [st_op hm ht ho hw hd]; simp [stepG.apply, hr])
theorem st_enter {ops : Array Oper} {i : Nat} {rest : List Nat} {o : Oper} {f : FuncId} {args : Array Value} {w' : World} (hm : fc.mode = .run) (ht : fc.todo = .inRegion ops (i :: rest) :: k) (ho : ops[i]? = some o)
    (hw : Region.wanted o (yielded ops fc.tmps) = true) (hd : ∀ c, o.op ≠ .defer c) (hr : (execOp fc.eval o).run P w = .ok (.enter f args) w') :
    step P (lone fc cs w) = .next (lone (Frame.enter P f args .normal) (fc :: cs) w') :=
  step_lone_go (by rw [st_op hm ht ho hw hd]; simp [stepG.apply, hr, ht])
theorem st_round {ops : Array Oper} {i : Nat} {rest : List Nat} {o : Oper} {l : Nat} {f : FuncId} {tmps : Array Value} {assign body : Code} {w' : World} (hm : fc.mode = .run) (ht : fc.todo = .inRegion ops (i :: rest) :: k) (ho : ops[i]? = some o)
    (hw : Region.wanted o (yielded ops fc.tmps) = true) (hd : ∀ c, o.op ≠ .defer c) (hr : (execOp fc.eval o).run P w = .ok (.round l f tmps assign body) w') :
    step P (lone fc cs w) = .next (lone (Frame.round l f tmps assign body .normal) (fc :: cs) w') :=
  step_lone_go (by rw [st_op hm ht ho hw hd]; simp [stepG.apply, hr])

/-- The frame's return, behind its deferred marks. -/
theorem st_mark {r : Nat} {ds : List Deferred} (hm : fc.mode = .returning) (hd : fc.defers = { target := .collected r, args := #[] } :: ds) (hh : w.heap[r]? = some (.deferred (some []))) :
    step P (lone fc cs w) = .next (lone { fc with defers := ds } cs { w with heap := w.heap.setIfInBounds r (.deferred none) }) :=
  step_lone_go (by
    cases fc; simp only at hm hd; subst hm hd
    simp [stepG, unwind, Instr.takeDeferred, getObj, setObj, Sem.run, hh])
theorem st_return {c : Frame} {v : Value} {fn : Func} (hm : fc.mode = .returning) (hd : fc.defers = []) (hk : fc.kind = .normal) (hf : P.funcs[fc.fn]? = some fn) (hr : (Go.results fn fc.tmps).run P w = .ok v w) :
    step P (lone fc (c :: cs) w) = .next (lone (c.finish v) cs w) :=
  step_lone_go (by
    cases fc; simp only at hm hd hk hf hr; subst hm hd hk
    simp [stepG, unwind, doReturn, hf, hr])

end
end Go.Ev
