/-
  EV: more fuel, the same answer; calls and code by what they come to.
-/
import Derived.Test.YtelpkdjibjddlaaEvZ
set_option linter.unusedSimpArgs false
set_option linter.unusedVariables false
namespace Go.Ev
open Go Go.RowKit

def Mle {α : Type} (m m' : M α) : Prop := ∀ s r, m s = some r → m' s = some r
theorem Mle.refl {α : Type} (m : M α) : Mle m m := fun _ _ h => h
theorem Mle.bnd {α β : Type} {m m' : M α} {f f' : α → M β} (h : Mle m m') (hf : ∀ a, Mle (f a) (f' a)) : Mle (Ev.bnd m f) (Ev.bnd m' f') := fun s r e => by
  obtain ⟨b, s'⟩ := r
  obtain ⟨a, s1, h1, h2⟩ := bnd_some e
  have h3 := h _ _ h1
  have h4 := hf a _ _ h2
  simp only [Ev.bnd, h3, h4]
theorem Mle.ite {α : Type} {c : Prop} [Decidable c] {a b a' b' : M α} (ha : Mle a a') (hb : Mle b b') : Mle (if c then a else b) (if c then a' else b') := by split <;> assumption
theorem Mle.trim {α : Type} {m m' : M α} (h : Mle m m') : Mle (trimMods m) (trimMods m') := fun s r e => by
  unfold trimMods at e ⊢
  cases hm : m s with
  | none => rw [hm] at e; cases e
  | some p => rw [h s p hm]; rw [hm] at e; exact e

def RecLe (r r' : RunCode) : Prop := ∀ cx c fr, Mle (r cx c fr) (r' cx c fr)

section
variable {T : Tab} {r r' : RunCode} (h : RecLe r r')
include h

theorem Mle.enter (f : FuncId) (args : List Value) : Mle (Ev.enter T r f args) (Ev.enter T r' f args) := by
  unfold Ev.enter
  cases T.fn f with
  | none => exact .refl _
  | some F => exact .trim (.bnd (h _ _ _) fun _ => .refl _)
theorem Mle.endRoundBody (l : Nat) (lp : Loop) (e : Ex) (fr : Fr) : Mle (Ev.roundBody r l lp e fr) (Ev.roundBody r' l lp e fr) := by
  cases e with
  | normal => exact .bnd (.refl _) fun _ => .ite (.bnd (.refl _) fun _ => .bnd (h _ _ _) fun _ => .refl _) (.refl _)
  | ret => exact .refl _
  | exit id => exact .refl _
theorem Mle.round (l : Nat) (args : List Value) : Mle (Ev.round r l args) (Ev.round r' l args) :=
  .bnd (.refl _) fun _ => .ite (.bnd (h _ _ _) fun _ => Mle.endRoundBody h _ _ _ _) (.refl _)
theorem Mle.callValue (f : Value) (args : List Value) : Mle (Ev.callValue T r f args) (Ev.callValue T r' f args) := by
  unfold Ev.callValue
  split
  · exact Mle.enter h _ _
  · exact Mle.round h _ _
  · exact .refl _
theorem Mle.evOp (fr : Fr) (o : Oper) : Mle (Ev.evOp T r fr o) (Ev.evOp T r' fr o) := by
  unfold Ev.evOp
  split
  · exact Mle.callValue h _ _
  · exact .refl _
theorem Mle.evOps (ops : Array Oper) : ∀ (l : List Oper) (fr : Fr), Mle (Ev.evOps T r ops l fr) (Ev.evOps T r' ops l fr)
  | [], fr => .refl _
  | o :: os, fr => by
    unfold Ev.evOps
    exact .ite (.bnd (Mle.evOp h _ _) fun _ => Mle.evOps ops os _) (Mle.evOps ops os _)
theorem Mle.drawOne (bits : Nat) (ds : List (Nat × Did)) (fr : Fr) (o : Oper) : Mle (Ev.drawOne T r bits ds fr o) (Ev.drawOne T r' bits ds fr o) := fun s p e => by
  unfold Ev.drawOne at e ⊢
  split at e
  · cases e
  · rename_i v s1 hr
    rw [Mle.evOp h fr o _ _ hr]
    exact e
theorem Mle.evDraw (ops : Array Oper) (bef : List Nat) : ∀ (l : List Oper) (i : Nat) (ds : List (Nat × Did)) (fr : Fr), Mle (Ev.evDraw T r ops bef i l ds fr) (Ev.evDraw T r' ops bef i l ds fr)
  | [], i, ds, fr => .refl _
  | o :: os, i, ds, fr => by
    unfold Ev.evDraw
    exact .ite (.bnd (Mle.drawOne h _ _ _ _) fun _ => Mle.evDraw ops bef os _ _ _) (Mle.evDraw ops bef os _ _ _)
theorem Mle.evRegion (ops : Array Oper) (d : Bool) (fr : Fr) : Mle (Ev.evRegion T r ops d fr) (Ev.evRegion T r' ops d fr) := by
  unfold Ev.evRegion
  exact .ite (Mle.evDraw h _ _ _ _ _ _) (Mle.evOps h _ _ _)
end

theorem evCode_succ {T : Tab} : ∀ k, RecLe (evCode T k) (evCode T (k + 1))
  | 0 => fun cx c fr s r e => by cases e
  | k + 1 => by
    have ih := evCode_succ (T := T) k
    intro cx c fr
    cases c with
    | region id ops d => exact .bnd (Mle.evRegion ih _ _ _) fun _ => .refl _
    | seq a b =>
      refine .bnd (ih _ _ _) fun p => ?_
      obtain ⟨e, fr'⟩ := p
      cases e with
      | normal => exact ih _ _ _
      | ret => exact .refl _
      | exit id => exact .refl _
    | cond x a b =>
      show Mle (match fr.eval x with | .bool t => evCode T k cx (if t then a else b) fr | _ => fail) (match fr.eval x with | .bool t => evCode T (k + 1) cx (if t then a else b) fr | _ => fail)
      cases fr.eval x with
      | bool t => exact ih _ _ _
      | _ => exact .refl _
    | block id b => exact .bnd (ih _ _ _) fun _ => .refl _
    | loop b =>
      refine .bnd (ih _ _ _) fun p => ?_
      obtain ⟨e, fr'⟩ := p
      cases e with
      | normal => exact ih _ _ _
      | ret => exact .refl _
      | exit id => exact .refl _
    | rangeFunc f ps a b => exact .bnd (.refl _) fun _ => .bnd (.refl _) fun _ => .bnd (Mle.callValue ih _ _) fun _ => .refl _
    | _ => exact .refl _

theorem evCode_le {T : Tab} {k k' : Nat} (h : k ≤ k') : RecLe (evCode T k) (evCode T k') := by
  induction h with
  | refl => exact fun _ _ _ => .refl _
  | step _ ih => exact fun cx c fr s r e => evCode_succ _ cx c fr s r (ih cx c fr s r e)

/-- Code comes to an end that is as told. -/
def Ends (T : Tab) (cx : Ctx) (c : Code) (fr : Fr) (s : St) (Q : Ex → Fr → St → Prop) : Prop := ∃ k e fr' s', evCode T k cx c fr s = some ((e, fr'), s') ∧ Q e fr' s'
/-- Operations in the text's order. -/
def EndsOps (T : Tab) (ops : Array Oper) (l : List Oper) (fr : Fr) (s : St) (Q : Fr → St → Prop) : Prop := ∃ k fr' s', evOps T (evCode T k) ops l fr s = some (fr', s') ∧ Q fr' s'
/-- Operations of a region that draws. -/
def EndsDraw (T : Tab) (ops : Array Oper) (bef : List Nat) (i : Nat) (l : List Oper) (ds : List (Nat × Did)) (fr : Fr) (s : St) (Q : Fr → St → Prop) : Prop := ∃ k fr' s', evDraw T (evCode T k) ops bef i l ds fr s = some (fr', s') ∧ Q fr' s'
/-- A call of a function. -/
def EndsCall (T : Tab) (f : FuncId) (args : List Value) (s : St) (Q : Value → St → Prop) : Prop := ∃ k v s', evCall T k f args s = some (v, s') ∧ Q v s'

section
variable {T : Tab} {cx : Ctx} {fr : Fr} {s : St}

theorem Ends.mono {c : Code} {Q Q' : Ex → Fr → St → Prop} (h : Ends T cx c fr s Q) (hq : ∀ e fr s, Q e fr s → Q' e fr s) : Ends T cx c fr s Q' :=
  let ⟨k, e, fr', s', h1, h2⟩ := h; ⟨k, e, fr', s', h1, hq _ _ _ h2⟩
theorem EndsCall.mono {f : FuncId} {args : List Value} {Q Q' : Value → St → Prop} (h : EndsCall T f args s Q) (hq : ∀ v s, Q v s → Q' v s) : EndsCall T f args s Q' :=
  let ⟨k, v, s', h1, h2⟩ := h; ⟨k, v, s', h1, hq _ _ h2⟩

theorem Ends.skip {Q : Ex → Fr → St → Prop} (h : Q .normal fr s) : Ends T cx .skip fr s Q := ⟨1, _, _, _, rfl, h⟩
theorem Ends.ret {Q : Ex → Fr → St → Prop} (h : Q .ret fr s) : Ends T cx .ret fr s Q := ⟨1, _, _, _, rfl, h⟩
theorem Ends.exit {id : Nat} {Q : Ex → Fr → St → Prop} (h : Q (.exit id) fr s) : Ends T cx (.exit id) fr s Q := ⟨1, _, _, _, rfl, h⟩
theorem Ends.seq {a b : Code} {Q : Ex → Fr → St → Prop} (h : Ends T cx a fr s fun e fr s => match e with
    | .normal => Ends T cx b fr s Q
    | e => Q e fr s) : Ends T cx (.seq a b) fr s Q := by
  obtain ⟨k, e, fr', s', h1, h2⟩ := h
  cases e with
  | normal =>
    obtain ⟨k2, e2, fr2, s2, h3, h4⟩ := h2
    refine ⟨max k k2 + 1, e2, fr2, s2, ?_, h4⟩
    show bnd _ _ s = _
    simp only [bnd, evCode_le (Nat.le_max_left k k2) _ _ _ _ _ h1, evCode_le (Nat.le_max_right k k2) _ _ _ _ _ h3]
  | ret => exact ⟨k + 1, .ret, fr', s', by show bnd _ _ s = _; simp only [bnd, h1]; rfl, h2⟩
  | exit id => exact ⟨k + 1, .exit id, fr', s', by show bnd _ _ s = _; simp only [bnd, h1]; rfl, h2⟩
theorem Ends.cond {x : Operand} {a b : Code} {t : Bool} {Q : Ex → Fr → St → Prop} (hx : fr.eval x = .bool t) (h : Ends T cx (if t then a else b) fr s Q) : Ends T cx (.cond x a b) fr s Q := by
  obtain ⟨k, e, fr', s', h1, h2⟩ := h
  refine ⟨k + 1, e, fr', s', ?_, h2⟩
  show (match fr.eval x with | .bool t => evCode T k cx (if t then a else b) fr | _ => fail) s = _
  rw [hx]; exact h1
theorem Ends.block {id : Nat} {b : Code} {Q : Ex → Fr → St → Prop} (h : Ends T cx b fr s fun e fr s => Q (outOf id e) fr s) : Ends T cx (.block id b) fr s Q := by
  obtain ⟨k, e, fr', s', h1, h2⟩ := h
  exact ⟨k + 1, _, fr', s', by show bnd _ _ s = _; simp only [bnd, h1]; rfl, h2⟩
theorem Ends.loop {b : Code} {Q : Ex → Fr → St → Prop} (h : Ends T cx b fr s fun e fr s => match e with
    | .normal => Ends T cx (.loop b) fr s Q
    | e => Q e fr s) : Ends T cx (.loop b) fr s Q := by
  obtain ⟨k, e, fr', s', h1, h2⟩ := h
  cases e with
  | normal =>
    obtain ⟨k2, e2, fr2, s2, h3, h4⟩ := h2
    refine ⟨max k k2 + 1, e2, fr2, s2, ?_, h4⟩
    show bnd _ _ s = _
    simp only [bnd, evCode_le (Nat.le_max_left k k2) _ _ _ _ _ h1, evCode_le (Nat.le_max_right k k2) _ _ _ _ _ h3]
  | ret => exact ⟨k + 1, .ret, fr', s', by show bnd _ _ s = _; simp only [bnd, h1]; rfl, h2⟩
  | exit id => exact ⟨k + 1, .exit id, fr', s', by show bnd _ _ s = _; simp only [bnd, h1]; rfl, h2⟩

theorem Ends.region {id : Nat} {ops : Array Oper} {Q : Ex → Fr → St → Prop} (h : EndsOps T ops ops.toList fr s fun fr s => Q .normal fr s) : Ends T cx (.region id ops false) fr s Q := by
  obtain ⟨k, fr', s', h1, h2⟩ := h
  refine ⟨k + 1, .normal, fr', s', ?_, h2⟩
  show bnd (evRegion T (evCode T k) ops false fr) _ s = _
  simp only [bnd, evRegion, Bool.false_eq_true, if_false, h1]
  rfl
theorem Ends.draw {id : Nat} {ops : Array Oper} {Q : Ex → Fr → St → Prop} (h : EndsDraw T ops (befL [] ops.toList) 0 ops.toList [] fr s fun fr s => Q .normal fr s) : Ends T cx (.region id ops true) fr s Q := by
  obtain ⟨k, fr', s', h1, h2⟩ := h
  refine ⟨k + 1, .normal, fr', s', ?_, h2⟩
  show bnd (evRegion T (evCode T k) ops true fr) _ s = _
  simp only [bnd, evRegion, if_true, h1]
  rfl

theorem EndsOps.nil {ops : Array Oper} {Q : Fr → St → Prop} (h : Q fr s) : EndsOps T ops [] fr s Q := ⟨0, fr, s, rfl, h⟩
theorem EndsOps.skip {ops : Array Oper} {o : Oper} {os : List Oper} {Q : Fr → St → Prop} (hw : Region.wanted o (yieldedL ops fr.tmps) = false) (h : EndsOps T ops os (fr.put o.dst undef) s Q) : EndsOps T ops (o :: os) fr s Q := by
  obtain ⟨k, fr', s', h1, h2⟩ := h
  refine ⟨k, fr', s', ?_, h2⟩
  unfold evOps
  rw [if_neg (by rw [hw]; simp)]; exact h1
theorem EndsOps.plain {ops : Array Oper} {o : Oper} {os : List Oper} {v : Value} {s1 : St} {Q : Fr → St → Prop} (hw : Region.wanted o (yieldedL ops fr.tmps) = true) (hp : evPlain T fr.eval o.op s = some (v, s1)) (hc : ∀ f args ts, o.op ≠ .call ⟨.value f, args, ts⟩)
    (h : EndsOps T ops os (fr.put o.dst v) s1 Q) : EndsOps T ops (o :: os) fr s Q := by
  obtain ⟨k, fr', s', h1, h2⟩ := h
  refine ⟨k, fr', s', ?_, h2⟩
  unfold evOps
  rw [if_pos hw]
  have : evOp T (evCode T k) fr o = evPlain T fr.eval o.op := by
    unfold evOp
    split
    · rename_i f args ts hop; exact absurd hop (hc _ _ _)
    · rfl
  simp only [bnd, this, hp]; exact h1
theorem EndsOps.call {ops : Array Oper} {o : Oper} {os : List Oper} {f : Operand} {args : Array Operand} {ts : Array TypeId} {g : FuncId} {a c : Array Value} {Q : Fr → St → Prop} (hw : Region.wanted o (yieldedL ops fr.tmps) = true) (ho : o.op = .call ⟨.value f, args, ts⟩)
    (hf : fr.eval f = .func (.func g) a c) (h : EndsCall T g (a.toList ++ args.toList.map fr.eval ++ c.toList) s fun v s => EndsOps T ops os (fr.put o.dst v) s Q) : EndsOps T ops (o :: os) fr s Q := by
  obtain ⟨k, v, s1, h1, k2, fr', s', h3, h4⟩ := h
  refine ⟨max k k2, fr', s', ?_, h4⟩
  unfold evOps
  rw [if_pos hw]
  have e1 : evOp T (evCode T (max k k2)) fr o s = some (v, s1) := by
    have : evOp T (evCode T k) fr o s = some (v, s1) := by
      unfold evOp; rw [ho]; simp only [callValue, hf]; exact h1
    exact Mle.evOp (evCode_le (Nat.le_max_left k k2)) fr o _ _ this
  simp only [bnd, e1]
  exact Mle.evOps (evCode_le (Nat.le_max_right k k2)) ops os _ _ _ h3

/-- A call of a function with a body. -/
theorem EndsCall.of {f : FuncId} {F : Fn} {args : List Value} {Q : Value → St → Prop} (hF : T.fn f = some F)
    (h : Ends T ⟨f, none⟩ F.body ⟨args ++ List.replicate (F.ntmps - args.length) undef, []⟩ s fun e fr s1 => ∃ v s2, finishCall T F e fr s1 = some (v, s2) ∧ Q v { s2 with mods := newMods s s2 ++ s.mods }) : EndsCall T f args s Q := by
  obtain ⟨k, e, fr', s1, h1, v, s2, h3, h4⟩ := h
  refine ⟨k, v, _, ?_, h4⟩
  unfold evCall enter
  simp only [hF, trimMods, bnd, h1, h3]

end
end Go.Ev
