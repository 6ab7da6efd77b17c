/-
  EV, PART N: frames and calls: what the evaluator's call returns, the machine's call returns.
-/
import Derived.Test.YtelpkdjibjddlaaEvM
import Derived.Test.YtelpkdjibjddlaaEvO
set_option linter.unusedSimpArgs false
set_option linter.unusedVariables false
namespace Go.Ev
open Go Go.RowKit

/-- The blocks that wait for deferred calls. -/
inductive DRel (φ : Phi) : List Nat → List Deferred → Prop
  | nil : DRel φ [] []
  | cons {d : Nat} {L : Loc} {ds : List Nat} {Ds : List Deferred} (h : φ d = some L) (hr : DRel φ ds Ds) : DRel φ (d :: ds) ({ target := .collected L.blk, args := #[] } :: Ds)

theorem DRel.mono {φ φ' : Phi} (hle : φ.Le φ') {ds : List Nat} {Ds : List Deferred} (h : DRel φ ds Ds) : DRel φ' ds Ds := by
  induction h with
  | nil => exact .nil
  | cons h _ ih => exact .cons (hle _ _ h) ih

def RRel (φ : Phi) : Option Nat → Option Nat → Prop
  | none, none => True
  | some l, some l' => ∃ L, φ l = some L ∧ L.blk = l'
  | _, _ => False

theorem RRel.mono {φ φ' : Phi} (hle : φ.Le φ') {a b : Option Nat} (h : RRel φ a b) : RRel φ' a b := by
  cases a <;> cases b <;> simp only [RRel] at h ⊢
  obtain ⟨L, h1, h2⟩ := h
  exact ⟨L, hle _ _ h1, h2⟩

/-- A frame of the evaluator and one of the machine that runs. -/
structure FRel (φ : Phi) (fr : Fr) (cx : Ctx) (fc : Frame) : Prop where
  fn : fc.fn = cx.fn
  mode : fc.mode = .run
  kind : fc.kind = .normal
  round : RRel φ cx.round fc.roundOf
  tmps : LRel φ fr.tmps fc.tmps.toList
  defers : DRel φ fr.defers fc.defers

theorem FRel.mono {φ φ' : Phi} (hle : φ.Le φ') {fr : Fr} {cx : Ctx} {fc : Frame} (h : FRel φ fr cx fc) : FRel φ' fr cx fc :=
  ⟨h.fn, h.mode, h.kind, h.round.mono hle, h.tmps.mono hle, h.defers.mono hle⟩
theorem FRel.todo {φ : Phi} {fr : Fr} {cx : Ctx} {fc : Frame} (h : FRel φ fr cx fc) (k : List Item) : FRel φ fr cx { fc with todo := k } :=
  ⟨h.fn, h.mode, h.kind, h.round, h.tmps, h.defers⟩

/-- The package-level variables' names are their own. -/
def GRel (φ : Phi) (G : Nat) : Prop := ∀ g, g < G → ∃ L, φ g = some L ∧ L.blk = g ∧ L.off = 0
theorem GRel.mono {φ φ' : Phi} (hle : φ.Le φ') {G : Nat} (h : GRel φ G) : GRel φ' G := fun g hg => let ⟨L, a, b⟩ := h g hg; ⟨L, hle _ _ a, b⟩

theorem LRel.getD {φ : Phi} {l l' : List Value} (h : LRel φ l l') (i : Nat) : VRel φ (l.getD i undef) (l'.getD i undef) := by
  by_cases hi : i < l.length
  · have hi' : i < l'.length := h.1 ▸ hi
    simp only [List.getD, List.getElem?_eq_getElem hi, List.getElem?_eq_getElem hi', Option.getD_some]
    exact h.2 i _ _ (List.getElem?_eq_getElem hi) (List.getElem?_eq_getElem hi')
  · have hi' : ¬ i < l'.length := h.1 ▸ hi
    simp only [List.getD, List.getElem?_eq_none (Nat.le_of_not_lt hi), List.getElem?_eq_none (Nat.le_of_not_lt hi'), Option.getD_none]
    exact .undef

theorem eval_rel {φ : Phi} {G : Nat} {tmps : List Value} {ds : List Nat} {fc : Frame} (ht : LRel φ tmps fc.tmps.toList) (hg : GRel φ G) {x : Operand} (hx : operandOk G x = true) : VRel φ ((Fr.mk tmps ds).eval x) (fc.eval x) := by
  cases x with
  | tmp t =>
    have := ht.getD t
    simp only [Fr.eval, Frame.eval]
    have e : fc.tmps.getD t undef = fc.tmps.toList.getD t undef := by simp [Array.getD_eq_getD_getElem?, List.getD]
    rw [e]; exact this
  | const v => exact (flatB_flat hx).vrel
  | global g =>
    obtain ⟨L, h1, h2, h3⟩ := hg g (by simpa [operandOk] using hx)
    have := VRel.ptr (φ := φ) (N := g) (o := 0) h1
    rw [h2, h3] at this
    exact this
  | func f => exact .func f _ _ _ _ rfl (fun i v v' h => by simp at h) rfl (fun i v v' h => by simp at h)

/-- How a piece of code has been left. -/
def Left (e : Ex) (K todo : List Item) : Prop :=
  match e with
  | .normal => todo = K
  | .exit id => ∃ K', todo = .code (.exit id) :: K' ∧ exitTo id K' = exitTo id K
  | .ret => ∃ K', todo = .code .ret :: K'

/-- What a step of many leaves behind. -/
structure Aft (P : Program) (B : Base) (φ : Phi) (s : St) (w : World) (φ' : Phi) (s' : St) (w' : World) : Prop where
  next : s.next ≤ s'.next
  grows : Grows B φ φ' s.next s'.next
  rel : Rel φ' B s'.t.get w'
  keeps : KeepsB B w w'

theorem Aft.refl {P : Program} {B : Base} {φ : Phi} {s : St} {w : World} (h : Rel φ B s.t.get w) : Aft P B φ s w φ s w := ⟨Nat.le_refl _, .refl _ _ _, h, .refl _ _⟩
theorem Aft.trans {P : Program} {B : Base} {φ φ' φ'' : Phi} {s s' s'' : St} {w w' w'' : World} (h : Aft P B φ s w φ' s' w') (k : Aft P B φ' s' w' φ'' s'' w'') : Aft P B φ s w φ'' s'' w'' :=
  ⟨Nat.le_trans h.next k.next, h.grows.trans k.grows h.next k.next, k.rel, h.keeps.trans k.keeps⟩
theorem Aft.fresh {P : Program} {B : Base} {φ φ' : Phi} {s s' : St} {w w' : World} (h : Aft P B φ s w φ' s' w') {n : Nat} (hf : Fresh φ s.next n) : Fresh φ' s'.next n := hf.grown h.grows h.next

def CodeSim (T : Tab) (P : Program) (ok : Code → Prop) (rec : RunCode) : Prop :=
  ∀ cx c fr s e fr' s', rec cx c fr s = some ((e, fr'), s') → ok c → ∀ (φ : Phi) (B : Base) (w : World) (fc : Frame) (cs : List Frame) (K : List Item), B.sz = P.cellsOf → B.code = ok → Rel φ B s.t.get w → Fresh φ s.next s'.next → GRel φ T.globs →
    FRel φ fr cx fc → fc.todo = .code c :: K →
    ∃ φ' w' fc', Aft P B φ s w φ' s' w' ∧ FRel φ' fr' cx fc' ∧ Steps P (lone fc cs w) (lone fc' cs w') ∧ Left e K fc'.todo

/-- The machine carries out a call and comes back. -/
def CallsTo (P : Program) (m : Sem Next) (fc : Frame) (cs : List Frame) (w : World) (v : Value) (w' : World) : Prop :=
  ∃ fr1 cs1 w1, (stepG.apply P true fc cs none m w).bare = .go { frame := fr1, callers := cs1, status := .running, dying := none } w1 ∧ Steps P (lone fr1 cs1 w1) (lone (fc.finish v) cs w')

def isCallItem : List Item → Bool
  | .call .. :: _ | .extern .. :: _ => true
  | _ => false

/-- What is asked of the functions that the evaluator knows. -/
structure Tab.Fns (T : Tab) (P : Program) (ok : Code → Prop) : Prop where
  fn : ∀ f F, T.fn f = some F → ∃ fn, P.funcs[f]? = some fn ∧ fn.ntmps = F.ntmps ∧ fn.body = some F.body ∧ fn.results.toList = F.results ∧ (fn.name == "runtime.NumGoroutine") = false ∧ ok F.body
  ext : ∀ f g, T.ext f = some g → ∃ fn e, P.funcs[f]? = some fn ∧ (fn.name == "runtime.NumGoroutine") = false ∧ fn.body = none ∧ Extern.findNext fn = none ∧ Extern.find fn = some e ∧
    ∀ (φ : Phi) args args' v (w : World), g args = some v → LRel φ args args' → ∃ v', (e ⟨args'⟩).run P w = .ok v' w ∧ VRel φ v v'

section
variable {T : Tab} {P : Program} (hT : T.Ok P) {ok : Code → Prop} (hF : T.Fns P ok)
include hT hF

theorem sim_takeDefers {B : Base} {φ : Phi} : ∀ (ds : List Nat) (s s' : St) (u : Unit) (w : World) (fc : Frame) (cs : List Frame), takeDefers ds s = some (u, s') → Rel φ B s.t.get w → DRel φ ds fc.defers → fc.mode = .returning →
    s'.next = s.next ∧ ∃ w', Rel φ B s'.t.get w' ∧ KeepsB B w w' ∧ Steps P (lone fc cs w) (lone { fc with defers := [] } cs w')
  | [], s, s', u, w, fc, cs, h, hR, hD, hm => by
    have _ := hT
    have _ := hF
    obtain ⟨_, rfl⟩ := ret_some h
    have hd : fc.defers = [] := by cases hx : fc.defers with
      | nil => rfl
      | cons a b => rw [hx] at hD; cases hD
    refine ⟨rfl, w, hR, .refl _ _, ?_⟩
    have : { fc with defers := [] } = fc := by rw [← hd]
    rw [this]; exact Steps.refl _ _
  | d :: ds, s, s', u, w, fc, cs, h, hR, hD, hm => by
    cases hx : fc.defers with
    | nil => rw [hx] at hD; cases hD
    | cons D Ds =>
      rw [hx] at hD
      cases hD with
      | @cons _ L _ _ hL hr =>
        simp only [takeDefers] at h
        split at h
        · rename_i hd
          obtain ⟨_, s1, h1, h2⟩ := bnd_some h
          obtain ⟨_, rfl⟩ := setB_some h1
          obtain ⟨L2, hL2, o', k1, k2, k3, k4⟩ := hR.blk d _ hd
          rw [hL] at hL2; cases hL2
          have ho : o' = .deferred (some []) := by
            cases o' <;> simp only [ORel] at k2 <;> try (exact k2.elim)
            rename_i x
            rcases x with _ | (_ | _) <;> first | rfl | exact k2.elim
          subst ho
          have hb : L.blk < w.heap.size := hR.inw _ _ hL
          have hR2 : Rel φ B (upd s.t.get d (some (.obj (.deferred none)))) { w with heap := w.heap.setIfInBounds L.blk (.deferred none) } :=
            hR.set hd hL trivial _ (by simp) (fun k hk => by simp [Ne.symm hk]) ⟨.deferred none, by simp [hb], trivial, k3, k4⟩
          have hK : KeepsB B w { w with heap := w.heap.setIfInBounds L.blk (.deferred none) } :=
            (Keeps.set (φ := φ) (w := w) (w' := { w with heap := w.heap.setIfInBounds L.blk (.deferred none) }) hd hL trivial rfl rfl rfl (by simp) (fun k hk => by simp [Ne.symm hk])).weak hR
          have ih := sim_takeDefers ds _ s' u { w with heap := w.heap.setIfInBounds L.blk (.deferred none) } { fc with defers := Ds } cs h2 (by simp only; rw [get_upd]; exact hR2) hr hm
          obtain ⟨i1, w', i2, i3, i4⟩ := ih
          exact ⟨i1, w', i2, hK.trans i3, Steps.head (st_mark hm hx k1) i4⟩
        · cases h

theorem sim_results {B : Base} {φ : Phi} {s : St} {w : World} (hR : Rel φ B s.t.get w) {tmps : List Value} {tmps' : Array Value} (ht : LRel φ tmps tmps'.toList) : ∀ (rs : List ResultVar) (vs : List Value) (s' : St), results T tmps rs s = some (vs, s') →
    s' = s ∧ ∃ vs', LRel φ vs vs' ∧ (rs.mapM (fun | .tmp t => pure (tmps'.getD t undef) | .cell a t => do Go.loadVar t (← asAddr (tmps'.getD a undef)) : ResultVar → Sem Value)).run P w = .ok vs' w
  | [], vs, s', h => by
    have _ := hF
    obtain ⟨rfl, rfl⟩ := ret_some h
    exact ⟨rfl, [], .nil, rfl⟩
  | .tmp t :: rs, vs, s', h => by
    unfold results at h
    obtain ⟨vs0, s1, h1, h2⟩ := bnd_some h
    obtain ⟨rfl, vs', h3, h4⟩ := sim_results hR ht rs vs0 s1 h1
    obtain ⟨rfl, rfl⟩ := ret_some h2
    have e : tmps'.getD t undef = tmps'.toList.getD t undef := by simp [Array.getD_eq_getD_getElem?, List.getD]
    refine ⟨rfl, tmps'.getD t undef :: vs', .cons (by rw [e]; exact ht.getD t) h3, ?_⟩
    rw [List.mapM_cons]
    simp only [Sem.run_bind, Sem.run_pure, Result.andThen_ok, h4]
  | .cell a t :: rs, vs, s', h => by
    unfold results at h
    have e : tmps'.getD a undef = tmps'.toList.getD a undef := by simp [Array.getD_eq_getD_getElem?, List.getD]
    have hv := ht.getD a
    rw [← e] at hv
    generalize tmps.getD a undef = x at h hv
    generalize hx' : tmps'.getD a undef = x' at hv
    cases hv <;> (try simp only at h) <;> try (cases h; done)
    rename_i N o L hL
    obtain ⟨v, s1, h1, h2⟩ := bnd_some h
    obtain ⟨rfl, L2, v', hL2, h3, h4⟩ := sim_loadVar hT hR h1
    rw [hL] at hL2; cases hL2
    obtain ⟨vs0, s2, h5, h6⟩ := bnd_some h2
    obtain ⟨rfl, vs', h7, h8⟩ := sim_results hR ht rs vs0 s2 h5
    obtain ⟨rfl, rfl⟩ := ret_some h6
    refine ⟨rfl, v' :: vs', .cons h4 h7, ?_⟩
    have ha : asAddr (tmps'.getD a undef) = pure ⟨L.blk, L.off + o, none⟩ := by rw [hx']; rfl
    rw [List.mapM_cons]
    simp only [Sem.run_bind, ha, Sem.run_pure, Result.andThen_ok, h3, h8]

omit hT hF in
theorem valOf_rel {φ : Phi} {vs vs' : List Value} (h : LRel φ vs vs') : VRel φ (valOf vs) (valOf vs') := by
  rcases vs with _ | ⟨a, _ | ⟨b, r⟩⟩
  · obtain rfl := h.nil_inv; exact .tuple _ _ rfl (fun i v v' hv => by simp at hv)
  · obtain ⟨a', r', rfl, ha, hr⟩ := h.cons_inv
    obtain rfl := hr.nil_inv
    exact ha
  · obtain ⟨a', r', rfl, ha, hr⟩ := h.cons_inv
    obtain ⟨b', r'', rfl, hb, hr2⟩ := hr.cons_inv
    exact .tuple _ _ h.1 h.2

omit hT hF in
theorem valOf_eq (vs : List Value) : valOf vs = (if h : (⟨vs⟩ : Array Value).size = 1 then (⟨vs⟩ : Array Value)[0] else .tuple ⟨vs⟩) := by
  rcases vs with _ | ⟨a, _ | ⟨b, r⟩⟩ <;> simp [valOf]

theorem sim_finishCall {B : Base} {φ : Phi} {s s' : St} {w : World} {F : Fn} {fn : Func} {e : Ex} {fr : Fr} {cx : Ctx} {fc c : Frame} {cs : List Frame} {v : Value} (hR : Rel φ B s.t.get w) (hfr : FRel φ fr cx fc) (hro : fc.roundOf = none)
    (hfn : P.funcs[fc.fn]? = some fn) (hres : fn.results.toList = F.results) (hl : Left e [] fc.todo) (h : finishCall T F e fr s = some (v, s')) :
    s'.next = s.next ∧ ∃ w' v', Rel φ B s'.t.get w' ∧ KeepsB B w w' ∧ VRel φ v v' ∧ Steps P (lone fc (c :: cs) w) (lone (c.finish v') cs w') := by
  have hret : ∃ todo, Steps P (lone fc (c :: cs) w) (lone { { fc with todo := todo } with mode := .returning } (c :: cs) w) ∧ (∃ hs : M Value, hs = (bnd (takeDefers fr.defers) fun _ => bnd (results T fr.tmps F.results) fun vs => ret (valOf vs)) ∧ hs s = some (v, s')) := by
    cases e with
    | normal => exact ⟨fc.todo, Steps.one (st_end hfr.mode hro hl), _, rfl, h⟩
    | ret =>
      obtain ⟨K', hk⟩ := hl
      exact ⟨fc.todo, Steps.one (st_ret hfr.mode hro hk), _, rfl, h⟩
    | exit id => cases h
  obtain ⟨todo, hst, hs, rfl, h⟩ := hret
  obtain ⟨_, s1, h1, h2⟩ := bnd_some h
  obtain ⟨i1, w1, i2, i3, i4⟩ := sim_takeDefers (cs := c :: cs) hT hF fr.defers s s1 _ w { { fc with todo := todo } with mode := .returning } h1 hR hfr.defers rfl
  obtain ⟨vs, s2, h3, h4⟩ := bnd_some h2
  obtain ⟨rfl, vs', h5, h6⟩ := sim_results hT hF i2 hfr.tmps F.results vs s2 h3
  obtain ⟨rfl, rfl⟩ := ret_some h4
  refine ⟨i1, w1, valOf vs', i2, i3, valOf_rel h5, hst.trans (i4.trans (Steps.one (st_return rfl rfl hfr.kind hfn ?_)))⟩
  have hm : (fn.results.mapM (fun | .tmp t => pure (fc.tmps.getD t undef) | .cell a t => do Go.loadVar t (← asAddr (fc.tmps.getD a undef)) : ResultVar → Sem Value)).run P w1 = .ok ⟨vs'⟩ w1 := by
    rw [Array.mapM_eq_mapM_toList, Sem.run_map, hres, h6]
    rfl
  have : (Go.results fn fc.tmps).run P w1 = .ok (valOf vs') w1 := by
    unfold Go.results
    rw [Sem.run_bind]
    refine (congrArg (fun r => Result.andThen r _) hm).trans ?_
    rw [valOf_eq]
    rfl
  exact this

theorem sim_enter {rec : RunCode} (hC : CodeSim T P ok rec) {B : Base} (hBz : B.sz = P.cellsOf) (hBc : B.code = ok) {φ : Phi} {s s' : St} {w : World} (hR : Rel φ B s.t.get w) (hf : Fresh φ s.next s'.next) (hG : GRel φ T.globs) {g : FuncId} {args args' : List Value} (ha : LRel φ args args') {v : Value}
    (h : enter T rec g args s = some (v, s')) (fc : Frame) (cs : List Frame) (hni : isCallItem fc.todo = false) : ∃ φ' w' v', Aft P B φ s w φ' s' w' ∧ VRel φ' v v' ∧ CallsTo P (callFunc g ⟨args'⟩) fc cs w v' w' := by
  unfold enter at h
  rcases hfn : T.fn g with _ | F
  · simp only [hfn] at h
    rcases hx : T.ext g with _ | gx
    · simp [hx, fail] at h
    · simp only [hx] at h
      obtain ⟨h1, rfl⟩ := lift_some h
      obtain ⟨fn, e, e1, e2, e3, e4, e5, e6⟩ := hF.ext g gx hx
      obtain ⟨v', h2, h3⟩ := e6 φ args args' v w h1 ha
      refine ⟨φ, w, v', .refl hR, h3, fc.finish v', cs, w, ?_, Steps.refl _ _⟩
      have hrun : (callFunc g ⟨args'⟩).run P w = .ok (.value v') w := by
        have e2' : ¬ (fn.name = "runtime.NumGoroutine") := by simpa using e2
        simp [callFunc, e1, e2', e3, e4, e5, h2]
      simp [stepG.apply, hrun]
  · simp only [hfn] at h
    unfold trimMods at h
    split at h
    · rename_i v1 s1 hrun
      cases h
      obtain ⟨p, s2, h1, h2⟩ := bnd_some hrun
      obtain ⟨e, fr⟩ := p
      obtain ⟨fn, f1, f2, f3, f4, f5, f6⟩ := hF.fn g F hfn
      have hfr0 : FRel φ ⟨args ++ List.replicate (F.ntmps - args.length) undef, []⟩ ⟨g, none⟩ (Frame.enter P g ⟨args'⟩ .normal) := by
        refine ⟨rfl, rfl, rfl, trivial, ?_, .nil⟩
        simp only [Frame.enter, f1, Option.map_some, Option.getD_some, f2, Array.toList_append, Array.toList_replicate, List.size_toArray]
        rw [← ha.1]
        exact ha.append (.replicate _ .undef)
      have htodo : (Frame.enter P g ⟨args'⟩ .normal).todo = .code F.body :: [] := by
        simp [Frame.enter, f1, f3]
      have hlog := Logs.finishCall (T := T) F e fr s2 _ s1 h2
      have hf2 : Fresh φ s.next s2.next := hf.sub (Nat.le_refl _) hlog.1
      obtain ⟨φ', w1, fe, a1, a2, a3, a4⟩ := hC ⟨g, none⟩ F.body _ s e fr s2 h1 f6 φ B w (Frame.enter P g ⟨args'⟩ .normal) (fc :: cs) [] hBz hBc hR hf2 hG hfr0 htodo
      have hro : fe.roundOf = none := by
        have := a2.round
        cases hx : fe.roundOf with
        | none => rfl
        | some l => rw [hx] at this; exact this.elim
      have hfe : P.funcs[fe.fn]? = some fn := by rw [a2.fn]; exact f1
      obtain ⟨b1, w2, v', b2, b3, b4, b5⟩ := sim_finishCall (cs := cs) (c := fc) hT hF a1.rel a2 hro hfe f4 a4 h2
      refine ⟨φ', w2, v', ⟨by simp only; have := a1.next; omega, ?_, b2, a1.keeps.trans b3⟩, b4, Frame.enter P g ⟨args'⟩ .normal, fc :: cs, w, ?_, a3.trans b5⟩
      · simp only; rw [b1]; exact a1.grows
      · have f5' : ¬ (fn.name = "runtime.NumGoroutine") := by simpa using f5
        have hrun : (callFunc g ⟨args'⟩).run P w = .ok (.enter g ⟨args'⟩) w := by
          simp [callFunc, f1, f5', f3]
        rcases hx : fc.todo with _ | ⟨it, r⟩
        · simp [stepG.apply, hrun, hx]
        · cases it <;> first
            | (rw [hx] at hni; simp [isCallItem] at hni; done)
            | simp [stepG.apply, hrun, hx]
    · cases h

end
end Go.Ev
