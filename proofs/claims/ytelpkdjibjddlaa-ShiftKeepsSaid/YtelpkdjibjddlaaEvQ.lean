/-
  EV, PART Q: operations in a region; code. What is left open: a region that draws its order ('RegionSim').
-/
import Derived.Test.YtelpkdjibjddlaaEvP
set_option linter.unusedSimpArgs false
set_option linter.unusedVariables false
namespace Go.Ev
open Go Go.RowKit

theorem CallsTo.congr {P : Program} {m m' : Sem Next} {fc : Frame} {cs : List Frame} {w w' : World} {v : Value} (h : CallsTo P m fc cs w v w') (e : m' = m) : CallsTo P m' fc cs w v w' := e ▸ h

section
variable {T : Tab} {P : Program} (hT : T.Ok P) {ok : Code → Prop} (hF : T.Fns P ok)
include hT hF

theorem sim_callValue {rec : RunCode} (hC : CodeSim T P ok rec) (hLg : ∀ cx c fr, Logs (rec cx c fr)) {B : Base} (hBz : B.sz = P.cellsOf) (hBc : B.code = ok) {φ : Phi} {s s' : St} {w : World} (hR : Rel φ B s.t.get w) (hf : Fresh φ s.next s'.next) (hG : GRel φ T.globs)
    {f f' : Value} (hv : VRel φ f f') {args args' : List Value} (ha : LRel φ args args') {v : Value} (h : callValue T rec f args s = some (v, s')) (fc : Frame) (cs : List Frame) (hni : isCallItem fc.todo = false) :
    ∃ φ' w' v', Aft P B φ s w φ' s' w' ∧ VRel φ' v v' ∧ CallsTo P (do let d ← Deferred.ofValue f' ⟨args'⟩; invoke d.target d.args) fc cs w v' w' := by
  unfold callValue at h
  cases hv <;> (try simp only at h) <;> try (cases h; done)
  · rename_i g a a' c c' h1 h2 h3 h4
    obtain ⟨φ', w', v', q1, q2, q3⟩ := sim_enter hT hF hC hBz hBc hR hf hG (args' := a'.toList ++ args' ++ c'.toList) ((LRel.append ⟨h1, h2⟩ ha).append ⟨h3, h4⟩) h fc cs hni
    refine ⟨φ', w', v', q1, q2, q3.congr ?_⟩
    have e : (⟨a'.toList ++ args' ++ c'.toList⟩ : Array Value) = a' ++ ⟨args'⟩ ++ c' := by apply Array.ext'; simp
    rw [e]
    rfl
  · rename_i N L hL
    obtain ⟨φ', w', v', q1, q2, q3⟩ := sim_round hT hF hC hLg hBz hBc hR hf hG hL (args' := args') (by simpa using ha) h fc cs hni
    refine ⟨φ', w', v', q1, q2, q3.congr ?_⟩
    show (do let d ← Deferred.ofValue (.func (.yield L.blk) #[] #[]) ⟨args'⟩; invoke d.target d.args) = _
    have e : (#[] ++ ⟨args'⟩ : Array Value) = ⟨args'⟩ := by simp
    show invoke (.fn (.yield L.blk) #[]) (#[] ++ ⟨args'⟩) = _
    rw [e]
    rfl

theorem OpCame.aft {φ : Phi} {B : Base} {s s' : St} {w : World} {v : Value} {r : Result Next} (hR : Rel φ B s.t.get w) (h : OpCame φ B s w v s' r) : ∃ φ' w' nx, r = .ok nx w' ∧ Aft P B φ s w φ' s' w' ∧ NRel φ' v nx := by
  have _ := hT
  have _ := hF
  obtain ⟨φ', w', nx, h1, h2, h3, h4, h5, h6⟩ := h
  exact ⟨φ', w', nx, h1, ⟨h2, h3, h4, h6.weak hR⟩, h5⟩

/-- An operation that stands next in a region, carried out. -/
theorem sim_op {rec : RunCode} (hC : CodeSim T P ok rec) (hLg : ∀ cx c fr, Logs (rec cx c fr)) {B : Base} (hBz : B.sz = P.cellsOf) (hBc : B.code = ok) {φ : Phi} {s s' : St} {w : World} (hR : Rel φ B s.t.get w) (hf : Fresh φ s.next s'.next) (hG : GRel φ T.globs)
    {fr : Fr} {o : Oper} {v : Value} (h : evOp T rec fr o s = some (v, s')) {fc : Frame} (cs : List Frame) (hm : fc.mode = .run) {ops : Array Oper} {i : Nat} {rest : List Nat} {K : List Item} (ht : fc.todo = .inRegion ops (i :: rest) :: K) (ho : ops[i]? = some o)
    (hw : Region.wanted o (yielded ops fc.tmps) = true) (hv : ∀ x ∈ o.op.operands.toList, VRel φ (fr.eval x) (fc.eval x)) (hnd : ∀ c, o.op ≠ .defer c) :
    ∃ φ' w' v', Aft P B φ s w φ' s' w' ∧ VRel φ' v v' ∧ Steps P (lone fc cs w) (lone (fc.finish v') cs w') := by
  have hni : isCallItem fc.todo = false := by rw [ht]; rfl
  have plain : evPlain T fr.eval o.op s = some (v, s') → ∃ φ' w' v', Aft P B φ s w φ' s' w' ∧ VRel φ' v v' ∧ Steps P (lone fc cs w) (lone (fc.finish v') cs w') := fun hp => by
    obtain ⟨φ', w', nx, h1, h2, h3⟩ := OpCame.aft hT hF hR (sim_plain hT hBz hR hf hv hp)
    rcases h3 with ⟨v', rfl, h4⟩ | ⟨rfl, rfl⟩
    · exact ⟨φ', w', v', h2, h4, Steps.one (st_value hm ht ho hw hnd h1)⟩
    · exact ⟨φ', w', undef, h2, .undef, Steps.one (st_skipped hm ht ho hw hnd h1)⟩
  by_cases hcall : ∃ f args ts, o.op = .call ⟨.value f, args, ts⟩
  · obtain ⟨f, args, ts, hop⟩ := hcall
    have h : callValue T rec (fr.eval f) (args.toList.map fr.eval) s = some (v, s') := by
      unfold evOp at h; rw [hop] at h; exact h
    have hfv : VRel φ (fr.eval f) (fc.eval f) := hv f (by rw [hop]; simp [Op.operands, Call.operands])
    have hav : LRel φ (args.toList.map fr.eval) (args.toList.map fc.eval) := LRel.map _ fun y hy => hv y (by rw [hop]; simp [Op.operands, Call.operands]; exact .inr (by simpa using hy))
    obtain ⟨φ', w', v', q1, q2, fr1, cs1, w1, q3, q4⟩ := sim_callValue hT hF hC hLg hBz hBc hR hf hG hfv hav h fc cs hni
    refine ⟨φ', w', v', q1, q2, Steps.head (step_lone_go ?_) q4⟩
    rw [st_op hm ht ho hw hnd]
    have e : execOp fc.eval o = (do let d ← Deferred.ofValue (fc.eval f) ⟨args.toList.map fc.eval⟩; invoke d.target d.args) := by
      have ea : args.map fc.eval = ⟨args.toList.map fc.eval⟩ := by apply Array.ext'; simp
      unfold execOp
      rw [hop]
      show (do let d ← resolve fc.eval ⟨.value f, args, ts⟩ o.type; invoke d.target d.args) = _
      simp only [resolve, ea]
    rw [e]; exact q3
  · refine plain ?_
    have : evOp T rec fr o = evPlain T fr.eval o.op := by
      unfold evOp
      split
      · rename_i f args ts hop
        exact absurd ⟨f, args, ts, hop⟩ hcall
      · rfl
    rw [this] at h; exact h

omit hT hF in
theorem yielded_rel {φ : Phi} {tmps : List Value} {tmps' : Array Value} (h : LRel φ tmps tmps'.toList) (ops : Array Oper) : yieldedL ops tmps = yielded ops tmps' := by
  funext j
  unfold yieldedL yielded
  cases (ops[j]?).bind (·.dst) with
  | none => rfl
  | some d =>
    simp only [Option.bind_some]
    cases hv : tmps[d]? with
    | none =>
      have : tmps'[d]? = none := by
        rw [← Array.getElem?_toList]
        have : tmps.length ≤ d := by simpa using hv
        exact List.getElem?_eq_none (h.1 ▸ this)
      rw [this]
    | some v =>
      obtain ⟨v', h1, h2⟩ := h.get hv
      rw [Array.getElem?_toList] at h1
      rw [h1]
      cases h2 <;> rfl

omit hT hF in
theorem FRel.finish {φ : Phi} {fr : Fr} {cx : Ctx} {fc : Frame} (h : FRel φ fr cx fc) {ops : Array Oper} {i : Nat} {rest : List Nat} {K : List Item} {o : Oper} (ht : fc.todo = .inRegion ops (i :: rest) :: K) (ho : ops[i]? = some o) {v v' : Value} (hv : VRel φ v v') :
    FRel φ (fr.put o.dst v) cx (fc.finish v') ∧ (fc.finish v').todo = .inRegion ops rest :: K := by
  have e : fc.finish v' = { fc with tmps := match o.dst with | some d => fc.tmps.setIfInBounds d v' | none => fc.tmps, todo := .inRegion ops rest :: K } := by
    cases fc; simp only at ht; subst ht
    simp only [Frame.finish, ho, Option.bind_some]
    cases o.dst <;> rfl
  rw [e]
  refine ⟨⟨h.fn, h.mode, h.kind, h.round, ?_, ?_⟩, rfl⟩
  · cases hd : o.dst with
    | none => simp only [Fr.put]; exact h.tmps
    | some d =>
      simp only [Fr.put, Array.toList_setIfInBounds]
      exact h.tmps.set d hv
  · cases hd : o.dst <;> exact h.defers

def notDefer : Op → Bool
  | .defer _ => false
  | _ => true

def opsOk (G : Nat) (ops : Array Oper) : Bool := ops.toList.all fun o => opOk G o.op && notDefer o.op

omit hT hF in
theorem opsOk_at {G : Nat} {ops : Array Oper} (h : opsOk G ops = true) {i : Nat} {o : Oper} (ho : ops[i]? = some o) : opOk G o.op = true ∧ ∀ c, o.op ≠ .defer c := by
  have hm : o ∈ ops.toList := by rw [← Array.getElem?_toList] at ho; exact List.mem_of_getElem? ho
  have := List.all_eq_true.1 h o hm
  simp only [Bool.and_eq_true] at this
  exact ⟨this.1, fun c hc => by rw [hc] at this; simp [notDefer] at this⟩

omit hT hF in
theorem Logs.enter {rec : RunCode} (hLg : ∀ cx c fr, Logs (rec cx c fr)) (g : FuncId) (args : List Value) : Logs (Ev.enter T rec g args) := by
  unfold Ev.enter
  split
  · split
    · exact .lift _
    · exact .fail
  · exact .trim (.bnd (hLg _ _ _) fun _ => .finishCall _ _ _)
omit hT hF in
theorem Logs.endRound (l : Nat) (e : Ex) (fr : Fr) : Logs (Ev.endRound l e fr) := by
  unfold Ev.endRound
  exact .ite (.bnd (.getLoop _) fun _ => .bnd (.setB _ _) fun _ => .ret _) .fail
omit hT hF in
theorem Logs.round {rec : RunCode} (hLg : ∀ cx c fr, Logs (rec cx c fr)) (l : Nat) (args : List Value) : Logs (Ev.round rec l args) := by
  unfold Ev.round
  refine .bnd (.getLoop _) fun r => .ite (.bnd (hLg _ _ _) fun p => ?_) .fail
  unfold Ev.roundBody
  split
  · exact .bnd (.getLoop _) fun _ => .ite (.bnd (.setB _ _) fun _ => .bnd (hLg _ _ _) fun _ => .endRound _ _ _) .fail
  · exact .fail
omit hT hF in
theorem Logs.callValue {rec : RunCode} (hLg : ∀ cx c fr, Logs (rec cx c fr)) (f : Value) (args : List Value) : Logs (Ev.callValue T rec f args) := by
  unfold Ev.callValue
  split
  · exact .enter hLg _ _
  · exact .round hLg _ _
  · exact .fail
omit hT hF in
theorem Logs.evOp {rec : RunCode} (hLg : ∀ cx c fr, Logs (rec cx c fr)) (fr : Fr) (o : Oper) : Logs (Ev.evOp T rec fr o) := by
  unfold Ev.evOp
  split
  · exact .callValue hLg _ _
  · exact .plain _ _
omit hT hF in
theorem Logs.evOps {rec : RunCode} (hLg : ∀ cx c fr, Logs (rec cx c fr)) (ops : Array Oper) : ∀ (l : List Oper) (fr : Fr), Logs (Ev.evOps T rec ops l fr)
  | [], fr => .ret _
  | o :: os, fr => by
    unfold Ev.evOps
    split
    · exact .bnd (.evOp hLg _ _) fun _ => Logs.evOps hLg ops os _
    · exact Logs.evOps hLg ops os _

/-- Operations in the order of the text. -/
theorem sim_evOps {rec : RunCode} (hC : CodeSim T P ok rec) (hLg : ∀ cx c fr, Logs (rec cx c fr)) {B : Base} (hBz : B.sz = P.cellsOf) (hBc : B.code = ok) {ops : Array Oper} (hops : opsOk T.globs ops = true) (cs : List Frame) (cx : Ctx) (K : List Item) :
    ∀ (m i : Nat) (fr fr' : Fr) (s s' : St) (φ : Phi) (w : World) (fc : Frame), i + m = ops.size → evOps T rec ops (ops.toList.drop i) fr s = some (fr', s') → Rel φ B s.t.get w → Fresh φ s.next s'.next → GRel φ T.globs → FRel φ fr cx fc →
      fc.todo = .inRegion ops (List.range' i m) :: K → ∃ φ' w' fc', Aft P B φ s w φ' s' w' ∧ FRel φ' fr' cx fc' ∧ Steps P (lone fc cs w) (lone fc' cs w') ∧ fc'.todo = K
  | 0, i, fr, fr', s, s', φ, w, fc, hi, h, hR, hf, hG, hfr, ht => by
    have : ops.toList.drop i = [] := List.drop_eq_nil_of_le (by simp; omega)
    rw [this] at h
    obtain ⟨rfl, rfl⟩ := ret_some h
    exact ⟨φ, w, { fc with todo := K }, .refl hR, hfr.todo K, Steps.one (st_regionEnd hfr.mode ht), rfl⟩
  | m + 1, i, fr, fr', s, s', φ, w, fc, hi, h, hR, hf, hG, hfr, ht => by
    have hlt : i < ops.toList.length := by simp; omega
    have ho : ops[i]? = some (ops.toList[i]) := by rw [← Array.getElem?_toList]; exact List.getElem?_eq_getElem hlt
    rw [List.drop_eq_getElem_cons hlt] at h
    generalize ops.toList[i] = o at h ho
    rw [List.range'_succ] at ht
    unfold evOps at h
    have hy := yielded_rel hfr.tmps ops
    obtain ⟨hopk, hnd⟩ := opsOk_at hops ho
    split at h
    · rename_i hw
      obtain ⟨v, s1, h1, h2⟩ := bnd_some h
      have g2 := (Logs.evOps hLg ops _ _ _ _ _ h2).1
      rw [hy] at hw
      obtain ⟨φ1, w1, v', q1, q2, q3⟩ := sim_op hT hF hC hLg hBz hBc hR (hf.sub (Nat.le_refl _) g2) hG h1 cs hfr.mode ht ho hw (fun x hx => eval_rel (ds := fr.defers) hfr.tmps hG (List.all_eq_true.1 hopk x hx)) hnd
      obtain ⟨r1, r2⟩ := (hfr.mono q1.grows.1).finish ht ho q2
      obtain ⟨φ2, w2, fc2, t1, t2, t3, t4⟩ := sim_evOps hC hLg hBz hBc hops cs cx K m (i + 1) _ fr' s1 s' φ1 w1 (fc.finish v') (by omega) h2 q1.rel (q1.fresh hf) (hG.mono q1.grows.1) r1 r2
      exact ⟨φ2, w2, fc2, q1.trans t1, t2, q3.trans t3, t4⟩
    · rename_i hw
      rw [hy] at hw
      obtain ⟨r1, r2⟩ := hfr.finish ht ho (φ := φ) .undef
      obtain ⟨φ2, w2, fc2, t1, t2, t3, t4⟩ := sim_evOps hC hLg hBz hBc hops cs cx K m (i + 1) _ fr' s s' φ w (fc.finish undef) (by omega) h hR hf hG r1 r2
      exact ⟨φ2, w2, fc2, t1, t2, Steps.head (st_opSkip hfr.mode ht (by rw [ho]; simpa using hw)) t3, t4⟩

end
end Go.Ev
