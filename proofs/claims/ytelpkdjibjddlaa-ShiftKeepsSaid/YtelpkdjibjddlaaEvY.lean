/-
  EV, PART Y: a whole call: what the evaluator returns, the program returns.
-/
import Derived.Test.YtelpkdjibjddlaaEvX
import Derived.Below
set_option linter.unusedSimpArgs false
set_option linter.unusedVariables false
namespace Go.Ev
open Go Go.RowKit

section
variable {T : Tab} {P : Program} (hT : T.Ok P) (hF : T.Fns P fun c => codeOk T.globs c = true) (hmix : P.follows .mixedOrders = true)
include hT hF hmix

/-- A call of a function of the program: it comes to its end, whoever called it. -/
theorem calls_of_ev {k : Nat} {f : FuncId} {F : Fn} (hfn : T.fn f = some F) {args args' : List Value} {s s' : St} {v : Value} (h : evCall T k f args s = some (v, s')) {φ : Phi} {B : Base} {w : World} (hBz : B.sz = P.cellsOf) (hBc : B.code = fun c => codeOk T.globs c = true)
    (hR : Rel φ B s.t.get w) (hf : Fresh φ s.next s'.next) (hG : GRel φ T.globs) (ha : LRel φ args args') :
    Calls P f ⟨args'⟩ w fun e w' => ∃ φ' v', e = .returned v' ∧ VRel φ' v v' ∧ KeepsB B w w' := by
  intro cs
  unfold evCall enter at h
  simp only [hfn] at h
  unfold trimMods at h
  split at h
  · rename_i v1 s1 hrun
    cases h
    obtain ⟨⟨e, fr⟩, s2, h1, h2⟩ := bnd_some hrun
    obtain ⟨fn, f1, f2, f3, f4, f5, f6⟩ := hF.fn f F hfn
    have hfr0 : FRel φ ⟨args ++ List.replicate (F.ntmps - args.length) undef, []⟩ ⟨f, none⟩ (Frame.enter P f ⟨args'⟩ .normal) := by
      refine ⟨rfl, rfl, rfl, trivial, ?_, .nil⟩
      simp only [Frame.enter, f1, Option.map_some, Option.getD_some, f2, Array.toList_append, Array.toList_replicate, List.size_toArray]
      rw [← ha.1]
      exact ha.append (.replicate _ .undef)
    have htodo : (Frame.enter P f ⟨args'⟩ .normal).todo = .code F.body :: [] := by
      simp [Frame.enter, f1, f3]
    have hlog := Logs.finishCall (T := T) F e fr s2 _ s1 h2
    obtain ⟨φ', w1, fe, a1, a2, a3, a4⟩ := (code_sim hT hF hmix k).1 ⟨f, none⟩ F.body _ s e fr s2 h1 f6 φ B w (Frame.enter P f ⟨args'⟩ .normal) cs [] hBz hBc hR (hf.sub (Nat.le_refl _) hlog.1) hG hfr0 htodo
    have hro : fe.roundOf = none := by
      have := a2.round
      simp only at this
      cases hx : fe.roundOf with
      | none => rfl
      | some y => rw [hx] at this; exact this.elim
    have hret : ∃ todo, Steps P (lone fe cs w1) (lone { { fe with todo := todo } with mode := .returning } cs w1) ∧ (bnd (takeDefers fr.defers) fun _ => bnd (results T fr.tmps F.results) fun vs => ret (valOf vs)) s2 = some (v, s1) := by
      cases e with
      | normal => exact ⟨fe.todo, Steps.one (st_end a2.mode hro a4), h2⟩
      | ret =>
        obtain ⟨K', hk⟩ := a4
        exact ⟨fe.todo, Steps.one (st_ret a2.mode hro hk), h2⟩
      | exit id => cases h2
    obtain ⟨todo, hst, h3⟩ := hret
    obtain ⟨_, s3, h4, h5⟩ := bnd_some h3
    obtain ⟨i1, w2, i2, i3, i4⟩ := sim_takeDefers (cs := cs) hT hF fr.defers s2 s3 _ w1 { { fe with todo := todo } with mode := .returning } h4 a1.rel a2.defers rfl
    obtain ⟨vs, s4, h6, h7⟩ := bnd_some h5
    obtain ⟨rfl, vs', h8, h9⟩ := sim_results hT hF i2 a2.tmps F.results vs s4 h6
    obtain ⟨rfl, rfl⟩ := ret_some h7
    refine ⟨.returned (valOf vs'), w2, { { { fe with todo := todo } with mode := .returning } with defers := [] }, ⟨φ', valOf vs', rfl, valOf_rel h8, a1.keeps.trans i3⟩, a3.trans (hst.trans i4), a2.fn, rfl, rfl, a2.kind, fn, by rw [a2.fn]; exact f1, ?_⟩
    have hm : (fn.results.mapM (fun | .tmp t => pure (fe.tmps.getD t undef) | .cell a t => do Go.loadVar t (← asAddr (fe.tmps.getD a undef)) : ResultVar → Sem Value)).run P w2 = .ok ⟨vs'⟩ w2 := by
      rw [Array.mapM_eq_mapM_toList, Sem.run_map, f4]
      exact congrArg (fun r => Result.andThen r (fun (a : List Value) w' => Result.ok a.toArray w')) h9
    show (Go.results fn fe.tmps).run P w2 = .ok (valOf vs') w2
    unfold Go.results
    rw [Sem.run_bind]
    refine (congrArg (fun r => Result.andThen r _) hm).trans ?_
    rw [valOf_eq]
    rfl
  · cases h

/-- A law: it returns true, and leaves alone what was there. -/
theorem law_of_ev {k : Nat} {f : FuncId} {F : Fn} (hfn : T.fn f = some F) (hg : T.globs = 0) {args args' : List Value} {s s' : St} (h : evCall T k f args s = some (.bool true, s')) {φ : Phi} {w : World}
    (hR : Rel φ ⟨fun k => k < w.heap.size, fun c => codeOk T.globs c = true, P.cellsOf⟩ s.t.get w) (hf : ∀ N, s.next ≤ N → φ N = none) (ha : LRel φ args args') :
    Calls P f ⟨args'⟩ w fun e w' => e = .returned (.bool true) ∧ Below w.heap.size w w' :=
  (calls_of_ev hT hF hmix hfn h rfl rfl hR (fun N h1 _ => hf N h1) (fun g hlt => by rw [hg] at hlt; omega) ha).mono fun e w' ⟨φ', v', h1, h2, h3⟩ => by
    cases h2
    exact ⟨h1, h3.os, h3.tape, h3.output, h3.size, h3.block⟩

end
end Go.Ev
