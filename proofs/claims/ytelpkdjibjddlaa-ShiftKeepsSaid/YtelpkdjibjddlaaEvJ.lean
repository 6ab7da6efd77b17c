/-
  EV, PART J: copy, clear; conversions; a string's walk; a Builder's string.
-/
import Derived.Test.YtelpkdjibjddlaaEvI
set_option linter.unusedSimpArgs false
set_option linter.unusedVariables false
namespace Go.Ev
open Go Go.RowKit

theorem firstCells_zero {n size : Nat} (hn : n = 0) {x : Value} {s s' : St} {l : List Value} (h : firstCells n size x s = some (l, s')) : l = [] := by
  subst hn
  unfold firstCells at h
  split at h
  · rw [if_pos rfl] at h; exact (ret_some h).1
  · exact (ret_some h).1
  · have := (ret_some h).1; simpa [byteVals] using this
  · cases h

section
variable {T : Tab} {P : Program} (hT : T.Ok P)
include hT

theorem sim_copy {φ : Phi} {B : Base} {s s' : St} {w : World} (hR : Rel φ B s.t.get w) {ts : Array TypeId} {ty : TypeId} {args args' : List Value} (ha : LRel φ args args') {v : Value}
    (h : copy T ts.toList args s = some (v, s')) : Came φ B s w v s' ((Builtin.copy_ ts ty ⟨args'⟩).run P w) := by
  generalize hts : ts.toList = tl at h
  rcases tl with _ | ⟨t, tr⟩
  · cases h
  rcases args with _ | ⟨d, _ | ⟨x, _ | ⟨y, r⟩⟩⟩
  · cases h
  · cases d <;> cases h
  · obtain ⟨d', r1, rfl, hdv, ha1⟩ := ha.cons_inv
    obtain ⟨x', r2, rfl, hx, ha2⟩ := ha1.cons_inv
    obtain rfl := ha2.nil_inv
    have e0 : ts[0]? = some t := by rw [← Array.getElem?_toList, hts]; rfl
    cases d <;> simp only [copy] at h <;> try (cases h; done)
    rename_i base dLen dCap
    rcases hd : T.und t with _ | k
    · simp [hd, fail] at h
    rcases hm : lenOf x with _ | m
    · cases k <;> simp [hd, hm, fail] at h
    cases k <;> simp only [hd, hm] at h <;> try (cases h; done)
    rename_i elem
    rcases hsz : T.size elem with _ | size
    · simp [hsz, fail] at h
    simp only [hsz] at h
    obtain ⟨cells, s1, h1, h2⟩ := bnd_some h
    obtain ⟨rfl, cells', hc1, hc2⟩ := sim_firstCells hR hx h1 P
    have hdst : ∃ base' c', d' = .slice base' dLen c' ∧ (base = none ↔ base' = none) := by
      cases hdv with
      | sliceNil => exact ⟨none, _, rfl, by simp⟩
      | sliceEx => exact ⟨_, _, rfl, by simp⟩
      | sliceEnd => exact ⟨_, _, rfl, by simp⟩
      | sliceGone => exact ⟨_, _, rfl, by simp⟩
    obtain ⟨base', c', rfl, hbn⟩ := hdst
    cases base with
    | none =>
      simp only at h2
      obtain ⟨rfl, rfl⟩ := ret_some h2
      obtain rfl := hbn.1 rfl
      refine .same hR ?_ (.int _ _)
      simp only [Builtin.copy_, e0, List.getElem?_toArray, List.getElem?_cons_zero, List.getElem?_cons_succ, Sem.run_bind, run_und hT hd, Result.andThen_ok, lenOf_rel hm hx, run_size hT hsz, hc2, Sem.run_pure, goInt]
    | some a =>
      obtain ⟨N, o, sp⟩ := a
      cases sp <;> simp only at h2 <;> try (cases h2; done)
      obtain ⟨_, s2, h3, h4⟩ := bnd_some h2
      obtain ⟨rfl, rfl⟩ := ret_some h4
      obtain ⟨hnx, hst⟩ := sim_storeCells (P := P) hT hR hc1 h3
      rcases hst with ⟨he, rfl⟩ | ⟨hne, L', w2, hL', hrun, hR', hK⟩
      · have he' : cells' = [] := by have := hc1.1; rw [he] at this; exact List.eq_nil_of_length_eq_zero this.symm
        subst he'
        refine .same hR ?_ (.int _ _)
        cases base' <;> simp only [Builtin.copy_, e0, List.getElem?_toArray, List.getElem?_cons_zero, List.getElem?_cons_succ, Sem.run_bind, run_und hT hd, Result.andThen_ok, lenOf_rel hm hx, run_size hT hsz, hc2, Sem.run_pure, goInt, Go.storeCells]
      · have hb : base' = some ⟨L'.blk, L'.off + o, none⟩ ∨ dLen = 0 := by
          cases hdv with
          | sliceEx _ _ hL _ => rw [hL] at hL'; cases hL'; exact .inl rfl
          | sliceEnd _ _ _ hL _ _ _ => rw [hL] at hL'; cases hL'; exact .inl rfl
          | sliceGone => exact .inr rfl
        rcases hb with rfl | h0
        · refine ⟨φ, w2, _, ?_, by omega, .refl _ _ _, hR', .int _ _, hK⟩
          simp only [Builtin.copy_, e0, List.getElem?_toArray, List.getElem?_cons_zero, List.getElem?_cons_succ, Sem.run_bind, run_und hT hd, Result.andThen_ok, lenOf_rel hm hx, run_size hT hsz, hc2, Sem.run_pure, goInt, hrun]
        · subst h0
          exact (hne (firstCells_zero (n := Nat.min m 0) (by simp) h1)).elim
  · cases d <;> cases h

theorem clear_some {φ : Phi} {B : Base} {s s' : St} {w : World} (hR : Rel φ B s.t.get w) {ts : Array TypeId} {ty t elem : TypeId} {r' : List Value} {N o ln c' : Nat} {L : Loc} {v : Value} (hd : T.und t = some (.slice elem)) (hL : φ N = some L)
    (e0 : ts[0]? = some t) (h : (match zeros T elem (ln + 1) with
      | some z => bnd (storeCells N o z) fun _ => ret (.tuple #[])
      | none => fail : M Value) s = some (v, s')) : Came φ B s w v s' ((Builtin.clear_ ts ty ⟨.slice (some ⟨L.blk, L.off + o, none⟩) (ln + 1) c' :: r'⟩).run P w) := by
  rcases hz : zeros T elem (ln + 1) with _ | z
  · simp [hz, fail] at h
  simp only [hz] at h
  obtain ⟨zv, k, z1, z2, z3, rfl, z5⟩ := zeros_some hT hz
  obtain ⟨_, s2, h3, h4⟩ := bnd_some h
  obtain ⟨rfl, rfl⟩ := ret_some h4
  obtain ⟨hnx, hst⟩ := sim_storeCells (P := P) hT hR (Flat.lrel z5) h3
  have hzc : (Builtin.zeroCells zv.cells (ln + 1)).toList = rep (ln + 1) zv.cells.toList := made_rep _ _ _ rfl
  rcases hst with ⟨he, rfl⟩ | ⟨hne, L', w2, hL', hrun, hR', hK⟩
  · refine .same hR ?_ VRel.undef
    simp only [Builtin.clear_, e0, List.getElem?_toArray, List.getElem?_cons_zero, Sem.run_bind, run_und hT hd, Result.andThen_ok, Sem.run_pure, run_zero hT z1, hzc, he, Go.storeCells]
    rfl
  · rw [hL] at hL'; cases hL'
    refine ⟨φ, w2, _, ?_, by omega, .refl _ _ _, hR', VRel.undef, hK⟩
    simp only [Builtin.clear_, e0, List.getElem?_toArray, List.getElem?_cons_zero, Sem.run_bind, run_und hT hd, Result.andThen_ok, Sem.run_pure, run_zero hT z1, hzc, hrun]
    rfl

theorem sim_clear {φ : Phi} {B : Base} {s s' : St} {w : World} (hR : Rel φ B s.t.get w) {ts : Array TypeId} {ty : TypeId} {args args' : List Value} (ha : LRel φ args args') {v : Value}
    (h : clear T ts.toList args s = some (v, s')) : Came φ B s w v s' ((Builtin.clear_ ts ty ⟨args'⟩).run P w) := by
  generalize hts : ts.toList = tl at h
  rcases tl with _ | ⟨t, tr⟩
  · cases h
  rcases args with _ | ⟨x, r⟩
  · cases h
  obtain ⟨x', r', rfl, hx, _⟩ := ha.cons_inv
  have e0 : ts[0]? = some t := by rw [← Array.getElem?_toList, hts]; rfl
  simp only [clear] at h
  rcases hd : T.und t with _ | k
  · simp [hd, fail] at h
  cases k <;> simp only [hd] at h <;> try (cases h; done)
  rename_i elem
  cases hx <;> (try simp only at h) <;> try (cases h; done)
  · rename_i l c hc
    obtain ⟨rfl, rfl⟩ := ret_some h
    refine .same hR ?_ VRel.undef
    simp only [Builtin.clear_, e0, List.getElem?_toArray, List.getElem?_cons_zero, Sem.run_bind, run_und hT hd, Result.andThen_ok, Sem.run_pure]
    cases l <;> rfl
  · rename_i N o L ln cap hL hc
    cases ln with
    | zero =>
      simp only at h
      obtain ⟨rfl, rfl⟩ := ret_some h
      refine .same hR ?_ VRel.undef
      simp only [Builtin.clear_, e0, List.getElem?_toArray, List.getElem?_cons_zero, Sem.run_bind, run_und hT hd, Result.andThen_ok, Sem.run_pure]
      rfl
    | succ ln =>
      simp only at h
      exact clear_some hT hR hd hL e0 h
  · rename_i N o L ln es cap' hL hc hl he
    cases ln with
    | zero =>
      simp only at h
      obtain ⟨rfl, rfl⟩ := ret_some h
      refine .same hR ?_ VRel.undef
      simp only [Builtin.clear_, e0, List.getElem?_toArray, List.getElem?_cons_zero, Sem.run_bind, run_und hT hd, Result.andThen_ok, Sem.run_pure]
      rfl
    | succ ln =>
      simp only at h
      exact clear_some hT hR hd hL e0 h
  · obtain ⟨rfl, rfl⟩ := ret_some h
    refine .same hR ?_ VRel.undef
    simp only [Builtin.clear_, e0, List.getElem?_toArray, List.getElem?_cons_zero, Sem.run_bind, run_und hT hd, Result.andThen_ok, Sem.run_pure]
    rfl

end
end Go.Ev
