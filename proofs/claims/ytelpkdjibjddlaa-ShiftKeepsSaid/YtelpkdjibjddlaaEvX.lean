/-
  EV, PART X: code of every form; a whole call.
-/
import Derived.Test.YtelpkdjibjddlaaEvW
set_option linter.unusedSimpArgs false
set_option linter.unusedVariables false
namespace Go.Ev
open Go Go.RowKit

section
variable {T : Tab} {P : Program} (hT : T.Ok P) (hF : T.Fns P fun c => codeOk T.globs c = true) (hmix : P.follows .mixedOrders = true)
include hT hF hmix

theorem code_sim : ∀ k, CodeSim T P (fun c => codeOk T.globs c = true) (evCode T k) ∧ LoopSim T P (fun c => codeOk T.globs c = true) (evCode T k)
  | 0 => ⟨fun cx c fr s e fr' s' h => (by cases h), fun cx b fr s e fr' s' h => (by cases h)⟩
  | k + 1 => by
    obtain ⟨ihC, ihL⟩ := code_sim k
    have hLg := fun cx c fr => Logs.evCode (T := T) k cx c fr
    have loop : LoopSim T P (fun c => codeOk T.globs c = true) (evCode T (k + 1)) := by
      intro cx b fr s e fr' s' h hok φ B w fc cs K hBz hBc hR hf hG hfr ht
      have hb : codeOk T.globs b = true := hok
      change (bnd (evCode T k cx b fr) fun p => match p.1 with
        | .normal => evCode T k cx (.loop b) p.2
        | e => ret (e, p.2)) s = some ((e, fr'), s') at h
      obtain ⟨⟨e1, fr1⟩, s1, h1, h2⟩ := bnd_some h
      cases e1 with
      | normal =>
        simp only at h2
        have g2 := (hLg _ _ _ _ _ _ h2).1
        obtain ⟨φ1, w1, f1, a1, a2, a3, a4⟩ := ihC cx b fr s .normal fr1 s1 h1 hb φ B w fc cs (.inLoop b :: K) hBz hBc hR (hf.sub (Nat.le_refl _) g2) hG hfr ht
        have hst := st_inLoop (P := P) (cs := cs) (w := w1) a2.mode a4
        obtain ⟨φ2, w2, f2, b1, b2, b3, b4⟩ := ihL cx b fr1 s1 e fr' s' h2 hok φ1 B w1 _ cs K hBz hBc a1.rel (a1.fresh hf) (hG.mono a1.grows.1) (a2.todo _) rfl
        exact ⟨φ2, w2, f2, a1.trans b1, b2, a3.trans (Steps.head hst b3), b4⟩
      | ret =>
        obtain ⟨hx, rfl⟩ := ret_some h2
        cases hx
        obtain ⟨φ1, w1, f1, a1, a2, a3, a4⟩ := ihC cx b fr s .ret fr1 _ h1 hb φ B w fc cs (.inLoop b :: K) hBz hBc hR hf hG hfr ht
        exact ⟨φ1, w1, f1, a1, a2, a3, a4.skip (by simp) (fun id h => by cases h)⟩
      | exit id =>
        obtain ⟨hx, rfl⟩ := ret_some h2
        cases hx
        obtain ⟨φ1, w1, f1, a1, a2, a3, a4⟩ := ihC cx b fr s (.exit id) fr1 _ h1 hb φ B w fc cs (.inLoop b :: K) hBz hBc hR hf hG hfr ht
        exact ⟨φ1, w1, f1, a1, a2, a3, a4.skip (by simp) (fun id h => by cases h)⟩
    refine ⟨?_, loop⟩
    intro cx c fr s e fr' s' h hok φ B w fc cs K hBz hBc hR hf hG hfr ht
    cases c with
    | skip =>
      obtain ⟨hx, rfl⟩ := ret_some h
      cases hx
      exact ⟨φ, w, _, .refl hR, hfr.todo K, Steps.one (st_skip hfr.mode ht), rfl⟩
    | exit id =>
      obtain ⟨hx, rfl⟩ := ret_some h
      cases hx
      exact ⟨φ, w, fc, .refl hR, hfr, Steps.refl _ _, K, ht, rfl⟩
    | ret =>
      obtain ⟨hx, rfl⟩ := ret_some h
      cases hx
      exact ⟨φ, w, fc, .refl hR, hfr, Steps.refl _ _, K, ht⟩
    | region id ops draw =>
      simp only [codeOk, Bool.and_eq_true] at hok
      change (bnd (evRegion T (evCode T k) ops draw fr) fun fr => ret (.normal, fr)) s = some ((e, fr'), s') at h
      obtain ⟨fr1, s1, h1, h2⟩ := bnd_some h
      obtain ⟨hx, rfl⟩ := ret_some h2
      cases hx
      unfold evRegion at h1
      cases draw with
      | false =>
        simp only [Bool.false_eq_true, if_false] at h1
        have hst := st_region (P := P) (cs := cs) (w := w) hfr.mode ht
        obtain ⟨φ1, w1, f1, a1, a2, a3, a4⟩ := sim_evOps hT hF ihC hLg hBz hBc hok.1 cs cx K ops.size 0 fr _ s _ φ w { fc with todo := .inRegion ops (List.range ops.size) :: K } (by simp) (by simpa using h1) hR hf hG (hfr.todo _) (by simp only; rw [List.range_eq_range'])
        exact ⟨φ1, w1, f1, a1, a2, Steps.head hst a3, a4⟩
      | true =>
        simp only [if_true] at h1
        obtain ⟨t, hst⟩ := st_regionDraw (P := P) (cs := cs) (w := w) hfr.mode ht
        have hR' : Rel φ B s.t.get w.drew := hR.heap rfl
        have hsch : Region.schedule (P.follows .mixedOrders) ops t = Region.linearise .any ops t := by simp [Region.schedule, hmix]
        rw [hsch] at hst
        obtain ⟨φ1, w1, f1, a1, a2, a3, a4⟩ := sim_draw hT hF ihC hLg hBz hBc hok.1 (by simpa using hok.2) cs h1 hR' hf hG (fc := { fc with todo := .inRegion ops (Region.linearise .any ops t) :: K }) (hfr.todo _) rfl
        exact ⟨φ1, w1, f1, ⟨a1.next, a1.grows, a1.rel, KeepsB.trans ((Keeps.heap (φ := φ) (H := s.t.get) (w := w) (w' := w.drew) rfl rfl rfl rfl).weak hR) a1.keeps⟩, a2, Steps.head hst a3, a4⟩
    | seq a b =>
      simp only [codeOk, Bool.and_eq_true] at hok
      change (bnd (evCode T k cx a fr) fun p => match p.1 with
        | .normal => evCode T k cx b p.2
        | e => ret (e, p.2)) s = some ((e, fr'), s') at h
      obtain ⟨⟨e1, fr1⟩, s1, h1, h2⟩ := bnd_some h
      have hst := st_seq (P := P) (cs := cs) (w := w) hfr.mode ht
      cases e1 with
      | normal =>
        simp only at h2
        have g2 := (hLg _ _ _ _ _ _ h2).1
        obtain ⟨φ1, w1, f1, a1, a2, a3, a4⟩ := ihC cx a fr s .normal fr1 s1 h1 hok.1 φ B w _ cs (.code b :: K) hBz hBc hR (hf.sub (Nat.le_refl _) g2) hG (hfr.todo _) rfl
        obtain ⟨φ2, w2, f2, b1, b2, b3, b4⟩ := ihC cx b fr1 s1 e fr' s' h2 hok.2 φ1 B w1 f1 cs K hBz hBc a1.rel (a1.fresh hf) (hG.mono a1.grows.1) a2 a4
        exact ⟨φ2, w2, f2, a1.trans b1, b2, Steps.head hst (a3.trans b3), b4⟩
      | ret =>
        obtain ⟨hx, rfl⟩ := ret_some h2
        cases hx
        obtain ⟨φ1, w1, f1, a1, a2, a3, a4⟩ := ihC cx a fr s .ret fr1 _ h1 hok.1 φ B w _ cs (.code b :: K) hBz hBc hR hf hG (hfr.todo _) rfl
        exact ⟨φ1, w1, f1, a1, a2, Steps.head hst a3, a4.skip (by simp) (fun id h => by cases h)⟩
      | exit id =>
        obtain ⟨hx, rfl⟩ := ret_some h2
        cases hx
        obtain ⟨φ1, w1, f1, a1, a2, a3, a4⟩ := ihC cx a fr s (.exit id) fr1 _ h1 hok.1 φ B w _ cs (.code b :: K) hBz hBc hR hf hG (hfr.todo _) rfl
        exact ⟨φ1, w1, f1, a1, a2, Steps.head hst a3, a4.skip (by simp) (fun id h => by cases h)⟩
    | cond x a b =>
      simp only [codeOk, Bool.and_eq_true] at hok
      change (match fr.eval x with
        | .bool t => evCode T k cx (if t then a else b) fr
        | _ => fail) s = some ((e, fr'), s') at h
      have hv : VRel φ (fr.eval x) (fc.eval x) := eval_rel (ds := fr.defers) hfr.tmps hG hok.1
      generalize hx : fr.eval x = v at h hv
      cases v <;> try (cases h; done)
      rename_i t
      simp only at h
      generalize hx' : fc.eval x = v' at hv
      cases hv
      have hst := st_cond (P := P) (cs := cs) (w := w) hfr.mode ht hx'
      obtain ⟨φ1, w1, f1, a1, a2, a3, a4⟩ := ihC cx (if t then a else b) fr s e fr' s' h (by cases t; exact hok.2.2; exact hok.2.1) φ B w _ cs K hBz hBc hR hf hG (hfr.todo _) rfl
      exact ⟨φ1, w1, f1, a1, a2, Steps.head hst a3, a4⟩
    | block id b =>
      have hb : codeOk T.globs b = true := hok
      change (bnd (evCode T k cx b fr) fun p => ret (outOf id p.1, p.2)) s = some ((e, fr'), s') at h
      obtain ⟨⟨e1, fr1⟩, s1, h1, h2⟩ := bnd_some h
      obtain ⟨hx, rfl⟩ := ret_some h2
      cases hx
      have hst := st_block (P := P) (cs := cs) (w := w) hfr.mode ht
      obtain ⟨φ1, w1, f1, a1, a2, a3, a4⟩ := ihC cx b fr s e1 fr1 _ h1 hb φ B w _ cs (.inBlock id :: K) hBz hBc hR hf hG (hfr.todo _) rfl
      cases e1 with
      | normal => exact ⟨φ1, w1, _, a1, a2.todo K, Steps.head hst (a3.trans (Steps.one (st_inBlock a2.mode a4))), rfl⟩
      | ret => exact ⟨φ1, w1, f1, a1, a2, Steps.head hst a3, a4⟩
      | exit id' =>
        obtain ⟨K', k1, k2⟩ := a4
        by_cases e : id' = id
        · subst e
          have k3 : exitTo id' K' = some K := by rw [k2]; simp [exitTo]
          refine ⟨φ1, w1, _, a1, a2.todo K, Steps.head hst (a3.trans (Steps.one (st_exit a2.mode k1 k3))), ?_⟩
          simp [outOf, Left]
        · refine ⟨φ1, w1, f1, a1, a2, Steps.head hst a3, ?_⟩
          simp only [outOf, if_neg e]
          exact ⟨K', k1, k2.trans (by simp [exitTo, Ne.symm e])⟩
    | loop b =>
      have hst := st_loop (P := P) (cs := cs) (w := w) hfr.mode ht
      obtain ⟨φ1, w1, f1, a1, a2, a3, a4⟩ := loop cx b fr s e fr' s' h hok φ B w _ cs K hBz hBc hR hf hG (hfr.todo _) rfl
      exact ⟨φ1, w1, f1, a1, a2, Steps.head hst a3, a4⟩
    | rangeFunc f params assign body => exact sim_rangeFunc hT hF hmix ihC hLg h hok cs hBz hBc hR hf hG hfr ht
    | _ => cases h

end
end Go.Ev
