/-
  SX: the law FilesApply.
-/
import Derived.Test.YtelpkdjibjddlaaEvSm5
import Derived.Test.YtelpkdjibjddlaaEvSxX2
import Derived.Test.YtelpkdjibjddlaaEvPlug1
namespace Go.Sx
open Go Go.Ev Go.RowKit Go.Proofs
set_option maxRecDepth 100000
set_option maxHeartbeats 4000000
def sp61a : Spec U1 := ⟨true,false,fun H args K => match H,args with
  | [],[.sl 1 l,.sl 4 ps] => Chk (Few ps) ∧ (¬ appC l ps = 0 → K (.tup [.nilS,.iface 37 (.int .i64 (appC l ps))]) []) ∧ (appC l ps = 0 → K (.tup [.ol 0,.nilI]) [.list false true 68 1 (outS l ps)])
  | _,_ => False⟩
theorem k61a : SpecOk R1.T S1 61 sp61a := by
  intro H args K h; unfold sp61a at h; dsimp only at h; split at h
  · obtain ⟨hW,h1,h2⟩ := h
    refine k61 _ _ _ ⟨hW,fun hF => ?_,fun hF hm => ?_,fun hF hm hb => ?_,fun hF hm hb => h2 (app0 hF hm hb)⟩
    · rw [app2 hF] at h1; exact h1 (by decide)
    · rw [appN hF hm] at h1; exact h1 hm
    · rw [app4 hF hm hb] at h1; exact h1 (by decide)
  · exact h.elim
def sp62a : Spec U1 := ⟨true,false,fun H args K => match H,args with
  | [],[.sl 1 l,.sl 4 ps] => Chk (Few ps) ∧ Chk (∀ f ∈ l,f.Ok) ∧ (¬ appC l ps = 0 → K (.tup [.nilS,.int .i64 (appC l ps)]) []) ∧ (appC l ps = 0 → K (.tup [.ol 0,.int .i64 0]) [.list false false 68 1 (outS l ps)])
  | _,_ => False⟩
theorem k62a : SpecOk R1.T S1 62 sp62a := by
  intro H args K h; unfold sp62a at h; dsimp only at h; split at h
  · obtain ⟨hW,hO,h1,h2⟩ := h
    refine k62 _ _ _ ⟨hW,hO,fun hF => ?_,fun hF hm => ?_,fun hF hm hb => ?_,fun hF hm hb => h2 (app0 hF hm hb)⟩
    · rw [app2 hF] at h1; exact h1 (by decide)
    · rw [appN hF hm] at h1; exact h1 hm
    · rw [app4 hF hm hb] at h1; exact h1 (by decide)
  · exact h.elim
def sp46e : Spec U1 := ⟨false,false,fun H args K => match args with
  | [.sl 1 a,.sl 1 b] => a = b ∧ K (.bool true) H
  | [.nilS,.nilS] => K (.bool true) H
  | _ => False⟩
theorem k46e : SpecOk R1.T S1 46 sp46e := by
  intro H args K h; unfold sp46e at h; dsimp only at h; split at h
  · obtain ⟨rfl,h⟩ := h
    exact k46 _ _ _ fun q hq => by rw [hq.2 rfl]; exact h
  · exact k46 _ _ _ fun q hq => by rw [hq.2 rfl]; exact h
  · exact h.elim
def sp43e : Spec U1 := ⟨false,false,fun H args K => match args with
  | [.sl 4 a,.sl 4 b] => a = b ∧ K (.bool true) H
  | [.nilS,.nilS] => K (.bool true) H
  | _ => False⟩
theorem k43e : SpecOk R1.T S1 43 sp43e := by
  intro H args K h; unfold sp43e at h; dsimp only at h; split at h
  · obtain ⟨rfl,h⟩ := h
    exact k43 _ _ _ fun q hq => by rw [hq.2 rfl]; exact h
  · exact k43 _ _ _ fun q hq => by rw [hq.2 rfl]; exact h
  · exact h.elim
abbrev C13 := addC 22 sp22 (addC 40 sp40 (addC 57 sp57 (addC 60 sp60 (addC 61 (lifted sp61a) (addC 62 (lifted sp62a) (addC 63 sp63 (addC 64 sp64 (addC 46 sp46e (addC 43 sp43e C0)))))))))
theorem C13_ok : COk C13 := addC_ok k22 (addC_ok k40 (addC_ok k57 (addC_ok k60 (addC_ok (lifted_ok sys1.1 k61a) (addC_ok (lifted_ok sys1.1 k62a) (addC_ok k63 (addC_ok k64 (addC_ok k46e (addC_ok k43e C0_ok)))))))))
def restOf : Code → Code
  | .seq _ (.seq _ r) => r
  | c => c
theorem w13 (l : List Fl) (hl : ∀ f ∈ l,f.Ok) (ps : List Pt) (hps : ∀ p ∈ ps,POk p) (hA : appC l ps = 0) :
    wp ⟨S1,C13,82,0,fun _ => none⟩ (restOf (Try.f13.body.getD .skip)) ((16,.bool false) :: (15,.bool true) :: (4,.bool false) :: frm0 0 [.sl 1 l,.sl 4 ps]) [] (fin ⟨S1,C13,82,0,fun _ => none⟩ [.tmp 4] fun v _ => v = .bool true) := by
  have hA2 : appC (([] : List (U1 1)) ++ l) ps = 0 := hA
  (((repeat' ((conv => whnf); all_goals first | assumption | with_reducible exact True.intro | with_reducible apply And.intro | (intro q; first | (exfalso; exact Bool.noConfusion q) | (exfalso; with_reducible exact q rfl) | (exfalso; contradiction) | subst q | (replace q : false = false := q; clear q) | (replace q : true = true := q; clear q) | (revert q; intro)) | ((with_reducible show _ = _); exact rfl))); all_goals try (conv => whnf); all_goals simp only [eq_self,true_iff,Bool.false_eq_true,false_iff,ed_eta,fl_eta,pt_eta,B_mk,Int.toNat_natCast] at *; all_goals (try contradiction); all_goals try (refine Chk.mk ?_; omega)))
  all_goals (have hW : Few ps := (by assumption : True → Few ps) trivial)
  all_goals (have hL : ¬ LargeF l := by assumption)
  all_goals first
    | exact Chk.mk hW
    | rfl
    | exact Chk.mk (show (0 + List.length (α := Fl) l) * 32 ≤ 140737488355328 by omega)
    | exact Chk.mk (show List.length (α := Pt) ps ≤ 1000000 by have := hW.1; omega)
    | exact Chk.mk fun p hp => (by have := (hW.2 p hp).1; exact (by omega : p.es.length ≤ 1000000))
theorem w13n (l : List Fl) (hl : ∀ f ∈ l,f.Ok) (ps : List Pt) (hps : ∀ p ∈ ps,POk p) (hA : ¬ appC l ps = 0) :
    wp ⟨S1,C13,82,0,fun _ => none⟩ (restOf (Try.f13.body.getD .skip)) ((16,.bool false) :: (15,.bool true) :: (4,.bool false) :: frm0 0 [.sl 1 l,.sl 4 ps]) [] (fin ⟨S1,C13,82,0,fun _ => none⟩ [.tmp 4] fun v _ => v = .bool true) := by
  have hA2 : ¬ appC (([] : List (U1 1)) ++ l) ps = 0 := hA
  (((repeat' ((conv => whnf); all_goals first | assumption | with_reducible exact True.intro | with_reducible apply And.intro | (intro q; first | (exfalso; exact Bool.noConfusion q) | (exfalso; with_reducible exact q rfl) | (exfalso; contradiction) | subst q | (replace q : false = false := q; clear q) | (replace q : true = true := q; clear q) | (revert q; intro)) | ((with_reducible show _ = _); exact rfl))); all_goals try (conv => whnf); all_goals simp only [eq_self,true_iff,Bool.false_eq_true,false_iff,ed_eta,fl_eta,pt_eta,B_mk,Int.toNat_natCast] at *; all_goals (try contradiction); all_goals try (refine Chk.mk ?_; omega)))
  all_goals (have hW : Few ps := (by assumption : True → Few ps) trivial)
  all_goals (have hL : ¬ LargeF l := by assumption)
  all_goals first
    | exact Chk.mk hW
    | rfl
    | exact Chk.mk (show (0 + List.length (α := Fl) l) * 32 ≤ 140737488355328 by omega)
    | exact Chk.mk (show List.length (α := Pt) ps ≤ 1000000 by have := hW.1; omega)
    | exact Chk.mk fun p hp => (by have := (hW.2 p hp).1; exact (by omega : p.es.length ≤ 1000000))
theorem walk13 (l : List Fl) (hl : ∀ f ∈ l,f.Ok) (ps : List Pt) (hps : ∀ p ∈ ps,POk p) :
    wp ⟨S1,C13,82,0,fun _ => none⟩ (restOf (Try.f13.body.getD .skip)) ((16,.bool false) :: (15,.bool true) :: (4,.bool false) :: frm0 0 [.sl 1 l,.sl 4 ps]) [] (fin ⟨S1,C13,82,0,fun _ => none⟩ [.tmp 4] fun v _ => v = .bool true) := by
  by_cases hA : appC l ps = 0
  · exact w13 l hl ps hps hA
  · exact w13n l hl ps hps hA
end Go.Sx

