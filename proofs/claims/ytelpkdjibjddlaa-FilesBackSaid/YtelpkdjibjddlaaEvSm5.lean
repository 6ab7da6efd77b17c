/-
  SX: the patches that lead back, by the program and by the document.
-/
import Derived.Test.YtelpkdjibjddlaaEvSm4
import Derived.Test.YtelpkdjibjddlaaEvF2
import Derived.Test.YtelpkdjibjddlaaEvSmL
import Derived.Test.YtelpkdjibjddlaaEvAppC
namespace Go.Sx
open Go Go.Ev Go.RowKit Go.Proofs
set_option maxRecDepth 100000
set_option maxHeartbeats 4000000
theorem at_same {α : Type} {l : List α} {k : Nat} {f x : α} (h : atL l k = some f) (g : l[k]? = some x) : f = x := by rw [show l[k]? = some f from h] at g; cases g; rfl
noncomputable def backP (l : List Fl) (p : Pt) : Pt := ⟨p.nm,backS (textOf l p.nm) p.es⟩
theorem map_step {α β : Type} {f : α → β} {l : List α} {i : Nat} {x : α} (h : l[i]? = some x) : (l.take (i + 1)).map f = (l.take i).map f ++ [f x] := by
  rw [List.take_add_one,h]; simp
theorem one_patch {l : List Fl} {ps : List Pt} {i : Nat} {p : Pt} (hW : Few ps) (h : appC l ps = 0) (hp : ps[i]? = some p) : ∃ f : Fl,0 ≤ placeS l p.nm ∧ (placeS l p.nm).toNat < l.length ∧ l[(placeS l p.nm).toNat]? = some f ∧ textOf l p.nm = f.tx ∧ (B f.tx).length ≤ 4000 ∧ mayC (B f.tx).length p.es = 0 ∧ sumT p.es ≤ 40000 ∧ p.es.length ≤ 41 := by
  obtain ⟨hF,hm,_⟩ := appC0 h
  obtain ⟨h1,h2,h3⟩ := mayAt0 (mayN_at hm (List.getElem?_eq_some_iff.1 hp).1 hp)
  obtain ⟨f,hf,_⟩ := place_spec h1
  have htx := textOf_at hf
  have hft := text_len hF hf
  have hw := hW.at hp
  rw [htx] at h3
  exact ⟨f,h1,place_lt h1,hf,htx,hft,app_small h3 hft hw.2.2,hw.2.2,hw.1⟩
def sp63 : Spec U1 := ⟨false,false,fun H args K => match args with
  | [.sl 1 l,.sl 4 ps] => Chk (Few ps) ∧ (¬ appC l ps = 0 → K (.tup [.nilS,.iface 37 (.int .i64 (appC l ps))]) H) ∧ (appC l ps = 0 → K (.tup [.sl 4 (ps.map (backP l)),.nilI]) H)
  | _ => False⟩
abbrev C63 := addC 61 (lifted sp61) (addC 80 spPlace (addC 51 sp51 (addC 31 sp31 C0)))
theorem C63_ok : COk C63 := addC_ok (lifted_ok sys1.1 k61) (addC_ok k80 (addC_ok k51 (addC_ok k31 C0_ok)))
theorem k63 : SpecOk R1.T S1 63 sp63 := by
  intro H args K h; unfold sp63 at h; dsimp only at h; split at h
  · rename_i l ps
    obtain ⟨hW,h1,h2⟩ := h
    replace hW := hW.out
    have hps := hW.1
    refine st C63_ok (by kernel_rfl : R1.T.fn 63 = some ⟨67,Try.f63.body.getD .skip,[.tmp 4,.tmp 5]⟩) rfl rfl ?_
    (((repeat' ((conv => whnf); all_goals first | assumption | with_reducible exact True.intro | with_reducible apply And.intro | (intro q; first | (exfalso; exact Bool.noConfusion q) | (exfalso; with_reducible exact q rfl) | subst q | (replace q : false = false := q; clear q) | (replace q : true = true := q; clear q) | (revert q; intro)) | ((with_reducible show _ = _); exact rfl))); all_goals try (conv => whnf); all_goals simp only [eq_self,true_iff,Bool.false_eq_true,false_iff,ed_eta,fl_eta,pt_eta,B_mk,Int.toNat_natCast] at *; all_goals (try contradiction); all_goals try (refine Chk.mk ?_; omega)))
    · exact Chk.mk hW
    · rename_i hF
      rw [app2 hF] at h1; exact h1 (by decide)
    · rename_i hF hm
      rw [appN hF hm] at h1; exact h1 hm
    · rename_i hF hm hb
      rw [app4 hF hm hb] at h1; exact h1 (by decide)
    · rename_i hF hm hb _
      have hA := app0 hF hm hb
      refine ⟨Nat × List Pt,fun y => ([(0,.sl 1 l),(8,.ol 0),(24,.sl 4 ps),(25,.int .i64 ps.length),(26,.int .i64 y.1)],[.list false false 119 4 y.2]),fun y => y.1 ≤ ps.length ∧ y.2 = (ps.take y.1).map (backP l),fun y => ps.length - y.1,(0,[]),⟨Nat.zero_le _,rfl⟩,?_,?_⟩
      · (repeat' ((conv => whnf); all_goals first | assumption | with_reducible exact True.intro | with_reducible apply And.intro | ((with_reducible show _ = _); exact rfl) | omega | trivial))
      · intro ⟨i,o⟩ ⟨hi,ho⟩
        dsimp only at hi ho
        have hol : o.length ≤ i := by rw [ho]; simp; omega
        have hwi : wr .i64 ((i : Int) + 1) = (i : Int) + 1 := wr64 (by omega)
        by_cases hlt : (i : Int) < ps.length
        · obtain ⟨p,hp⟩ : ∃ p : Pt,ps[i]? = some p := ⟨_,List.getElem?_eq_getElem (by omega)⟩
          obtain ⟨f,g1,g2,g3,g4,g5,g6,g7,g8⟩ := one_patch hW hA hp
          have hp2 : atL ps i = some p := hp
          have g32 : atL l (placeS l p.nm).toNat = some f := g3
          replace g3 : l[(placeS l p.nm).toNat]? = some f := g3
          obtain ⟨b1,b2,b3,b4,b5⟩ := back_right (x := f.tx) g6 (by omega) (by omega)
          have hnx : atL ps i = some p → o ++ [⟨p.nm,backS f.tx p.es⟩] = (ps.take (i + 1)).map (backP l) := fun hp => by rw [map_step hp,ho]; unfold backP; rw [g4]
          (((repeat' ((conv => whnf); all_goals first | assumption | with_reducible exact True.intro | with_reducible apply And.intro | (intro q; first | (exfalso; exact Bool.noConfusion q) | (exfalso; with_reducible exact q rfl) | subst q | (replace q : false = false := q; clear q) | (replace q : true = true := q; clear q) | (revert q; intro)) | ((with_reducible show _ = _); exact rfl))); all_goals try (conv => whnf); all_goals simp only [eq_self,true_iff,Bool.false_eq_true,false_iff,ed_eta,fl_eta,pt_eta,B_mk,Int.toNat_natCast] at *; all_goals (try contradiction); all_goals try (refine Chk.mk ?_; omega)))
          all_goals try simp only [B_eta] at *
          all_goals simp only [hp,g3,hwi,Option.some.injEq] at *
          all_goals repeat (rename p = _ => hh; subst hh)
          all_goals try (obtain rfl := at_same g32 (by assumption))
          all_goals try (refine Chk.mk ?_; omega)
          all_goals try exact Chk.mk (show (o.length + 1) * 40 ≤ 140737488355328 by omega)
          all_goals try exact absurd b1 (by assumption)
          all_goals try exact absurd b5 (by assumption)
          all_goals try exact absurd (may0 g6).1 (by assumption)
          all_goals try (exfalso; omega)
          · exact ⟨(i + 1,o ++ [⟨p.nm,backS f.tx p.es⟩]),by simp only; omega,⟨by simp only; omega,hnx hp2⟩,by (repeat' ((conv => whnf); all_goals first | assumption | with_reducible exact True.intro | with_reducible apply And.intro | ((with_reducible show _ = _); exact rfl) | omega | trivial))⟩
        · (((repeat' ((conv => whnf); all_goals first | assumption | with_reducible exact True.intro | with_reducible apply And.intro | (intro q; first | (exfalso; exact Bool.noConfusion q) | (exfalso; with_reducible exact q rfl) | subst q | (replace q : false = false := q; clear q) | (replace q : true = true := q; clear q) | (revert q; intro)) | ((with_reducible show _ = _); exact rfl))); all_goals try (conv => whnf); all_goals simp only [eq_self,true_iff,Bool.false_eq_true,false_iff,ed_eta,fl_eta,pt_eta,B_mk,Int.toNat_natCast] at *; all_goals (try contradiction); all_goals try (refine Chk.mk ?_; omega)))
          all_goals try (exfalso; omega)
          rw [show i = ps.length by omega,List.take_length] at ho
          rw [ho]; exact h2 hA
  · exact h.elim
end Go.Sx

